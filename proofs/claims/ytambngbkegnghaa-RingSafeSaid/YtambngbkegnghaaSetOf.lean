/- gantref5.SetOf, (gantref5.Set).Touches. Conditions: those typed. -/
import Derived.Test.YtambngbkegnghaaMapC
import Derived.Test.YtambngbkegnghaaSafeA
import Derived.Maps.RangeWalk
namespace Go.Proofs.Ytambngbkegnghaa
open Go.RowKit Go.Gy Go.Maps Go.WideMaps
set_option linter.unusedVariables false
theorem SetM.congr {w : World} {b n n' : Nat} {S T : Cell → Prop} (h : SetM w b n S) (hn : n ≤ n') (hc : ∀ c, S c ↔ T c) : SetM w b n' T := by
  obtain ⟨D, h1, h2⟩ := h
  exact ⟨D, h1.mono hn, fun c hw => by rw [← hc c]; exact h2 c hw⟩
theorem key_pair_inv {P : Program} {t ti : TypeId} {f g : Field} (hu : P.underlying t = some (.struct #[f, g])) (hf : f.name != "_") (hg : g.name != "_") (hft : f.type = ti) (hgt : g.type = ti) (hfo : f.offset = 0) (hgo : g.offset = 1)
    (hi : P.underlying ti = some (.int .i64)) (hk : P.keyType t = true) (hc : P.cellsOf t = 2) (hci : P.cellsOf ti = 1) (hs : 0 < P.types.size) {v : Value} {kl : Lit} (h : keyOf P t v = some kl) :
    ∃ x y, v = .agg #[.int .i64 x, .int .i64 y] ∧ (Lit.int .i64 x).wf = true ∧ (Lit.int .i64 y).wf = true := by
  obtain ⟨m, hm⟩ : ∃ m, P.types.size = m + 1 := ⟨P.types.size - 1, by omega⟩
  unfold keyOf at h
  rw [hu] at h
  simp only [hk, Bool.true_and, hm] at h
  split at h
  · rename_i hfm
    cases v <;> simp [Value.formed, hu, hc] at hfm
    rename_i cs
    obtain ⟨a, b, rfl⟩ : ∃ a b, cs = #[a, b] := by
      have h2 : cs.size = 2 := hfm
      refine ⟨cs[0], cs[1], ?_⟩
      apply Array.ext
      · simp [h2]
      · intro i h3 h4
        have : i = 0 ∨ i = 1 := by simp at h4; omega
        rcases this with rfl | rfl <;> rfl
    unfold Program.keyLits at h
    simp [Value.cells, hu, hc, hf, hg, hft, hgt, hfo, hgo, hci] at h
    have key : ∀ (v : Value) l, P.keyLits (m + 1) ti [v] = some l → ∃ x, v = .int .i64 x ∧ (Lit.int .i64 x).wf = true := by
      intro v l hv
      simp only [Program.keyLits, hi] at hv
      cases v <;> simp at hv
      obtain ⟨⟨rfl, hw⟩, _⟩ := hv
      exact ⟨_, rfl, hw⟩
    cases ha : P.keyLits (m + 1) ti [a] with
    | none => rw [ha] at h; simp at h
    | some la =>
      cases hb : P.keyLits (m + 1) ti [b] with
      | none => rw [ha, hb] at h; simp at h
      | some lb =>
        obtain ⟨x, rfl, hx⟩ := key _ _ ha
        obtain ⟨y, rfl, hy⟩ := key _ _ hb
        exact ⟨x, y, rfl, hx, hy⟩
  · cases h
theorem key_cell_inv {v : Value} {kl : Lit} (h : keyOf Try.prog 39 v = some kl) : ∃ c, v = cellV c ∧ WfC c ∧ kl = litC c := by
  obtain ⟨x, y, rfl, hx, hy⟩ := key_pair_inv Try.underlying39 (by decide) (by decide) rfl rfl rfl rfl Try.underlying3 keyTypeCell cellsCell cellsIntM (Nat.lt_of_le_of_lt (Nat.zero_le _) rowCell) h
  refine ⟨(x, y), rfl, ⟨hx, hy⟩, ?_⟩
  have := key_cell (x, y) ⟨hx, hy⟩
  exact Option.some.inj (h.symm.trans this)
def SetPost (w : World) (l : List Cell) (e : Ending) (w' : World) : Prop := ∃ b, e = .returned (.map (some b)) ∧ w.heap.size ≤ b ∧ SetM w' b l.length (· ∈ l) ∧ Below w.heap.size w w'
set_option maxRecDepth 100000 in
set_option maxHeartbeats 2000000 in
theorem setof_any (w : World) (v : Value) (l : List Cell) (hv : SlC w w.heap.size v l) (hon : ∀ c ∈ l, WfC c) (hl : l.length ≤ 100000) :
    Calls Try.prog 32 #[v] w (SetPost w l) := by
  obtain ⟨A, n, c, rfl, hln, hnc, hA, hr⟩ := hv
  have hmm := @run_makeMap Try.prog
  have Hr := Lib.hid hr
  have Hln := Lib.hid hln
  have Hon := Lib.hid hon
  rw [hln] at hl
  have HR0 := Lib.hid (show SetM (w.alloc (.map #[] 0)) w.heap.size 0 (· ∈ l.take 0) ∧ Below w.heap.size w (w.alloc (.map #[] 0)) from ⟨SetM.congr (SetM.made w) (Nat.le_refl _) (fun c => by simp), (Below.refl _ _).alloc (Nat.le_refl _) _⟩)
  clear hr hln hon
  go_enter Try.func32, Try.ntmps32
  go_wp2_with fail
  go_loopw [9] (fun i wr => ∃ k : Nat, k ≤ n ∧ i = .int .i64 (k : Int) ∧ SetM wr w.heap.size k (· ∈ l.take k) ∧ Below w.heap.size w wr) (fun i _ => n - (intOf i).toNat)
  case atStart => exact ⟨0, Nat.zero_le _, rfl, HR0.out⟩
  case round =>
    obtain ⟨k, hk, rfl, hs, hb⟩ := hrel
    have Hs := Lib.hid hs
    have Hb := Lib.hid hb
    by_cases hkn : k < n
    · obtain ⟨b, o, x, rfl, hbB, hxx, hcs⟩ := (Hr.out.below hb).elem encC_len Hln.out hkn
      obtain ⟨x, y⟩ := x
      have e0 : wr.cell? ⟨b, o + k * 2, none⟩ = some (.int .i64 x) := hcs 0 _ rfl
      have e1 : wr.cell? ⟨b, o + k * 2 + 1, none⟩ = some (.int .i64 y) := hcs 1 _ rfl
      have Hw := Lib.hid (Hon.out (x, y) (List.mem_of_getElem? hxx))
      have Hx := Lib.hid hxx
      have HsA := Lib.hid (fun X => hs.below ((Below.refl wr.heap.size wr).alloc (Nat.le_refl _) X) hs.lt)
      have HbA := Lib.hid (fun X => hb.alloc hb.size X)
      have HN := Lib.hid (show k < maxLen by unfold maxLen; omega)
      clear hs hb hcs hxx hbB
      go_wp2_with (at_mapUpdate; refine wpList_put_set rfl _ _ _ _ rfl Try.underlying50 w.heap.size k HN.out (· ∈ l.take k) (x, y) Hw.out rfl rfl rfl (HsA.out _) ?_; intro w6 hs6 hg6; have HR6 := Lib.hid (show SetM w6 w.heap.size (k + 1) (· ∈ l.take (k + 1)) ∧ Below w.heap.size w w6 from ⟨SetM.congr hs6 (Nat.le_refl _) (fun c => by rw [List.take_add_one, Hx.out, List.mem_append]; simp), (HbA.out _).grown hg6 (HbA.out _).size (fun g hg => by injection hg with hg; omega)⟩); clear hs6 hg6)
      go_roundw
      case rel => exact ⟨k + 1, by omega, by go_num, HR6.out⟩
      case measure => simp [intOf]; omega
    · obtain rfl : k = n := by omega
      have HP := Lib.hid (show SetPost w l (.returned (.map (some w.heap.size))) wr from ⟨_, rfl, Nat.le_refl _, by
        rw [Hln.out]
        rw [List.take_of_length_le (by rw [Hln.out]; exact Nat.le_refl _)] at hs
        exact hs, hb⟩)
      clear hs hb
      go_wp2_with fail
      go_ret
      exact HP.out
/-- what is struck was no key of the other set -/
def Gone (l' : List Cell) (l : List Cell) (left : Lit → Bool) : Prop := ∀ c ∈ l, left (litC c) = false → c ∉ l'
theorem Gone.next {l l' : List Cell} {left : Lit → Bool} {x : Cell} (h : Gone l' l left) (hon : ∀ c ∈ l, WfC c) (hx : WfC x) (hn : x ∉ l') : Gone l' l (fun z => left z && !z.sameKey (litC x)) := by
  intro c hc he
  simp only [Bool.and_eq_false_iff, Bool.not_eq_false'] at he
  rcases he with he | he
  · exact h c hc he
  · have h1 := WideAt.sameKey_eq he
    by_cases hcx : c = x
    · rw [hcx]; exact hn
    · exact absurd h1 (lit_ne (hon c hc) hx hcx)
section
variable {w : World} {ops : Array Oper} {rest : List Oper} {o : Oper} {a : Act} {Q : Exit → Act → World → Prop}
set_option maxRecDepth 100000 in
/-- the step of a range loop over a set -/
theorem wpList_next_set (hg : o.guard = none) (it : Operand) (hop : o.op = Op.next it false) (b r n : Nat) (D : DataW Unit) (left : Lit → Bool) (cnt : Nat) (l : List Cell)
    (hc : ∀ c, WfC c → ((c ∈ l ∧ ∀ z, D.atKey (litC c) z = .lit (.bool true)) ∨ (¬ c ∈ l ∧ ∀ z, D.atKey (litC c) z = z)))
    (hit : a.eval it = .pointer (some ⟨r, 0, none⟩)) (h : w.ranges Try.prog 39 (plainElem Try.prog 4) b r n D left cnt)
    (hDone : cnt = 0 → (∀ kl, left kl = false) → wpList Try.prog ops Q rest (a.put o.dst (.tuple #[.bool false])) w)
    (hMore : ∀ (x y : Int) (w' : World) (cnt' : Nat), Hid (WfC (x, y) ∧ (x, y) ∈ l ∧ left (litC (x, y)) = true) → Hid (w'.ranges Try.prog 39 (plainElem Try.prog 4) b r n D (fun z => left z && !z.sameKey (litC (x, y))) cnt' ∧ cnt' < cnt ∧ w.grownBy w' (some r)) →
      w'.heap.size = w.heap.size → (Instr.entry (.pointer (some ⟨r, 0, none⟩))).run Try.prog w' = .ok (.tuple #[.agg #[.int .i64 x, .int .i64 y], .bool true]) w' → wpList Try.prog ops Q rest (a.put o.dst (.tuple #[.bool true, .agg #[.int .i64 x, .int .i64 y], .bool true])) w') :
    wpList Try.prog ops Q (o :: rest) a w := by
  refine wpList_next_ranges w hg it hop 39 lawCell (plainElem Try.prog 4) cellV Value.bool (fun key kl h => by obtain ⟨c, h1, _⟩ := key_cell_inv h; exact ⟨c, h1⟩) (fun v y h => by obtain ⟨q, h1, _⟩ := plainElem_bool_inv Try.underlying4 h; exact ⟨q, h1⟩) b r n D left cnt hit h hDone ?_
  intro x q kl y w' cnt' hkey hlk hv hat hrg hlt hgr hsz hen
  obtain ⟨c, h1, h2, h3⟩ := key_cell_inv hkey
  have hxc : x = c := by
    unfold cellV at h1
    injection h1 with h1
    have h4 : (Value.int .i64 x.1 : Value) = .int .i64 c.1 := by have := congrArg (fun a => a[0]!) h1; simpa using this
    have h5 : (Value.int .i64 x.2 : Value) = .int .i64 c.2 := by have := congrArg (fun a => a[1]!) h1; simpa using this
    injection h4 with _ h4
    injection h5 with _ h5
    exact Prod.ext h4 h5
  subst hxc
  subst h3
  obtain ⟨q', e1, e2⟩ := plainElem_bool_inv Try.underlying4 hv
  injection e1 with e1
  subst e1
  have hS : x ∈ l ∧ q = true := by
    rcases hc x h2 with ⟨h4, h5⟩ | ⟨h4, h5⟩
    · have h6 := (h5 .nil).symm.trans (hat .nil)
      rw [e2] at h6
      injection h6 with h6
      injection h6 with h6
      exact ⟨h4, h6.symm⟩
    · have h6 := (h5 .nil).symm.trans (hat .nil)
      rw [e2] at h6
      cases h6
  obtain ⟨hS, rfl⟩ := hS
  obtain ⟨x1, x2⟩ := x
  exact hMore x1 x2 w' cnt' (Lib.hid ⟨h2, hS, hlk⟩) (Lib.hid ⟨hrg, hlt, hgr⟩) hsz hen
end
set_option maxRecDepth 100000 in
set_option maxHeartbeats 2000000 in
theorem touches_any (w : World) (b n b' n' : Nat) (l l' : List Cell) (hs : SetM w b n (· ∈ l)) (hs' : SetM w b' n' (· ∈ l')) (hon : ∀ c ∈ l, WfC c) :
    Calls Try.prog 33 #[.map (some b), .map (some b')] w (HasPost (meets l l') w) := by
  obtain ⟨D, hD, hc⟩ := hs
  have HD := Lib.hid hD
  have Hc := Lib.hid hc
  have Hs' := Lib.hid hs'
  have Hon := Lib.hid hon
  have hbl := hD.lt
  have hbl' := hs'.lt
  have HG0 := Lib.hid (show Gone l' l (Maps.has D) from fun c hcl hh => by
    rcases hc c (hon c hcl) with ⟨_, h2⟩ | ⟨h1, _⟩
    · rw [has_true_of_atKey h2] at hh; cases hh
    · exact absurd hcl h1)
  clear hD hc hs' hon
  go_enter Try.func33, Try.ntmps33
  go_wp2_with (at_range; refine wpList_range_own _ rfl _ _ rfl 39 4 lawCell Try.underlying50 _ b n D rfl HD.out ?_; intro w0 hrg0 hg0 hz0; go_frame)
  go_loopw [5] (fun _ wr => ∃ (left : Lit → Bool) (cnt : Nat), wr.ranges Try.prog 39 (plainElem Try.prog 4) b w.heap.size n D left cnt ∧ Gone l' l left ∧ Below w.heap.size w wr ∧ w.heap.size < wr.heap.size) (fun _ wr => wr.rangeLeft b w.heap.size)
  case atStart => exact ⟨_, _, hrg0, HG0.out, (Below.refl _ _).grown hg0 (Nat.le_refl _) (fun g hg => by cases hg), by omega⟩
  case round =>
    obtain ⟨left, cnt, hrg, hgone, hb, hz⟩ := hrel
    have Hrg := Lib.hid hrg
    have Hgone := Lib.hid hgone
    have Hb := Lib.hid hb
    clear hrg hgone hb
    go_wp2_with (at_next; refine wpList_next_set rfl _ rfl b w.heap.size n D left cnt l Hc.out rfl Hrg.out ?_ ?_)
    · intro _ hl0
      have HP := Lib.hid (show meets l l' = false from by
        rw [Bool.eq_false_iff]
        intro hm
        obtain ⟨x, h1, h2⟩ := meets_iff.1 hm
        exact Hgone.out x h1 (hl0 _) h2)
      go_wp2_with fail
      go_ret
      exact ⟨by rw [HP.out]; rfl, Hb.out⟩
    · intro x y w1 cnt1 H1 H2 hs1 hen
      have Hb1 := Lib.hid (Hb.out.grown H2.out.2.2 Hb.out.size (fun g hg => by injection hg with hg; omega))
      have HsA := Lib.hid (fun X => Hs'.out.below (Hb1.out.alloc Hb1.out.size X) hbl')
      have HbA := Lib.hid (fun X => Hb1.out.alloc Hb1.out.size X)
      have HrA := Lib.hid (fun X => H2.out.1.alloc X)
      by_cases hin : (x, y) ∈ l'
      · have HP := Lib.hid (show meets l l' = true from meets_iff.2 ⟨(x, y), H1.out.2.1, hin⟩)
        go_wp2_with (at_lookup; refine wpList_look_set rfl _ _ _ rfl Try.underlying50 b' n' (· ∈ l') (x, y) H1.out.1 rfl rfl (HsA.out _) ?_; rw [decide_eq_true hin])
        go_ret
        exact ⟨by rw [HP.out]; rfl, HbA.out _⟩
      · have Hin := Lib.hid hin
        go_wp2_with (at_lookup; refine wpList_look_set rfl _ _ _ rfl Try.underlying50 b' n' (· ∈ l') (x, y) H1.out.1 rfl rfl (HsA.out _) ?_; rw [decide_eq_false Hin.out]; go_frame)
        go_roundw
        case rel => exact ⟨_, cnt1, HrA.out _, Hgone.out.next Hon.out H1.out.1 Hin.out, HbA.out _, by simp; omega⟩
        case measure => rw [(HrA.out _).left_eq, Hrg.out.left_eq]; exact H2.out.2.1
end Go.Proofs.Ytambngbkegnghaa
