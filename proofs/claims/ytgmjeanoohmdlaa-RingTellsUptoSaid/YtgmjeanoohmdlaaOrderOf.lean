/- gantlaw5.orderOf. Conditions: those typed. -/
import Derived.Test.YtgmjeanoohmdlaaOrderPlain
namespace Go.Gy
open Go.RowKit
section
variable {P : Program} {wr : World} {ops : Array Oper} {rest : List Oper} {o : Oper} {a : Act} {Q : Exit → Act → World → Prop}
/-- as wpList_push, the new block's number given -/
theorem wpList_pushH (H : Nat) (hH : wr.heap.size = H) (hgd : o.guard = none) (s x : Operand) (t : TypeId)
    (ho : o.op = .call { callee := .builtin .append, args := #[s, x], argTypes := #[t, t] })
    (base : Nat) (e : TypeId) (i : TypeInfo) (z : Value) (size bytes : Nat) (ht : P.underlying t = some (.slice e)) (hi : P.info? e = some i) (hz : i.zero = some z)
    (hsize : i.size = size) (hby : i.bytes = bytes) (hzs : z.cells.size = size) (hsz : 0 < size)
    (v : Value) (n : Nat) (xs : List Value) (hs : a.eval s = v) (hown : wr.ownsRow base e size v n xs)
    (cs : List Value) (hx : a.eval x = .slice (some ⟨H, 0, none⟩) 1 1) (hl : cs.length = size) (h1 : ∀ u ∈ cs, u.oneCell' = true)
    (h63 : n + 1 ≤ maxLen) (hbytes : (n + 1) * bytes ≤ 140737488355328) (hbase : base ≤ wr.heap.size)
    (h : ∀ v' w', w'.ownsRow base e size v' (n + 1) (xs ++ cs) → Below base wr w' → (∃ g c, v' = .slice (some ⟨g, 0, none⟩) (n + 1) c ∧ base ≤ g ∧ g < w'.heap.size) → wpList P ops Q rest (a.put o.dst v') w') :
    wpList P ops Q (o :: rest) a (wr.alloc (.cells cs.toArray e)) := by
  subst hH
  exact wpList_push hgd s x t ho base e i z size bytes ht hi hz hsize hby hzs hsz v n xs hs hown cs hx hl h1 h63 hbytes hbase h
end
end Go.Gy
namespace Go.Proofs.Ytgmjeanoohmdlaa
open Go.RowKit Go.Gy
set_option linter.unusedVariables false
def doneL (out : List Int) (n : Nat) : List Bool := (List.range n).map fun (i : Nat) => decide ((i : Int) ∈ out)
theorem doneL_at {out : List Int} {n i : Nat} (h : i < n) : (doneL out n)[i]? = some (decide ((i : Int) ∈ out)) := by
  simp [doneL, List.getElem?_range h]
theorem doneL_set {out : List Int} {n i : Nat} : (doneL out n).set i true = doneL (out ++ [(i : Int)]) n := by
  apply List.ext_getElem?
  intro j
  rw [List.getElem?_set]
  by_cases hj : j < n
  · rw [doneL_at hj, doneL_at hj]
    by_cases h : i = j
    · subst h; simp [doneL, hj]
    · rw [if_neg h]; congr 1
      rw [Bool.eq_iff_iff, decide_eq_true_iff, decide_eq_true_iff, List.mem_append]
      constructor
      · exact .inl
      · rintro (h1 | h1)
        · exact h1
        · simp at h1; omega
  · have h1 : ∀ o, (doneL o n)[j]? = none := fun o => by rw [List.getElem?_eq_none]; simp [doneL]; omega
    rw [h1, h1]
    split
    · simp [doneL]; omega
    · rfl
theorem okB_all (rs : List (List Int)) (out : List Int) (i : Nat) {r : List Int} (hr : rs[i]? = some r) : okB rs out i = (!decide ((i : Int) ∈ out) && r.all fun k => decide (k ∈ out)) := by
  unfold okB
  rw [List.getD_eq_getElem?_getD, hr, Option.getD_some]
  congr 1
  rw [Bool.eq_iff_iff, Bool.not_eq_true', List.any_eq_false, List.all_eq_true]
  constructor
  · intro h x hx; have := h x hx; simpa using this
  · intro h x hx; have := h x hx; simpa using this
def Best (rs : List (List Int)) (out : List Int) (q : Nat) (x : Int) : Prop := (x = -1 ∧ ∀ i, q ≤ i → i < rs.length → okB rs out i = false) ∨ ∃ b : Nat, x = (b : Int) ∧ q ≤ b ∧ b < rs.length ∧ okB rs out b = true ∧ ∀ i, q ≤ i → i < b → okB rs out i = false
theorem Best.yes {rs : List (List Int)} {out : List Int} {q : Nat} {x : Int} (h : Best rs out (q + 1) x) (hq : q < rs.length) (ho : okB rs out q = true) : Best rs out q (q : Int) := .inr ⟨q, rfl, Nat.le_refl _, hq, ho, fun i h1 h2 => absurd h1 (by omega)⟩
theorem Best.no {rs : List (List Int)} {out : List Int} {q : Nat} {x : Int} (h : Best rs out (q + 1) x) (ho : okB rs out q = false) : Best rs out q x := by
  have key : ∀ i, q ≤ i → q + 1 ≤ i ∨ i = q := fun i h => by omega
  rcases h with ⟨h1, h2⟩ | ⟨b, h1, h2, h3, h4, h5⟩
  · refine .inl ⟨h1, fun i hi hl => ?_⟩
    rcases key i hi with h | h
    · exact h2 i h hl
    · subst h; exact ho
  · refine .inr ⟨b, h1, by omega, h3, h4, fun i hi hl => ?_⟩
    rcases key i hi with h | h
    · exact h5 i h hl
    · subst h; exact ho
theorem Best.next {rs : List (List Int)} {out : List Int} {x : Int} (h : Best rs out 0 x) {i : Nat} (hi : i < rs.length) (ho : okB rs out i = true) (hf : ∀ j, j < i → okB rs out j = false) : x = (i : Int) := by
  rcases h with ⟨_, h2⟩ | ⟨b, h1, _, h3, h4, h5⟩
  · rw [h2 i (Nat.zero_le _) hi] at ho; cases ho
  · have : b = i := by
      rcases Nat.lt_trichotomy b i with h6 | h6 | h6
      · rw [hf b h6] at h4; cases h4
      · exact h6
      · rw [h5 i (Nat.zero_le _) h6] at ho; cases ho
    subst this; exact h1
def OOfRel (w : World) (rs : List (List Int)) (N : Nat) (o i : Value) (wr : World) : Prop := ∃ m : Nat, m ≤ N ∧ i = .int .i64 (m : Int) ∧ Blk wr w.heap.size 4 (bools (doneL (orderN rs m) N)) ∧ wr.ownsRow (w.heap.size + 1) 3 1 o m ((orderN rs m).map iv) ∧ Below w.heap.size w wr
def OwnL (w : World) (l : List Int) (e : Ending) (w' : World) : Prop := ∃ v', e = .returned v' ∧ w'.ownsRow w.heap.size 3 1 v' l.length (l.map iv) ∧ Below w.heap.size w w'
set_option maxRecDepth 100000 in
set_option maxHeartbeats 4000000 in
theorem orderof_any (w : World) (v : Value) (rs : List (List Int)) (hv : RowsI w w.heap.size v rs) (hg : GoodG rs) (hac : ∀ i, ¬ Reach rs i i) :
    Calls Try.prog 17 #[v] w (OwnL w (orderN rs rs.length)) := by
  obtain ⟨A, n, c, vs, rfl, hN, _, _, hr, hs⟩ := hv
  have hn64 := hg.len
  have HN := Lib.hid hN
  have Hs := Lib.hid hs
  have Hg := Lib.hid hg
  have Hac := Lib.hid hac
  rw [hN] at hn64
  obtain ⟨i0, hi, hz0, hz1, hz2⟩ := info_parts info_bool
  obtain ⟨j0, hji, hy0, hy1, hy2⟩ := info_parts info_int
  have hmk : ∀ W : World, (Instr.makeSlice 35 (.int .i64 (n : Int)) (.int .i64 (n : Int))).run Try.prog W = .ok (.slice (some ⟨W.heap.size, 0, none⟩) n n) (W.alloc (.cells (bools (List.replicate n false)) 4)) := fun W => by
    have h := run_makeSlice (P := Try.prog) W 35 4 i0 (.bool false) Try.underlying35 hi hz0 .i64 .i64 (n : Int) (n : Int) (by omega) (Int.le_refl _) (by rw [hz1]; omega) (by rw [hz2]; omega) (by omega)
    rw [Int.toNat_natCast, hz1, Nat.mul_one, made_bools] at h
    exact h
  clear hN hs hg hac
  go_enter Try.func17, Try.ntmps17
  go_wp2_with fail
  go_loopw [3, 15] (fun o i wr => OOfRel w rs n o i wr) (fun _ i _ => n - (intOf i).toNat)
  case atStart =>
    refine ⟨0, Nat.zero_le _, rfl, ?_, World.ownsRow_nil _ _ _ _, (Below.refl _ _).alloc (Nat.le_refl _) _⟩
    have e : doneL (orderN rs 0) n = List.replicate n false := by
      apply List.ext_getElem?
      intro j
      rw [List.getElem?_replicate]
      by_cases hj : j < n
      · rw [doneL_at hj, if_pos hj]; simp [orderN]
      · rw [if_neg hj, List.getElem?_eq_none]; simp [doneL]; omega
    rw [e]
    exact Blk.new w 4 _
  case round =>
    obtain ⟨wq, rfl⟩ : ∃ wq, wq = wr := ⟨_, rfl⟩
    obtain ⟨m, hm, rfl, hB, hown, hb⟩ := hrel
    have hzq := hb.size
    obtain ⟨Ao, co, rfl, _, _, _⟩ := own_rd hown
    have HB := Lib.hid hB
    have hGl := hB.lt
    have Hown := Lib.hid hown
    clear hB hown
    by_cases hmn : m < n
    · have hmn' : (m : Int) < (n : Int) := by omega
      obtain ⟨i1, hi1, hnext, hok, hfirst⟩ := next_ok Hg.out Hac.out (orderN_inv Hg.out Hac.out m (by rw [HN.out]; omega)) (by rw [orderN_len, HN.out]; exact hmn)
      have Hnext := Lib.hid hnext
      have Hok := Lib.hid hok
      have Hfirst := Lib.hid hfirst
      have hi1n : i1 < n := by rw [HN.out] at hi1; exact hi1
      clear hnext hok hfirst
      obtain ⟨out, hout⟩ : ∃ out, out = orderN rs m := ⟨_, rfl⟩
      rw [← hout] at Hnext Hok Hfirst
      have HB2 : Hid (Blk wq w.heap.size 4 (bools (doneL out n))) := by rw [hout]; exact HB
      have Hout := Lib.hid hout
      clear hout
      go_wp2_with fail
      go_loop [5, 6] (fun b i => ∃ (q : Nat) (x y : Int), q ≤ n ∧ i = .int .i64 y ∧ b = .int .i64 x ∧ y + 1 = (q : Int) ∧ Hid (Best rs out q x)) (fun _ i => (intOf i + 1).toNat)
      case atStart => exact ⟨n, -1, (n : Int) - 1, Nat.le_refl _, rfl, rfl, by omega, Lib.hid (.inl ⟨rfl, fun i h1 h2 => by rw [HN.out] at h2; omega⟩)⟩
      case round =>
        obtain ⟨q, x, y, hq, rfl, rfl, hy, hbest⟩ := hrel
        by_cases hy0' : 0 ≤ y
        · obtain ⟨k, hk⟩ : ∃ k : Nat, (k : Int) = y := ⟨y.toNat, by omega⟩
          subst hk
          obtain rfl : q = k + 1 := by omega
          have hkn : k < n := by omega
          have hkn' : (k : Int) < (n : Int) := by omega
          clear hy
          obtain ⟨b, o, u, rfl, hbB, hu, hc⟩ := (hr.below hb).at_ hkn
          have hrk : rs[k]? = some (rs[k]'(by have := HN.out; omega)) := List.getElem?_eq_getElem _
          obtain ⟨r, hr0⟩ : ∃ r, r = rs[k]'(by have := HN.out; omega) := ⟨_, rfl⟩
          rw [← hr0] at hrk
          obtain ⟨Ar, mr, cr, rfl, hmr, _, _, hrr⟩ := Hs.out.2 k u r hu hrk
          have hmrb : mr ≤ 1000000000 := by rw [← hmr]; exact Hg.out.row (List.mem_of_getElem? hrk)
          obtain ⟨b0, hb0⟩ : ∃ b0, b0 = decide ((k : Int) ∈ out) := ⟨_, rfl⟩
          have hcb := HB2.out.cell k (.bool b0) (bools_at (by rw [hb0]; exact doneL_at hkn))
          have Hokk := Lib.hid (okB_all rs out k hrk)
          rw [← hb0] at Hokk
          have Hpos := Lib.hid (Hg.out.ok r (List.mem_of_getElem? hrk))
          have Hmr := Lib.hid hmr
          clear hu hr0 hrk hmr hb0
          go_wp2_with fail
          go_loop [7, 34] (fun ok i => ∃ (j : Nat) (z : Bool), j ≤ mr ∧ i = .int .i64 (j : Int) ∧ ok = .bool z ∧ Hid (z = (!b0 && (r.take j).all fun k => decide (k ∈ out)))) (fun _ i => mr - (intOf i).toNat)
          case atStart => exact ⟨0, !b0, Nat.zero_le _, rfl, rfl, Lib.hid (by simp)⟩
          case round =>
            obtain ⟨j, z, hj, rfl, rfl, hz⟩ := hrel
            by_cases hjl : j < mr
            · have hjl' : (j : Int) < (mr : Int) := by omega
              obtain ⟨bx, ox, xx, rfl, _, hx, hcx⟩ := (hrr.below hb).one hjl
              have hxb := Hpos.out xx (List.mem_of_getElem? hx)
              obtain ⟨kx, hkx⟩ : ∃ kx : Nat, (kx : Int) = xx := ⟨xx.toNat, by omega⟩
              subst hkx
              have hkxn : kx < n := by have := HN.out; omega
              have hkxn' : (kx : Int) < (n : Int) := by omega
              have htk : (r.take (j + 1)).all (fun k => decide (k ∈ out)) = ((r.take j).all (fun k => decide (k ∈ out)) && decide ((kx : Int) ∈ out)) := by
                rw [List.take_add_one, hx]; simp [List.all_append]
              obtain ⟨b1, hb1⟩ : ∃ b1, b1 = decide ((kx : Int) ∈ out) := ⟨_, rfl⟩
              have hcb1 := HB2.out.cell kx (.bool b1) (bools_at (by rw [hb1]; exact doneL_at hkxn))
              rw [← hb1] at htk
              have Htk := Lib.hid htk
              clear hx hxb htk hb1
              cases z with
              | true =>
                have Hz := Lib.hid (show b1 = (!b0 && (r.take (j + 1)).all fun k => decide (k ∈ out)) by rw [Htk.out, ← Bool.and_assoc, ← hz.out]; rfl)
                go_wp2_with fail
                go_round
                case rel => exact ⟨j + 1, b1, by omega, by go_num, rfl, Hz⟩
                case measure => simp [intOf]; omega
              | false =>
                have Hz := Lib.hid (show false = (!b0 && (r.take (j + 1)).all fun k => decide (k ∈ out)) by rw [Htk.out, ← Bool.and_assoc, ← hz.out]; rfl)
                go_wp2_with fail
                go_round
                case rel => exact ⟨j + 1, false, by omega, by go_num, rfl, Hz⟩
                case measure => simp [intOf]; omega
            · obtain rfl : j = mr := by omega
              have hz2 := hz.out
              rw [List.take_of_length_le (by rw [Hmr.out]; omega), ← Hokk.out] at hz2
              have Hz2 := Lib.hid hz2
              clear hz hz2
              cases z with
              | true =>
                have Hb := Lib.hid (hbest.out.yes (by rw [HN.out]; exact hkn) Hz2.out.symm)
                go_wp2_with fail
                go_round
                case rel => exact ⟨k, (k : Int), (k : Int) - 1, by omega, rfl, rfl, by omega, Hb⟩
                case measure => simp [intOf]
              | false =>
                have Hb := Lib.hid (hbest.out.no Hz2.out.symm)
                go_wp2_with fail
                go_round
                case rel => exact ⟨k, x, (k : Int) - 1, by omega, rfl, rfl, by omega, Hb⟩
                case measure => simp [intOf]
        · obtain rfl : q = 0 := by omega
          have hx := hbest.out.next hi1 Hok.out Hfirst.out
          subst hx
          have hi1n' : (i1 : Int) < (n : Int) := by omega
          have hcb1 := HB2.out.cell i1 _ (bools_at (doneL_at hi1n))
          have hfz := HB2.out.free i1
          have hlm : m + 1 ≤ maxLen := by unfold maxLen; omega
          have Hown2 := Lib.hid (ownsRow_setCell_below Hown.out (a := ⟨w.heap.size, i1, none⟩) (by show w.heap.size < _; omega) (.bool true))
          have hzs : w.heap.size + 1 ≤ (wq.setCell ⟨w.heap.size, i1, none⟩ (.bool true)).heap.size := by simp; omega
          clear hbest hy
          go_wp2_with (at_builtin; refine wpList_pushH wq.heap.size (by simp) rfl (.tmp 51) (.tmp 53) 22 rfl (w.heap.size + 1) 3 j0 (.int .i64 0) 1 8 Try.underlying22 hji hy0 hy1 hy2 rfl (by omega) _ m _ rfl Hown2.out [_] rfl rfl (by simp [Value.oneCell']) hlm (by omega) hzs ?_; intro v6 w6 hn6 hb6 _)
          have Hnx := Lib.hid (show OOfRel w rs n v6 (.int .i64 ((m : Int) + 1)) w6 from ⟨m + 1, by omega, by go_num, by
            have h1 : doneL (orderN rs (m + 1)) n = (doneL out n).set i1 true := by
              rw [doneL_set]; simp only [orderN]; rw [← Hout.out, Hnext.out]
            rw [h1, ← bools_set]
            exact (HB2.out.set i1 _).below hb6 (by omega), by
            simp only [orderN]; rw [← Hout.out, Hnext.out, List.map_append]
            rw [Hout.out]; exact hn6, (hb.setCell (p := ⟨w.heap.size, i1, none⟩) (Nat.le_refl _) _).trans (hb6.mono (by simp))⟩)
          clear hn6 hb6
          go_roundw
          case rel => exact Hnx.out
          case measure => simp [intOf]; omega
    · obtain rfl : m = n := by omega
      have HP := Lib.hid (show OwnL w (orderN rs rs.length) (.returned (.slice Ao m co)) wq from ⟨_, rfl, by rw [orderN_len, HN.out]; exact own_mono Hown.out (by omega), hb⟩)
      go_wp2_with fail
      go_ret
      exact HP.out
end Go.Proofs.Ytgmjeanoohmdlaa
