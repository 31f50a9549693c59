/- (*Table).Cells, (*Table).Waits, (*Table).Line. Conditions: those typed. -/
import Derived.Test.YtambngbkegnghaaTabAsk
namespace Go.Gy
open Go.RowKit
section
variable {P : Program} {wr : World} {ops : Array Oper} {rest : List Oper} {o : Oper} {a : Act} {Q : Exit → Act → World → Prop}
/-- append of one element, with the new block's number as a letter -/
theorem wpList_pushH (H : Nat) (hH : wr.heap.size = H) (hgd : o.guard = none) (s x : Operand) (t : TypeId)
    (ho : o.op = .call { callee := .builtin .append, args := #[s, x], argTypes := #[t, t] })
    (base : Nat) (e : TypeId) (i : TypeInfo) (z : Value) (size bytes : Nat) (ht : P.underlying t = some (.slice e)) (hi : P.info? e = some i) (hz : i.zero = some z)
    (hsize : i.size = size) (hby : i.bytes = bytes) (hzs : z.cells.size = size) (hsz : 0 < size)
    (v : Value) (n : Nat) (xs : List Value) (hs : a.eval s = v) (hown : wr.ownsRow base e size v n xs)
    (cs : List Value) (hx : a.eval x = .slice (some ⟨H, 0, none⟩) 1 1) (hl : cs.length = size) (h1 : ∀ u ∈ cs, u.oneCell' = true)
    (h63 : n + 1 ≤ maxLen) (hbytes : (n + 1) * bytes ≤ 140737488355328) (hbase : base ≤ wr.heap.size)
    (h : ∀ v' w', w'.ownsRow base e size v' (n + 1) (xs ++ cs) → Below base wr w' → (∃ g c, v' = .slice (some ⟨g, 0, none⟩) (n + 1) c ∧ base ≤ g ∧ g < w'.heap.size) → wpList P ops Q rest (a.put o.dst v') w') :
    wpList P ops Q (o :: rest) a (wr.alloc (.cells cs.toArray e)) := by
  subst hH
  exact wpList_push hgd s x t ho base e i z size bytes ht hi hz hsize hby hzs hsz v n xs hs hown cs hx hl h1 h63 hbytes hbase h
end
end Go.Gy
namespace Go.Proofs.Ytambngbkegnghaa
open Go.RowKit Go.Gy
set_option linter.unusedVariables false
def cellsT (st : Tab) (arm : Int) : List Cell := if arm < 0 then [] else st.1.getD arm.toNat []
def waitsT (st : Tab) (arm : Int) : List Cell := if 0 ≤ atF st arm then (st.2.getD (atF st arm).toNat (0, [])).2 else []
theorem own_c {w w' : World} {base n : Nat} {v : Value} {l : List Cell} (hl : l.length = n) (h : w'.ownsRow base 39 2 v n (l.flatMap encC)) (hb : Below base w w') : OwnC base l w (.returned v) w' := by
  obtain ⟨A, c, rfl, _⟩ := own_rd h
  exact ⟨A, n, c, rfl, hl, h, hb⟩
theorem cellsT_out {st : Tab} {k : Nat} (h : st.1.length ≤ k) : cellsT st k = [] := by
  unfold cellsT
  rw [if_neg (by omega), List.getD_eq_getElem?_getD, Int.toNat_natCast, List.getElem?_eq_none h]; rfl
theorem cellsT_in {st : Tab} {k : Nat} {r : List Cell} (h : st.1[k]? = some r) : cellsT st k = r := by
  unfold cellsT
  rw [if_neg (by omega), List.getD_eq_getElem?_getD, Int.toNat_natCast, h]; rfl
set_option maxRecDepth 100000 in
theorem cells_of (w : World) (B p : Nat) (st : Tab) (X : List (Value × List Cell)) (arm : Int) (h : TabAt w B p st X) (hf : Fit st) :
    Calls Try.prog 16 #[.pointer (some ⟨p, 0, none⟩), .int .i64 arm] w (OwnC w.heap.size (cellsT st arm) w) := by
  obtain ⟨hb, vs, wv, wl, hx⟩ := id h
  have hc0 : w.cell? ⟨p, 0, none⟩ = some (.slice (some ⟨hb, 0, none⟩) vs.length vs.length) := hx.blk.cell 0 _ rfl
  have hlen := hx.hlen
  by_cases h1 : arm < 0
  · have HP := Lib.hid (show OwnC w.heap.size (cellsT st arm) w (.returned (.slice none 0 0)) w from by
      rw [cellsT, if_pos h1]
      exact own_c rfl (World.ownsRow_nil _ _ _ _) (Below.refl _ _))
    clear h hf hx hlen
    go_enter Try.func16, Try.ntmps16
    go_wp2_with fail
    go_ret
    exact HP.out
  obtain ⟨k, rfl⟩ : ∃ k : Nat, arm = (k : Int) := ⟨arm.toNat, by omega⟩
  by_cases h2 : vs.length ≤ k
  · have HP := Lib.hid (show OwnC w.heap.size (cellsT st k) w (.returned (.slice none 0 0)) w from by
      rw [cellsT_out (by omega)]
      exact own_c rfl (World.ownsRow_nil _ _ _ _) (Below.refl _ _))
    have h3 : (vs.length : Int) ≤ (k : Int) := by omega
    clear h hf hx hlen
    go_enter Try.func16, Try.ntmps16
    go_wp2_with fail
    go_ret
    exact HP.out
  have hkv : k < vs.length := by omega
  have hkv2 : ¬ (vs.length : Int) ≤ (k : Int) := by omega
  obtain ⟨va, hva⟩ : ∃ va, vs[k]? = some va := ⟨_, List.getElem?_eq_getElem hkv⟩
  obtain ⟨r, hr⟩ : ∃ r, st.1[k]? = some r := ⟨_, List.getElem?_eq_getElem (by omega)⟩
  have hk := hx.has k va r hva hr
  obtain ⟨Ak, nk, ck, rfl, hkl, hkc, hkn, hkr⟩ := id hk.1
  have q2 : w.cell? ⟨hb, k, none⟩ = some (.slice Ak nk ck) := hx.hblk.cell k (.slice Ak nk ck) (by simpa using hva)
  have hr4 := hf.few.1.2.2.1 r (List.mem_of_getElem? hr)
  have HC := Lib.hid (clone_cells w Ak nk ck r (fun e => ⟨by have := hkn e; omega, hkn e⟩) hkl (by omega) hkr)
  have HP := Lib.hid (show ∀ v w', w'.ownsRow w.heap.size 39 2 v nk (r.flatMap encC) → Below w.heap.size w w' → OwnC w.heap.size (cellsT st k) w (.returned v) w' from fun v w' e1 e2 => by
    rw [cellsT_in hr]
    exact own_c hkl e1 e2)
  clear h hf hx hlen hk hkr hkn hr4 hkl
  go_enter Try.func16, Try.ntmps16
  go_wp2_with fail
  refine HC.out.mono ?_
  rintro e w1 ⟨v1, rfl, hown, hb1⟩
  have HQ := Lib.hid (HP.out _ _ hown hb1)
  obtain ⟨A1, c1, rfl, _⟩ := own_rd hown
  clear hown hb1 HC
  go_wp2_with fail
  go_ret
  exact HQ.out
theorem waitsT_none {st : Tab} {arm : Int} (h : atF st arm = -1) : waitsT st arm = [] := by
  unfold waitsT
  rw [h, if_neg (by decide)]
theorem waitsT_some {st : Tab} {arm : Int} {i : Nat} {y : Int × List Cell} (h : atF st arm = i) (hy : st.2[i]? = some y) : waitsT st arm = y.2 := by
  unfold waitsT
  rw [h, if_pos (by omega), List.getD_eq_getElem?_getD, Int.toNat_natCast, hy]; rfl
set_option maxRecDepth 100000 in
theorem waits_of (w : World) (B p : Nat) (st : Tab) (X : List (Value × List Cell)) (arm : Int) (h : TabAt w B p st X) (hf : Fit st) :
    Calls Try.prog 18 #[.pointer (some ⟨p, 0, none⟩), .int .i64 arm] w (OwnC w.heap.size (waitsT st arm) w) := by
  obtain ⟨hb, vs, wv, wl, hx⟩ := id h
  have HA := Lib.hid (at_any w B p st X arm h hf.few.1.2.1)
  have HX := Lib.hid hx
  have HF := Lib.hid hf
  clear h hf hx
  go_enter Try.func18, Try.ntmps18
  go_wp2_with fail
  refine HA.out.mono ?_
  rintro e w1 ⟨rfl, hb1⟩
  have hx1 := HX.out.below hb1
  have Hb1 := Lib.hid hb1
  clear hb1 HA
  rcases atF_cases st arm with ⟨hat, hno⟩ | ⟨ix, y, hat, hix, hy, hyk⟩
  · have HP := Lib.hid (show OwnC w.heap.size (waitsT st arm) w (.returned (.slice none 0 0)) w1 from by
      rw [waitsT_none hat]
      exact own_c rfl (World.ownsRow_nil _ _ _ _) Hb1.out)
    rw [hat]
    clear hat hno hx1
    go_wp2_with fail
    go_ret
    exact HP.out
  · have HS := Lib.hid (waitsT_some hat hy)
    rw [hat]
    obtain ⟨Aw, cw, rfl, hncw, hccw, hrdw⟩ := own_rd hx1.row
    have p1 := hx1.blk.cell 1 _ rfl
    have hixw : ix < wl.length := by rw [hx1.wlen]; exact hix
    have hix0 : (0 : Int) ≤ (ix : Int) := by omega
    obtain ⟨b, o, x, rfl, hbB, hxx, hcs⟩ := hrdw.elem encW_len rfl hixw
    obtain ⟨hxy, hhd⟩ := hx1.wts ix x y hxx hy
    obtain ⟨a, u⟩ := x
    obtain ⟨a', cs'⟩ := y
    simp only at hxy hhd hyk
    obtain ⟨Au, nu, cu, rfl, hul, hu1, hu2, hur⟩ := id hhd.1
    have e1 : w1.cell? ⟨b, o + ix * 2 + 1, none⟩ = some (.slice Au nu cu) := hcs 1 _ rfl
    have HC := Lib.hid (clone_cells w1 Au nu cu cs' (fun e => ⟨by have := hu2 e; omega, hu2 e⟩) hul (by have := HF.out.few.1.2.2.2 _ (List.mem_of_getElem? hy); simp only at this; omega) hur)
    have HP := Lib.hid (show ∀ v w', w'.ownsRow w1.heap.size 39 2 v nu (cs'.flatMap encC) → Below w1.heap.size w1 w' → OwnC w.heap.size (waitsT st arm) w (.returned v) w' from fun v w' e1 e2 => by
      rw [HS.out]
      exact own_c hul (own_mono e1 Hb1.out.size) (Hb1.out.trans (e2.mono Hb1.out.size)))
    clear hat hx1 hrdw hcs hhd hxx hul hur hy hix hyk hxy hbB hu2
    go_wp2_with fail
    refine HC.out.mono ?_
    rintro e w2 ⟨v2, rfl, hown, hb2⟩
    have HQ := Lib.hid (HP.out _ _ hown hb2)
    obtain ⟨A2, c2, rfl, _⟩ := own_rd hown
    clear hown hb2 HC
    go_wp2_with fail
    go_ret
    exact HQ.out
set_option maxRecDepth 100000 in
theorem line_of (w : World) (B p : Nat) (st : Tab) (X : List (Value × List Cell)) (h : TabAt w B p st X) (hf : Fit st) :
    Calls Try.prog 20 #[.pointer (some ⟨p, 0, none⟩)] w (OwnI w.heap.size (st.2.map Prod.fst) w) := by
  obtain ⟨hb, vs, wv, wl, hx⟩ := id h
  obtain ⟨i0, hi, hz0, hz1, hz2⟩ := info_parts info_int
  obtain ⟨Aw, cw, rfl, hncw, hccw, hrdw⟩ := own_rd hx.row
  have p1 : w.cell? ⟨p, 1, none⟩ = some (.slice Aw wl.length cw) := hx.blk.cell 1 _ rfl
  have hwl4 : wl.length ≤ 4 := by rw [hx.wlen]; exact hf.few.1.2.1
  have HX := Lib.hid hx
  have Hwl := Lib.hid hx.wlen
  have Hrd := Lib.hid hrdw
  clear h hf hx hrdw
  go_enter Try.func20, Try.ntmps20
  go_wp2_with fail
  go_loopw [3, 11] (fun o i wr => ∃ k : Nat, k ≤ wl.length ∧ i = .int .i64 k ∧ wr.ownsRow w.heap.size 3 1 o k (((st.2.take k).map Prod.fst).map iv) ∧ Below w.heap.size w wr) (fun _ i _ => wl.length - (intOf i).toNat)
  case atStart => exact ⟨0, Nat.zero_le _, rfl, World.ownsRow_nil _ _ _ _, Below.refl _ _⟩
  case round =>
    obtain ⟨k, hk, rfl, hown, hbw⟩ := hrel
    have Hown := Lib.hid hown
    have Hbw := Lib.hid hbw
    obtain ⟨Ao, co, rfl, _, _, hrdo⟩ := own_rd hown
    by_cases hlt : k < wl.length
    · obtain ⟨b, o, x, rfl, hbB, hxx, hcs⟩ := (Hrd.out.below hbw).elem encW_len rfl hlt
      obtain ⟨y, hy⟩ : ∃ y, st.2[k]? = some y := ⟨_, List.getElem?_eq_getElem (by rw [← Hwl.out]; exact hlt)⟩
      obtain ⟨hxy, hhd⟩ := HX.out.wts k x y hxx hy
      obtain ⟨a, u⟩ := x
      obtain ⟨a', cs'⟩ := y
      simp only at hxy hhd
      subst hxy
      obtain ⟨Au, nu, cu, rfl, _⟩ := id hhd.1
      have e0 : wr.cell? ⟨b, o + k * 2, none⟩ = some (.int .i64 a) := hcs 0 _ rfl
      have e1 : wr.cell? ⟨b, o + k * 2 + 1, none⟩ = some (.slice Au nu cu) := hcs 1 _ rfl
      have Hbox := Lib.hid (Blk.new wr 77 #[.int .i64 a, .slice Au nu cu])
      have HownA := Lib.hid (hown.alloc (.cells #[.int .i64 a, .slice Au nu cu] 77))
      have hsz : w.heap.size ≤ (wr.alloc (.cells #[.int .i64 a, .slice Au nu cu] 77)).heap.size := by have := hbw.size; simp; omega
      have Hsz := Lib.hid hsz
      have HbA := Lib.hid (hbw.alloc hbw.size (.cells #[.int .i64 a, .slice Au nu cu] 77))
      have htk : (st.2.take (k + 1)).map Prod.fst = (st.2.take k).map Prod.fst ++ [a] := by rw [List.take_add_one, hy, List.map_append]; rfl
      have Htk := Lib.hid htk
      have hlo : k + 1 ≤ maxLen := by unfold maxLen; omega
      clear hown hbw hrdo hcs hhd hxx hbB hsz htk hy
      go_wp2_with (at_builtin; refine wpList_pushH (wr.heap.size + 1) (World.size_alloc _ _) rfl (.tmp 15) (.tmp 18) 22 rfl w.heap.size 3 i0 (.int .i64 0) 1 8 Try.underlying22 hi hz0 hz1 hz2 rfl (by omega) _ k _ rfl HownA.out [.int .i64 a] rfl rfl (by simp [Value.oneCell']) hlo (by omega) Hsz.out ?_; intro v6 w6 hn6 hb6 hv6; obtain ⟨g6, c6, rfl, _⟩ := hv6; have Hn6 := Lib.hid hn6; have Hb6 := Lib.hid (HbA.out.trans hb6); clear hn6 hb6)
      go_roundw
      case rel => exact ⟨k + 1, by omega, by go_num, by rw [Htk.out, List.map_append]; exact Hn6.out, Hb6.out⟩
      case measure => simp [intOf]; omega
    · obtain rfl : k = wl.length := by omega
      have hn : (st.2.map Prod.fst).length = wl.length := by rw [List.length_map, Hwl.out]
      have HP := Lib.hid (show OwnI w.heap.size (st.2.map Prod.fst) w (.returned (.slice Ao wl.length co)) wr from ⟨_, rfl, by
        rw [hn]
        have := hown
        rw [Hwl.out, List.take_length] at this
        rw [Hwl.out]; exact this, hbw⟩)
      clear hown hbw hrdo hn
      go_wp2_with fail
      go_ret
      exact HP.out
end Go.Proofs.Ytambngbkegnghaa
