/- log.All, and a copy of a slice of records. Conditions: those typed. -/
import Derived.Test.YtbeemdlgjiclcaaAdd
namespace Go.Proofs.Ytbeemdlgjiclcaa
open Go.RowKit Go.Gy
set_option linter.unusedVariables false

/-- a slice of slices of bytes -/
def SlSs (w : World) (B : Nat) (v : Value) (rs : List (List Nat)) : Prop := ∃ A n c vs, v = .slice A n c ∧ rs.length = n ∧ n ≤ c ∧ (A = none → c = 0) ∧ Rd w B 1 A n vs ∧ SlsB w B vs rs
theorem SlSs.below {w w' : World} {B : Nat} {v : Value} {rs : List (List Nat)} (h : SlSs w B v rs) (hb : Below B w w') : SlSs w' B v rs := by
  obtain ⟨A, n, c, vs, h1, h2, h3, h4, h5, h6⟩ := h
  exact ⟨A, n, c, vs, h1, h2, h3, h4, h5.below hb, h6.below hb⟩
theorem SlSs.more {w : World} {B B' : Nat} {v : Value} {rs : List (List Nat)} (h : SlSs w B v rs) (hB : B ≤ B') : SlSs w B' v rs := by
  obtain ⟨A, n, c, vs, h1, h2, h3, h4, h5, h6⟩ := h
  exact ⟨A, n, c, vs, h1, h2, h3, h4, h5.more hB, h6.more hB⟩
theorem SlSs.own {w : World} {base n : Nat} {v : Value} {vs : List Value} {rs : List (List Nat)} (h : w.ownsRow base 26 1 v n vs) (hs : SlsB w w.heap.size vs rs) : SlSs w w.heap.size v rs := by
  obtain ⟨A, c, rfl, h1, _, h2⟩ := own_rd h
  have hl := h.1
  exact ⟨A, n, c, vs, rfl, by rw [← hs.1, hl, Nat.mul_one], h1, fun hA => (own_none h hA).2, h2, hs⟩
theorem SlsB.one {w : World} {B : Nat} {vs : List Value} {rs : List (List Nat)} (h : SlsB w B vs rs) : ∀ u ∈ vs, u.oneCell' = true := by
  intro u hu
  obtain ⟨i, hi, rfl⟩ := List.getElem_of_mem hu
  obtain ⟨A, n, c, e, _⟩ := h.2 i _ (rs[i]'(by rw [← h.1]; exact hi)) (List.getElem?_eq_getElem hi) (List.getElem?_eq_getElem _)
  rw [e]; rfl

def RowsPost (w : World) (rs : List (List Nat)) (e : Ending) (w' : World) : Prop := ∃ v' vs, e = .returned v' ∧ w'.ownsRow w.heap.size 26 1 v' rs.length vs ∧ SlsB w' w.heap.size vs rs ∧ Below w.heap.size w w'
theorem RowsPost.of {w w' : World} {rs : List (List Nat)} {v' : Value} {n : Nat} {vs : List Value} (hn : rs.length = n) (ho : w'.ownsRow w.heap.size 26 1 v' n vs) (hs : SlsB w' w.heap.size vs rs) (hb : Below w.heap.size w w') : RowsPost w rs (.returned v') w' := ⟨v', vs, rfl, by rw [hn]; exact ho, hs, hb⟩
set_option maxRecDepth 100000 in
set_option maxHeartbeats 1000000 in
theorem clone_rows (w : World) (v : Value) (rs : List (List Nat)) (hx : SlSs w w.heap.size v rs) (hb : rs.length ≤ 1048576) :
    Calls Try.prog 33 #[v] w (RowsPost w rs) := by
  obtain ⟨i0, hi, hz0, hz1, hz2⟩ := info_parts info_bytes
  obtain ⟨A, n, c, vs, rfl, hxl, hnc, hA, hr, hs⟩ := hx
  rw [hxl] at hb
  have hvl : vs.length = n := by rw [hs.1, hxl]
  have Hxl := Lib.hid hxl
  clear hxl
  have hone := hs.one
  have Hs := Lib.hid hs
  clear hs
  have he := fun w => Lib.run_eql_slice_nil (P := Try.prog) w 31 26 A n c 0 0 Try.underlying31
  cases A with
  | none =>
    have hc := hA rfl
    subst hc
    obtain rfl : n = 0 := by omega
    have hx0 : vs = [] := List.eq_nil_of_length_eq_zero hvl
    subst hx0
    clear hr hA hnc hone hvl
    go_enter Try.func33, Try.ntmps33
    go_wp2
    go_ret
    exact RowsPost.of Hxl.out (World.ownsRow_nil _ _ _ _) Hs.out (Below.refl _ _)
  | some ad =>
    clear hA
    go_enter Try.func33, Try.ntmps33
    go_wp2_with (at_builtin; refine wpList_extend rfl (.tmp 5) (.tmp 6) 31 rfl w.heap.size 26 i0 (.slice none 0 0) 1 24 Try.underlying31 hi hz0 hz1 hz2 rfl (by omega) _ _ _ rfl (World.ownsRow_lit w #[] 0 (Nat.le_refl _) (by omega) rfl) (some ad) n c w.heap.size vs rfl (fun h => by cases h) (hr.alloc (Nat.le_refl _) _) hone (by unfold maxLen; omega) (by omega) (by simp) ?_; intro v1 w1 hown1 hb1)
    obtain ⟨A1, c1, rfl, _, _, _⟩ := own_rd hown1
    go_wp2
    go_ret
    have hbw := ((Below.refl w.heap.size w).alloc (Nat.le_refl _) (.cells #[] 26)).trans hb1
    exact RowsPost.of (Hxl.out.trans (Nat.zero_add _).symm) hown1 (Hs.out.below hbw) hbw

theorem addB_len {b r : List Nat} (h : addE b r = 0) (h8 : ∀ x ∈ b, x < 256) : (addB b r).length = (scanL b).2.1 + 6 + r.length := by
  have h2 := (scanL_spec h8).2.1
  unfold addB
  rw [if_pos h]
  simp [be2, be4]
  omega
theorem addB_lt {b r : List Nat} (h8 : ∀ x ∈ b, x < 256) (hr8 : ∀ x ∈ r, x < 256) : ∀ x ∈ addB b r, x < 256 := by
  intro x hx
  unfold addB at hx
  split at hx
  · simp only [List.mem_append] at hx
    rcases hx with hx | hx | hx | hx
    · exact h8 x (List.mem_of_mem_take hx)
    · exact be2_lt _ x hx
    · exact hr8 x hx
    · exact be4_lt _ x hx
  · simp at hx
theorem allF_step {out r : List Nat} {rs : List (List Nat)} {k : Nat} (hk : rs[k]? = some r) (h : addE out r = 0) : allF out (rs.drop k) = allF (addB out r) (rs.drop (k + 1)) := by
  obtain ⟨hl, he⟩ := List.getElem?_eq_some_iff.1 hk
  rw [List.drop_eq_getElem_cons hl, he]
  simp only [allF, h, if_true]
theorem allF_bad {out r : List Nat} {rs : List (List Nat)} {k : Nat} (hk : rs[k]? = some r) (h : addE out r ≠ 0) : allF out (rs.drop k) = ([], addE out r) := by
  obtain ⟨hl, he⟩ := List.getElem?_eq_some_iff.1 hk
  rw [List.drop_eq_getElem_cons hl, he]
  simp only [allF, h, if_false]

def AllPost (w : World) (rs : List (List Nat)) (e : Ending) (w' : World) : Prop := ∃ v' n, e = .returned (.tuple #[v', .int .i64 ((allF [] rs).2 : Nat)]) ∧ w'.ownsRow w.heap.size 5 1 v' n ((allF [] rs).1.map bv) ∧ Below w.heap.size w w'
def AllRel (rs : List (List Nat)) (k : Nat) (out : List Nat) : Prop := allF [] rs = allF out (rs.drop k) ∧ out.length ≤ 100000 ∧ ∀ x ∈ out, x < 256
theorem AllPost.bad {w w' : World} {rs : List (List Nat)} {out r : List Nat} {k : Nat} (h : AllRel rs k out) (hk : rs[k]? = some r) (he : addE out r ≠ 0) (hb : Below w.heap.size w w') : AllPost w rs (.returned (.tuple #[.slice none 0 0, .int .i64 (addE out r : Nat)])) w' := by
  refine ⟨.slice none 0 0, 0, ?_, ?_, hb⟩
  · rw [h.1, allF_bad hk he]
  · rw [h.1, allF_bad hk he]; exact World.ownsRow_nil _ _ _ _
theorem AllPost.good {w w' : World} {rs : List (List Nat)} {out : List Nat} {k n : Nat} {v : Value} (h : AllRel rs k out) (hk : rs.length ≤ k) (ho : w'.ownsRow w.heap.size 5 1 v n (out.map bv)) (hb : Below w.heap.size w w') : AllPost w rs (.returned (.tuple #[v, .int .i64 0])) w' := by
  have e : allF [] rs = (out, 0) := by rw [h.1, List.drop_eq_nil_of_le hk]; rfl
  refine ⟨v, n, ?_, ?_, hb⟩
  · rw [e]; rfl
  · rw [e]; exact ho
theorem AllRel.next {rs : List (List Nat)} {out r : List Nat} {k : Nat} (h : AllRel rs k out) (hk : rs[k]? = some r) (he : addE out r = 0) (hr8 : ∀ x ∈ r, x < 256) : AllRel rs (k + 1) (addB out r) :=
  ⟨h.1.trans (allF_step hk he), by rw [addB_len he h.2.2]; exact (addE_zero he).2, addB_lt h.2.2 hr8⟩
set_option maxRecDepth 100000 in
set_option maxHeartbeats 4000000 in
theorem all_any (w : World) (v : Value) (rs : List (List Nat)) (hv : SlSs w w.heap.size v rs) (hn : rs.length ≤ 1048576) (h8 : ∀ r ∈ rs, ∀ x ∈ r, x < 256) :
    Calls Try.prog 30 #[v] w (AllPost w rs) := by
  obtain ⟨A, n, c, vs, rfl, hxl, hnc, hA, hr, hs⟩ := hv
  have Hxl := Lib.hid hxl
  have Hs := Lib.hid hs
  have H8 := Lib.hid h8
  have HA := Lib.hid hA
  rw [hxl] at hn
  clear hxl hs h8 hA
  go_enter Try.func30, Try.ntmps30
  go_wp2
  go_loopw [4, 11] (fun v i wr => ∃ k out, k ≤ n ∧ i = .int .i64 k ∧ Hid (AllRel rs k out) ∧ wr.ownsRow w.heap.size 5 1 v out.length (out.map bv) ∧ Below w.heap.size w wr) (fun _ i _ => n - (intOf i).toNat)
  case atStart => exact ⟨0, [], Nat.zero_le _, rfl, Lib.hid ⟨rfl, by simp, by simp⟩, World.ownsRow_nil _ _ _ _, Below.refl _ _⟩
  case round =>
    obtain ⟨k, out, hk, rfl, HR, hown, hbw⟩ := hrel
    have hzr := hbw.size
    by_cases hlt : k < n
    · obtain ⟨b, o, u, rfl, hbb, hu, hc⟩ := (hr.below hbw).at_ hlt
      have hrk : rs[k]? = some (rs[k]'(by have := Hxl.out; omega)) := List.getElem?_eq_getElem _
      obtain ⟨r, hr0⟩ : ∃ r, r = rs[k]'(by have := Hxl.out; omega) := ⟨_, rfl⟩
      rw [← hr0] at hrk
      have hsl := ((Hs.out.below hbw).2 k u r hu hrk).more hzr
      have hr8 := H8.out r (List.mem_of_getElem? hrk)
      have Hrk := Lib.hid hrk
      have HC := Lib.hid (add_any wr _ u out r (SlB.own hown) hsl (Nat.le_trans HR.out.2.1 (by omega)) HR.out.2.2 hr8)
      have Hr8 := Lib.hid hr8
      clear hr0 hrk hu hsl hr8
      go_wp2_with fail
      refine HC.out.mono ?_
      rintro e w1 ⟨v1, n1, rfl, hown1, hb1⟩
      clear HC
      have hbw1 := hbw.trans (hb1.mono hzr)
      by_cases he : addE out r = 0
      · have HN := Lib.hid (HR.out.next Hrk.out he Hr8.out)
        rw [he]
        have hl1 : n1 = (addB out r).length := by have := hown1.1; simpa using this.symm
        subst hl1
        go_wp2_with fail
        go_roundw
        case rel => exact ⟨k + 1, addB out r, by omega, by go_num, HN, own_mono hown1 hzr, hbw1⟩
        case measure => simp [intOf]; omega
      · have HP := Lib.hid (fun w' (h : Below w.heap.size w w') => AllPost.bad HR.out Hrk.out he h)
        have hne : ¬ ((addE out r : Nat) : Int) = 0 := by omega
        obtain ⟨x, hx⟩ : ∃ x, x = addE out r := ⟨_, rfl⟩
        rw [← hx] at HP hne ⊢
        clear hx he hown hown1
        go_wp2_with fail
        go_ret2
        exact HP.out _ hbw1
    · obtain rfl : k = n := by omega
      have HP := Lib.hid (AllPost.good HR.out (by rw [Hxl.out]; exact Nat.le_refl _) hown hbw)
      clear hown
      go_wp2
      go_ret2
      exact HP.out
end Go.Proofs.Ytbeemdlgjiclcaa
