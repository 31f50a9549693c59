/- slices.IndexFunc at wishes; (*Table).at. Conditions: those typed. -/
import Derived.Test.YtambngbkegnghaaTab
namespace Go.Proofs.Ytambngbkegnghaa
open Go.RowKit Go.Gy
set_option linter.unusedVariables false
def idxW (l : List (Int × Value)) (arm : Int) : Int := match l.findIdx? (fun x => decide (x.1 = arm)) with
  | some i => i
  | none => -1
set_option maxRecDepth 100000 in
set_option maxHeartbeats 1000000 in
theorem idxw_any (w : World) (gb : Nat) (arm : Int) (A : Option Addr) (n c : Nat) (l : List (Int × Value)) (hl : l.length = n) (hn : n ≤ 100000) (hr : Rd w w.heap.size 2 A n (l.flatMap encW))
    (hs : ∀ x ∈ l, ∃ A n c, x.2 = .slice A n c) (hg : gb < w.heap.size) (hc : w.cell? ⟨gb, 0, none⟩ = some (.int .i64 arm)) :
    Calls Try.prog 67 #[.slice A n c, .func (.func 68) #[] #[.pointer (some ⟨gb, 0, none⟩)]] w (IdxPost (idxW l arm) w) := by
  have Hl := Lib.hid hl
  have Hs := Lib.hid hs
  have Hc := Lib.hid hc
  clear hl hs hc
  go_enter Try.func67, Try.ntmps67
  go_wp2
  go_loopw [8] (fun i wr => ∃ k : Nat, k ≤ n ∧ i = .int .i64 k ∧ Hid (∀ j a, j < k → l[j]? = some a → decide (a.1 = arm) = false) ∧ Below w.heap.size w wr) (fun i _ => n - (intOf i).toNat)
  case atStart => exact ⟨0, Nat.zero_le _, rfl, Lib.hid (fun j a h => absurd h (by omega)), Below.refl _ _⟩
  case round =>
    obtain ⟨k, hk, rfl, Hno, hb⟩ := hrel
    have hz := hb.size
    by_cases hlt : k < n
    · obtain ⟨b, o, g, rfl, hbB, hg', hcs⟩ := (hr.below hb).elem encW_len Hl.out hlt
      obtain ⟨a, u⟩ := g
      obtain ⟨A2, n2, c2, hu⟩ := Hs.out _ (List.mem_of_getElem? hg')
      simp only at hu
      subst hu
      have Hcl := Lib.hid (clo_at wr gb a arm (.slice A2 n2 c2) (by omega) ((hb.cell (p := ⟨gb, 0, none⟩) hg).trans Hc.out) A2 n2 c2 rfl)
      have e0 : wr.cell? ⟨b, o + k * 2, none⟩ = some (.int .i64 a) := hcs 0 _ rfl
      have e1 : wr.cell? ⟨b, o + k * 2 + 1, none⟩ = some (.slice A2 n2 c2) := hcs 1 _ rfl
      have Hg := Lib.hid hg'
      have HB1 := Lib.hid hb
      clear hg' hcs hb
      go_wp2_with fail
      refine Hcl.out.mono ?_
      rintro e w' ⟨rfl, hbn⟩
      have HB2 := Lib.hid (HB1.out.trans (hbn.mono hz))
      obtain ⟨q, hq⟩ : ∃ q, decide (a = arm) = q := ⟨_, rfl⟩
      rw [hq]
      have Hq := Lib.hid hq
      clear hq hbn
      cases q
      · go_wp2
        go_roundw
        case rel =>
          refine ⟨k + 1, by omega, by go_num, Lib.hid (fun i x hi hx => ?_), HB2.out⟩
          by_cases hik : i = k
          · subst hik
            rw [Hg.out] at hx
            injection hx with hx
            subst hx
            exact Hq.out
          · exact Hno.out i x (by omega) hx
        case measure => simp [intOf]; omega
      · go_wp2
        go_ret
        refine ⟨ret_int ?_, HB2.out⟩
        have hkl : k < l.length := by rw [Hl.out]; omega
        have : l.findIdx? (fun x => decide (x.1 = arm)) = some k := by
          rw [List.findIdx?_eq_some_iff_getElem]
          refine ⟨hkl, ?_, fun i hi => ?_⟩
          · have := Hg.out
            rw [List.getElem?_eq_getElem hkl] at this
            injection this with this
            rw [this]; exact Hq.out
          · rw [Hno.out i _ hi (List.getElem?_eq_getElem (by omega))]; simp
        simp [idxW, this]
    · obtain rfl : k = n := by omega
      go_wp2
      go_ret
      refine ⟨ret_int ?_, hb⟩
      have : l.findIdx? (fun x => decide (x.1 = arm)) = none := by
        rw [List.findIdx?_eq_none_iff]
        intro a ha
        obtain ⟨j, hj, rfl⟩ := List.getElem_of_mem ha
        exact Hno.out j _ (by rw [Hl.out] at hj; exact hj) (List.getElem?_eq_getElem hj)
      simp [idxW, this]
theorem findIdx_same {α β : Type} (p : α → Bool) (q : β → Bool) : ∀ (l : List α) (m : List β), l.length = m.length → (∀ (i : Nat) x y, l[i]? = some x → m[i]? = some y → p x = q y) → l.findIdx? p = m.findIdx? q
  | [], [], _, _ => rfl
  | x :: l, y :: m, hl, h => by
    rw [List.findIdx?_cons, List.findIdx?_cons, h 0 x y rfl rfl, findIdx_same p q l m (by simpa using hl) (fun i a b h1 h2 => h (i + 1) a b (by simpa using h1) (by simpa using h2))]
theorem TabX.idx {w : World} {B p : Nat} {st : Tab} {X : List (Value × List Cell)} {hb : Nat} {vs : List Value} {wv : Value} {wl : List (Int × Value)} (h : TabX w B p st X hb vs wv wl) (arm : Int) : idxW wl arm = atF st arm := by
  unfold idxW atF
  rw [findIdx_same (fun x : Int × Value => decide (x.1 = arm)) (fun x : Int × List Cell => decide (x.1 = arm)) wl st.2 h.wlen (fun i x y h1 h2 => by rw [(h.wts i x y h1 h2).1])]
  cases st.2.findIdx? (fun x : Int × List Cell => decide (x.1 = arm)) <;> rfl
theorem TabX.slices {w : World} {B p : Nat} {st : Tab} {X : List (Value × List Cell)} {hb : Nat} {vs : List Value} {wv : Value} {wl : List (Int × Value)} (h : TabX w B p st X hb vs wv wl) : ∀ x ∈ wl, ∃ A n c, x.2 = .slice A n c := by
  intro x hx
  obtain ⟨i, hi, rfl⟩ := List.getElem_of_mem hx
  have h2 : i < st.2.length := by rw [← h.wlen]; exact hi
  obtain ⟨A, n, c, h3, _⟩ := (h.wts i _ _ (List.getElem?_eq_getElem hi) (List.getElem?_eq_getElem h2)).2.1
  exact ⟨A, n, c, h3⟩
set_option maxRecDepth 100000 in
theorem at_any (w : World) (B p : Nat) (st : Tab) (X : List (Value × List Cell)) (arm : Int) (h : TabAt w B p st X) (hs : st.2.length ≤ 4) :
    Calls Try.prog 42 #[.pointer (some ⟨p, 0, none⟩), .int .i64 arm] w (IdxPost (atF st arm) w) := by
  obtain ⟨hb, vs, wv, wl, h⟩ := h
  have hbe : Below w.heap.size w (w.alloc (.cells #[.int .i64 arm] 3)) := (Below.refl _ _).alloc (Nat.le_refl _) _
  have h' := h.below hbe
  obtain ⟨A, c, rfl, hnc, hcm, hrd⟩ := own_rd h'.row
  have HI := Lib.hid (idxw_any _ w.heap.size arm A wl.length c wl rfl (by have := h.wlen; omega) hrd h'.slices (by simp) ((Blk.new w 3 #[.int .i64 arm]).cell 0 _ rfl))
  have hc1 := h'.blk.cell 1 _ rfl
  have He := Lib.hid (h.idx arm)
  have HB := Lib.hid hbe
  clear h h' hbe hrd hs
  go_enter Try.func42, Try.ntmps42
  go_wp2_with fail
  refine HI.out.mono ?_
  rintro e w1 ⟨rfl, hb1⟩
  rw [He.out]
  have HB1 := Lib.hid (HB.out.trans (hb1.mono (by simp)))
  clear hb1
  go_wp2
  go_ret
  exact ⟨rfl, HB1.out⟩
end Go.Proofs.Ytambngbkegnghaa
