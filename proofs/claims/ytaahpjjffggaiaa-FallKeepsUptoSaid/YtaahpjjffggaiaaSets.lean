/- grid.Join, Meet, Minus, Within. Conditions: those typed. -/
import Derived.Test.YtaahpjjffggaiaaSorted
import Derived.Test.YtaahpjjffggaiaaFuncC
namespace Go.Proofs.Ytaahpjjffggaiaa
open Go.RowKit Go.Gy
set_option linter.unusedVariables false
set_option maxRecDepth 100000 in
theorem enters_own' {f : FuncId} {fn : Func} {c : Code} (hf : Try.prog.funcs[f]? = some fn) (hname : (fn.name == "runtime.NumGoroutine") = false) (hb : fn.body = some c) (args : Array Value) (w : World) : (callFunc f args).run Try.prog w = .ok (.enter f args) w := by
  have h1 : fn.name ≠ "runtime.NumGoroutine" := by simpa using hname
  simp [callFunc, hf, h1, hb, mark]
/-- the captured variable's block holds a slice that reads as a sorted list -/
def Capt (w : World) (B gb : Nat) (l : List Cell) : Prop := gb < B ∧ SortC l ∧ ∃ A n c, l.length = n ∧ n ≤ 100000 ∧ w.cell? ⟨gb, 0, none⟩ = some (.slice A n c) ∧ Rd w B 2 A n (l.flatMap encC)
theorem Capt.below {w w' : World} {B gb : Nat} {l : List Cell} (h : Capt w B gb l) (hb : Below B w w') : Capt w' B gb l := by
  obtain ⟨h1, h2, A, n, c, h3, h4, h5, h6⟩ := h
  exact ⟨h1, h2, A, n, c, h3, h4, (hb.cell (p := ⟨gb, 0, none⟩) h1).trans h5, h6.below hb⟩
theorem Capt.more {w : World} {B B' gb : Nat} {l : List Cell} (h : Capt w B gb l) (hB : B ≤ B') : Capt w B' gb l := by
  obtain ⟨h1, h2, A, n, c, h3, h4, h5, h6⟩ := h
  exact ⟨by omega, h2, A, n, c, h3, h4, h5, h6.more hB⟩
set_option maxRecDepth 100000 in
theorem clo_Meet (w : World) (gb : Nat) (l : List Cell) (x : Cell) (hc : Capt w w.heap.size gb l) :
    Calls Try.prog 73 (#[celV x] ++ #[.pointer (some ⟨gb, 0, none⟩)]) w (HasPost (!(decide (x ∈ l))) w) := by
  obtain ⟨h1, h2, A, n, c, h3, h4, h5, h6⟩ := hc
  obtain ⟨x1, x2⟩ := x
  have hbe : ∀ X, Below w.heap.size w (w.alloc X) := fun X => (Below.refl _ _).alloc (Nat.le_refl _) _
  have hc1 : ∀ X, (w.alloc X).cell? ⟨gb, 0, none⟩ = some (.slice A n c) := fun X => ((hbe X).cell (p := ⟨gb, 0, none⟩) h1).trans h5
  have HC := Lib.hid (fun X => has_any (w.alloc X) A n c l (x1, x2) h3 h4 h2 ((h6.below (hbe X)).more (by simp)))
  obtain ⟨q, hq⟩ : ∃ q, q = decide ((x1, x2) ∈ l) := ⟨_, rfl⟩
  rw [← hq] at HC ⊢
  have Hbe := Lib.hid hbe
  clear h2 h3 h5 h6 hq hbe
  go_enter Try.func73, Try.ntmps73
  go_wp2_with fail
  refine (HC.out _).mono ?_
  rintro e w1 ⟨rfl, hb⟩
  have HB := Lib.hid ((Hbe.out _).trans (hb.mono (by simp)))
  clear hb
  go_wp2
  go_ret
  exact ⟨rfl, HB.out⟩
set_option maxRecDepth 100000 in
theorem clo_Minus (w : World) (gb : Nat) (l : List Cell) (x : Cell) (hc : Capt w w.heap.size gb l) :
    Calls Try.prog 80 (#[celV x] ++ #[.pointer (some ⟨gb, 0, none⟩)]) w (HasPost ((decide (x ∈ l))) w) := by
  obtain ⟨h1, h2, A, n, c, h3, h4, h5, h6⟩ := hc
  obtain ⟨x1, x2⟩ := x
  have hbe : ∀ X, Below w.heap.size w (w.alloc X) := fun X => (Below.refl _ _).alloc (Nat.le_refl _) _
  have hc1 : ∀ X, (w.alloc X).cell? ⟨gb, 0, none⟩ = some (.slice A n c) := fun X => ((hbe X).cell (p := ⟨gb, 0, none⟩) h1).trans h5
  have HC := Lib.hid (fun X => has_any (w.alloc X) A n c l (x1, x2) h3 h4 h2 ((h6.below (hbe X)).more (by simp)))
  obtain ⟨q, hq⟩ : ∃ q, q = decide ((x1, x2) ∈ l) := ⟨_, rfl⟩
  rw [← hq] at HC ⊢
  have Hbe := Lib.hid hbe
  clear h2 h3 h5 h6 hq hbe
  go_enter Try.func80, Try.ntmps80
  go_wp2_with fail
  refine (HC.out _).mono ?_
  rintro e w1 ⟨rfl, hb⟩
  have HB := Lib.hid ((Hbe.out _).trans (hb.mono (by simp)))
  clear hb
  go_wp2
  go_ret
  exact ⟨rfl, HB.out⟩
set_option maxRecDepth 100000 in
theorem clo_Within (w : World) (gb : Nat) (l : List Cell) (x : Cell) (hc : Capt w w.heap.size gb l) :
    Calls Try.prog 82 (#[celV x] ++ #[.pointer (some ⟨gb, 0, none⟩)]) w (HasPost (!(decide (x ∈ l))) w) := by
  obtain ⟨h1, h2, A, n, c, h3, h4, h5, h6⟩ := hc
  obtain ⟨x1, x2⟩ := x
  have hbe : ∀ X, Below w.heap.size w (w.alloc X) := fun X => (Below.refl _ _).alloc (Nat.le_refl _) _
  have hc1 : ∀ X, (w.alloc X).cell? ⟨gb, 0, none⟩ = some (.slice A n c) := fun X => ((hbe X).cell (p := ⟨gb, 0, none⟩) h1).trans h5
  have HC := Lib.hid (fun X => has_any (w.alloc X) A n c l (x1, x2) h3 h4 h2 ((h6.below (hbe X)).more (by simp)))
  obtain ⟨q, hq⟩ : ∃ q, q = decide ((x1, x2) ∈ l) := ⟨_, rfl⟩
  rw [← hq] at HC ⊢
  have Hbe := Lib.hid hbe
  clear h2 h3 h5 h6 hq hbe
  go_enter Try.func82, Try.ntmps82
  go_wp2_with fail
  refine (HC.out _).mono ?_
  rintro e w1 ⟨rfl, hb⟩
  have HB := Lib.hid ((Hbe.out _).trans (hb.mono (by simp)))
  clear hb
  go_wp2
  go_ret
  exact ⟨rfl, HB.out⟩
/-- a row of one slice in a block of its own -/
theorem row_one (w : World) (v : Value) (l : List Cell) (hv : SlC w w.heap.size v l) (t : TypeId) : Rd (w.alloc (.cells #[v] t)) (w.alloc (.cells #[v] t)).heap.size 1 (some ⟨w.heap.size, 0, none⟩) 1 [v] ∧ SlsC (w.alloc (.cells #[v] t)) (w.alloc (.cells #[v] t)).heap.size [v] [l] :=
  ⟨by simpa using Rd.lit w t [v] 1 1 rfl, SlsC.cons ((hv.below ((Below.refl _ _).alloc (Nat.le_refl _) _)).more (by simp)) (SlsC.nil _ _)⟩
theorem row_two (w : World) (v v' : Value) (l l' : List Cell) (hv : SlC w w.heap.size v l) (hv' : SlC w w.heap.size v' l') (t : TypeId) : Rd (w.alloc (.cells #[v, v'] t)) (w.alloc (.cells #[v, v'] t)).heap.size 1 (some ⟨w.heap.size, 0, none⟩) 2 [v, v'] ∧ SlsC (w.alloc (.cells #[v, v'] t)) (w.alloc (.cells #[v, v'] t)).heap.size [v, v'] [l, l'] :=
  ⟨by simpa using Rd.lit w t [v, v'] 1 2 rfl, SlsC.cons ((hv.below ((Below.refl _ _).alloc (Nat.le_refl _) _)).more (by simp)) (SlsC.cons ((hv'.below ((Below.refl _ _).alloc (Nat.le_refl _) _)).more (by simp)) (SlsC.nil _ _))⟩
/-- grid.sorted of one list, of two -/
theorem sorted_one (w : World) (v : Value) (l : List Cell) (hv : SlC w w.heap.size v l) (hb : l.length ≤ 100000) (t : TypeId) :
    Calls Try.prog 71 #[.slice (some ⟨w.heap.size, 0, none⟩) 1 1] (w.alloc (.cells #[v] t)) (OwnC (w.heap.size + 1) (sortC l) (w.alloc (.cells #[v] t))) := by
  obtain ⟨h1, h2⟩ := row_one w v l hv t
  have := sorted_any (w.alloc (.cells #[v] t)) _ 1 1 [v] [l] rfl (by omega) h1 h2 (by simpa using hb)
  simpa using this
theorem sorted_two (w : World) (v v' : Value) (l l' : List Cell) (hv : SlC w w.heap.size v l) (hv' : SlC w w.heap.size v' l') (hb : l.length + l'.length ≤ 100000) (t : TypeId) :
    Calls Try.prog 71 #[.slice (some ⟨w.heap.size, 0, none⟩) 2 2] (w.alloc (.cells #[v, v'] t)) (OwnC (w.heap.size + 1) (sortC (l ++ l')) (w.alloc (.cells #[v, v'] t))) := by
  obtain ⟨h1, h2⟩ := row_two w v v' l l' hv hv' t
  have := sorted_any (w.alloc (.cells #[v, v'] t)) _ 2 2 [v, v'] [l, l'] rfl (by omega) h1 h2 (by simpa using hb)
  simpa using this
theorem SlC.alloc {w : World} {B : Nat} {v : Value} {r : List Cell} (h : SlC w B v r) (hB : B ≤ w.heap.size) (o : Obj) : SlC (w.alloc o) B v r := h.below ((Below.refl _ _).alloc hB _)
theorem sort_len (l : List Cell) : (sortC l).length ≤ l.length := by
  induction l with
  | nil => exact Nat.le_refl _
  | cons c l ih =>
    show (insC c (sortC l)).length ≤ _
    have : ∀ m : List Cell, (insC c m).length ≤ m.length + 1 := by
      intro m
      induction m with
      | nil => simp [insC]
      | cons y m ih => unfold insC; split; simp; split; simp; simp; exact ih
    have := this (sortC l)
    simp; omega
abbrev joinC (a b : List Cell) : List Cell := sortC (a ++ b)
abbrev meetC (a b : List Cell) : List Cell := (sortC a).filter fun x => decide (x ∈ b)
abbrev minusC (a b : List Cell) : List Cell := (sortC a).filter fun x => !decide (x ∈ b)
abbrev withinC (a b : List Cell) : Bool := a.all fun x => decide (x ∈ b)
set_option maxRecDepth 100000 in
theorem join_any (w : World) (v v' : Value) (l l' : List Cell) (hv : SlC w w.heap.size v l) (hv' : SlC w w.heap.size v' l') (hb : l.length + l'.length ≤ 100000) :
    Calls Try.prog 59 #[v, v'] w (OwnC w.heap.size (joinC l l') w) := by
  have HC := Lib.hid (sorted_two w v v' l l' hv hv' hb 25)
  have HP := Lib.hid (show ∀ X e w', OwnC (w.heap.size + 1) (joinC l l') (w.alloc X) e w' → OwnC w.heap.size (joinC l l') w e w' from fun X e w' ⟨A, n, c, h1, h2, h3, h4⟩ => ⟨A, n, c, h1, h2, own_mono h3 (by omega), ((Below.refl _ _).alloc (Nat.le_refl _) _).trans (h4.mono (by omega))⟩)
  obtain ⟨A, n, c, rfl, _⟩ := id hv
  obtain ⟨A', n', c', rfl, _⟩ := id hv'
  clear hv hv' hb
  go_enter Try.func59, Try.ntmps59
  go_wp2_with fail
  refine HC.out.mono ?_
  rintro e w1 hp
  obtain ⟨A1, n1, c1, rfl, h2⟩ := id hp
  have HQ := Lib.hid (HP.out _ _ _ hp)
  clear hp h2
  go_wp2
  go_ret
  exact HQ.out
theorem filt_meet (l l' : List Cell) : (sortC l).filter (fun x => !(!decide (x ∈ sortC l'))) = meetC l l' := by
  apply List.filter_congr
  intro x _
  simp [mem_sortC]
set_option maxRecDepth 100000 in
set_option maxHeartbeats 1000000 in
theorem meet_any (w : World) (v v' : Value) (l l' : List Cell) (hv : SlC w w.heap.size v l) (hv' : SlC w w.heap.size v' l') (hb : l.length ≤ 100000) (hb' : l'.length ≤ 100000) :
    Calls Try.prog 49 #[v, v'] w (OwnC w.heap.size (meetC l l') w) := by
  obtain ⟨A, n, c, rfl, _⟩ := id hv
  obtain ⟨A', n', c', rfl, _⟩ := id hv'
  have hbe : ∀ X, Below w.heap.size w (w.alloc X) := fun X => (Below.refl _ _).alloc (Nat.le_refl _) _
  have hC := sorted_one (w.alloc (.cells #[.slice A' n' c'] 25)) (.slice A' n' c') l' ((hv'.below (hbe _)).more (by simp)) hb' 25
  simp only [World.size_alloc] at hC
  have HC := Lib.hid hC
  have Hv := Lib.hid hv
  have hk2 : Blk ((w.alloc (.cells #[.slice A' n' c'] 25)).alloc (.cells #[.slice A' n' c'] 25)) w.heap.size 25 #[.slice A' n' c'] := (Blk.new w 25 _).alloc _
  have hb2 : Below w.heap.size w ((w.alloc (.cells #[.slice A' n' c'] 25)).alloc (.cells #[.slice A' n' c'] 25)) := (hbe _).alloc (by simp) _
  have hz2 : ((w.alloc (.cells #[.slice A' n' c'] 25)).alloc (.cells #[.slice A' n' c'] 25)).heap.size = w.heap.size + 2 := by simp
  have Hk2 := Lib.hid hk2
  have Hb2 := Lib.hid hb2
  have Hz2 := Lib.hid hz2
  clear hC hv hv' hbe hk2 hb2 hz2
  go_enter Try.func49, Try.ntmps49
  go_wp2_with fail
  refine HC.out.mono ?_
  rintro e w3 ⟨A3, n3, c3, rfl, hl3, ho3, hb3⟩
  have hz3 := hb3.size
  rw [Hz2.out] at hz3
  have hk3 := Hk2.out.below hb3 (by omega)
  have k0 := hk3.cell 0 _ rfl
  have kf := hk3.free 0
  have hbw3 := Hb2.out.trans (hb3.mono (by omega))
  obtain ⟨w4, hw4⟩ : ∃ w4, w4 = w3.setCell ⟨w.heap.size, 0, none⟩ (.slice A3 n3 c3) := ⟨_, rfl⟩
  have hz4 : w4.heap.size = w3.heap.size := by rw [hw4]; simp [World.setCell]
  have hb4 : Below w.heap.size w w4 := by rw [hw4]; exact hbw3.setCell (Nat.le_refl _) _
  have hk4 : Blk w4 w.heap.size 25 #[.slice A3 n3 c3] := by rw [hw4]; exact hk3.set 0 _
  have ho4 : w4.ownsRow (w.heap.size + 2) 24 2 (.slice A3 n3 c3) n3 ((sortC l').flatMap encC) := by
    rw [hw4]; exact ownsRow_setCell_below ho3 (by show w.heap.size < _; omega) _
  have hcap : Capt w4 w4.heap.size w.heap.size (sortC l') := by
    obtain ⟨A5, c5, he, _, _, hr⟩ := own_rd ho4
    injection he with e1 _ e3
    subst e1 e3
    exact ⟨by omega, sorted_sortC _, A3, n3, c3, hl3, by rw [← hl3]; exact Nat.le_trans (sort_len _) hb', hk4.cell 0 _ rfl, hr⟩
  have HC2 := Lib.hid (sorted_one w4 (.slice A n c) l ((Hv.out.below hb4).more hb4.size) hb 25)
  have Hcap := Lib.hid hcap
  have Hb4 := Lib.hid hb4
  clear HC hl3 ho3 hb3 hk3 hbw3 hb4 hk4 ho4 hcap
  go_wp2_with fail
  rw [← hw4]
  rw [← hz4]
  clear hw4 k0 kf
  refine HC2.out.mono ?_
  rintro e w5 ⟨A5, n5, c5, rfl, hl5, ho5, hb5⟩
  have hb45 : Below w4.heap.size w4 w5 := ((Below.refl _ _).alloc (Nat.le_refl _) _).trans (hb5.mono (by simp))
  have hz5 := hb5.size
  simp only [World.size_alloc] at hz5
  have hcap5 := Hcap.out.below hb45
  have hn5 : n5 ≤ 100000 := by rw [← hl5]; exact Nat.le_trans (sort_len _) hb
  have HD := Lib.hid (delc_any 73 (enters_own' Try.func73 (by kernel_rfl) rfl) w5 (w4.heap.size + 1) #[.pointer (some ⟨w.heap.size, 0, none⟩)] (fun x => !decide (x ∈ sortC l')) A5 n5 c5 (sortC l) hl5 hn5 (by omega) ho5
    (fun x _ w' hb => clo_Meet w' w.heap.size (sortC l') x (((hcap5.more (by omega)).below hb).more (by have := hb.size; omega))))
  have HP := Lib.hid (show ∀ e w', DelPost (w4.heap.size + 1) ((sortC l).filter fun x => !(!decide (x ∈ sortC l'))) w5 e w' → OwnC w.heap.size (meetC l l') w e w' from fun e w' ⟨A, n, c, h1, h2, h3, h4⟩ => by
    rw [filt_meet] at h2 h3
    exact ⟨A, n, c, h1, h2, own_mono h3 (by have := Hb4.out.size; omega), (Hb4.out.trans (hb45.mono Hb4.out.size)).trans (h4.mono (by have := Hb4.out.size; omega))⟩)
  clear HC2 hl5 ho5 hb5 hb45 hcap5 hz5
  go_wp2_with fail
  refine HD.out.mono ?_
  rintro e w6 hp
  obtain ⟨A6, n6, c6, rfl, _⟩ := id hp
  have HQ := Lib.hid (HP.out _ _ hp)
  clear hp HP HD
  go_wp2
  go_ret
  exact HQ.out
theorem filt_minus (l l' : List Cell) : (sortC l).filter (fun x => !(decide (x ∈ sortC l'))) = minusC l l' := by
  apply List.filter_congr
  intro x _
  simp [mem_sortC]
set_option maxRecDepth 100000 in
set_option maxHeartbeats 1000000 in
theorem minus_any (w : World) (v v' : Value) (l l' : List Cell) (hv : SlC w w.heap.size v l) (hv' : SlC w w.heap.size v' l') (hb : l.length ≤ 100000) (hb' : l'.length ≤ 100000) :
    Calls Try.prog 58 #[v, v'] w (OwnC w.heap.size (minusC l l') w) := by
  obtain ⟨A, n, c, rfl, _⟩ := id hv
  obtain ⟨A', n', c', rfl, _⟩ := id hv'
  have hbe : ∀ X, Below w.heap.size w (w.alloc X) := fun X => (Below.refl _ _).alloc (Nat.le_refl _) _
  have hC := sorted_one (w.alloc (.cells #[.slice A' n' c'] 25)) (.slice A' n' c') l' ((hv'.below (hbe _)).more (by simp)) hb' 25
  simp only [World.size_alloc] at hC
  have HC := Lib.hid hC
  have Hv := Lib.hid hv
  have hk2 : Blk ((w.alloc (.cells #[.slice A' n' c'] 25)).alloc (.cells #[.slice A' n' c'] 25)) w.heap.size 25 #[.slice A' n' c'] := (Blk.new w 25 _).alloc _
  have hb2 : Below w.heap.size w ((w.alloc (.cells #[.slice A' n' c'] 25)).alloc (.cells #[.slice A' n' c'] 25)) := (hbe _).alloc (by simp) _
  have hz2 : ((w.alloc (.cells #[.slice A' n' c'] 25)).alloc (.cells #[.slice A' n' c'] 25)).heap.size = w.heap.size + 2 := by simp
  have Hk2 := Lib.hid hk2
  have Hb2 := Lib.hid hb2
  have Hz2 := Lib.hid hz2
  clear hC hv hv' hbe hk2 hb2 hz2
  go_enter Try.func58, Try.ntmps58
  go_wp2_with fail
  refine HC.out.mono ?_
  rintro e w3 ⟨A3, n3, c3, rfl, hl3, ho3, hb3⟩
  have hz3 := hb3.size
  rw [Hz2.out] at hz3
  have hk3 := Hk2.out.below hb3 (by omega)
  have k0 := hk3.cell 0 _ rfl
  have kf := hk3.free 0
  have hbw3 := Hb2.out.trans (hb3.mono (by omega))
  obtain ⟨w4, hw4⟩ : ∃ w4, w4 = w3.setCell ⟨w.heap.size, 0, none⟩ (.slice A3 n3 c3) := ⟨_, rfl⟩
  have hz4 : w4.heap.size = w3.heap.size := by rw [hw4]; simp [World.setCell]
  have hb4 : Below w.heap.size w w4 := by rw [hw4]; exact hbw3.setCell (Nat.le_refl _) _
  have hk4 : Blk w4 w.heap.size 25 #[.slice A3 n3 c3] := by rw [hw4]; exact hk3.set 0 _
  have ho4 : w4.ownsRow (w.heap.size + 2) 24 2 (.slice A3 n3 c3) n3 ((sortC l').flatMap encC) := by
    rw [hw4]; exact ownsRow_setCell_below ho3 (by show w.heap.size < _; omega) _
  have hcap : Capt w4 w4.heap.size w.heap.size (sortC l') := by
    obtain ⟨A5, c5, he, _, _, hr⟩ := own_rd ho4
    injection he with e1 _ e3
    subst e1 e3
    exact ⟨by omega, sorted_sortC _, A3, n3, c3, hl3, by rw [← hl3]; exact Nat.le_trans (sort_len _) hb', hk4.cell 0 _ rfl, hr⟩
  have HC2 := Lib.hid (sorted_one w4 (.slice A n c) l ((Hv.out.below hb4).more hb4.size) hb 25)
  have Hcap := Lib.hid hcap
  have Hb4 := Lib.hid hb4
  clear HC hl3 ho3 hb3 hk3 hbw3 hb4 hk4 ho4 hcap
  go_wp2_with fail
  rw [← hw4]
  rw [← hz4]
  clear hw4 k0 kf
  refine HC2.out.mono ?_
  rintro e w5 ⟨A5, n5, c5, rfl, hl5, ho5, hb5⟩
  have hb45 : Below w4.heap.size w4 w5 := ((Below.refl _ _).alloc (Nat.le_refl _) _).trans (hb5.mono (by simp))
  have hz5 := hb5.size
  simp only [World.size_alloc] at hz5
  have hcap5 := Hcap.out.below hb45
  have hn5 : n5 ≤ 100000 := by rw [← hl5]; exact Nat.le_trans (sort_len _) hb
  have HD := Lib.hid (delc_any 80 (enters_own' Try.func80 (by kernel_rfl) rfl) w5 (w4.heap.size + 1) #[.pointer (some ⟨w.heap.size, 0, none⟩)] (fun x => decide (x ∈ sortC l')) A5 n5 c5 (sortC l) hl5 hn5 (by omega) ho5
    (fun x _ w' hb => clo_Minus w' w.heap.size (sortC l') x (((hcap5.more (by omega)).below hb).more (by have := hb.size; omega))))
  have HP := Lib.hid (show ∀ e w', DelPost (w4.heap.size + 1) ((sortC l).filter fun x => !(decide (x ∈ sortC l'))) w5 e w' → OwnC w.heap.size (minusC l l') w e w' from fun e w' ⟨A, n, c, h1, h2, h3, h4⟩ => by
    rw [filt_minus] at h2 h3
    exact ⟨A, n, c, h1, h2, own_mono h3 (by have := Hb4.out.size; omega), (Hb4.out.trans (hb45.mono Hb4.out.size)).trans (h4.mono (by have := Hb4.out.size; omega))⟩)
  clear HC2 hl5 ho5 hb5 hb45 hcap5 hz5
  go_wp2_with fail
  refine HD.out.mono ?_
  rintro e w6 hp
  obtain ⟨A6, n6, c6, rfl, _⟩ := id hp
  have HQ := Lib.hid (HP.out _ _ hp)
  clear hp HP HD
  go_wp2
  go_ret
  exact HQ.out
set_option maxRecDepth 100000 in
set_option maxHeartbeats 1000000 in
theorem within_any (w : World) (v v' : Value) (l l' : List Cell) (hv : SlC w w.heap.size v l) (hv' : SlC w w.heap.size v' l') (hb : l.length ≤ 100000) (hb' : l'.length ≤ 100000) :
    Calls Try.prog 60 #[v, v'] w (HasPost (withinC l l') w) := by
  obtain ⟨A, n, c, rfl, hln, _, _, hr⟩ := id hv
  obtain ⟨A', n', c', rfl, _⟩ := id hv'
  have hbe : ∀ X, Below w.heap.size w (w.alloc X) := fun X => (Below.refl _ _).alloc (Nat.le_refl _) _
  have hC := sorted_one (w.alloc (.cells #[.slice A' n' c'] 25)) (.slice A' n' c') l' ((hv'.below (hbe _)).more (by simp)) hb' 25
  simp only [World.size_alloc] at hC
  have HC := Lib.hid hC
  have Hr := Lib.hid hr
  have hk2 : Blk ((w.alloc (.cells #[.slice A' n' c'] 25)).alloc (.cells #[.slice A' n' c'] 25)) w.heap.size 25 #[.slice A' n' c'] := (Blk.new w 25 _).alloc _
  have hb2 : Below w.heap.size w ((w.alloc (.cells #[.slice A' n' c'] 25)).alloc (.cells #[.slice A' n' c'] 25)) := (hbe _).alloc (by simp) _
  have hz2 : ((w.alloc (.cells #[.slice A' n' c'] 25)).alloc (.cells #[.slice A' n' c'] 25)).heap.size = w.heap.size + 2 := by simp
  have Hk2 := Lib.hid hk2
  have Hb2 := Lib.hid hb2
  have Hz2 := Lib.hid hz2
  have hn : n ≤ 100000 := by omega
  have Hln := Lib.hid hln
  clear hC hv hv' hbe hk2 hb2 hz2 hr hln
  go_enter Try.func60, Try.ntmps60
  go_wp2_with fail
  refine HC.out.mono ?_
  rintro e w3 ⟨A3, n3, c3, rfl, hl3, ho3, hb3⟩
  have hz3 := hb3.size
  rw [Hz2.out] at hz3
  have hk3 := Hk2.out.below hb3 (by omega)
  have k0 := hk3.cell 0 _ rfl
  have kf := hk3.free 0
  have hbw3 := Hb2.out.trans (hb3.mono (by omega))
  obtain ⟨w4, hw4⟩ : ∃ w4, w4 = w3.setCell ⟨w.heap.size, 0, none⟩ (.slice A3 n3 c3) := ⟨_, rfl⟩
  have hz4 : w4.heap.size = w3.heap.size := by rw [hw4]; simp [World.setCell]
  have hb4 : Below w.heap.size w w4 := by rw [hw4]; exact hbw3.setCell (Nat.le_refl _) _
  have hk4 : Blk w4 w.heap.size 25 #[.slice A3 n3 c3] := by rw [hw4]; exact hk3.set 0 _
  have ho4 : w4.ownsRow (w.heap.size + 2) 24 2 (.slice A3 n3 c3) n3 ((sortC l').flatMap encC) := by
    rw [hw4]; exact ownsRow_setCell_below ho3 (by show w.heap.size < _; omega) _
  have hcap : Capt w4 w4.heap.size w.heap.size (sortC l') := by
    obtain ⟨A5, c5, he, _, _, hr⟩ := own_rd ho4
    injection he with e1 _ e3
    subst e1 e3
    exact ⟨by omega, sorted_sortC _, A3, n3, c3, hl3, by rw [← hl3]; exact Nat.le_trans (sort_len _) hb', hk4.cell 0 _ rfl, hr⟩
  have HD := Lib.hid (contc_any 82 (enters_own' Try.func82 (by kernel_rfl) rfl) w4 #[.pointer (some ⟨w.heap.size, 0, none⟩)] (fun x => !decide (x ∈ sortC l')) A n c l Hln.out hn ((Hr.out.below hb4).more hb4.size)
    (fun x _ w' hb => clo_Within w' w.heap.size (sortC l') x ((hcap.below hb).more hb.size)))
  have hq : withinC l l' = !(l.any fun x => !decide (x ∈ sortC l')) := by
    rw [List.any_eq_not_all_not, Bool.not_not]
    show (l.all _) = _
    congr 1
    funext x
    simp [mem_sortC]
  obtain ⟨q, hqq⟩ : ∃ q, q = (l.any fun x => !decide (x ∈ sortC l')) := ⟨_, rfl⟩
  rw [← hqq] at HD hq
  have HQ := Lib.hid hq
  have Hb4 := Lib.hid hb4
  clear HC hl3 ho3 hb3 hk3 hbw3 hb4 hk4 ho4 hcap hqq hq
  go_wp2_with fail
  rw [← hw4]
  clear hw4 k0 kf
  refine HD.out.mono ?_
  rintro e w5 ⟨rfl, hb5⟩
  have HB := Lib.hid (Hb4.out.trans (hb5.mono Hb4.out.size))
  clear hb5 HD
  go_wp2
  go_ret
  exact ⟨ret_bool HQ.out.symm, HB.out⟩
end Go.Proofs.Ytaahpjjffggaiaa
