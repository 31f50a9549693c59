/- grid.Check and the second implementation's CellsFault: both are cellsF. Conditions: those typed. -/
import Derived.Test.YtpnefacignalpaaCellPlain
import Derived.Deep.RegionHeld3
import Derived.IntWalk
namespace Go.Proofs.Ytpnefacignalpaa
open Go.RowKit Go.Gy
set_option linter.unusedVariables false

theorem isnan_any (x : Int) (w : World) : Calls Try.prog 49 #[.int .i64 x] w fun e w' => e = .returned (.bool false) ∧ w = w' := by
  go_enter Try.func49, Try.ntmps49
  go_wp2
  go_ret
  exact ⟨by simp, rfl⟩
theorem cmp_any (x y : Int) (w : World) : Calls Try.prog 47 #[.int .i64 x, .int .i64 y] w fun e w' => e = .returned (.int .i64 (cmpI x y)) ∧ w = w' := by
  by_cases h1 : x < y
  · have e : cmpI x y = -1 := by unfold cmpI; rw [if_pos h1]
    rw [e]
    clear e
    go_enter Try.func47, Try.ntmps47
    go_wp2_with (go_at_call 49; refine (isnan_any _ _).mono ?_; rintro e w' ⟨rfl, rfl⟩)
    go_ret
    exact ⟨rfl, rfl⟩
  · by_cases h2 : y < x
    · have e : cmpI x y = 1 := by unfold cmpI; rw [if_neg h1, if_pos h2]
      rw [e]
      clear e
      go_enter Try.func47, Try.ntmps47
      go_wp2_with (go_at_call 49; refine (isnan_any _ _).mono ?_; rintro e w' ⟨rfl, rfl⟩)
      go_ret
      exact ⟨rfl, rfl⟩
    · have e : cmpI x y = 0 := by unfold cmpI; rw [if_neg h1, if_neg h2]
      rw [e]
      clear e
      go_enter Try.func47, Try.ntmps47
      go_wp2_with (go_at_call 49; refine (isnan_any _ _).mono ?_; rintro e w' ⟨rfl, rfl⟩)
      go_ret
      exact ⟨rfl, rfl⟩
theorem order_any (a b : Cell) (w : World) : Calls Try.prog 44 #[.agg #[.int .i64 a.1, .int .i64 a.2], .agg #[.int .i64 b.1, .int .i64 b.2]] w fun e w' => e = .returned (.int .i64 (ordC a b)) ∧ Below w.heap.size w w' := by
  obtain ⟨a1, a2⟩ := a
  obtain ⟨b1, b2⟩ := b
  have hb : ∀ X Y, Below w.heap.size w ((w.alloc X).alloc Y) := fun X Y => ((Below.refl _ _).alloc (Nat.le_refl _) _).alloc (by simp) _
  have Hb := Lib.hid hb
  obtain ⟨n, hn⟩ : ∃ n, n = cmpI a2 b2 := ⟨_, rfl⟩
  have hc : ∀ w, Calls Try.prog 47 #[.int .i64 a2, .int .i64 b2] w fun e w' => e = .returned (.int .i64 n) ∧ w = w' := fun w => by rw [hn]; exact cmp_any a2 b2 w
  have Hc := Lib.hid hc
  by_cases h0 : n = 0
  · have e : ordC (a1, a2) (b1, b2) = cmpI a1 b1 := by unfold ordC; rw [if_pos (hn.symm.trans h0)]
    rw [e]
    obtain ⟨m, hm⟩ : ∃ m, m = cmpI a1 b1 := ⟨_, rfl⟩
    have hd : ∀ w, Calls Try.prog 47 #[.int .i64 a1, .int .i64 b1] w fun e w' => e = .returned (.int .i64 m) ∧ w = w' := fun w => by rw [hm]; exact cmp_any a1 b1 w
    have Hd := Lib.hid hd
    rw [← hm]
    clear hn hm hc hd hb e
    subst h0
    go_enter Try.func44, Try.ntmps44
    go_wp2_with fail
    refine (Hc.out _).mono ?_
    rintro e w' ⟨rfl, rfl⟩
    go_wp2_with fail
    refine (Hd.out _).mono ?_
    rintro e w' ⟨rfl, rfl⟩
    go_wp2
    go_ret
    exact ⟨rfl, Hb.out _ _⟩
  · have e : ordC (a1, a2) (b1, b2) = n := by unfold ordC; rw [if_neg (by rw [← hn]; exact h0)]; exact hn.symm
    rw [e]
    have hnb : (n == 0) = false := by simpa using h0
    clear hn hc hb e
    go_enter Try.func44, Try.ntmps44
    go_wp2_with fail
    refine (Hc.out _).mono ?_
    rintro e w' ⟨rfl, rfl⟩
    go_wp2
    go_ret
    exact ⟨rfl, Hb.out _ _⟩
theorem on_any (x : Int) (b : Bool) (hb : onI x = b) (w : World) : Calls Try.prog 43 #[.int .i64 x] w fun e w' => e = .returned (.bool b) ∧ w = w' := by
  subst hb
  by_cases h1 : -64 ≤ x
  · by_cases h2 : x < 64
    · have e : onI x = true := by simp [onI, h1, h2]
      rw [e]
      clear e
      go_enter Try.func43, Try.ntmps43
      go_wp2
      go_ret
      exact ⟨rfl, rfl⟩
    · have e : onI x = false := by simp [onI, h1, h2]
      rw [e]
      clear e
      go_enter Try.func43, Try.ntmps43
      go_wp2
      go_ret
      exact ⟨rfl, rfl⟩
  · have e : onI x = false := by simp [onI, h1]
    rw [e]
    clear e
    go_enter Try.func43, Try.ntmps43
    go_wp2
    go_ret
    exact ⟨rfl, rfl⟩
/-- the cell ahead of the k-th one -/
def prevC (l : List Cell) (k : Nat) : Option Cell := if k = 0 then none else l[k - 1]?
theorem cellsG_at {l : List Cell} {k : Nat} {c : Cell} (h : cellsG none l = cellsG (prevC l k) (l.drop k)) (hc : l[k]? = some c) :
    cellsG none l = if (onI c.1 && onI c.2) = false then 17 else if lateC (prevC l k) c = true then 9 else cellsG (prevC l (k + 1)) (l.drop (k + 1)) := by
  have hk := (List.getElem?_eq_some_iff.1 hc).1
  have hd : l.drop k = c :: l.drop (k + 1) := by rw [List.drop_eq_getElem_cons hk]; congr 1; exact (List.getElem?_eq_some_iff.1 hc).2
  rw [h, hd]
  have hp : prevC l (k + 1) = some c := by unfold prevC; rw [if_neg (by omega), Nat.add_sub_cancel]; exact hc
  rw [hp]
  rfl
theorem cellsG_end {l : List Cell} {k : Nat} (h : cellsG none l = cellsG (prevC l k) (l.drop k)) (hk : l.length ≤ k) : cellsG none l = 0 := by
  rw [h, List.drop_eq_nil_of_le hk]
  cases prevC l k <;> rfl
set_option maxRecDepth 100000 in
set_option maxHeartbeats 2000000 in
theorem grid_any (w : World) (A : Option Addr) (n c : Nat) (l : List Cell) (hl : l.length = n) (hr : Rd w w.heap.size 2 A n (l.flatMap encC)) :
    Calls Try.prog 41 #[.slice A n c] w fun e w' => e = .returned (.int .i64 ((cellsF l : Nat) : Int)) ∧ Below w.heap.size w w' := by
  by_cases h400 : 400 < n
  · have e : cellsF l = 2 := by unfold cellsF; rw [if_pos (by omega)]
    rw [e]
    have h' : (400 : Int) < (n : Int) := by omega
    clear e hl hr
    go_enter Try.func41, Try.ntmps41
    go_wp2
    go_ret
    exact ⟨rfl, Below.refl _ _⟩
  · have e : cellsF l = cellsG none l := by unfold cellsF; rw [if_neg (by omega)]
    have h' : ¬ (400 : Int) < (n : Int) := by omega
    have Hl := Lib.hid hl
    have He := Lib.hid e
    clear e hl
    go_enter Try.func41, Try.ntmps41
    go_wp2
    go_loopw [10] (fun i wr => ∃ k : Nat, k ≤ n ∧ i = .int .i64 k ∧ Hid (cellsG none l = cellsG (prevC l k) (l.drop k)) ∧ Below w.heap.size w wr) (fun i _ => n - (intOf i).toNat)
    case atStart => exact ⟨0, Nat.zero_le _, rfl, Lib.hid rfl, Below.refl _ _⟩
    case round =>
      obtain ⟨k, hk, rfl, HG, hb⟩ := hrel
      have hz := hb.size
      by_cases hlt : k < n
      · obtain ⟨b, o, f, rfl, hbB, hf, hc⟩ := (hr.below hb).elem encC_len Hl.out hlt
        obtain ⟨x, y⟩ := f
        have c0 : wr.cell? ⟨b, o + k * 2, none⟩ = some (.int .i64 x) := hc 0 _ rfl
        have c1 : wr.cell? ⟨b, o + k * 2 + 1, none⟩ = some (.int .i64 y) := hc 1 _ rfl
        have hlt' : (k : Int) < (n : Int) := by omega
        have HS := Lib.hid (cellsG_at HG.out hf)
        clear hc
        by_cases hx : onI x = true
        · by_cases hy : onI y = true
          · have HX := Lib.hid hx
            have HY := Lib.hid hy
            clear hx hy
            by_cases hk0 : k = 0
            · have Hn := Lib.hid (show cellsG none l = cellsG (prevC l (k + 1)) (l.drop (k + 1)) by rw [HS.out]; simp only [HX.out, HY.out]; rw [show prevC l k = none by unfold prevC; rw [if_pos hk0]]; rfl)
              have hk1 : (k : Int) ≤ 0 := by omega
              clear hf hk0
              go_wp2_with (first
                | (go_at_call_of 43 x; refine (on_any _ _ HX.out _).mono ?_; rintro e w' ⟨rfl, rfl⟩)
                | (go_at_call 43; refine (on_any _ _ HY.out _).mono ?_; rintro e w' ⟨rfl, rfl⟩))
              have hd : decide ((0 : Int) < (k : Int)) = false := by simp; omega
              have hd' : decide (0 < k) = false := by simp; omega
              go_quiet (fail)
              clear hd hd'
              go_wp2
              go_roundw
              case rel => exact ⟨k + 1, by omega, by go_num, Hn, below_drewN (hb.alloc hz _) nq⟩
              case measure => simp [intOf]; omega
            · have hk1 : (0 : Int) < (k : Int) := by omega
              have hk2 : (1 : Int) ≤ (k : Int) := by omega
              have hkw : IntKind.i64.wrap ((k : Int) - 1) = (k : Int) - 1 := IntWalk.i64_in _ (by omega)
              have hk3 : (0 : Int) ≤ (k : Int) - 1 := by omega
              have hk4 : ((k : Int) - 1).toNat = k - 1 := by omega
              have hk5 : (k : Int) - 1 < (n : Int) := by omega
              obtain ⟨b', o', g, hA, _, hg, hc'⟩ := (hr.below hb).elem encC_len Hl.out (show k - 1 < n by omega)
              obtain ⟨rfl, rfl⟩ : b = b' ∧ o = o' := by injection hA with hA; injection hA with h1 h2; exact ⟨h1, h2⟩
              obtain ⟨qx, qy⟩ := g
              have d0 : wr.cell? ⟨b, o + (k - 1) * 2, none⟩ = some (.int .i64 qx) := hc' 0 _ rfl
              have d1 : wr.cell? ⟨b, o + (k - 1) * 2 + 1, none⟩ = some (.int .i64 qy) := hc' 1 _ rfl
              have hp : prevC l k = some (qx, qy) := by unfold prevC; rw [if_neg hk0]; exact hg
              obtain ⟨m, hm⟩ : ∃ m, m = ordC (qx, qy) (x, y) := ⟨_, rfl⟩
              have hS : cellsG none l = if 0 ≤ m then 9 else cellsG (prevC l (k + 1)) (l.drop (k + 1)) := by
                rw [HS.out, hp]
                simp only [HX.out, HY.out, lateC, ← hm]
                simp
              have HS2 := Lib.hid hS
              have hO : ∀ w', Calls Try.prog 44 #[.agg #[.int .i64 qx, .int .i64 qy], .agg #[.int .i64 x, .int .i64 y]] w' fun e w'' => e = .returned (.int .i64 m) ∧ Below w'.heap.size w' w'' := fun w' => by rw [hm]; exact order_any (qx, qy) (x, y) w'
              have HO := Lib.hid hO
              have D0 := Lib.hid d0
              have D1 := Lib.hid d1
              have hK := Lib.hid (Blk.new wr 88 #[.int .i64 x, .int .i64 y])
              have HW := Lib.hid (And.intro hkw (And.intro hk3 hk4))
              have hb1 : Below w.heap.size w (wr.alloc (.cells #[.int .i64 x, .int .i64 y] 88)) := hb.alloc hz _
              have hbl := Lib.hid (show b < wr.heap.size by omega)
              clear hf hk0 hA hg hc' hp hm hS hO d0 d1 hkw hk3 hk4
              go_wp2_with (first
                | (go_at_call_of 43 x; refine (on_any _ _ HX.out _).mono ?_; rintro e w' ⟨rfl, rfl⟩)
                | (go_at_call 43; refine (on_any _ _ HY.out _).mono ?_; rintro e w' ⟨rfl, rfl⟩))
              have e0 : (wr.alloc (.cells #[.int .i64 x, .int .i64 y] 88)).cell? ⟨b, o + (k - 1) * 2, none⟩ = some (.int .i64 qx) := by rw [World.cell?_alloc_lt _ _ _ hbl.out]; exact D0.out
              have e1 : (wr.alloc (.cells #[.int .i64 x, .int .i64 y] 88)).cell? ⟨b, o + (k - 1) * 2 + 1, none⟩ = some (.int .i64 qy) := by rw [World.cell?_alloc_lt _ _ _ hbl.out]; exact D1.out
              have hz1 : (wr.alloc (.cells #[.int .i64 x, .int .i64 y] 88)).heap.size = wr.heap.size + 1 := by simp
              have hK := hK.out
              generalize (wr.alloc (.cells #[.int .i64 x, .int .i64 y] 88)) = w1 at hK e0 e1 hz1 hb1 ⊢
              have hS : ∀ w', Below w1.heap.size w1 w' → (w'.cell? ⟨b, o + (k - 1) * 2, none⟩ = some (.int .i64 qx) ∧ w'.cell? ⟨b, o + (k - 1) * 2 + 1, none⟩ = some (.int .i64 qy) ∧ w'.cell? ⟨wr.heap.size, 0, none⟩ = some (.int .i64 x) ∧ w'.cell? ⟨wr.heap.size, 1, none⟩ = some (.int .i64 y) ∧ Below w1.heap.size w1 w') := fun w' h =>
                ⟨(h.cell (p := ⟨b, o + (k - 1) * 2, none⟩) (by have := hbl.out; show b < _; omega)).trans e0, (h.cell (p := ⟨b, o + (k - 1) * 2 + 1, none⟩) (by have := hbl.out; show b < _; omega)).trans e1,
                 (hK.below h (by omega)).cell 0 _ rfl, (hK.below h (by omega)).cell 1 _ rfl, h⟩
              have HS := Lib.hid hS
              have hO' : ∀ w', Below w1.heap.size w1 w' → Calls Try.prog 44 #[.agg #[.int .i64 qx, .int .i64 qy], .agg #[.int .i64 x, .int .i64 y]] w' fun e w'' => e = .returned (.int .i64 m) ∧ Below w1.heap.size w1 w'' := fun w' h => (HO.out w').mono fun e w'' ⟨h1, h2⟩ => ⟨h1, h.trans (h2.mono h.size)⟩
              have HO' := Lib.hid hO'
              have HB1 := Lib.hid hb1
              have HZ1 := Lib.hid hz1
              clear hS hK e0 e1 hz1 hb1 c0 c1 hO'
              obtain ⟨hkw, hk3, hk4⟩ := HW.out
              have hd : decide ((0 : Int) < (k : Int)) = true := by simp; omega
              have hd' : decide (0 < k) = true := by simp; omega
              by_cases hm : 0 ≤ m
              · go_region_held3 (fun w' => w'.cell? ⟨b, o + (k - 1) * 2, none⟩ = some (.int .i64 qx) ∧ w'.cell? ⟨b, o + (k - 1) * 2 + 1, none⟩ = some (.int .i64 qy) ∧ w'.cell? ⟨wr.heap.size, 0, none⟩ = some (.int .i64 x) ∧ w'.cell? ⟨wr.heap.size, 1, none⟩ = some (.int .i64 y) ∧ Below w1.heap.size w1 w')
                  (first | exact HS.out _ (Below.refl _ _).drew | exact HS.out _ (by assumption))
                  (first | (go_at_call 44; refine (HO'.out _ (by first | assumption | exact (Below.refl _ _).drew)).mono ?_; rintro e w' ⟨rfl, hbn⟩))
                go_wp2
                go_ret
                refine ⟨ret_int ?_, HB1.out.trans (Below.mono (B := w1.heap.size) (by assumption) HB1.out.size)⟩
                rw [He.out, HS2.out, if_pos hm]
                rfl
              · have hm' : m < 0 := by omega
                go_region_held3 (fun w' => w'.cell? ⟨b, o + (k - 1) * 2, none⟩ = some (.int .i64 qx) ∧ w'.cell? ⟨b, o + (k - 1) * 2 + 1, none⟩ = some (.int .i64 qy) ∧ w'.cell? ⟨wr.heap.size, 0, none⟩ = some (.int .i64 x) ∧ w'.cell? ⟨wr.heap.size, 1, none⟩ = some (.int .i64 y) ∧ Below w1.heap.size w1 w')
                  (first | exact HS.out _ (Below.refl _ _).drew | exact HS.out _ (by assumption))
                  (first | (go_at_call 44; refine (HO'.out _ (by first | assumption | exact (Below.refl _ _).drew)).mono ?_; rintro e w' ⟨rfl, hbn⟩))
                clear hkw hk3 hk4
                go_wp2
                go_roundw
                case rel => exact ⟨k + 1, by omega, by go_num, Lib.hid (by rw [HS2.out, if_neg (by omega)]), HB1.out.trans (Below.mono (B := w1.heap.size) (by assumption) HB1.out.size)⟩
                case measure => simp [intOf]; omega
          · have HX := Lib.hid hx
            have HY := Lib.hid (show onI y = false by simpa using hy)
            clear hx hy hf
            go_wp2_with (first
              | (go_at_call_of 43 x; refine (on_any _ _ HX.out _).mono ?_; rintro e w' ⟨rfl, rfl⟩)
              | (go_at_call 43; refine (on_any _ _ HY.out _).mono ?_; rintro e w' ⟨rfl, rfl⟩))
            go_ret
            refine ⟨ret_int ?_, ?_⟩
            · rw [He.out, HS.out, HX.out, HY.out]; rfl
            · exact hb.alloc hz _
        · have HX := Lib.hid (show onI x = false by simpa using hx)
          clear hx hf
          go_wp2_with (go_at_call 43; refine (on_any _ _ HX.out _).mono ?_; rintro e w' ⟨rfl, rfl⟩)
          go_ret
          refine ⟨ret_int ?_, ?_⟩
          · rw [He.out, HS.out, HX.out]; rfl
          · exact hb.alloc hz _
      · obtain rfl : k = n := by omega
        go_wp2
        go_ret
        exact ⟨ret_int (by rw [He.out, cellsG_end HG.out (by rw [Hl.out]; omega)]; rfl), hb⟩
theorem lateC_some (q c : Cell) : lateC (some q) c = true ↔ c.2 < q.2 ∨ q.2 = c.2 ∧ c.1 ≤ q.1 := by
  have := ordC_neg q c
  simp only [lateC, decide_eq_true_eq]
  omega
theorem onI_iff (x : Int) : onI x = true ↔ -64 ≤ x ∧ x ≤ 63 := by simp [onI]; omega
set_option maxRecDepth 100000 in
set_option maxHeartbeats 2000000 in
theorem cellsfault_any (w : World) (A : Option Addr) (n c : Nat) (l : List Cell) (hl : l.length = n) (hr : Rd w w.heap.size 2 A n (l.flatMap encC)) :
    Calls Try.prog 19 #[.slice A n c] w fun e w' => e = .returned (.int .i64 ((cellsF l : Nat) : Int)) ∧ Below w.heap.size w w' := by
  by_cases h400 : 400 < n
  · have e : cellsF l = 2 := by unfold cellsF; rw [if_pos (by omega)]
    rw [e]
    have h' : (400 : Int) < (n : Int) := by omega
    clear e hl hr
    go_enter Try.func19, Try.ntmps19
    go_wp2
    go_ret
    exact ⟨rfl, Below.refl _ _⟩
  · have e : cellsF l = cellsG none l := by unfold cellsF; rw [if_neg (by omega)]
    have h' : ¬ (400 : Int) < (n : Int) := by omega
    have Hl := Lib.hid hl
    have He := Lib.hid e
    clear e hl
    go_enter Try.func19, Try.ntmps19
    go_wp2
    go_loopw [10] (fun i wr => ∃ k : Nat, k ≤ n ∧ i = .int .i64 k ∧ Hid (cellsG none l = cellsG (prevC l k) (l.drop k)) ∧ Below w.heap.size w wr) (fun i _ => n - (intOf i).toNat)
    case atStart => exact ⟨0, Nat.zero_le _, rfl, Lib.hid rfl, Below.refl _ _⟩
    case round =>
      obtain ⟨k, hk, rfl, HG, hb⟩ := hrel
      have hz := hb.size
      by_cases hlt : k < n
      · obtain ⟨b, o, f, rfl, hbB, hf, hc⟩ := (hr.below hb).elem encC_len Hl.out hlt
        obtain ⟨x, y⟩ := f
        have c0 : wr.cell? ⟨b, o + k * 2, none⟩ = some (.int .i64 x) := hc 0 _ rfl
        have c1 : wr.cell? ⟨b, o + k * 2 + 1, none⟩ = some (.int .i64 y) := hc 1 _ rfl
        have hlt' : (k : Int) < (n : Int) := by omega
        have HS := Lib.hid (cellsG_at HG.out hf)
        clear hc
        by_cases hon : (-64 ≤ x ∧ x ≤ 63) ∧ (-64 ≤ y ∧ y ≤ 63)
        · have hox := (onI_iff x).2 hon.1
          have hoy := (onI_iff y).2 hon.2
          obtain ⟨⟨x1, x2⟩, ⟨y1, y2⟩⟩ := hon
          by_cases hk0 : k = 0
          · have Hn := Lib.hid (show cellsG none l = cellsG (prevC l (k + 1)) (l.drop (k + 1)) by rw [HS.out]; simp only [hox, hoy]; rw [show prevC l k = none by unfold prevC; rw [if_pos hk0]]; rfl)
            have hk1 : (k : Int) ≤ 0 := by omega
            clear hf hk0 hox hoy
            go_wp2
            have hd : decide ((0 : Int) < (k : Int)) = false := by simp; omega
            have hd' : decide (0 < k) = false := by simp; omega
            go_quiet (fail)
            clear hd hd'
            go_wp2
            go_roundw
            case rel => exact ⟨k + 1, by omega, by go_num, Hn, below_drewN (hb.alloc hz _) nq⟩
            case measure => simp [intOf]; omega
          · have hk1 : (0 : Int) < (k : Int) := by omega
            have hk2 : (1 : Int) ≤ (k : Int) := by omega
            have hk5 : (k : Int) - 1 < (n : Int) := by omega
            obtain ⟨b', o', g, hA, _, hg, hc'⟩ := (hr.below hb).elem encC_len Hl.out (show k - 1 < n by omega)
            obtain ⟨rfl, rfl⟩ : b = b' ∧ o = o' := by injection hA with hA; injection hA with h1 h2; exact ⟨h1, h2⟩
            obtain ⟨qx, qy⟩ := g
            have d0 : wr.cell? ⟨b, o + (k - 1) * 2, none⟩ = some (.int .i64 qx) := hc' 0 _ rfl
            have d1 : wr.cell? ⟨b, o + (k - 1) * 2 + 1, none⟩ = some (.int .i64 qy) := hc' 1 _ rfl
            have hp : prevC l k = some (qx, qy) := by unfold prevC; rw [if_neg hk0]; exact hg
            have hS : cellsG none l = if y < qy ∨ qy = y ∧ x ≤ qx then 9 else cellsG (prevC l (k + 1)) (l.drop (k + 1)) := by
              rw [HS.out, hp]
              simp only [hox, hoy, lateC_some]
              simp
            have HS2 := Lib.hid hS
            have D0 := Lib.hid d0
            have D1 := Lib.hid d1
            have hK := Lib.hid (Blk.new wr 88 #[.int .i64 x, .int .i64 y])
            have hb1 : Below w.heap.size w (wr.alloc (.cells #[.int .i64 x, .int .i64 y] 88)) := hb.alloc hz _
            have hbl := Lib.hid (show b < wr.heap.size by omega)
            clear hf hk0 hA hg hc' hp hS d0 d1 hox hoy
            go_wp2
            have e0 : (wr.alloc (.cells #[.int .i64 x, .int .i64 y] 88)).cell? ⟨b, o + (k - 1) * 2, none⟩ = some (.int .i64 qx) := by rw [World.cell?_alloc_lt _ _ _ hbl.out]; exact D0.out
            have e1 : (wr.alloc (.cells #[.int .i64 x, .int .i64 y] 88)).cell? ⟨b, o + (k - 1) * 2 + 1, none⟩ = some (.int .i64 qy) := by rw [World.cell?_alloc_lt _ _ _ hbl.out]; exact D1.out
            have f0 := hK.out.cell 0 _ rfl
            have f1 := hK.out.cell 1 _ rfl
            have HB1 := Lib.hid hb1
            clear hK hb1
            generalize (wr.alloc (.cells #[.int .i64 x, .int .i64 y] 88)) = w1 at e0 e1 f0 f1 HB1 ⊢
            clear c0 c1
            have hkw : IntKind.i64.wrap ((k : Int) - 1) = (k : Int) - 1 := IntWalk.i64_in _ (by omega)
            have hk3 : (0 : Int) ≤ (k : Int) - 1 := by omega
            have hk4 : ((k : Int) - 1).toNat = k - 1 := by omega
            have hd : decide ((0 : Int) < (k : Int)) = true := by simp; omega
            have hd' : decide (0 < k) = true := by simp; omega
            by_cases h1 : y < qy
            · have g1 : decide (y < qy) = true := by simpa using h1
              go_quiet (fail)
              clear hkw hk3 hk4 hd hd' g1
              go_wp2
              go_ret
              exact ⟨ret_int (by rw [He.out, HS2.out, if_pos (.inl h1)]; rfl), below_drewN HB1.out _⟩
            · by_cases h2 : qy = y
              · subst h2
                by_cases h3 : x ≤ qx
                · have g1 : decide (qy < qy) = false := by simp
                  have g3 : decide (x ≤ qx) = true := by simpa using h3
                  go_quiet (fail)
                  clear hkw hk3 hk4 hd hd' g1 g3
                  go_wp2
                  go_ret
                  exact ⟨ret_int (by rw [He.out, HS2.out, if_pos (by simp [h3])]; rfl), below_drewN HB1.out _⟩
                · have g1 : decide (qy < qy) = false := by simp
                  have g3 : decide (x ≤ qx) = false := by simpa using h3
                  have h4 : qx < x := by omega
                  go_quiet (fail)
                  clear hkw hk3 hk4 hd hd' g1 g3
                  go_wp2
                  go_roundw
                  case rel => exact ⟨k + 1, by omega, by go_num, Lib.hid (by rw [HS2.out, if_neg (by omega)]), below_drewN HB1.out _⟩
                  case measure => simp [intOf]; omega
              · have g1 : decide (y < qy) = false := by simpa using h1
                have g2 : (qy == y) = false := by simpa using h2
                go_quiet (fail)
                clear hkw hk3 hk4 hd hd' g1 g2
                go_wp2
                go_roundw
                case rel => exact ⟨k + 1, by omega, by go_num, Lib.hid (by rw [HS2.out, if_neg (by omega)]), below_drewN HB1.out _⟩
                case measure => simp [intOf]; omega
        · have hoo : (onI x && onI y) = false := by
            rw [Bool.and_eq_false_iff]
            by_cases h : onI x = true
            · right
              have := (onI_iff x).1 h
              exact Bool.eq_false_iff.2 fun h' => hon ⟨this, (onI_iff y).1 h'⟩
            · exact .inl (by simpa using h)
          have HOO := Lib.hid hoo
          clear hf hoo
          have hcase : x < -64 ∨ (-64 ≤ x ∧ 63 < x) ∨ (-64 ≤ x ∧ x ≤ 63 ∧ y < -64) ∨ (-64 ≤ x ∧ x ≤ 63 ∧ -64 ≤ y ∧ 63 < y) := by omega
          clear hon
          rcases hcase with q1 | ⟨q1, q2⟩ | ⟨q1, q2, q3⟩ | ⟨q1, q2, q3, q4⟩
          all_goals
            go_wp2
            go_ret
            exact ⟨ret_int (by rw [He.out, HS.out, HOO.out]; rfl), hb.alloc hz _⟩
      · obtain rfl : k = n := by omega
        go_wp2
        go_ret
        exact ⟨ret_int (by rw [He.out, cellsG_end HG.out (by rw [Hl.out]; omega)]; rfl), hb⟩
end Go.Proofs.Ytpnefacignalpaa
