/- slices.BinarySearchFunc at cells over grid.order; grid.has. Conditions: those typed. -/
import Derived.Test.YtaahpjjffggaiaaSortPlain
import Derived.Test.YtaahpjjffggaiaaGrid
import Derived.Test.YtaahpjjffggaiaaCellSl
import Derived.Deep.RegionHeld3
namespace Go.Proofs.Ytaahpjjffggaiaa
open Go.RowKit Go.Gy
set_option linter.unusedVariables false
theorem ordC_lt_iff (a b : Cell) : ordC a b < 0 ↔ ltC a b := by rw [ordC_neg]; rfl
theorem ordC_zero (a b : Cell) : ordC a b = 0 ↔ a = b := by
  obtain ⟨a1, a2⟩ := a
  obtain ⟨b1, b2⟩ := b
  have h1 := cmpI_cases a2 b2
  have h2 := cmpI_cases a1 b1
  simp only [ordC, Prod.mk.injEq]
  split <;> omega
theorem sortC_get {l : List Cell} (hs : SortC l) {i j : Nat} {a b : Cell} (hij : i < j) (ha : l[i]? = some a) (hb : l[j]? = some b) : ltC a b := by
  obtain ⟨h1, rfl⟩ := List.getElem?_eq_some_iff.1 ha
  obtain ⟨h2, rfl⟩ := List.getElem?_eq_some_iff.1 hb
  exact List.pairwise_iff_getElem.1 hs i j h1 h2 hij
/-- all before i are less than x, none from j on is -/
def Bs (l : List Cell) (x : Cell) (i j : Nat) : Prop := (∀ k a, k < i → l[k]? = some a → ltC a x) ∧ ∀ k a, j ≤ k → l[k]? = some a → ¬ ltC a x
theorem Bs.up {l : List Cell} {x a : Cell} {i j h : Nat} (hs : SortC l) (hb : Bs l x i j) (ha : l[h]? = some a) (hlt : ltC a x) : Bs l x (h + 1) j :=
  ⟨fun k b hk hb' => by
    rcases Nat.lt_or_ge k h with h1 | h1
    · exact ltC_trans (sortC_get hs h1 hb' ha) hlt
    · obtain rfl : k = h := by omega
      rw [ha] at hb'; injection hb' with hb'; subst hb'; exact hlt, hb.2⟩
theorem Bs.down {l : List Cell} {x a : Cell} {i j h : Nat} (hs : SortC l) (hb : Bs l x i j) (ha : l[h]? = some a) (hlt : ¬ ltC a x) : Bs l x i h :=
  ⟨hb.1, fun k b hk hb' => by
    rcases Nat.lt_or_ge h k with h1 | h1
    · exact fun h2 => hlt (ltC_trans (sortC_get hs h1 ha hb') h2)
    · obtain rfl : k = h := by omega
      rw [ha] at hb'; injection hb' with hb'; subst hb'; exact hlt⟩
theorem Bs.mem {l : List Cell} {x a : Cell} {i : Nat} (hs : SortC l) (hb : Bs l x i i) (ha : l[i]? = some a) : x ∈ l ↔ a = x := by
  constructor
  · intro hx
    obtain ⟨k, hk, e⟩ := List.getElem_of_mem hx
    have hk' : l[k]? = some x := by rw [List.getElem?_eq_getElem hk, e]
    rcases Nat.lt_trichotomy k i with h | h | h
    · exact absurd (hb.1 k x h hk') (ltC_irrefl x)
    · subst h; rw [ha] at hk'; injection hk'
    · exact absurd (sortC_get hs h ha hk') (hb.2 i a (Nat.le_refl _) ha)
  · rintro rfl; exact List.mem_of_getElem? ha
theorem Bs.not_mem {l : List Cell} {x : Cell} {i : Nat} (hb : Bs l x i i) (hi : l.length ≤ i) : x ∉ l := by
  intro hx
  obtain ⟨k, hk, e⟩ := List.getElem_of_mem hx
  exact ltC_irrefl x (hb.1 k x (by omega) (by rw [List.getElem?_eq_getElem hk, e]))
def BsPost (l : List Cell) (x : Cell) (w : World) (e : Ending) (w' : World) : Prop := ∃ i : Int, e = .returned (.tuple #[.int .i64 i, .bool (decide (x ∈ l))]) ∧ Below w.heap.size w w'
set_option maxRecDepth 100000 in
set_option maxHeartbeats 4000000 in
theorem bsearch_any (w : World) (A : Option Addr) (n c : Nat) (l : List Cell) (x : Cell) (hl : l.length = n) (hn : n ≤ 100000) (hs : SortC l) (hr : Rd w w.heap.size 2 A n (l.flatMap encC)) :
    Calls Try.prog 90 #[.slice A n c, .agg #[.int .i64 x.1, .int .i64 x.2], .func (.func 79) #[] #[]] w (BsPost l x w) := by
  have Hl := Lib.hid hl
  have Hs := Lib.hid hs
  obtain ⟨x1, x2⟩ := x
  clear hl hs
  go_enter Try.func90, Try.ntmps90
  go_wp2
  have hk0 : Blk (w.alloc (.cells #[.int .i64 x1, .int .i64 x2] 24)) w.heap.size 24 #[.int .i64 x1, .int .i64 x2] := Blk.new _ _ _
  have hbe : Below w.heap.size w (w.alloc (.cells #[.int .i64 x1, .int .i64 x2] 24)) := (Below.refl _ _).alloc (Nat.le_refl _) _
  go_loopw [9, 10] (fun i j wr => ∃ p q : Nat, p ≤ q ∧ q ≤ n ∧ i = .int .i64 p ∧ j = .int .i64 q ∧ Hid (Bs l (x1, x2) p q) ∧ Blk wr w.heap.size 24 #[.int .i64 x1, .int .i64 x2] ∧ Below w.heap.size w wr) (fun i j _ => (intOf j).toNat - (intOf i).toNat)
  case atStart => exact ⟨0, n, Nat.zero_le _, Nat.le_refl _, rfl, rfl, Lib.hid ⟨fun k a h => absurd h (by omega), fun k a h ha => by rw [List.getElem?_eq_none (by rw [Hl.out]; exact h)] at ha; cases ha⟩, hk0, hbe⟩
  case round =>
    obtain ⟨p, q, hpq, hq, rfl, rfl, HB, hk, hb⟩ := hrel
    have hz := hb.size
    by_cases hlt : p < q
    · obtain ⟨h, hh⟩ : ∃ h, h = (p + q) / 2 := ⟨_, rfl⟩
      have h1 : p ≤ h := by omega
      have h2 : h < q := by omega
      obtain ⟨b, o, g, rfl, hbB, hg, hc⟩ := (hr.below hb).elem encC_len Hl.out (show h < n by omega)
      obtain ⟨gx, gy⟩ := g
      have HB1 := Lib.hid hb
      have HK := Lib.hid hk
      have e0 : wr.cell? ⟨b, o + h * 2, none⟩ = some (.int .i64 gx) := hc 0 _ rfl
      have e1 : wr.cell? ⟨b, o + h * 2 + 1, none⟩ = some (.int .i64 gy) := hc 1 _ rfl
      have HS := Lib.hid (show ∀ w', Below wr.heap.size wr w' → (w'.cell? ⟨b, o + h * 2, none⟩ = some (.int .i64 gx) ∧ w'.cell? ⟨b, o + h * 2 + 1, none⟩ = some (.int .i64 gy) ∧ w'.cell? ⟨w.heap.size, 0, none⟩ = some (.int .i64 x1) ∧ w'.cell? ⟨w.heap.size, 1, none⟩ = some (.int .i64 x2) ∧ Below wr.heap.size wr w') from fun w' h' =>
        ⟨(h'.cell (p := ⟨b, o + h * 2, none⟩) (by show b < _; omega)).trans e0, (h'.cell (p := ⟨b, o + h * 2 + 1, none⟩) (by show b < _; omega)).trans e1, (HK.out.below h' HK.out.lt).cell 0 _ rfl, (HK.out.below h' HK.out.lt).cell 1 _ rfl, h'⟩)
      obtain ⟨m, hm⟩ : ∃ m, m = ordC (gx, gy) (x1, x2) := ⟨_, rfl⟩
      have HO := Lib.hid (show ∀ w', Below wr.heap.size wr w' → Calls Try.prog 79 #[.agg #[.int .i64 gx, .int .i64 gy], .agg #[.int .i64 x1, .int .i64 x2]] w' fun e w'' => e = .returned (.int .i64 m) ∧ Below wr.heap.size wr w'' from fun w' h' => by rw [hm]; exact (order_any (gx, gy) (x1, x2) w').mono fun e w'' ⟨h3, h4⟩ => ⟨h3, h'.trans (h4.mono h'.size)⟩)
      have Hm := Lib.hid hm
      have Hg := Lib.hid hg
      clear hk hb hc e0 e1 hm hg hr
      go_wp2
      rw [show ((p : Int) + (q : Int)) / 2 = ((h : Nat) : Int) by omega]
      have hi0 : (0 : Int) ≤ (h : Int) := by omega
      have hi1 : (h : Int) < (n : Int) := by omega
      clear hh
      by_cases hneg : m < 0
      · have HU := Lib.hid (Bs.up Hs.out HB.out Hg.out ((ordC_lt_iff _ _).1 (by rw [← Hm.out]; exact hneg)))
        have hd : decide (m < 0) = true := by simpa using hneg
        go_region_held3 (fun w' => w'.cell? ⟨b, o + h * 2, none⟩ = some (.int .i64 gx) ∧ w'.cell? ⟨b, o + h * 2 + 1, none⟩ = some (.int .i64 gy) ∧ w'.cell? ⟨w.heap.size, 0, none⟩ = some (.int .i64 x1) ∧ w'.cell? ⟨w.heap.size, 1, none⟩ = some (.int .i64 x2) ∧ Below wr.heap.size wr w')
          (first | exact HS.out _ (Below.refl _ _).drew | exact HS.out _ (Below.refl _ _) | exact HS.out _ (by assumption))
          (first | (go_at_call 79; refine (HO.out _ (by first | assumption | exact (Below.refl _ _).drew)).mono ?_; rintro e w' ⟨rfl, hbn⟩))
        go_wp2
        exact ⟨⟨h + 1, q, by omega, hq, by go_num, rfl, HU, HK.out.below hbn HK.out.lt, HB1.out.trans (hbn.mono hz)⟩, by simp [intOf]; omega⟩
      · have HU := Lib.hid (Bs.down Hs.out HB.out Hg.out (fun h3 => hneg (by rw [Hm.out]; exact (ordC_lt_iff _ _).2 h3)))
        have hd : decide (m < 0) = false := by simpa using hneg
        go_region_held3 (fun w' => w'.cell? ⟨b, o + h * 2, none⟩ = some (.int .i64 gx) ∧ w'.cell? ⟨b, o + h * 2 + 1, none⟩ = some (.int .i64 gy) ∧ w'.cell? ⟨w.heap.size, 0, none⟩ = some (.int .i64 x1) ∧ w'.cell? ⟨w.heap.size, 1, none⟩ = some (.int .i64 x2) ∧ Below wr.heap.size wr w')
          (first | exact HS.out _ (Below.refl _ _).drew | exact HS.out _ (Below.refl _ _) | exact HS.out _ (by assumption))
          (first | (go_at_call 79; refine (HO.out _ (by first | assumption | exact (Below.refl _ _).drew)).mono ?_; rintro e w' ⟨rfl, hbn⟩))
        go_wp2
        exact ⟨⟨p, h, by omega, by omega, rfl, rfl, HU, HK.out.below hbn HK.out.lt, HB1.out.trans (hbn.mono hz)⟩, by simp [intOf]; omega⟩
    · obtain rfl : p = q := by omega
      by_cases hpn : p < n
      · obtain ⟨b, o, g, rfl, hbB, hg, hc⟩ := (hr.below hb).elem encC_len Hl.out hpn
        obtain ⟨gx, gy⟩ := g
        have HB1 := Lib.hid hb
        have HK := Lib.hid hk
        have e0 : wr.cell? ⟨b, o + p * 2, none⟩ = some (.int .i64 gx) := hc 0 _ rfl
        have e1 : wr.cell? ⟨b, o + p * 2 + 1, none⟩ = some (.int .i64 gy) := hc 1 _ rfl
        have HS := Lib.hid (show ∀ w', Below wr.heap.size wr w' → (w'.cell? ⟨b, o + p * 2, none⟩ = some (.int .i64 gx) ∧ w'.cell? ⟨b, o + p * 2 + 1, none⟩ = some (.int .i64 gy) ∧ w'.cell? ⟨w.heap.size, 0, none⟩ = some (.int .i64 x1) ∧ w'.cell? ⟨w.heap.size, 1, none⟩ = some (.int .i64 x2) ∧ Below wr.heap.size wr w') from fun w' h' =>
          ⟨(h'.cell (p := ⟨b, o + p * 2, none⟩) (by show b < _; omega)).trans e0, (h'.cell (p := ⟨b, o + p * 2 + 1, none⟩) (by show b < _; omega)).trans e1, (HK.out.below h' HK.out.lt).cell 0 _ rfl, (HK.out.below h' HK.out.lt).cell 1 _ rfl, h'⟩)
        obtain ⟨m, hm⟩ : ∃ m, m = ordC (gx, gy) (x1, x2) := ⟨_, rfl⟩
        have HO := Lib.hid (show ∀ w', Below wr.heap.size wr w' → Calls Try.prog 79 #[.agg #[.int .i64 gx, .int .i64 gy], .agg #[.int .i64 x1, .int .i64 x2]] w' fun e w'' => e = .returned (.int .i64 m) ∧ Below wr.heap.size wr w'' from fun w' h' => by rw [hm]; exact (order_any (gx, gy) (x1, x2) w').mono fun e w'' ⟨h3, h4⟩ => ⟨h3, h'.trans (h4.mono h'.size)⟩)
        have Hm := Lib.hid (show decide ((x1, x2) ∈ l) = (m == 0) by
          rw [Bool.eq_iff_iff, decide_eq_true_eq, beq_iff_eq, hm, ordC_zero]
          exact HB.out.mem Hs.out hg)
        have hi0 : (0 : Int) ≤ (p : Int) := by omega
        have hi1 : (p : Int) < (n : Int) := by omega
        have hd : decide ((p : Int) < (n : Int)) = true := by simpa using hi1
        have hd' : decide (p < n) = true := by simpa using hpn
        clear hk hb hc e0 e1 hm hg hr hlt
        go_wp2
        go_region_held3 (fun w' => w'.cell? ⟨b, o + p * 2, none⟩ = some (.int .i64 gx) ∧ w'.cell? ⟨b, o + p * 2 + 1, none⟩ = some (.int .i64 gy) ∧ w'.cell? ⟨w.heap.size, 0, none⟩ = some (.int .i64 x1) ∧ w'.cell? ⟨w.heap.size, 1, none⟩ = some (.int .i64 x2) ∧ Below wr.heap.size wr w')
          (first | exact HS.out _ (Below.refl _ _).drew | exact HS.out _ (Below.refl _ _) | exact HS.out _ (by assumption))
          (first | (go_at_call 79; refine (HO.out _ (by first | assumption | exact (Below.refl _ _).drew)).mono ?_; rintro e w' ⟨rfl, hbn⟩))
        go_wp2
        go_ret2
        exact ⟨p, by rw [Hm.out]; rfl, HB1.out.trans (hbn.mono hz)⟩
      · have Hm := Lib.hid (show decide ((x1, x2) ∈ l) = false by
          rw [decide_eq_false_iff_not]; exact HB.out.not_mem (by rw [Hl.out]; omega))
        have hd : decide ((p : Int) < (n : Int)) = false := by simp; omega
        have hd' : decide (p < n) = false := by simp; omega
        have HB1 := Lib.hid hb
        clear hk hb hr hlt
        go_wp2
        go_quiet (fail)
        go_wp2
        go_ret2
        exact ⟨p, by rw [Hm.out]; rfl, below_drewN HB1.out _⟩
def HasPost (b : Bool) (w : World) (e : Ending) (w' : World) : Prop := e = .returned (.bool b) ∧ Below w.heap.size w w'
set_option maxRecDepth 100000 in
theorem has_any (w : World) (A : Option Addr) (n c : Nat) (l : List Cell) (x : Cell) (hl : l.length = n) (hn : n ≤ 100000) (hs : SortC l) (hr : Rd w w.heap.size 2 A n (l.flatMap encC)) :
    Calls Try.prog 74 #[.slice A n c, .agg #[.int .i64 x.1, .int .i64 x.2]] w (HasPost (decide (x ∈ l)) w) := by
  obtain ⟨x1, x2⟩ := x
  obtain ⟨q, hq⟩ : ∃ q, q = decide ((x1, x2) ∈ l) := ⟨_, rfl⟩
  have hbe : ∀ X, Below w.heap.size w (w.alloc X) := fun X => (Below.refl _ _).alloc (Nat.le_refl _) _
  have HC := Lib.hid (fun X => bsearch_any (w.alloc X) A n c l (x1, x2) hl hn hs ((hr.below (hbe X)).more (by simp)))
  unfold BsPost at HC
  rw [← hq] at HC ⊢
  have Hbe := Lib.hid hbe
  clear hl hs hr hq hbe
  go_enter Try.func74, Try.ntmps74
  go_wp2_with fail
  refine (HC.out _).mono ?_
  rintro e w1 ⟨i, rfl, hb⟩
  have HB := Lib.hid ((Hbe.out _).trans (hb.mono (by simp)))
  clear hb
  go_wp2
  go_ret
  exact ⟨rfl, HB.out⟩
end Go.Proofs.Ytaahpjjffggaiaa
