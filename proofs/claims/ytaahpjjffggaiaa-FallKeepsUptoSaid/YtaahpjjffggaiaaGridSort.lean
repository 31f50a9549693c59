/- slices.SortFunc at cells over grid.order. Conditions: those typed. -/
import Derived.Test.YtaahpjjffggaiaaMakeSort
import Derived.Test.YtaahpjjffggaiaaGrid
namespace Go.Proofs.Ytaahpjjffggaiaa
open Go.RowKit Go.Gy Go.Sort
set_option linter.unusedVariables false
set_option maxRecDepth 100000 in
theorem order_same (a b : Cell) (w : World) : Calls Try.prog 79 #[.agg #[.int .i64 a.1, .int .i64 a.2], .agg #[.int .i64 b.1, .int .i64 b.2]] w fun e w' => e = .returned (.int .i64 (ordC a b)) ∧ w' = (w.alloc (.cells #[.int .i64 a.1, .int .i64 a.2] 24)).alloc (.cells #[.int .i64 b.1, .int .i64 b.2] 24) := by
  obtain ⟨a1, a2⟩ := a
  obtain ⟨b1, b2⟩ := b
  obtain ⟨n, hn⟩ : ∃ n, n = cmpI a2 b2 := ⟨_, rfl⟩
  have hc : ∀ w, Calls Try.prog 91 #[.int .i64 a2, .int .i64 b2] w fun e w' => e = .returned (.int .i64 n) ∧ w = w' := fun w => by rw [hn]; exact cmp_any a2 b2 w
  have Hc := Lib.hid hc
  by_cases h0 : n = 0
  · have e : ordC (a1, a2) (b1, b2) = cmpI a1 b1 := by unfold ordC; rw [if_pos (hn.symm.trans h0)]
    rw [e]
    obtain ⟨m, hm⟩ : ∃ m, m = cmpI a1 b1 := ⟨_, rfl⟩
    have hd : ∀ w, Calls Try.prog 91 #[.int .i64 a1, .int .i64 b1] w fun e w' => e = .returned (.int .i64 m) ∧ w = w' := fun w => by rw [hm]; exact cmp_any a1 b1 w
    have Hd := Lib.hid hd
    rw [← hm]
    clear hn hm hc hd e
    subst h0
    go_enter Try.func79, Try.ntmps79
    go_wp2_with fail
    refine (Hc.out _).mono ?_
    rintro e w' ⟨rfl, rfl⟩
    go_wp2_with fail
    refine (Hd.out _).mono ?_
    rintro e w' ⟨rfl, rfl⟩
    go_wp2
    go_ret
    exact ⟨rfl, rfl⟩
  · have e : ordC (a1, a2) (b1, b2) = n := by unfold ordC; rw [if_neg (by rw [← hn]; exact h0)]; exact hn.symm
    rw [e]
    have hnb : (n == 0) = false := by simpa using h0
    clear hn hc e
    go_enter Try.func79, Try.ntmps79
    go_wp2_with fail
    refine (Hc.out _).mono ?_
    rintro e w' ⟨rfl, rfl⟩
    go_wp2
    go_ret
    exact ⟨rfl, rfl⟩
theorem ordC_lt (a b : Cell) : ltOf ordC a b = true ↔ ltC (id a) (id b) := by
  unfold ltOf ordC ltC cmpI
  rw [decide_eq_true_eq]
  simp only [id]
  repeat' split
  all_goals omega
theorem ordC_swo : SWO (ltOf ordC) where
  irrefl x := by
    cases h : ltOf ordC x x with
    | false => rfl
    | true => exact absurd ((ordC_lt x x).1 h) (ltC_irrefl _)
  trans x y z h1 h2 := (ordC_lt x z).2 (ltC_trans ((ordC_lt x y).1 h1) ((ordC_lt y z).1 h2))
  ntrans x y z h1 h2 := by
    cases h : ltOf ordC x z with
    | false => rfl
    | true =>
      have h3 := (ordC_lt x z).1 h
      have h4 : ¬ ltC x y := fun h => by rw [(ordC_lt x y).2 h] at h1; cases h1
      have h5 : ¬ ltC y z := fun h => by rw [(ordC_lt y z).2 h] at h2; cases h2
      simp only [id] at h3
      unfold ltC at h3 h4 h5
      omega
theorem encC_oneC (f : Cell) : ∀ v ∈ encC f, v.oneCell' = true := by
  intro v hv
  simp only [encC, List.mem_cons, List.not_mem_nil, or_false] at hv
  rcases hv with rfl | rfl <;> rfl
def OrdPost (base n : Nat) (A : Option Addr) (cap : Nat) (l : List Cell) (w : World) (e : Ending) (w' : World) : Prop := e = .returned (.tuple #[]) ∧ ∃ l' : List Cell, l'.Perm l ∧ l'.Pairwise leC ∧ w'.ownsRow base 24 2 (.slice A n cap) n (l'.flatMap encC) ∧ Below base w w'
theorem sort_order (w : World) (base n cap : Nat) (A : Option Addr) (l : List Cell) (hn : l.length = n) (hb : n ≤ 1000000000) (hbase : base ≤ w.heap.size)
    (ho : w.ownsRow base 24 2 (.slice A n cap) n (l.flatMap encC)) :
    Calls Try.prog 69 #[.slice A n cap, .func (.func 79) #[] #[]] w (OrdPost base n A cap l w) := by
  rcases Nat.eq_zero_or_pos n with h0 | h0
  · subst h0
    refine (sort_none w A cap _).mono ?_
    rintro e w' ⟨rfl, rfl⟩
    obtain rfl := List.eq_nil_of_length_eq_zero hn
    exact ⟨rfl, [], List.Perm.refl _, List.Pairwise.nil, ho, Below.refl _ _⟩
  obtain ⟨g, cap', he, _, hg, hgl⟩ := own_shape ho h0
  injection he with e1 e2 e3
  subst e1 e3
  obtain ⟨d, hdd⟩ : ∃ d : Array Cell, d = l.toArray := ⟨_, rfl⟩
  have hds : d.size = n := by rw [hdd, ← hn]; simp
  have hfl : d.toList.flatMap encC = l.flatMap encC := by rw [hdd]
  rw [← hds, ← hfl] at ho
  rw [← hds]
  have hH := holds_own encC_len (by omega) ho
  refine (Try.slices_SortFunc (α := Cell) 2 agg_cell size_cell encC encC_len encC_oneC ordC ordC_swo 79 #[] g 0 cap d w (enters_own Try.func79 (by kernel_rfl) rfl) ?_ hH hgl (by omega)).mono ?_
  · intro m os dk hdk x y
    refine (order_same x y (sortWorldK encC 2 w g 0 m dk os)).mono ?_
    rintro e w' ⟨rfl, rfl⟩
    refine ⟨rfl, 0, #[.cells #[.int .i64 x.1, .int .i64 x.2] 24, .cells #[.int .i64 y.1, .int .i64 y.2] 24], ?_⟩
    rw [alloc_eq_grow, alloc_eq_grow, grow_grow]
    rfl
  · rintro e w' ⟨rfl, d', m, os, hp, hs, rfl⟩
    obtain ⟨h1, h2, h3⟩ := sorted_words (of := id) ordC_lt hp hs
    obtain ⟨h4, h5⟩ := sort_own encC_len (by omega) ho h1 hbase m os
    simp only [List.map_id] at h2 h3
    rw [hdd] at h2
    exact ⟨rfl, d'.toList, h2, h3, h4, h5⟩
end Go.Proofs.Ytaahpjjffggaiaa
