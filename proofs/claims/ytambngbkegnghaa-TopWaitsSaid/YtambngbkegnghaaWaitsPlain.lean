/- Arms that wait in a table wait in no ring, and all can be served: as plain data. Conditions: those typed. -/
import Derived.Test.YtambngbkegnghaaRingGivesWalk
import Derived.Test.YtambngbkegnghaaRingAll
namespace Go.Proofs.Ytambngbkegnghaa
open Go.RowKit Go.Gy
set_option linter.unusedVariables false
theorem waits_rank {st : Tab} (h : Safe st) : ∃ rk : Nat → Nat, ∀ i k : Nat, k ≠ i → meets (waitsT st i) (cellsT st k) = true → rk k < rk i := by
  obtain ⟨rk, hrk⟩ := h.rank
  refine ⟨fun n => rk (n : Int), fun i k hki hm => ?_⟩
  rcases atF_cases st i with ⟨hat, _⟩ | ⟨ix, y, hat, hix, hy, hyk⟩
  · rw [waitsT_none hat, meets_none] at hm; cases hm
  · rw [waitsT_some hat hy, Go.Proofs.Ytambngbkegnghaa.leaseEnds.cellsT_nat, meets_comm] at hm
    have := hrk ix y hy k (blockF_iff.2 ⟨by omega, .inl ⟨k, meets_lt hm, rfl, hm⟩⟩)
    rw [hyk] at this
    exact this
/-- for whom an arm waits, of the first m arms -/
def nextT (st : Tab) (i : Nat) : Nat → List Int
  | 0 => []
  | k + 1 => if decide (k ≠ i) && meets (waitsT st i) (cellsT st k) then nextT st i k ++ [(k : Int)] else nextT st i k
theorem nextT_mem {st : Tab} {i : Nat} {x : Int} : ∀ {m : Nat}, x ∈ nextT st i m → ∃ k : Nat, x = (k : Int) ∧ k < m ∧ k ≠ i ∧ meets (waitsT st i) (cellsT st k) = true
  | 0, h => by simp [nextT] at h
  | m + 1, h => by
    unfold nextT at h
    split at h
    · rename_i hc
      simp only [Bool.and_eq_true, decide_eq_true_eq] at hc
      rcases List.mem_append.1 h with h | h
      · obtain ⟨k, h1, h2, h3⟩ := nextT_mem h
        exact ⟨k, h1, by omega, h3⟩
      · exact ⟨m, List.mem_singleton.1 h, by omega, hc⟩
    · obtain ⟨k, h1, h2, h3⟩ := nextT_mem h
      exact ⟨k, h1, by omega, h3⟩
theorem nextT_len (st : Tab) (i : Nat) : ∀ m, (nextT st i m).length ≤ m
  | 0 => Nat.le_refl _
  | m + 1 => by
    have := nextT_len st i m
    unfold nextT
    split
    · rw [List.length_append]; simp; omega
    · omega
def rowsT (st : Tab) (n : Nat) : List (List Int) := (List.range n).map fun i => nextT st i n
theorem rowsT_get {st : Tab} {n i : Nat} {r : List Int} (h : (rowsT st n)[i]? = some r) : i < n ∧ r = nextT st i n := by
  unfold rowsT at h
  rw [List.getElem?_map] at h
  have hi : i < n := by
    rcases Nat.lt_or_ge i n with h1 | h1
    · exact h1
    · rw [List.getElem?_eq_none (by simpa using h1)] at h; cases h
  rw [List.getElem?_range hi] at h
  injection h with h
  exact ⟨hi, h.symm⟩
theorem flat_le {l : List (List Int)} {m : Nat} (h : ∀ r ∈ l, r.length ≤ m) : l.flatten.length ≤ l.length * m := by
  induction l with
  | nil => simp
  | cons r l ih =>
    rw [List.flatten_cons, List.length_append, List.length_cons, Nat.add_mul, Nat.one_mul]
    have := h r List.mem_cons_self
    have := ih fun q hq => h q (List.mem_cons_of_mem _ hq)
    omega
theorem rowsT_good (st : Tab) (n : Nat) (hn : n ≤ 4) : GoodG (rowsT st n) := by
  have hl : (rowsT st n).length = n := by simp [rowsT]
  refine ⟨by omega, fun r hr x hx => ?_, ?_⟩
  · obtain ⟨i, hi⟩ := List.getElem?_of_mem hr
    obtain ⟨h1, rfl⟩ := rowsT_get hi
    obtain ⟨k, rfl, h2, _⟩ := nextT_mem hx
    omega
  · have := flat_le (l := rowsT st n) (m := 4) (fun r hr => by
      obtain ⟨i, hi⟩ := List.getElem?_of_mem hr
      obtain ⟨h1, rfl⟩ := rowsT_get hi
      have := nextT_len st i n
      omega)
    omega
theorem rowsT_none {st : Tab} (h : Safe st) (n i : Nat) : ¬ Reach (rowsT st n) i i := by
  obtain ⟨rk, hrk⟩ := waits_rank h
  have he : ∀ a b, Ed (rowsT st n) a b → rk b < rk a := by
    rintro a b ⟨r, hr, hb⟩
    obtain ⟨_, rfl⟩ := rowsT_get hr
    obtain ⟨k, h1, _, h3, h4⟩ := nextT_mem hb
    obtain rfl : b = k := by omega
    exact hrk a b h3 h4
  have key : ∀ a b, Reach (rowsT st n) a b → rk b < rk a := by
    intro a b hr
    induction hr with
    | one h => exact he _ _ h
    | more _ h2 ih => have := he _ _ h2; omega
  intro hr
  have := key i i hr
  omega
theorem pickF_some {has wants : List (List Cell)} {out : List Int} : ∀ {n i : Nat}, i < n → (i : Int) ∉ out → freeF has (wants.getD i []) i out = true → 0 ≤ pickF has wants out n
  | 0, _, h, _, _ => absurd h (by omega)
  | n + 1, i, h, h1, h2 => by
    unfold pickF
    split
    · omega
    · rename_i hc
      by_cases hin : i = n
      · subst hin
        rcases Int.lt_or_le (pickF has wants out i) 0 with h3 | h3
        · exact absurd ⟨h3, h1, h2⟩ hc
        · exact h3
      · exact pickF_some (show i < n by omega) h1 h2
theorem least_of (rk : Nat → Nat) : ∀ l : List Nat, l ≠ [] → ∃ y ∈ l, ∀ z ∈ l, rk y ≤ rk z
  | [], h => absurd rfl h
  | [a], _ => ⟨a, by simp, fun z hz => by simp at hz; subst hz; exact Nat.le_refl _⟩
  | a :: b :: l, _ => by
    obtain ⟨y, hy, h⟩ := least_of rk (b :: l) (by simp)
    by_cases hle : rk a ≤ rk y
    · refine ⟨a, by simp, fun z hz => ?_⟩
      rcases List.mem_cons.1 hz with rfl | hz
      · exact Nat.le_refl _
      · have := h z hz; omega
    · refine ⟨y, List.mem_cons_of_mem _ hy, fun z hz => ?_⟩
      rcases List.mem_cons.1 hz with rfl | hz
      · omega
      · exact h z hz
theorem greedy_some {has wants : List (List Cell)} (rk : Nat → Nat) (hrk : ∀ i k : Nat, i < has.length → k < has.length → k ≠ i → meets (has.getD k []) (wants.getD i []) = true → rk k < rk i) :
    ∀ (f : Nat) (out : List Int), out.length + f = has.length → out.Nodup → (∀ x ∈ out, 0 ≤ x ∧ x < (has.length : Int)) → ∃ l, greedyF has wants f out = some l
  | 0, out, _, _, _ => ⟨out, rfl⟩
  | f + 1, out, hf, hn, hr => by
    have hne : (List.range has.length).filter (fun i : Nat => !decide ((i : Int) ∈ out)) ≠ [] := by
      intro e
      have h1 : ((List.range has.length).map Int.ofNat).length ≤ out.length := nodup_le _ _ (by
        rw [List.nodup_iff_pairwise_ne, List.pairwise_map]
        exact List.nodup_range.imp (fun h h' => h (by have := Int.ofNat.inj h'; exact this))) (fun x hx => by
        obtain ⟨i, hi, rfl⟩ := List.mem_map.1 hx
        rcases Decidable.em ((i : Int) ∈ out) with h2 | h2
        · exact h2
        · have h3 : i ∈ (List.range has.length).filter (fun i : Nat => !decide ((i : Int) ∈ out)) := List.mem_filter.2 ⟨hi, by simpa using h2⟩
          rw [e] at h3; simp at h3)
      simp at h1
      omega
    obtain ⟨i, hi, hmin⟩ := least_of rk _ hne
    obtain ⟨hi1, hi2⟩ := List.mem_filter.1 hi
    have hi3 : i < has.length := by simpa using hi1
    have hi4 : (i : Int) ∉ out := by simpa using hi2
    have hfree : freeF has (wants.getD i []) i out = true := freeF_yes fun k hk => by
      unfold freeAt
      by_cases hki : (k : Int) = (i : Int)
      · rw [decide_eq_true hki]; rfl
      by_cases hko : (k : Int) ∈ out
      · rw [decide_eq_true hko]; simp
      cases hm : meets (has.getD k []) (wants.getD i []) with
      | false => simp
      | true =>
        have h1 := hrk i k hi3 hk (by omega) hm
        have h2 := hmin k (List.mem_filter.2 ⟨by simpa using hk, by simpa using hko⟩)
        omega
    have hp := pickF_some (has := has) (wants := wants) hi3 hi4 hfree
    have hl := pickF_law hp
    unfold greedyF
    rw [if_neg (by omega)]
    refine greedy_some rk hrk f _ (by rw [List.length_append]; simp; omega) ?_ (fun x hx => ?_)
    · rw [List.nodup_append]
      refine ⟨hn, by simp, fun a ha b hb => ?_⟩
      have hb := List.mem_singleton.1 hb
      subst hb
      rintro rfl
      exact hl.2.1 ha
    · rcases List.mem_append.1 hx with hx | hx
      · exact hr x hx
      · have hx := List.mem_singleton.1 hx
        subst hx
        exact ⟨hp, hl.1⟩
theorem waitsT_ok {st : Tab} (h : Fit st) (a : Int) : cellsF (waitsT st a) = 0 := by
  rcases atF_cases st a with ⟨hat, _⟩ | ⟨ix, y, hat, hix, hy, hyk⟩
  · rw [waitsT_none hat]; rfl
  · rw [waitsT_some hat hy]; exact (h.wts y (List.mem_of_getElem? hy)).2.2.1
theorem safe_waits {st : Tab} {n : Nat} (hG : Good st n) (hn : n ≤ 4) {has wants : List (List Cell)} (hl : has.length = n) (hl2 : wants.length = n) (h1 : ∀ i, i < n → has.getD i [] = cellsT st i) (h2 : ∀ i, i < n → wants.getD i [] = waitsT st i) :
    ∃ l, safeF has wants = (0, l) ∧ l.length = n := by
  have hchk : ∀ k, k ≤ n → chkF has wants k = 0 := by
    intro k
    induction k with
    | zero => intro _; rfl
    | succ k ih =>
      intro hk
      rw [chkF, ih (by omega), if_neg (by simp), h1 k (by omega), h2 k (by omega), Go.Proofs.Ytambngbkegnghaa.leaseEnds.cellsT_nat, hG.1.fit.cells, if_neg (by simp), waitsT_ok hG.1.fit]
  have hcl : clashF has n = false := clashF_no fun i hi j hj => by
    rw [h1 i hi, h1 j (by omega), Bool.eq_false_iff, Go.Proofs.Ytambngbkegnghaa.leaseEnds.cellsT_nat, Go.Proofs.Ytambngbkegnghaa.leaseEnds.cellsT_nat]
    intro h
    obtain ⟨x, hx, hx'⟩ := meets_iff.1 h
    exact hG.1.apart i j (by omega) x hx hx'
  obtain ⟨rk, hrk⟩ := waits_rank hG.1
  obtain ⟨l, hgr⟩ := greedy_some (has := has) (wants := wants) rk (fun i k hi hk hki hm => hrk i k hki (by rw [← h1 k (by omega), ← h2 i (by omega), meets_comm]; exact hm)) n [] (by simp [hl]) List.nodup_nil (fun x hx => by simp at hx)
  refine ⟨l, ?_, by have := (greedy_law n [] l hgr).1; simpa using this⟩
  unfold safeF
  rw [hl, hl2, if_neg (by omega), hchk n (Nat.le_refl _), if_neg (by simp), hcl, if_neg (by simp), hgr]
theorem ed0 {i k : Nat} : Ed [[0]] i k ↔ i = 0 ∧ k = 0 := by
  constructor
  · rintro ⟨r, h1, h2⟩
    match i with
    | 0 => simp at h1; subst h1; simp at h2; exact ⟨rfl, by omega⟩
    | i + 1 => simp at h1
  · rintro ⟨rfl, rfl⟩
    exact ⟨[0], rfl, by simp⟩
theorem reach0 (i : Nat) : decide (i = 0) = true ↔ Reach [[0]] i i := by
  rw [decide_eq_true_iff]
  constructor
  · rintro rfl; exact .one (ed0.2 ⟨rfl, rfl⟩)
  · intro h
    cases h with
    | one h => exact (ed0.1 h).1
    | more _ h => exact (ed0.1 h).2
theorem good0 : GoodG [[0]] := ⟨by simp, by intro r hr x hx; simp at hr; subst hr; simp at hx; subst hx; simp, by simp⟩
set_option maxRecDepth 100000 in
theorem find0 (w : World) (v : Value) (hv : RowsI w w.heap.size v [[0]]) : Calls Try.prog 35 #[v] w (OwnIE w [0]) :=
  find_some w v [[0]] hv good0 (fun i => decide (i = 0)) reach0 0 [] rfl 1 (Nat.le_refl _) (by simp) (.one (ed0.2 ⟨rfl, rfl⟩)) (fun d' hd hw => by have := hw.pos; omega)
/-- rows written out: one row -/
theorem rows_one (w : World) (l : List Int) (n : Nat) (hn : l.length = n) : RowsI ((w.alloc (.cells (l.map iv).toArray 3)).alloc (.cells #[.slice (some ⟨w.heap.size, 0, none⟩) n n] 22)) (w.heap.size + 2) (.slice (some ⟨w.heap.size + 1, 0, none⟩) 1 1) [l] := by
  have h1 := Rd.lit w 3 (l.map iv) 1 n (by simp [hn])
  have h2 := Rd.lit (w.alloc (.cells (l.map iv).toArray 3)) 22 [.slice (some ⟨w.heap.size, 0, none⟩) n n] 1 1 rfl
  rw [World.size_alloc] at h2
  refine ⟨_, 1, 1, [.slice (some ⟨w.heap.size, 0, none⟩) n n], rfl, rfl, Nat.le_refl _, (fun h => by cases h), h2, rfl, fun i v r hv hr => ?_⟩
  cases i with
  | zero =>
    simp at hv hr
    subst hv hr
    exact ⟨_, n, n, rfl, hn, Nat.le_refl _, (fun h => by cases h), (h1.alloc (by rw [World.size_alloc]; exact Nat.le_refl _) _).more (by omega)⟩
  | succ i => simp at hv
set_option maxRecDepth 100000 in
theorem find_rows {st : Tab} (h : Safe st) (n : Nat) (hn : n ≤ 4) (w : World) (v : Value) (hv : RowsI w w.heap.size v (rowsT st n)) : Calls Try.prog 35 #[v] w (NoneIE w 4) :=
  find_none w v _ hv (rowsT_good st n hn) (fun _ => false) (fun i => ⟨(fun h0 => by cases h0), (fun hr => absurd hr (rowsT_none h n i))⟩) (by unfold stuckI; rw [List.filter_eq_nil_iff.2 (by simp)]; rfl)
end Go.Proofs.Ytambngbkegnghaa
