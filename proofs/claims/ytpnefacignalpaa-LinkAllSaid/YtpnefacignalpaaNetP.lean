/- What a net does, plain. Conditions: those typed. -/
import Derived.Test.YtpnefacignalpaaStabQ
import Derived.Test.YtpnefacignalpaaCellPlain
namespace Go.Proofs.Ytpnefacignalpaa
set_option linter.unusedVariables false
abbrev GF := Int × Int × Int
abbrev AK := Int × GMsg
/-- what one fault makes of a message: how often it is sent, and how late -/
def stepF (tick src : Int) (s : Nat × Int) (f : GF) : Nat × Int :=
  if f.1 ≠ tick then s else if f.2.1 = 0 ∧ f.2.2 = src then (0, s.2) else if f.2.1 = 1 ∧ f.2.2 = src then (min (s.1 * 2) 2, s.2) else if f.2.1 = 2 ∧ 0 < f.2.2 ∧ f.2.2 ≤ 2000 then (s.1, max s.2 f.2.2) else s
def planF (tick src : Int) (FS : List GF) : Nat × Int := FS.foldl (stepF tick src) (1, 0)
theorem stepF_le {tick src : Int} {s : Nat × Int} {f : GF} (h : s.1 ≤ 2 ∧ 0 ≤ s.2 ∧ s.2 ≤ 2000) : (stepF tick src s f).1 ≤ 2 ∧ 0 ≤ (stepF tick src s f).2 ∧ (stepF tick src s f).2 ≤ 2000 := by
  obtain ⟨m, l⟩ := s
  obtain ⟨a, b, c⟩ := f
  unfold stepF
  simp only at h ⊢
  split
  · exact h
  · split
    · exact ⟨by simp, h.2.1, h.2.2⟩
    · split
      · exact ⟨by simp only; omega, h.2.1, h.2.2⟩
      · split
        · rename_i h4
          exact ⟨h.1, by simp only; omega, by simp only; omega⟩
        · exact h
theorem foldF_le {tick src : Int} : ∀ (FS : List GF) (s : Nat × Int), s.1 ≤ 2 ∧ 0 ≤ s.2 ∧ s.2 ≤ 2000 → (FS.foldl (stepF tick src) s).1 ≤ 2 ∧ 0 ≤ (FS.foldl (stepF tick src) s).2 ∧ (FS.foldl (stepF tick src) s).2 ≤ 2000
  | [], s, h => h
  | f :: FS, s, h => foldF_le FS _ (stepF_le h)
theorem planF_le (tick src : Int) (FS : List GF) : (planF tick src FS).1 ≤ 2 ∧ 0 ≤ (planF tick src FS).2 ∧ (planF tick src FS).2 ≤ 2000 := foldF_le FS _ ⟨by simp, by simp, by simp⟩
theorem planF_take {tick src : Int} {FS : List GF} {j : Nat} {f : GF} (h : FS[j]? = some f) : planF tick src (FS.take (j + 1)) = stepF tick src (planF tick src (FS.take j)) f := by
  obtain ⟨hj, rfl⟩ := List.getElem?_eq_some_iff.1 h
  unfold planF
  rw [List.take_succ_eq_append_getElem hj, List.foldl_append]
  rfl
theorem planF_nil (tick src : Int) : planF tick src [] = (1, 0) := rfl
/-- what becomes of a message that is sent at a tick -/
def flightsF (FS : List GF) (tick : Int) (m : GMsg) : List AK := List.replicate (planF tick m.src FS).1 (tick + 1 + (planF tick m.src FS).2, m)
theorem flightsF_len (FS : List GF) (tick : Int) (m : GMsg) : (flightsF FS tick m).length = (planF tick m.src FS).1 := List.length_replicate ..
/-- what Send answers -/
def sendC (FS : List GF) (T : Int) (K : List AK) (tick : Int) (m : GMsg) : Nat :=
  if tick < 0 ∨ 2000 < tick then 1 else if tick < T then 9 else if msgF m ≠ 0 then msgF m else if 1000 < K.length + (flightsF FS tick m).length then 6 else 0
def sendT (FS : List GF) (T : Int) (K : List AK) (tick : Int) (m : GMsg) : Int := if sendC FS T K tick m = 0 then tick else T
def sendK (FS : List GF) (T : Int) (K : List AK) (tick : Int) (m : GMsg) : List AK := if sendC FS T K tick m = 0 then K ++ flightsF FS tick m else K
/-- messages that are kept: not too many, due soon, with few cells -/
def KOk (K : List AK) : Prop := K.length ≤ 1000 ∧ ∀ k ∈ K, 0 ≤ k.1 ∧ k.1 ≤ 4001 ∧ k.2.cells.length ≤ 400
theorem KOk.nil : KOk [] := ⟨by simp, fun k h => by cases h⟩
theorem sendC_zero {FS : List GF} {T : Int} {K : List AK} {tick : Int} {m : GMsg} (h : sendC FS T K tick m = 0) : 0 ≤ tick ∧ tick ≤ 2000 ∧ T ≤ tick ∧ msgF m = 0 ∧ K.length + (flightsF FS tick m).length ≤ 1000 := by
  unfold sendC at h
  split at h
  · cases h
  · split at h
    · cases h
    · split at h
      · rename_i h1; exact absurd h h1
      · split at h
        · cases h
        · rename_i h1 h2 h3 h4
          refine ⟨by omega, by omega, by omega, by simpa using h3, by omega⟩
theorem KOk.send {FS : List GF} {T : Int} {K : List AK} {tick : Int} {m : GMsg} (h : KOk K) : KOk (sendK FS T K tick m) := by
  unfold sendK
  split
  · rename_i h0
    obtain ⟨h1, h2, h3, h4, h5⟩ := sendC_zero h0
    refine ⟨by rw [List.length_append]; omega, fun k hk => ?_⟩
    rcases List.mem_append.1 hk with hk | hk
    · exact h.2 k hk
    · obtain rfl := List.eq_of_mem_replicate hk
      have h6 := planF_le tick m.src FS
      exact ⟨by simp only; omega, by simp only; omega, (cellsF_zero (msgF_zero h4).2).1⟩
  · exact h
def goesB (tick dst : Int) (k : AK) : Bool := decide (k.2.dst = dst) && decide (k.1 ≤ tick)
/-- in the order in which they are due -/
def dueSort (l : List AK) : List AK := (List.range 5001).flatMap (fun d => l.filter (fun x => decide (x.1 = ((d : Nat) : Int))))
def takeL (K : List AK) (tick dst : Int) : List AK := dueSort (K.filter (goesB tick dst))
def restL (K : List AK) (tick dst : Int) : List AK := K.filter (fun k => !goesB tick dst k)
theorem KOk.filter {K : List AK} (h : KOk K) (p : AK → Bool) : KOk (K.filter p) := ⟨Nat.le_trans (List.length_filter_le _ _) h.1, fun k hk => h.2 k ((List.mem_filter.1 hk).1)⟩
theorem strict_unique {α : Type} {R : α → α → Prop} (hR : ∀ x y, R x y → R y x → False) : ∀ {l l' : List α}, l.Pairwise R → l'.Pairwise R → l.Perm l' → l = l'
  | [], l', _, _, p => p.nil_eq
  | x :: l, [], _, _, p => absurd p.length_eq (by simp)
  | x :: l, y :: l', h, h', p => by
    obtain ⟨h1, h2⟩ := List.pairwise_cons.1 h
    obtain ⟨h1', h2'⟩ := List.pairwise_cons.1 h'
    have e : x = y := by
      apply Classical.byContradiction
      intro hne
      have hx : x ∈ l' := by
        rcases List.mem_cons.1 (p.mem_iff.1 (List.mem_cons_self ..)) with h | h
        · exact absurd h hne
        · exact h
      have hy : y ∈ l := by
        rcases List.mem_cons.1 (p.mem_iff.2 (List.mem_cons_self ..)) with h | h
        · exact absurd h.symm hne
        · exact h
      exact hR x y (h1 y hy) (h1' x hx)
    subst e
    rw [strict_unique hR h2 h2' (List.Perm.cons_inv p)]
theorem filter_or {α : Type} (p q r : α → Bool) : ∀ (l : List α), (∀ x ∈ l, r x = (p x || q x) ∧ ¬ (p x = true ∧ q x = true)) → (l.filter p ++ l.filter q).Perm (l.filter r)
  | [], _ => List.Perm.refl _
  | x :: l, h => by
    have ih := filter_or p q r l (fun y hy => h y (List.mem_cons_of_mem _ hy))
    obtain ⟨h1, h2⟩ := h x (List.mem_cons_self ..)
    cases hp : p x <;> cases hq : q x
    · rw [hp, hq] at h1
      rw [List.filter_cons_of_neg (by simp [hp]), List.filter_cons_of_neg (by simp [hq]), List.filter_cons_of_neg (by simp [h1])]
      exact ih
    · rw [hp, hq] at h1
      rw [List.filter_cons_of_neg (by simp [hp]), List.filter_cons_of_pos hq, List.filter_cons_of_pos (by simp [h1])]
      exact List.perm_middle.trans (ih.cons x)
    · rw [hp, hq] at h1
      rw [List.filter_cons_of_pos hp, List.filter_cons_of_neg (by simp [hq]), List.filter_cons_of_pos (by simp [h1])]
      exact ih.cons x
    · exact absurd ⟨hp, hq⟩ h2
theorem split_due {α : Type} (f : α → Int) (l : List α) (h0 : ∀ x ∈ l, 0 ≤ f x) : ∀ N : Nat, ((List.range N).flatMap (fun d => l.filter (fun x => decide (f x = ((d : Nat) : Int))))).Perm (l.filter (fun x => decide (f x < (N : Int))))
  | 0 => by
    have : l.filter (fun x => decide (f x < ((0 : Nat) : Int))) = [] := List.filter_eq_nil_iff.2 (fun x hx => by have := h0 x hx; simp; omega)
    rw [this]
    exact List.Perm.refl _
  | N + 1 => by
    rw [List.range_succ, List.flatMap_append, List.flatMap_singleton]
    refine ((split_due f l h0 N).append_right _).trans (filter_or _ _ _ l (fun x _ => ⟨?_, fun ⟨h1, h2⟩ => ?_⟩))
    · rw [Bool.eq_iff_iff, Bool.or_eq_true, decide_eq_true_eq, decide_eq_true_eq, decide_eq_true_eq]
      omega
    · have h1 := of_decide_eq_true h1
      have h2 := of_decide_eq_true h2
      omega
/-- a row that is sorted so that equal ones keep their order is the row by due -/
theorem sorted_due {β : Type} {g : β → AK} {due : β → Int} (hg : ∀ x, (g x).1 = due x) {xs ys : List (β × Nat)} {n : Nat} (hn : xs.length = n) (hix : ∀ p q x y, p < q → q < n → xs[p]? = some x → xs[q]? = some y → x.2 < y.2)
    (hd : ∀ x ∈ xs, 0 ≤ due x.1 ∧ due x.1 ≤ 5000) (hp : ys.Perm xs) (ho : OrdOn (ltT due) 0 n ys) : ys.map (fun x => g x.1) = dueSort (xs.map (fun x => g x.1)) := by
  have e : ys = (List.range 5001).flatMap (fun d => xs.filter (fun x => decide (due x.1 = ((d : Nat) : Int)))) := by
    refine strict_unique (R := ltT due) (fun x y h k => ?_) ?_ ?_ ?_
    · unfold ltT at h k; omega
    · rw [List.pairwise_iff_getElem]
      intro i j hi hj hij
      exact ho i j _ _ (Nat.zero_le _) hij (by rw [← hn, ← hp.length_eq]; exact hj) (List.getElem?_eq_getElem hi) (List.getElem?_eq_getElem hj)
    · rw [List.pairwise_flatMap]
      refine ⟨fun d _ => ?_, ?_⟩
      · have h1 : xs.Pairwise (fun x y => x.2 < y.2) := by
          rw [List.pairwise_iff_getElem]
          intro i j hi hj hij
          exact hix i j _ _ hij (by omega) (List.getElem?_eq_getElem hi) (List.getElem?_eq_getElem hj)
        have h2 := h1.filter (fun x => decide (due x.1 = ((d : Nat) : Int)))
        refine h2.imp_of_mem (fun {x y} hx hy hlt => .inr ⟨?_, hlt⟩)
        have a := of_decide_eq_true (List.mem_filter.1 hx).2
        have b := of_decide_eq_true (List.mem_filter.1 hy).2
        omega
      · refine List.pairwise_lt_range.imp (fun {d d'} hlt x hx y hy => .inl ?_)
        have a := of_decide_eq_true (List.mem_filter.1 hx).2
        have b := of_decide_eq_true (List.mem_filter.1 hy).2
        omega
    · refine hp.trans (List.Perm.symm ?_)
      refine (split_due (fun x : β × Nat => due x.1) xs (fun x hx => (hd x hx).1) 5001).trans ?_
      rw [List.filter_eq_self.2 (fun x hx => decide_eq_true (by have := (hd x hx).2; omega))]
  rw [e]
  unfold dueSort
  rw [List.map_flatMap]
  congr 1
  funext d
  rw [List.filter_map]
  congr 2
  funext x
  simp only [Function.comp, hg]
theorem dueSort_mem {l : List AK} {x : AK} (h : x ∈ dueSort l) : x ∈ l := by
  unfold dueSort at h
  obtain ⟨d, _, h⟩ := List.mem_flatMap.1 h
  exact (List.mem_filter.1 h).1
theorem dueSort_perm {l : List AK} (h : ∀ x ∈ l, 0 ≤ x.1 ∧ x.1 ≤ 5000) : (dueSort l).Perm l := by
  refine (split_due (fun x : AK => x.1) l (fun x hx => (h x hx).1) 5001).trans ?_
  rw [List.filter_eq_self.2 (fun x hx => decide_eq_true (by have := (h x hx).2; omega))]
theorem KOk.take {K : List AK} (h : KOk K) (tick dst : Int) : KOk (takeL K tick dst) := by
  have h1 := h.filter (goesB tick dst)
  have p := dueSort_perm (l := K.filter (goesB tick dst)) (fun x hx => ⟨(h1.2 x hx).1, by have := (h1.2 x hx).2.1; omega⟩)
  exact ⟨by unfold takeL; rw [p.length_eq]; exact h1.1, fun k hk => h1.2 k (p.mem_iff.1 hk)⟩
/-- what is all due at once keeps its order -/
theorem dueSort_same {l : List AK} {d : Int} (h0 : 0 ≤ d) (h5 : d ≤ 5000) (h : ∀ x ∈ l, x.1 = d) : dueSort l = l := by
  have key : ∀ N : Nat, (List.range N).flatMap (fun e => l.filter (fun x => decide (x.1 = ((e : Nat) : Int)))) = if d < (N : Int) then l else [] := by
    intro N
    induction N with
    | zero => rw [if_neg (by omega)]; rfl
    | succ N ih =>
      rw [List.range_succ, List.flatMap_append, List.flatMap_singleton, ih]
      by_cases h1 : d < (N : Int)
      · rw [if_pos h1, if_pos (by omega), List.filter_eq_nil_iff.2 (fun x hx => by rw [h x hx]; simp; omega), List.append_nil]
      · rw [if_neg h1, List.nil_append]
        by_cases h2 : d = (N : Int)
        · rw [if_pos (by omega), List.filter_eq_self.2 (fun x hx => decide_eq_true (by rw [h x hx, h2]))]
        · rw [if_neg (by omega), List.filter_eq_nil_iff.2 (fun x hx => by rw [h x hx]; simp; omega)]
  have := key 5001
  unfold dueSort
  rw [this, if_pos (by omega)]
end Go.Proofs.Ytpnefacignalpaa
