/- The first safe order of all is the one in which always the least arm comes that can: as plain data. Conditions: those typed. -/
import Derived.Test.YtambngbkegnghaaTwoRows
namespace Go.Proofs.Ytambngbkegnghaa
open Go.RowKit Go.Gy
set_option linter.unusedVariables false
def leastF (has wants : List (List Cell)) : Nat → List Int → Option (List Int)
  | 0, done => some done
  | f + 1, done => (List.range has.length).findSome? fun (i : Nat) => if (i : Int) ∉ done ∧ freeF has (wants.getD i []) i done = true then leastF has wants f (done ++ [(i : Int)]) else none
theorem least_law {has wants : List (List Cell)} : ∀ (f : Nat) (out l : List Int), leastF has wants f out = some l → l.length = out.length + f ∧ l.take out.length = out ∧
    ∀ i k, out.length ≤ i → l[i]? = some k → 0 ≤ k ∧ k < has.length ∧ k ∉ l.take i ∧ freeF has (wants.getD k.toNat []) k (l.take i) = true
  | 0, out, l, h => by
    injection h with h
    subst h
    refine ⟨rfl, List.take_length, fun i k hi hk => ?_⟩
    have := (List.getElem?_eq_some_iff.1 hk).1
    omega
  | f + 1, out, l, h => by
    unfold leastF at h
    obtain ⟨p, hp, h⟩ := List.exists_of_findSome?_eq_some h
    split at h
    · rename_i hc
      obtain ⟨h1, h2, h3⟩ := least_law f _ l h
      rw [List.length_append] at h1 h2 h3
      have ht : l.take out.length = out := by
        have := congrArg (List.take out.length) h2
        rw [List.take_take, Nat.min_eq_left (by simp), List.take_left] at this
        exact this
      refine ⟨by simp at h1; omega, ht, fun i k hi hk => ?_⟩
      by_cases hio : i = out.length
      · subst hio
        have hl : l[out.length]? = some (p : Int) := by
          have h4 : (l.take (out.length + 1))[out.length]? = l[out.length]? := by rw [List.getElem?_take, if_pos (by omega)]
          have h5 := h2
          simp only [List.length_cons, List.length_nil, Nat.zero_add] at h5
          rw [← h4, h5, List.getElem?_append_right (Nat.le_refl _), Nat.sub_self]; rfl
        rw [hl] at hk
        injection hk with hk
        subst hk
        rw [ht, Int.toNat_natCast]
        have : p < has.length := by simpa using hp
        exact ⟨by omega, by omega, hc⟩
      · exact h3 i k (by simp; omega) hk
    · cases h
theorem freeF_mono {has : List (List Cell)} {want : List Cell} {arm : Int} {s t : List Int} (h : freeF has want arm s = true) (hs : ∀ x ∈ s, x ∈ t) : freeF has want arm t = true := by
  refine freeF_yes fun i hi => ?_
  unfold freeF at h
  rw [List.all_eq_true] at h
  have h1 := h i (by simpa using hi)
  unfold freeAt at h1 ⊢
  simp only [Bool.or_eq_true, decide_eq_true_eq] at h1 ⊢
  rcases h1 with h1 | h1 | h1
  · exact .inl h1
  · exact .inr (.inl (hs _ h1))
  · exact .inr (.inr h1)
theorem pickF_neg {has wants : List (List Cell)} {out : List Int} {n : Nat} (h : pickF has wants out n < 0) : ∀ i, i < n → (i : Int) ∉ out → freeF has (wants.getD i []) i out = false := by
  induction n with
  | zero => intro i hi; omega
  | succ n ih =>
    intro i hi hno
    by_cases hc : pickF has wants out n < 0 ∧ (n : Int) ∉ out ∧ freeF has (wants.getD n []) n out = true
    · rw [pickF, if_pos hc] at h; omega
    · rw [pickF, if_neg hc] at h
      by_cases hin : i = n
      · subst hin
        rw [Bool.eq_false_iff]
        exact fun hf => hc ⟨h, hno, hf⟩
      · exact ih h i (by omega) hno
/-- where the greedy search stops: a set that nobody can leave -/
theorem greedy_stuck {has wants : List (List Cell)} : ∀ (f : Nat) (out : List Int), greedyF has wants f out = none → ∃ s : List Int, (∀ x ∈ out, x ∈ s) ∧ s.length < out.length + f ∧ ∀ i, i < has.length → (i : Int) ∉ s → freeF has (wants.getD i []) i s = false
  | 0, _, h => by cases h
  | f + 1, out, h => by
    unfold greedyF at h
    split at h
    · rename_i hp
      exact ⟨out, fun x hx => hx, by omega, pickF_neg hp⟩
    · obtain ⟨s, h1, h2, h3⟩ := greedy_stuck f _ h
      exact ⟨s, fun x hx => h1 x (List.mem_append_left _ hx), by rw [List.length_append] at h2; simp at h2; omega, h3⟩
theorem first_out (s : List Int) : ∀ (l : List Int) (m : Nat), (∀ i, i < m → ∀ x, l[i]? = some x → x ∈ s) → ¬ (∀ x ∈ l, x ∈ s) → ∃ i x, m ≤ i ∧ l[i]? = some x ∧ x ∉ s ∧ ∀ y ∈ l.take i, y ∈ s := by
  intro l m hm hno
  by_cases hml : m < l.length
  · obtain ⟨x, hx⟩ : ∃ x, l[m]? = some x := ⟨_, List.getElem?_eq_getElem hml⟩
    by_cases hxs : x ∈ s
    · obtain ⟨i, y, h1, h2⟩ := first_out s l (m + 1) (fun i hi z hz => by
        by_cases him : i = m
        · subst him; rw [hx] at hz; injection hz with hz; subst hz; exact hxs
        · exact hm i (by omega) z hz) hno
      exact ⟨i, y, by omega, h2⟩
    · refine ⟨m, x, Nat.le_refl _, hx, hxs, fun y hy => ?_⟩
      obtain ⟨i, hi⟩ := List.getElem?_of_mem hy
      rw [List.getElem?_take] at hi
      split at hi
      · exact hm i (by assumption) y hi
      · cases hi
  · exact absurd (fun x hx => by
      obtain ⟨i, hi⟩ := List.getElem?_of_mem hx
      exact hm i (by have := (List.getElem?_eq_some_iff.1 hi).1; omega) x hi) hno
termination_by l m => l.length - m
theorem nodup_snoc {l : List Int} {x : Int} (h : l.Nodup) (hx : x ∉ l) : (l ++ [x]).Nodup := by
  rw [List.nodup_append]
  refine ⟨h, by simp, fun a ha b hb => ?_⟩
  have hb := List.mem_singleton.1 hb
  subst hb
  rintro rfl
  exact hx ha
theorem nodup_of_law {l : List Int} : ∀ m, (∀ i k, m ≤ i → l[i]? = some k → k ∉ l.take i) → (l.take m).Nodup → l.Nodup := by
  intro m h hm
  have key : ∀ j, m ≤ j → (l.take j).Nodup := by
    intro j hj
    induction j with
    | zero => simp
    | succ j ih =>
      by_cases hmj : m = j + 1
      · rw [← hmj]; exact hm
      · rw [List.take_add_one]
        cases hk : l[j]? with
        | none => simpa [hk] using ih (by omega)
        | some k => exact nodup_snoc (ih (by omega)) (h j k (by omega) hk)
  have := key (max m l.length) (Nat.le_max_left _ _)
  rwa [List.take_of_length_le (Nat.le_max_right _ _)] at this
/-- the first order of all is the greedy one -/
theorem least_greedy {has wants : List (List Cell)} : ∀ (f : Nat) (out : List Int), out.Nodup → out.length + f = has.length → leastF has wants f out = greedyF has wants f out
  | 0, _, _, _ => rfl
  | f + 1, out, hn, hl => by
    cases hg : greedyF has wants (f + 1) out with
    | none =>
      cases hf : leastF has wants (f + 1) out with
      | none => rfl
      | some l =>
        exfalso
        obtain ⟨s, h1, h2, h3⟩ := greedy_stuck (f + 1) out hg
        obtain ⟨g1, g2, g3⟩ := least_law (f + 1) out l hf
        have hnd : l.Nodup := nodup_of_law out.length (fun i k hi hk => (g3 i k hi hk).2.2.1) (by rw [g2]; exact hn)
        obtain ⟨i, x, q1, q2, q3, q4⟩ := first_out s l out.length (fun i hi x hx => by
          have : (l.take out.length)[i]? = some x := by rw [List.getElem?_take, if_pos hi]; exact hx
          rw [g2] at this
          exact h1 x (List.mem_of_getElem? this)) (fun hall => by
          have := nodup_le l s hnd hall
          omega)
        obtain ⟨k0, k1, k2, k3⟩ := g3 i x q1 q2
        have h4 := h3 x.toNat (by omega) (by rw [show ((x.toNat : Nat) : Int) = x by omega]; exact q3)
        rw [show ((x.toNat : Nat) : Int) = x by omega] at h4
        rw [freeF_mono k3 q4] at h4
        cases h4
    | some l =>
      unfold greedyF at hg
      split at hg
      · cases hg
      · rename_i hp
        have hpl := pickF_law (has := has) (wants := wants) (out := out) (n := has.length) (by omega)
        obtain ⟨p, hpe⟩ : ∃ p : Nat, pickF has wants out has.length = (p : Int) := ⟨_, (Int.toNat_of_nonneg (show 0 ≤ pickF has wants out has.length by omega)).symm⟩
        rw [hpe] at hg hpl
        rw [Int.toNat_natCast] at hpl
        have ih := least_greedy (has := has) (wants := wants) f (out ++ [(p : Int)]) (nodup_snoc hn hpl.2.1) (by rw [List.length_append]; simp; omega)
        rw [hg] at ih
        have hlow : ∀ (n : Nat), pickF has wants out n = (p : Int) → ∀ i, i < n → i < p → (i : Int) ∉ out → freeF has (wants.getD i []) i out = false := by
          intro n
          induction n with
          | zero => intro h; have : (-1 : Int) = p := h; omega
          | succ n ihn =>
            intro h i hi hip hno
            by_cases hc : pickF has wants out n < 0 ∧ (n : Int) ∉ out ∧ freeF has (wants.getD n []) n out = true
            · rw [pickF, if_pos hc] at h
              exact pickF_neg hc.1 i (by omega) hno
            · rw [pickF, if_neg hc] at h
              have := (pickF_law (has := has) (wants := wants) (out := out) (n := n) (by omega)).1
              exact ihn h i (by omega) hip hno
        unfold leastF
        have hps : p < has.length := by omega
        have hsplit : List.range has.length = List.range p ++ p :: (List.range (has.length - p - 1)).map (fun j => p + 1 + j) := by
          apply List.ext_getElem?
          intro j
          rcases Nat.lt_or_ge j p with h1 | h1
          · rw [List.getElem?_append_left (by simpa using h1), List.getElem?_range (show j < has.length by omega), List.getElem?_range h1]
          · rw [List.getElem?_append_right (by simpa using h1), List.length_range]
            rcases Nat.eq_zero_or_pos (j - p) with h2 | h2
            · rw [h2, show j = p by omega, List.getElem?_range hps]; rfl
            · obtain ⟨q, hq⟩ : ∃ q, j - p = q + 1 := ⟨j - p - 1, by omega⟩
              rw [hq, List.getElem?_cons_succ, List.getElem?_map]
              rcases Nat.lt_or_ge j has.length with h3 | h3
              · rw [List.getElem?_range h3, List.getElem?_range (show q < has.length - p - 1 by omega)]
                simp; omega
              · rw [List.getElem?_eq_none (by simpa using h3), List.getElem?_eq_none (by simp; omega)]; rfl
        rw [hsplit, List.findSome?_append]
        have hno : (List.range p).findSome? (fun (i : Nat) => if (i : Int) ∉ out ∧ freeF has (wants.getD i []) i out = true then leastF has wants f (out ++ [(i : Int)]) else none) = none := by
          rw [List.findSome?_eq_none_iff]
          intro i hi
          rw [if_neg]
          rintro ⟨h1, h2⟩
          have hip : i < p := by simpa using hi
          rw [hlow has.length hpe i (Nat.lt_trans hip hps) hip h1] at h2
          cases h2
        rw [hno, Option.none_or, List.findSome?_cons, if_pos hpl.2, ih]
end Go.Proofs.Ytambngbkegnghaa
