/- Orders in a graph without rings, as plain data. No condition but those typed. -/
import Derived.Test.YtgmjeanoohmdlaaFind
namespace Go.Proofs.Ytgmjeanoohmdlaa
set_option linter.unusedVariables false
def okB (rs : List (List Int)) (out : List Int) (i : Nat) : Bool := !decide ((i : Int) ∈ out) && !((rs.getD i []).any fun k => !decide (k ∈ out))
def nextI (rs : List (List Int)) (out : List Int) : Int := match (List.range rs.length).find? (okB rs out) with
  | some i => (i : Int)
  | none => -1
def orderN (rs : List (List Int)) : Nat → List Int
  | 0 => []
  | m + 1 => orderN rs m ++ [nextI rs (orderN rs m)]
theorem orderN_len (rs : List (List Int)) : ∀ m, (orderN rs m).length = m
  | 0 => rfl
  | m + 1 => by simp [orderN, orderN_len rs m]
theorem orderN_take (rs : List (List Int)) : ∀ (m i : Nat), i ≤ m → (orderN rs m).take i = orderN rs i
  | 0, i, h => by have : i = 0 := by omega
                  subst this; rfl
  | m + 1, i, h => by
    by_cases hi : i = m + 1
    · subst hi; rw [List.take_of_length_le (by rw [orderN_len]; omega)]
    · simp only [orderN]
      rw [List.take_append_of_le_length (by rw [orderN_len]; omega)]
      exact orderN_take rs m i (by omega)
theorem filter_lt {α : Type} (p q : α → Bool) (h : ∀ x, p x = true → q x = true) : ∀ (l : List α) (a : α), a ∈ l → q a = true → p a = false → (l.filter p).length < (l.filter q).length
  | [], a, ha, _, _ => by cases ha
  | x :: l, a, ha, hq, hp => by
    have hle : (l.filter p).length ≤ (l.filter q).length := by
      clear ha
      induction l with
      | nil => simp
      | cons y l ih =>
        simp only [List.filter_cons]
        by_cases h1 : p y = true
        · rw [if_pos h1, if_pos (h y h1)]; simpa using ih
        · rw [if_neg h1]
          by_cases h2 : q y = true
          · rw [if_pos h2]; simp; omega
          · rw [if_neg h2]; exact ih
    simp only [List.filter_cons]
    rcases List.mem_cons.1 ha with rfl | ha
    · rw [if_neg (by rw [hp]; simp), if_pos hq]; simp; omega
    · have ih := filter_lt p q h l a ha hq hp
      by_cases h1 : p x = true
      · rw [if_pos h1, if_pos (h x h1)]; simpa using ih
      · rw [if_neg h1]
        by_cases h2 : q x = true
        · rw [if_pos h2]; simp; omega
        · rw [if_neg h2]; exact ih
theorem nodup_sub {α : Type} [DecidableEq α] : ∀ (l m : List α), l.Nodup → (∀ x ∈ l, x ∈ m) → l.length ≤ m.length
  | [], m, _, _ => by simp
  | x :: l, m, hn, h => by
    rw [List.nodup_cons] at hn
    have h1 := nodup_sub l (m.erase x) hn.2 (fun y hy => (List.mem_erase_of_ne (by rintro rfl; exact hn.1 hy)).2 (h y (by simp [hy])))
    have hx := h x (by simp)
    rw [List.length_erase_of_mem hx] at h1
    have := List.length_pos_of_mem hx
    simp; omega
open Classical in
theorem next_any {rs : List (List Int)} (hg : GoodG rs) (hac : ∀ i, ¬ Reach rs i i) (out : List Int) (i : Nat) (hi : i < rs.length) (hni : (i : Int) ∉ out) : ∃ j, j < rs.length ∧ okB rs out j = true := by
  have hall : ∀ (c i : Nat), ((List.range rs.length).filter fun k => decide (Reach rs i k)).length ≤ c → i < rs.length → (i : Int) ∉ out → ∃ j, j < rs.length ∧ okB rs out j = true := by
    intro c
    induction c with
    | zero =>
      intro i h1 hi hni
      by_cases hok : okB rs out i = true
      · exact ⟨i, hi, hok⟩
      · have hr : rs[i]? = some (rs[i]) := List.getElem?_eq_getElem hi
        simp only [okB, List.getD_eq_getElem?_getD, hr, Option.getD_some, hni, decide_false, Bool.not_false, Bool.true_and, Bool.not_eq_true', Bool.not_eq_false, List.any_eq_true] at hok
        obtain ⟨k, hk, _⟩ := hok
        have hb := hg.ok _ (List.mem_of_getElem? hr) k hk
        have hm : k.toNat ∈ (List.range rs.length).filter fun k => decide (Reach rs i k) := by
          rw [List.mem_filter]
          refine ⟨List.mem_range.2 (by omega), ?_⟩
          rw [decide_eq_true_eq]
          exact .one ⟨_, hr, by rw [Int.toNat_of_nonneg hb.1]; exact hk⟩
        have := List.length_pos_of_mem hm
        omega
    | succ c ih =>
      intro i h1 hi hni
      by_cases hok : okB rs out i = true
      · exact ⟨i, hi, hok⟩
      · have hr : rs[i]? = some (rs[i]) := List.getElem?_eq_getElem hi
        simp only [okB, List.getD_eq_getElem?_getD, hr, Option.getD_some, hni, decide_false, Bool.not_false, Bool.true_and, Bool.not_eq_true', Bool.not_eq_false, List.any_eq_true] at hok
        obtain ⟨k, hk, hko⟩ := hok
        have hko : k ∉ out := by simpa using hko
        have hb := hg.ok _ (List.mem_of_getElem? hr) k hk
        have hed : Ed rs i k.toNat := ⟨_, hr, by rw [Int.toNat_of_nonneg hb.1]; exact hk⟩
        refine ih k.toNat ?_ (by omega) (by rw [Int.toNat_of_nonneg hb.1]; exact hko)
        have := filter_lt (fun x => decide (Reach rs k.toNat x)) (fun x => decide (Reach rs i x)) (fun x hx => by
          rw [decide_eq_true_eq] at hx ⊢
          exact Reach.pre hed hx) (List.range rs.length) k.toNat (List.mem_range.2 (by omega)) (by rw [decide_eq_true_eq]; exact .one hed) (by rw [decide_eq_false_iff_not]; exact hac _)
        omega
  exact hall _ i (Nat.le_refl _) hi hni
structure OrdInv (rs : List (List Int)) (out : List Int) : Prop where
  nodup : out.Nodup
  range : ∀ x ∈ out, 0 ≤ x ∧ x < (rs.length : Int)
theorem next_ok {rs : List (List Int)} (hg : GoodG rs) (hac : ∀ i, ¬ Reach rs i i) {out : List Int} (ho : OrdInv rs out) (hl : out.length < rs.length) :
    ∃ i : Nat, i < rs.length ∧ nextI rs out = (i : Int) ∧ okB rs out i = true ∧ ∀ j, j < i → okB rs out j = false := by
  have hex : ∃ i, i < rs.length ∧ (i : Int) ∉ out := by
    apply Classical.byContradiction
    intro hno
    have hall : ∀ i, i < rs.length → (i : Int) ∈ out := fun i hi => Classical.byContradiction fun h => hno ⟨i, hi, h⟩
    have := nodup_sub ((List.range rs.length).map fun (i : Nat) => (i : Int)) out (by
      rw [List.nodup_iff_pairwise_ne, List.pairwise_map]
      have := (List.nodup_iff_pairwise_ne).1 (List.nodup_range (n := rs.length))
      exact this.imp fun h h2 => h (by omega)) (fun x hx => by
      obtain ⟨i, hi, rfl⟩ := List.mem_map.1 hx
      exact hall i (List.mem_range.1 hi))
    simp at this
    omega
  obtain ⟨i, hi, hni⟩ := hex
  obtain ⟨j, hj, hok⟩ := next_any hg hac out i hi hni
  have hsome : ((List.range rs.length).find? (okB rs out)).isSome = true := by
    rw [List.find?_isSome]
    exact ⟨j, List.mem_range.2 hj, hok⟩
  obtain ⟨q, hq⟩ := Option.isSome_iff_exists.1 hsome
  have h1 := List.find?_eq_some_iff_getElem.1 hq
  obtain ⟨h2, t, ht, h3, h4⟩ := h1
  rw [List.length_range] at ht
  rw [List.getElem_range] at h3
  subst h3
  refine ⟨t, ht, by simp [nextI, hq], h2, fun j hj => ?_⟩
  have := h4 j hj
  rw [List.getElem_range] at this
  simpa using this
theorem OrdInv.next {rs : List (List Int)} (hg : GoodG rs) (hac : ∀ i, ¬ Reach rs i i) {out : List Int} (ho : OrdInv rs out) (hl : out.length < rs.length) : OrdInv rs (out ++ [nextI rs out]) := by
  obtain ⟨i, hi, he, hok, _⟩ := next_ok hg hac ho hl
  rw [he]
  have hni : (i : Int) ∉ out := by
    simp only [okB, Bool.and_eq_true, Bool.not_eq_true', decide_eq_false_iff_not] at hok
    exact hok.1
  refine ⟨?_, fun x hx => ?_⟩
  · rw [List.nodup_append]
    refine ⟨ho.nodup, by simp, fun a ha b hb => ?_⟩
    simp at hb; subst hb
    rintro rfl; exact hni ha
  · rcases List.mem_append.1 hx with hx | hx
    · exact ho.range x hx
    · simp at hx; subst hx; omega
theorem orderN_inv {rs : List (List Int)} (hg : GoodG rs) (hac : ∀ i, ¬ Reach rs i i) : ∀ m, m ≤ rs.length → OrdInv rs (orderN rs m)
  | 0, _ => ⟨by simp [orderN], by simp [orderN]⟩
  | m + 1, h => (orderN_inv hg hac m (by omega)).next hg hac (by rw [orderN_len]; omega)
theorem orderN_at (rs : List (List Int)) {n m : Nat} (h : m < n) : (orderN rs n)[m]? = some (nextI rs (orderN rs m)) := by
  have h1 : ((orderN rs n).take (m + 1))[m]? = (orderN rs n)[m]? := by rw [List.getElem?_take, if_pos (by omega)]
  rw [← h1, orderN_take rs n (m + 1) (by omega)]
  simp only [orderN]
  rw [List.getElem?_append_right (by rw [orderN_len]; omega), orderN_len, Nat.sub_self]
  rfl
end Go.Proofs.Ytgmjeanoohmdlaa
