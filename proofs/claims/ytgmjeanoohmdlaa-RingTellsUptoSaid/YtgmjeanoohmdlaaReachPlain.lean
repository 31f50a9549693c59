/- Which nodes a graph's steps reach, as plain data: the invariant of ring.steps. No condition but those typed. -/
import Derived.Test.YtgmjeanoohmdlaaRingA
namespace Go.Proofs.Ytgmjeanoohmdlaa
set_option linter.unusedVariables false

/-- an edge; what is reached by at least one step -/
def Ed (rs : List (List Int)) (i k : Nat) : Prop := ∃ r, rs[i]? = some r ∧ (k : Int) ∈ r
inductive Reach (rs : List (List Int)) (a : Nat) : Nat → Prop
  | one {k : Nat} : Ed rs a k → Reach rs a k
  | more {j k : Nat} : Reach rs a j → Ed rs j k → Reach rs a k
structure StInv (rs : List (List Int)) (a : Nat) (sl : List Bool) (td : List Int) : Prop where
  len : sl.length = rs.length
  todo : ∀ x ∈ td, 0 ≤ x ∧ x < (rs.length : Int) ∧ Reach rs a x.toNat
  seen : ∀ k, sl[k]? = some true → Reach rs a k
  first : ∀ k, Ed rs a k → sl[k]? = some true ∨ (k : Int) ∈ td
  closed : ∀ j k, sl[j]? = some true → Ed rs j k → sl[k]? = some true ∨ (k : Int) ∈ td
theorem StInv.start {rs : List (List Int)} {a : Nat} {r : List Int} (hr : rs[a]? = some r) (hg : ∀ x ∈ r, 0 ≤ x ∧ x < (rs.length : Int)) : StInv rs a (List.replicate rs.length false) r where
  len := by simp
  todo x hx := ⟨(hg x hx).1, (hg x hx).2, .one ⟨r, hr, by rw [Int.toNat_of_nonneg (hg x hx).1]; exact hx⟩⟩
  seen k h := by
    rw [List.getElem?_replicate] at h
    split at h <;> simp at h
  first k h := by
    obtain ⟨r', h1, h2⟩ := h
    rw [hr] at h1
    injection h1 with h1
    subst h1
    exact .inr h2
  closed j k h := by
    rw [List.getElem?_replicate] at h
    split at h <;> simp at h
theorem StInv.skip {rs : List (List Int)} {a : Nat} {sl : List Bool} {x : Int} {td : List Int} (h : StInv rs a sl (x :: td)) (hx : sl[x.toNat]? = some true) : StInv rs a sl td where
  len := h.len
  todo y hy := h.todo y (by simp [hy])
  seen := h.seen
  first k hk := by
    rcases h.first k hk with h1 | h1
    · exact .inl h1
    · rcases List.mem_cons.1 h1 with h2 | h2
      · left; rw [← h2] at hx; simpa using hx
      · exact .inr h2
  closed j k hj hk := by
    rcases h.closed j k hj hk with h1 | h1
    · exact .inl h1
    · rcases List.mem_cons.1 h1 with h2 | h2
      · left; rw [← h2] at hx; simpa using hx
      · exact .inr h2
theorem StInv.take {rs : List (List Int)} {a : Nat} {sl : List Bool} {x : Int} {td r : List Int} (h : StInv rs a sl (x :: td)) (hr : rs[x.toNat]? = some r) (hg : ∀ y ∈ r, 0 ≤ y ∧ y < (rs.length : Int)) : StInv rs a (sl.set x.toNat true) (td ++ r) := by
  have hx := h.todo x (by simp)
  have hxl : x.toNat < sl.length := by rw [h.len]; omega
  have hset : ∀ k, (sl.set x.toNat true)[k]? = some true ↔ k = x.toNat ∨ sl[k]? = some true := by
    intro k
    rw [List.getElem?_set]
    by_cases hk : x.toNat = k
    · subst hk; simp [hxl]
    · rw [if_neg hk]; constructor
      · exact .inr
      · rintro (h1 | h1)
        · exact absurd h1.symm hk
        · exact h1
  refine ⟨by rw [List.length_set]; exact h.len, fun y hy => ?_, fun k hk => ?_, fun k hk => ?_, fun j k hj hk => ?_⟩
  · rcases List.mem_append.1 hy with hy | hy
    · exact h.todo y (by simp [hy])
    · exact ⟨(hg y hy).1, (hg y hy).2, .more hx.2.2 ⟨r, hr, by rw [Int.toNat_of_nonneg (hg y hy).1]; exact hy⟩⟩
  · rcases (hset k).1 hk with rfl | hk
    · exact hx.2.2
    · exact h.seen k hk
  · rcases h.first k hk with h1 | h1
    · exact .inl ((hset k).2 (.inr h1))
    · rcases List.mem_cons.1 h1 with h2 | h2
      · exact .inl ((hset k).2 (.inl (by rw [← h2]; simp)))
      · exact .inr (List.mem_append_left _ h2)
  · rcases (hset j).1 hj with rfl | hj
    · obtain ⟨r', h1, h2⟩ := hk
      rw [hr] at h1
      injection h1 with h1
      subst h1
      exact .inr (List.mem_append_right _ h2)
    · rcases h.closed j k hj hk with h1 | h1
      · exact .inl ((hset k).2 (.inr h1))
      · rcases List.mem_cons.1 h1 with h2 | h2
        · exact .inl ((hset k).2 (.inl (by rw [← h2]; simp)))
        · exact .inr (List.mem_append_left _ h2)
theorem StInv.done {rs : List (List Int)} {a : Nat} {sl : List Bool} (h : StInv rs a sl []) (k : Nat) : sl[k]? = some true ↔ Reach rs a k := by
  refine ⟨h.seen k, fun hk => ?_⟩
  induction hk with
  | one h1 => rcases h.first _ h1 with h2 | h2
              · exact h2
              · simp at h2
  | more _ h1 ih => rcases h.closed _ _ ih h1 with h2 | h2
                    · exact h2
                    · simp at h2
/-- how many may still be laid into the list -/
def mu : List (List Int) → List Bool → Nat
  | r :: rs, b :: sl => (if b = true then 0 else r.length) + mu rs sl
  | _, _ => 0
theorem mu_set : ∀ (rs : List (List Int)) (sl : List Bool) (k : Nat) (r : List Int), sl[k]? = some false → rs[k]? = some r → mu rs (sl.set k true) + r.length = mu rs sl
  | [], _, k, r, _, h => by simp at h
  | _ :: _, [], k, r, h, _ => by simp at h
  | r0 :: rs, b :: sl, 0, r, h, h' => by
    simp at h h'
    subst h h'
    simp [mu]; omega
  | r0 :: rs, b :: sl, k + 1, r, h, h' => by
    simp only [List.getElem?_cons_succ] at h h'
    have := mu_set rs sl k r h h'
    simp only [List.set_cons_succ, mu]
    omega
theorem mu_le : ∀ (rs : List (List Int)) (sl : List Bool), mu rs sl ≤ rs.flatten.length
  | [], sl => by simp [mu]
  | r :: rs, [] => by simp [mu]
  | r :: rs, b :: sl => by
    have := mu_le rs sl
    simp only [mu, List.flatten_cons, List.length_append]
    split <;> omega
end Go.Proofs.Ytgmjeanoohmdlaa
