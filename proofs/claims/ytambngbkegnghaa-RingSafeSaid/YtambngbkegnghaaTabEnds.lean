/- When all give everything back, again and again, nobody waits any more: as plain data. Conditions: those typed. -/
import Derived.Test.YtambngbkegnghaaTabInv
namespace Go.Proofs.Ytambngbkegnghaa
open Go.RowKit Go.Gy
set_option linter.unusedVariables false
theorem serveF_shrink : ∀ (f : Nat) (st : Tab) (i : Nat), (serveF f st i).2.length ≤ st.2.length ∧ ((serveF f st i).2.length = st.2.length → serveF f st i = st)
  | 0, _, _ => ⟨Nat.le_refl _, fun _ => rfl⟩
  | f + 1, st, i => by
    unfold serveF
    split
    · exact ⟨Nat.le_refl _, fun _ => rfl⟩
    · rename_i y hy
      have hi := (List.getElem?_eq_some_iff.1 hy).1
      split
      · have h1 : (st.2.eraseIdx i).length = st.2.length - 1 := by rw [List.length_eraseIdx, if_pos hi]
        have h2 := (serveF_shrink f (st.1.set y.1.toNat (joinC (st.1.getD y.1.toNat []) y.2), st.2.eraseIdx i) 0).1
        simp only [h1] at h2
        exact ⟨by omega, fun h => by omega⟩
      · exact serveF_shrink f st (i + 1)
/-- an arm that does not wait gives everything back -/
def dropF (st : Tab) (i : Nat) : Tab := if atF st i < 0 then (doneF st i (st.1.getD i [])).2 else st
theorem minus_self (l : List Cell) : minusC l l = [] := by
  rw [List.eq_nil_iff_forall_not_mem]
  intro x hx
  obtain ⟨h1, h2⟩ := mem_minus.1 hx
  exact h2 h1
theorem within_self (l : List Cell) : withinC l l = true := by
  rw [withinC, List.all_eq_true]
  intro x hx
  exact decide_eq_true hx
theorem Fit.cells {st : Tab} (h : Fit st) (i : Nat) : cellsF (st.1.getD i []) = 0 := by
  rcases Nat.lt_or_ge i st.1.length with h1 | h1
  · exact h.has _ (getD_mem h1)
  · rw [List.getD_eq_getElem?_getD, List.getElem?_eq_none h1]; rfl
theorem doneF_own {st : Tab} (h : Fit st) {i : Nat} (hi : i < st.1.length) : doneF st i (st.1.getD i []) = (0, serveF 40 (st.1.set i [], st.2) 0) := by
  unfold doneF
  rw [if_neg (by omega), Int.toNat_natCast, h.cells i, if_neg (by simp), within_self, if_neg (by simp), minus_self]
theorem Safe.drop {st : Tab} (h : Safe st ∧ Must st) (i : Nat) : Safe (dropF st i) ∧ Must (dropF st i) := by
  unfold dropF
  split
  · exact h.1.done h.2 _ _
  · exact h
theorem dropF_len (st : Tab) (i : Nat) : (dropF st i).1.length = st.1.length := by
  unfold dropF
  split
  · exact doneF_len _ _ _
  · rfl
def roundF (st : Tab) : Nat → Tab
  | 0 => st
  | k + 1 => dropF (roundF st k) k
def endsF (st : Tab) : Nat → Tab
  | 0 => st
  | r + 1 => roundF (endsF st r) st.1.length
theorem Safe.round {st : Tab} (h : Safe st ∧ Must st) : ∀ k, Safe (roundF st k) ∧ Must (roundF st k)
  | 0 => h
  | k + 1 => Safe.drop (Safe.round h k) k
theorem roundF_len (st : Tab) : ∀ k, (roundF st k).1.length = st.1.length
  | 0 => rfl
  | k + 1 => (dropF_len _ _).trans (roundF_len st k)
theorem atF_same {st st' : Tab} (h : st'.2 = st.2) (a : Int) : atF st' a = atF st a := by unfold atF; rw [h]
theorem roundF_shrink {st : Tab} (h : Safe st ∧ Must st) : ∀ k, k ≤ st.1.length → (roundF st k).2.length ≤ st.2.length ∧ ((roundF st k).2.length = st.2.length → (roundF st k).2 = st.2 ∧ ∀ j, (roundF st k).1.getD j [] = if j < k ∧ atF st j < 0 then [] else st.1.getD j [])
  | 0, _ => ⟨Nat.le_refl _, fun _ => ⟨rfl, fun j => by simp [roundF]⟩⟩
  | k + 1, hk => by
    obtain ⟨h1, h2⟩ := roundF_shrink h k (by omega)
    have hs := Safe.round h k
    have hl := roundF_len st k
    show (dropF (roundF st k) k).2.length ≤ _ ∧ ((dropF (roundF st k) k).2.length = _ → (dropF (roundF st k) k).2 = _ ∧ ∀ j, (dropF (roundF st k) k).1.getD j [] = _)
    obtain ⟨s, hs'⟩ : ∃ s, s = roundF st k := ⟨_, rfl⟩
    rw [← hs'] at h1 h2 hs hl ⊢
    unfold dropF
    split
    · rename_i ha
      rw [doneF_own hs.1.fit (by omega)]
      have h3 := serveF_shrink 40 (s.1.set k [], s.2) 0
      simp only at h3
      refine ⟨by show (serveF 40 (s.1.set k [], s.2) 0).2.length ≤ _; omega, fun he => ?_⟩
      have h4 := h3.2 (by simp only at he; omega)
      simp only [h4]
      obtain ⟨h5, h6⟩ := h2 (by simp only at he; omega)
      refine ⟨h5, fun j => ?_⟩
      rw [atF_same h5] at ha
      rw [getD_set, h6]
      by_cases hj : k = j
      · subst hj
        rw [if_pos ⟨rfl, by omega⟩, if_pos ⟨by omega, ha⟩]
      · rw [if_neg (fun h' => hj h'.1)]
        by_cases hjk : j < k
        · simp [hjk, show j < k + 1 by omega]
        · rw [if_neg (fun h' => hjk h'.1), if_neg (fun h' => by omega)]
    · rename_i ha
      refine ⟨h1, fun he => ?_⟩
      obtain ⟨h5, h6⟩ := h2 he
      refine ⟨h5, fun j => ?_⟩
      rw [atF_same h5] at ha
      rw [h6]
      by_cases hj : k = j
      · subst hj
        rw [if_neg (fun h' => by omega), if_neg (fun h' => ha h'.2)]
      · by_cases hjk : j < k
        · simp [hjk, show j < k + 1 by omega]
        · rw [if_neg (fun h' => hjk h'.1), if_neg (fun h' => by omega)]
theorem least_rank (rk : Int → Nat) : ∀ l : List (Int × List Cell), l ≠ [] → ∃ y ∈ l, ∀ z ∈ l, rk y.1 ≤ rk z.1
  | [], h => absurd rfl h
  | [a], _ => ⟨a, by simp, fun z hz => by simp at hz; subst hz; exact Nat.le_refl _⟩
  | a :: b :: l, _ => by
    obtain ⟨y, hy, h⟩ := least_rank rk (b :: l) (by simp)
    by_cases hle : rk a.1 ≤ rk y.1
    · refine ⟨a, by simp, fun z hz => ?_⟩
      rcases List.mem_cons.1 hz with rfl | hz
      · exact Nat.le_refl _
      · have := h z hz; omega
    · refine ⟨y, List.mem_cons_of_mem _ hy, fun z hz => ?_⟩
      rcases List.mem_cons.1 hz with rfl | hz
      · omega
      · exact h z hz
theorem roundF_less {st : Tab} (h : Safe st ∧ Must st) (hne : st.2 ≠ []) : (roundF st st.1.length).2.length < st.2.length := by
  obtain ⟨h1, h2⟩ := roundF_shrink h st.1.length (Nat.le_refl _)
  rcases Nat.lt_or_ge (roundF st st.1.length).2.length st.2.length with h3 | h3
  · exact h3
  obtain ⟨h4, h5⟩ := h2 (by omega)
  exfalso
  obtain ⟨rk, hrk⟩ := h.1.rank
  obtain ⟨y, hy, hmin⟩ := least_rank rk st.2 hne
  obtain ⟨i, hi⟩ := List.getElem?_of_mem hy
  have hM := (Safe.round h st.1.length).2 i y (by rw [h4]; exact hi)
  refine hM (nil_iff.2 fun m hm => ?_)
  have hw : ∀ a, 0 ≤ atF st a → rk y.1 ≤ rk a := fun a ha => by
    rcases atF_cases st a with ⟨e, _⟩ | ⟨j, z, _, _, hz, e⟩
    · omega
    · rw [← e]; exact hmin z (List.mem_of_getElem? hz)
  obtain ⟨g1, ⟨a, g2, g3, g4⟩ | ⟨a, u, g2, g3, g4, g5⟩⟩ := blockF_iff.1 hm
  · rw [h5] at g4
    have hlt := meets_lt (l := st.1) (i := a) (b := y.2)
    split at g4
    · obtain ⟨x, hx, _⟩ := meets_iff.1 g4
      simp at hx
    · rename_i hc
      have ha := hlt g4
      have hge : 0 ≤ atF st a := by
        rcases Int.lt_or_le (atF st (a : Int)) 0 with h6 | h6
        · exact absurd ⟨ha, h6⟩ hc
        · exact h6
      have := hrk i y hi m (blockF_iff.2 ⟨g1, .inl ⟨a, ha, g3, g4⟩⟩)
      have := hw a hge
      rw [← g3] at this
      omega
  · rw [h4] at g3
    have := hrk i y hi m (blockF_iff.2 ⟨g1, .inr ⟨a, u, g2, g3, g4, g5⟩⟩)
    have := hmin u (List.mem_of_getElem? g3)
    rw [g4] at this
    omega
theorem endsF_len (st : Tab) : ∀ r, (endsF st r).1.length = st.1.length
  | 0 => rfl
  | r + 1 => by
    show (roundF (endsF st r) st.1.length).1.length = _
    rw [roundF_len, endsF_len st r]
theorem Safe.ends {st : Tab} (h : Safe st ∧ Must st) : ∀ r, Safe (endsF st r) ∧ Must (endsF st r)
  | 0 => h
  | r + 1 => Safe.round (Safe.ends h r) _
theorem endsF_waits {st : Tab} (h : Safe st ∧ Must st) : ∀ r, (endsF st r).2.length ≤ st.2.length - r
  | 0 => Nat.le_refl _
  | r + 1 => by
    have ih := endsF_waits h r
    have hs := Safe.ends h r
    have hl := endsF_len st r
    show (roundF (endsF st r) st.1.length).2.length ≤ _
    obtain ⟨s, hs'⟩ : ∃ s, s = endsF st r := ⟨_, rfl⟩
    rw [← hs'] at ih hs hl ⊢
    rw [← hl]
    by_cases hne : s.2 = []
    · have h1 := (roundF_shrink hs s.1.length (Nat.le_refl _)).1
      rw [hne] at h1
      simp at h1 ⊢
      simp [h1]
    · have h1 := roundF_less hs hne
      have : 0 < s.2.length := List.length_pos_iff.2 hne
      omega
/-- the end: nobody waits, and nothing is leased -/
theorem ends_law {st : Tab} (h : Safe st ∧ Must st) : (endsF st (st.1.length + 1)).2 = [] ∧ ∀ j, (endsF st (st.1.length + 1)).1.getD j [] = [] := by
  have h0 := endsF_waits h st.1.length
  have hf := h.1.fit.few
  have hs := Safe.ends h st.1.length
  have hl := endsF_len st st.1.length
  have hz : (endsF st st.1.length).2 = [] := List.eq_nil_of_length_eq_zero (by omega)
  show (roundF (endsF st st.1.length) st.1.length).2 = [] ∧ ∀ j, (roundF (endsF st st.1.length) st.1.length).1.getD j [] = []
  obtain ⟨s, hs'⟩ : ∃ s, s = endsF st st.1.length := ⟨_, rfl⟩
  rw [← hs'] at hs hl hz ⊢
  rw [← hl]
  obtain ⟨h1, h2⟩ := roundF_shrink hs s.1.length (Nat.le_refl _)
  rw [hz] at h1 h2
  have h3 : (roundF s s.1.length).2.length = 0 := by simpa using h1
  obtain ⟨h4, h5⟩ := h2 h3
  refine ⟨h4, fun j => ?_⟩
  rw [h5]
  have ha : atF s j < 0 := by unfold atF; rw [hz]; exact (by decide : (-1 : Int) < 0)
  split
  · rfl
  · rename_i hc
    rw [List.getD_eq_getElem?_getD, List.getElem?_eq_none (by
      rcases Nat.lt_or_ge j s.1.length with h6 | h6
      · exact absurd ⟨h6, ha⟩ hc
      · exact h6)]
    rfl
end Go.Proofs.Ytambngbkegnghaa
