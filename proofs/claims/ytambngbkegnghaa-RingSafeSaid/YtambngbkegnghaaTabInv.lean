/- What stays true of a table of leases: no cell is leased twice, each arm that waits must, nobody waits in a ring. Conditions: those typed. -/
import Derived.Test.YtambngbkegnghaaTabPlain
namespace Go.Proofs.Ytambngbkegnghaa
open Go.RowKit Go.Gy
set_option linter.unusedVariables false
/-- an arm waits only for arms of less rank -/
def Ranked (rk : Int → Nat) (st : Tab) : Prop := ∀ (i : Nat) y, st.2[i]? = some y → ∀ m ∈ blockF st y.1 y.2 i, rk m < rk y.1
structure Safe (st : Tab) : Prop where
  fit : Fit st
  apart : ∀ i j : Nat, i ≠ j → ∀ x ∈ st.1.getD i [], x ∉ st.1.getD j []
  own : ∀ y ∈ st.2, ∀ x ∈ y.2, x ∉ st.1.getD y.1.toNat []
  ne : ∀ y ∈ st.2, y.2 ≠ []
  rank : ∃ rk, Ranked rk st
def Must (st : Tab) : Prop := ∀ (i : Nat) y, st.2[i]? = some y → blockF st y.1 y.2 i ≠ []
theorem meets_sub {a a' b : List Cell} (h : ∀ x ∈ a', x ∈ a) (hm : meets a' b = true) : meets a b = true := by
  obtain ⟨x, h1, h2⟩ := meets_iff.1 hm
  exact meets_iff.2 ⟨x, h x h1, h2⟩
theorem meets_comm {a b : List Cell} : meets a b = true ↔ meets b a = true := by
  rw [meets_iff, meets_iff]
  exact ⟨fun ⟨x, h1, h2⟩ => ⟨x, h2, h1⟩, fun ⟨x, h1, h2⟩ => ⟨x, h2, h1⟩⟩
theorem getD_lt {α : Type} {l : List α} {i : Nat} {x : α} {c : List α} (h : x ∈ ([] : List α)) : False := by simp at h
theorem meets_lt {l : List (List Cell)} {i : Nat} {b : List Cell} (h : meets (l.getD i []) b = true) : i < l.length := by
  obtain ⟨x, h1, _⟩ := meets_iff.1 h
  rcases Nat.lt_or_ge i l.length with h2 | h2
  · exact h2
  · rw [List.getD_eq_getElem?_getD, List.getElem?_eq_none h2] at h1
    simp at h1
/-- less is leased: fewer blockers -/
theorem block_less {st : Tab} {has : List (List Cell)} (hl : has.length = st.1.length) (h : ∀ i x, x ∈ has.getD i [] → x ∈ st.1.getD i []) {arm m : Int} {cells : List Cell} {n : Nat} (hm : m ∈ blockF (has, st.2) arm cells n) : m ∈ blockF st arm cells n := by
  obtain ⟨h1, ⟨i, h2, h3, h4⟩ | h2⟩ := blockF_iff.1 hm
  · exact blockF_iff.2 ⟨h1, .inl ⟨i, by rw [← hl]; exact h2, h3, meets_sub (h i) h4⟩⟩
  · exact blockF_iff.2 ⟨h1, .inr h2⟩
theorem Safe.less {st : Tab} (h : Safe st) {a : Nat} {r : List Cell} (hr : SortC r) (hs : ∀ x ∈ r, x ∈ st.1.getD a []) : Safe (st.1.set a r, st.2) := by
  have hsub : ∀ i x, x ∈ (st.1.set a r).getD i [] → x ∈ st.1.getD i [] := fun i x hx => by
    rw [getD_set] at hx
    split at hx
    · rename_i h1
      rw [← h1.1]; exact hs x hx
    · exact hx
  obtain ⟨rk, hrk⟩ := h.rank
  exact ⟨h.fit.less hr hs, fun i j hij x hx hx' => h.apart i j hij x (hsub i x hx) (hsub j x hx'), fun y hy x hx hx' => h.own y hy x hx (hsub _ x hx'), h.ne, rk, fun i y hy m hm => hrk i y hy m (block_less (by simp) hsub hm)⟩
theorem nil_iff {l : List Int} : l = [] ↔ ∀ x, x ∉ l := List.eq_nil_iff_forall_not_mem
theorem Safe.give {st : Tab} (h : Safe st) {i : Nat} {y : Int × List Cell} (hy : st.2[i]? = some y) (hb : blockF st y.1 y.2 i = []) : Safe (st.1.set y.1.toNat (joinC (st.1.getD y.1.toNat []) y.2), st.2.eraseIdx i) := by
  have hn := nil_iff.1 hb
  obtain ⟨k1, k2, k3, k4⟩ := h.fit.wts y (List.mem_of_getElem? hy)
  have hya : y.1.toNat < st.1.length := by omega
  have hy0 : ((y.1.toNat : Nat) : Int) = y.1 := by omega
  have hfree : ∀ j : Nat, j ≠ y.1.toNat → ∀ x ∈ st.1.getD j [], x ∉ y.2 := fun j hj x hx hx' => by
    have hm : meets (st.1.getD j []) y.2 = true := meets_iff.2 ⟨x, hx, hx'⟩
    exact hn j (blockF_iff.2 ⟨by omega, .inl ⟨j, meets_lt hm, rfl, hm⟩⟩)
  obtain ⟨rk, hrk⟩ := h.rank
  refine ⟨h.fit.give hy, fun a b hab x hx hx' => ?_, fun z hz x hx => ?_, fun z hz => h.ne z (List.mem_of_mem_eraseIdx hz), rk, fun j z hz m hm => ?_⟩
  · simp only [getD_set] at hx hx'
    split at hx <;> split at hx'
    · omega
    · rename_i h1 _
      obtain ⟨h1, _⟩ := h1
      rcases mem_join.1 hx with h2 | h2
      · exact h.apart _ b (by omega) x h2 hx'
      · exact hfree b (by omega) x hx' h2
    · rename_i _ h1
      obtain ⟨h1, _⟩ := h1
      rcases mem_join.1 hx' with h2 | h2
      · exact h.apart _ a (by omega) x h2 hx
      · exact hfree a (by omega) x hx h2
    · exact h.apart a b hab x hx hx'
  · obtain ⟨j, hj, hz⟩ := mem_erase hz
    obtain ⟨g1, g2, _⟩ := h.fit.wts z (List.mem_of_getElem? hz)
    have hne := nodup_ne h.fit.dis hz hy hj
    simp only [getD_set]
    rw [if_neg (by omega)]
    exact h.own z (List.mem_of_getElem? hz) x hx
  · have hz0 := hz
    simp only [List.getElem?_eraseIdx] at hz
    obtain ⟨q, hq, hqi, hqj⟩ : ∃ q, st.2[q]? = some z ∧ q ≠ i ∧ ((j < i ∧ q = j) ∨ (i ≤ j ∧ q = j + 1)) := by
      split at hz
      · exact ⟨j, hz, by omega, .inl ⟨by omega, rfl⟩⟩
      · exact ⟨j + 1, hz, by omega, .inr ⟨by omega, rfl⟩⟩
    have hne := nodup_ne h.fit.dis hq hy hqi
    refine hrk q z hq m ?_
    obtain ⟨h1, ⟨a, h2, h3, h4⟩ | ⟨a, u, h2, h3, h4, h5⟩⟩ := blockF_iff.1 hm
    · simp only [getD_set] at h4
      split at h4
      · rename_i h6
        obtain ⟨h6, _⟩ := h6
        obtain ⟨x, hx, hx'⟩ := meets_iff.1 h4
        rcases mem_join.1 hx with h7 | h7
        · have hm : meets (st.1.getD y.1.toNat []) z.2 = true := meets_iff.2 ⟨x, h7, hx'⟩
          exact blockF_iff.2 ⟨h1, .inl ⟨y.1.toNat, hya, by omega, hm⟩⟩
        · rcases hqj with ⟨hj, rfl⟩ | ⟨hj, rfl⟩
          · exact absurd (blockF_iff.2 ⟨hne, .inr ⟨q, z, by omega, hq, rfl, meets_iff.2 ⟨x, hx', h7⟩⟩⟩) (hn z.1)
          · exact blockF_iff.2 ⟨h1, .inr ⟨i, y, by omega, hy, by omega, meets_iff.2 ⟨x, h7, hx'⟩⟩⟩
      · exact blockF_iff.2 ⟨h1, .inl ⟨a, by simpa using h2, h3, h4⟩⟩
    · simp only [List.getElem?_eraseIdx] at h3
      split at h3
      · exact blockF_iff.2 ⟨h1, .inr ⟨a, u, by omega, h3, h4, h5⟩⟩
      · exact blockF_iff.2 ⟨h1, .inr ⟨a + 1, u, by omega, h3, h4, h5⟩⟩
theorem Safe.serve : ∀ (f : Nat) {st : Tab} (i : Nat), Safe st → st.2.length * 6 + (st.2.length - i) < f → st.2.length ≤ 4 → (∀ (j : Nat) y, j < i → st.2[j]? = some y → blockF st y.1 y.2 j ≠ []) → Safe (serveF f st i) ∧ Must (serveF f st i)
  | 0, _, _, _, h, _, _ => by omega
  | f + 1, st, i, h, hf, h4, hm => by
    unfold serveF
    split
    · rename_i hn
      refine ⟨h, fun j y hy => hm j y ?_ hy⟩
      have := (List.getElem?_eq_some_iff.1 hy).1
      have := List.getElem?_eq_none_iff.1 hn
      omega
    · rename_i y hy
      have hi := (List.getElem?_eq_some_iff.1 hy).1
      split
      · rename_i hb
        have : (st.2.eraseIdx i).length = st.2.length - 1 := by rw [List.length_eraseIdx, if_pos hi]
        exact Safe.serve f 0 (h.give hy hb) (by simp only [this]; omega) (by simp only [this]; omega) (fun j y hj => by omega)
      · rename_i hb
        refine Safe.serve f (i + 1) h (by omega) h4 (fun j z hj hz => ?_)
        by_cases hji : j = i
        · subst hji
          rw [hy] at hz
          injection hz with hz
          subst hz; exact hb
        · exact hm j z (by omega) hz
theorem Safe.serve0 {st : Tab} (h : Safe st) : Safe (serveF 40 st 0) ∧ Must (serveF 40 st 0) := by
  have h4 := h.fit.few.1.2.1
  exact h.serve 40 0 (by omega) h4 (fun j y hj => by omega)
theorem Safe.done {st : Tab} (h : Safe st) (hm : Must st) (arm : Int) (cells : List Cell) : Safe (doneF st arm cells).2 ∧ Must (doneF st arm cells).2 := by
  unfold doneF
  split
  · exact ⟨h, hm⟩
  split
  · exact ⟨h, hm⟩
  split
  · exact ⟨h, hm⟩
  · exact (h.less (SortC.filter (sorted_sortC _) _) fun x hx => (mem_minus.1 hx).1).serve0
/-- where the search comes is closed, and the arm isn't there -/
theorem ring_closed {st : Tab} {arm : Int} {others : List Int} (hF : Few st) (ho : others.length ≤ 8) (hr : ringF st arm 200 [] others = false) : ∀ (f : Nat) (seen todo : List Int), RingInv st arm others f seen todo → arm ∉ seen → (∀ k ∈ seen, ∀ m ∈ nextF st k, m ∈ seen ∨ m ∈ todo) →
    ∃ R : List Int, arm ∉ R ∧ (∀ x ∈ seen, x ∈ R) ∧ (∀ x ∈ todo, x ∈ R) ∧ ∀ k ∈ R, ∀ m ∈ nextF st k, m ∈ R
  | 0, _, _, h, _, _ => by have := h.fuel; omega
  | f + 1, seen, [], h, ha, hc => ⟨seen, ha, fun x hx => hx, fun x hx => by simp at hx, fun k hk m hm => by
      rcases hc k hk m hm with h1 | h1
      · exact h1
      · simp at h1⟩
  | f + 1, seen, k :: todo, h, ha, hc => by
    by_cases hk : k = arm
    · subst hk
      rw [h.hit] at hr; cases hr
    by_cases hs : k ∈ seen
    · obtain ⟨R, h1, h2, h3, h4⟩ := ring_closed hF ho hr f seen todo (by simpa using h.skip hk hs) ha (fun q hq m hm => by
        rcases hc q hq m hm with h1 | h1
        · exact .inl h1
        · rcases List.mem_cons.1 h1 with rfl | h1
          · exact .inl hs
          · exact .inr h1)
      refine ⟨R, h1, h2, fun x hx => ?_, h4⟩
      rcases List.mem_cons.1 hx with rfl | hx
      · exact h2 _ hs
      · exact h3 x hx
    · obtain ⟨R, h1, h2, h3, h4⟩ := ring_closed hF ho hr f (seen ++ [k]) (todo ++ nextF st k) (by simpa using h.next hF ho hk hs) (by
        rw [List.mem_append, List.mem_singleton]; rintro (h1 | h1)
        · exact ha h1
        · exact hk h1.symm) (fun q hq m hm => by
        rcases List.mem_append.1 hq with hq | hq
        · rcases hc q hq m hm with h1 | h1
          · exact .inl (List.mem_append_left _ h1)
          · rcases List.mem_cons.1 h1 with rfl | h1
            · exact .inl (List.mem_append_right _ (by simp))
            · exact .inr (List.mem_append_left _ h1)
        · have hq := List.mem_singleton.1 hq
          subst hq
          exact .inr (List.mem_append_right _ hm))
      refine ⟨R, h1, fun x hx => h2 x (List.mem_append_left _ hx), fun x hx => ?_, h4⟩
      rcases List.mem_cons.1 hx with rfl | hx
      · exact h2 _ (List.mem_append_right _ (by simp))
      · exact h3 x (List.mem_append_left _ hx)
theorem atF_some {st : Tab} (hd : (st.2.map Prod.fst).Nodup) {i : Nat} {y : Int × List Cell} (hy : st.2[i]? = some y) : atF st y.1 = i := by
  rcases atF_cases st y.1 with ⟨_, h⟩ | ⟨j, z, h1, h2, h3, h4⟩
  · exact absurd rfl (h y (List.mem_of_getElem? hy))
  · by_cases hij : j = i
    · subst hij; exact h1
    · exact absurd h4 (nodup_ne hd h3 hy hij)
theorem nextF_some {st : Tab} (hd : (st.2.map Prod.fst).Nodup) {i : Nat} {y : Int × List Cell} (hy : st.2[i]? = some y) : nextF st y.1 = blockF st y.1 y.2 i := by
  unfold nextF
  rw [atF_some hd hy, if_pos (by omega)]
  have : (st.2.getD (i : Int).toNat (0, [])) = y := by
    rw [Int.toNat_natCast, List.getD_eq_getElem?_getD, hy]; rfl
  rw [this, Int.toNat_natCast]
theorem top_rank (rk : Int → Nat) : ∀ l : List Int, ∃ M, ∀ x ∈ l, rk x < M
  | [] => ⟨0, fun x hx => by simp at hx⟩
  | a :: l => by
    obtain ⟨M, h⟩ := top_rank rk l
    refine ⟨M + rk a + 1, fun x hx => ?_⟩
    rcases List.mem_cons.1 hx with rfl | hx
    · omega
    · have := h x hx; omega
theorem Safe.ask {st : Tab} (h : Safe st) (hM : Must st) (arm : Int) (cells : List Cell) : Safe (askF st arm cells).2 ∧ Must (askF st arm cells).2 := by
  have hfit := h.fit.ask arm cells
  unfold askF at hfit ⊢
  split
  · exact ⟨h, hM⟩
  rename_i ha
  rw [if_neg ha] at hfit
  split
  · exact ⟨h, hM⟩
  rename_i hc
  rw [if_neg hc] at hfit
  split
  · exact ⟨h, hM⟩
  rename_i hw
  rw [if_neg hw] at hfit
  split
  · split <;> exact ⟨h, hM⟩
  rename_i hat
  rw [if_neg hat] at hfit
  have hno := atF_neg hat
  split
  · exact ⟨h, hM⟩
  rename_i hall
  rw [if_neg hall] at hfit
  obtain ⟨W, hW⟩ : ∃ W, W = minusC cells (st.1.getD arm.toNat []) := ⟨_, rfl⟩
  have hWm : ∀ x ∈ W, x ∉ st.1.getD arm.toNat [] := fun x hx => by rw [hW] at hx; exact (mem_minus.1 hx).2
  rw [← hW] at hfit hw ⊢
  have hal : arm.toNat < st.1.length := by omega
  have ha0 : ((arm.toNat : Nat) : Int) = arm := by omega
  obtain ⟨rk, hrk⟩ := h.rank
  split
  · rename_i hb
    rw [if_pos hb] at hfit
    have hn := nil_iff.1 hb
    have hsup : ∀ i x, x ∈ st.1.getD i [] → x ∈ (st.1.set arm.toNat (joinC (st.1.getD arm.toNat []) W)).getD i [] := fun i x hx => by
      rw [getD_set]
      split
      · rename_i h1
        rw [h1.1]
        exact mem_join.2 (.inl hx)
      · exact hx
    have hfree : ∀ j : Nat, j ≠ arm.toNat → ∀ x ∈ st.1.getD j [], x ∉ W := fun j hj x hx hx' => by
      have hm : meets (st.1.getD j []) W = true := meets_iff.2 ⟨x, hx, hx'⟩
      exact hn j (blockF_iff.2 ⟨by omega, .inl ⟨j, meets_lt hm, rfl, hm⟩⟩)
    have hsame : ∀ (i : Nat) y, st.2[i]? = some y → ∀ m ∈ blockF (st.1.set arm.toNat (joinC (st.1.getD arm.toNat []) W), st.2) y.1 y.2 i, m ∈ blockF st y.1 y.2 i := fun i y hy m hm => by
      obtain ⟨h1, ⟨a, h2, h3, h4⟩ | h2⟩ := blockF_iff.1 hm
      · simp only [getD_set] at h4
        split at h4
        · rename_i h6
          obtain ⟨h6, _⟩ := h6
          obtain ⟨x, hx, hx'⟩ := meets_iff.1 h4
          rcases mem_join.1 hx with h7 | h7
          · exact blockF_iff.2 ⟨h1, .inl ⟨arm.toNat, hal, by omega, meets_iff.2 ⟨x, h7, hx'⟩⟩⟩
          · exact absurd (blockF_iff.2 ⟨hno y (List.mem_of_getElem? hy), .inr ⟨i, y, (List.getElem?_eq_some_iff.1 hy).1, hy, rfl, meets_iff.2 ⟨x, hx', h7⟩⟩⟩) (hn y.1)
        · exact blockF_iff.2 ⟨h1, .inl ⟨a, by simpa using h2, h3, h4⟩⟩
      · exact blockF_iff.2 ⟨h1, .inr h2⟩
    refine ⟨⟨hfit, fun a b hab x hx hx' => ?_, fun z hz x hx => ?_, h.ne, rk, fun i y hy m hm => hrk i y hy m (hsame i y hy m hm)⟩, fun i y hy hnil => hM i y hy (nil_iff.2 fun m hm => nil_iff.1 hnil m ?_)⟩
    · simp only [getD_set] at hx hx'
      split at hx <;> split at hx'
      · omega
      · rename_i h1 _
        obtain ⟨h1, _⟩ := h1
        rcases mem_join.1 hx with h2 | h2
        · exact h.apart _ b (by omega) x h2 hx'
        · exact hfree b (by omega) x hx' h2
      · rename_i _ h1
        obtain ⟨h1, _⟩ := h1
        rcases mem_join.1 hx' with h2 | h2
        · exact h.apart _ a (by omega) x h2 hx
        · exact hfree a (by omega) x hx h2
      · exact h.apart a b hab x hx hx'
    · have := hno z hz
      obtain ⟨g1, g2, _⟩ := h.fit.wts z hz
      simp only [getD_set]
      rw [if_neg (by omega)]
      exact h.own z hz x hx
    · obtain ⟨h1, ⟨a, h2, h3, h4⟩ | h2⟩ := blockF_iff.1 hm
      · exact blockF_iff.2 ⟨h1, .inl ⟨a, by simpa using h2, h3, meets_sub (hsup a) h4⟩⟩
      · exact blockF_iff.2 ⟨h1, .inr h2⟩
  rename_i hb
  rw [if_neg hb] at hfit
  split
  · exact ⟨h, hM⟩
  rename_i hr
  rw [if_neg hr] at hfit
  have hold : ∀ (i : Nat) y, st.2[i]? = some y → ∀ m, m ∈ blockF (st.1, st.2 ++ [(arm, W)]) y.1 y.2 i ↔ m ∈ blockF st y.1 y.2 i := fun i y hy m => by
    have hi := (List.getElem?_eq_some_iff.1 hy).1
    have hsame : ∀ a : Nat, a < i → (st.2 ++ [(arm, W)])[a]? = st.2[a]? := fun a ha => List.getElem?_append_left (by omega)
    rw [blockF_iff, blockF_iff]
    constructor
    · rintro ⟨h1, h2 | ⟨a, u, h2, h3, h4⟩⟩
      · exact ⟨h1, .inl h2⟩
      · exact ⟨h1, .inr ⟨a, u, h2, by rw [← hsame a h2]; exact h3, h4⟩⟩
    · rintro ⟨h1, h2 | ⟨a, u, h2, h3, h4⟩⟩
      · exact ⟨h1, .inl h2⟩
      · exact ⟨h1, .inr ⟨a, u, h2, by rw [hsame a h2]; exact h3, h4⟩⟩
  have hnew : ∀ m, m ∈ blockF (st.1, st.2 ++ [(arm, W)]) arm W st.2.length ↔ m ∈ blockF st arm W st.2.length := fun m => by
    have hsame : ∀ a : Nat, a < st.2.length → (st.2 ++ [(arm, W)])[a]? = st.2[a]? := fun a ha => List.getElem?_append_left (by omega)
    rw [blockF_iff, blockF_iff]
    constructor
    · rintro ⟨h1, h2 | ⟨a, u, h2, h3, h4⟩⟩
      · exact ⟨h1, .inl h2⟩
      · exact ⟨h1, .inr ⟨a, u, h2, by rw [← hsame a h2]; exact h3, h4⟩⟩
    · rintro ⟨h1, h2 | ⟨a, u, h2, h3, h4⟩⟩
      · exact ⟨h1, .inl h2⟩
      · exact ⟨h1, .inr ⟨a, u, h2, by rw [hsame a h2]; exact h3, h4⟩⟩
  have hcase : ∀ (i : Nat) y, (st.2 ++ [(arm, W)])[i]? = some y → st.2[i]? = some y ∨ i = st.2.length ∧ y = (arm, W) := fun i y hy => by
    rcases Nat.lt_or_ge i st.2.length with h1 | h1
    · rw [List.getElem?_append_left h1] at hy; exact .inl hy
    · rw [List.getElem?_append_right h1] at hy
      rcases Nat.eq_zero_or_pos (i - st.2.length) with h2 | h2
      · rw [h2] at hy
        injection hy with hy
        exact .inr ⟨by omega, hy.symm⟩
      · rw [List.getElem?_eq_none (by simp; omega)] at hy; cases hy
  have hfew := h.fit.few
  have hol : (blockF st arm W st.2.length).length ≤ 8 := by
    have := blockF_len st arm W st.2.length
    have := h.fit.n4
    omega
  obtain ⟨R, r1, _, r3, r4⟩ := ring_closed hfew.1 hol (by simpa using hr) 200 [] _ (RingInv.start hol) (by simp) (fun k hk => by simp at hk)
  obtain ⟨M, hMx⟩ := top_rank rk R
  refine ⟨⟨hfit, h.apart, fun z hz x hx => ?_, fun z hz => ?_, fun x => if x ∈ R then rk x else rk x + M, fun i y hy m hm => ?_⟩, fun i y hy hnil => ?_⟩
  · rcases List.mem_append.1 hz with hz | hz
    · exact h.own z hz x hx
    · have hz := List.mem_singleton.1 hz
      subst hz
      exact hWm x hx
  · rcases List.mem_append.1 hz with hz | hz
    · exact h.ne z hz
    · have hz := List.mem_singleton.1 hz
      subst hz
      exact hw
  · simp only
    rcases hcase i y hy with hy | ⟨rfl, rfl⟩
    · have hm := (hold i y hy m).1 hm
      have hlt := hrk i y hy m hm
      by_cases hyR : y.1 ∈ R
      · rw [if_pos hyR, if_pos (r4 y.1 hyR m (by rw [nextF_some h.fit.dis hy]; exact hm))]
        exact hlt
      · rw [if_neg hyR]
        split
        · omega
        · omega
    · have hm := (hnew m).1 hm
      have := hMx m (r3 m hm)
      rw [if_neg r1, if_pos (r3 m hm)]
      omega
  · rcases hcase i y hy with hy | ⟨rfl, rfl⟩
    · exact hM i y hy (nil_iff.2 fun m hm => nil_iff.1 hnil m ((hold i y hy m).2 hm))
    · exact hb (nil_iff.2 fun m hm => nil_iff.1 hnil m ((hnew m).2 hm))
/-- ranked: no ring is found -/
theorem ring_none {st : Tab} {rk : Int → Nat} (hrk : Ranked rk st) {arm : Int} : ∀ (f : Nat) (seen todo : List Int), (∀ x ∈ todo, rk x < rk arm) → ringF st arm f seen todo = false
  | 0, _, _, _ => rfl
  | f + 1, seen, [], _ => rfl
  | f + 1, seen, k :: todo, h => by
    have hk := h k List.mem_cons_self
    show (if _ then _ else _) = _
    rw [if_neg (by rintro rfl; omega)]
    split
    · exact ring_none hrk f _ _ fun x hx => h x (List.mem_cons_of_mem _ hx)
    · refine ring_none hrk f _ _ fun x hx => ?_
      rcases List.mem_append.1 hx with hx | hx
      · exact h x (List.mem_cons_of_mem _ hx)
      · unfold nextF at hx
        split at hx
        · rename_i h0
          rcases atF_cases st k with ⟨h1, _⟩ | ⟨i, y, h1, h2, h3, h4⟩
          · omega
          · rw [h1, Int.toNat_natCast, List.getD_eq_getElem?_getD, h3] at hx
            have := hrk i y h3 x (by rw [h4]; exact hx)
            rw [h4] at this
            omega
        · simp at hx
end Go.Proofs.Ytambngbkegnghaa
