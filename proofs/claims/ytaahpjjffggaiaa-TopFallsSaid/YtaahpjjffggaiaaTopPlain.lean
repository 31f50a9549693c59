/- TopFalls in words of lists. Conditions: those typed. -/
import Derived.Test.YtaahpjjffggaiaaFallPlain
namespace Go.Proofs.Ytaahpjjffggaiaa
open Go.RowKit Go.Gy
set_option linter.unusedVariables false
theorem book_len' : ∀ (last : Nat) (rs : List (List Nat)), (∀ r ∈ rs, r.length ≤ 805) → (bookF last rs).length ≤ rs.length * 811
  | _, [], _ => by simp [bookF]
  | last, r :: rs, h => by
    have := book_len' (rsum last r) rs (fun q hq => h q (by simp [hq]))
    have := h r (by simp)
    simp only [bookF, List.length_cons, List.length_append, enc1_len]
    omega
abbrev bookE (es : List GEv) : List Nat := bookF 0 (es.map evB)
theorem bookE_len {es : List GEv} (h : GoodEvs es) (hn : es.length ≤ 62) : (bookE es).length ≤ 50282 := by
  have := book_len' 0 (es.map evB) (fun r hr => (recs_fit h r hr).1)
  rw [List.length_map] at this
  have h2 := Nat.mul_le_mul_right 811 hn
  show (bookF 0 (es.map evB)).length ≤ 50282
  omega
theorem add_fits {es : List GEv} (h : GoodEvs es) (hn : es.length ≤ 62) {r : List Nat} (hr : r.length ≤ 805) : addE (bookE es) r = 0 ∧ addB (bookE es) r = bookF 0 (es.map evB ++ [r]) := by
  have hA : addE (bookE es) r = 0 := by
    refine addE_of (by omega) ?_
    rw [scan_book (recs_fit' h)]
    have : (bookF 0 (es.map evB)).length ≤ 50282 := bookE_len h hn
    show (bookF 0 (es.map evB)).length + 6 + r.length ≤ 100000
    omega
  exact ⟨hA, add_book (recs_fit' h) hA⟩
theorem cellsF_filter {l : List Cell} (p : Cell → Bool) (h : cellsF l = 0) : cellsF ((sortC l).filter p) = 0 := by
  have h' := (cellsF_sorted l).1 h
  refine (cellsF_sorted _).2 ⟨?_, fun c hc => ?_, ?_⟩
  · exact Nat.le_trans (List.length_filter_le _ _) (Nat.le_trans (sort_len _) h'.1)
  · exact h'.2.1 c (mem_sortC.1 (List.mem_filter.1 hc).1)
  · exact List.Pairwise.filter _ (sorted_sortC l)
theorem doF_right {m m' : GMem} {e : GEv} (h : doF m e = (0, m')) (hf : m.falls ≤ 1000) : rightF m' = 0 ∧ (e.kind ≠ 6 → m'.falls = m.falls) ∧ rightF m = 0 := by
  have hc := checkF_zero (doF_check h)
  unfold doF at h
  split at h
  · rename_i h1; exact absurd (congrArg Prod.fst h) h1
  split at h
  · rename_i h1; exact absurd (congrArg Prod.fst h) h1
  rename_i _ hr
  have hr : rightF m = 0 := by omega
  have hr' := rightF_zero hr
  refine ⟨?_, ?_, hr⟩
  · unfold doF0 at h
    have mk : ∀ m' : GMem, 0 ≤ m'.goal → 0 ≤ m'.ticks → 0 ≤ m'.falls → cellsF m'.asked = 0 → cellsF m'.has = 0 → rightF m' = 0 := fun m' a b c d e => by
      unfold rightF; rw [if_neg (by omega), if_neg (by omega), e]
    split at h
    · injection h with _ h; subst h; exact mk _ hc.2.2.1 (Int.le_refl _) hr'.2.2.1 hr'.2.2.2.1 hr'.2.2.2.2
    split at h
    · split at h
      · cases h
      · injection h with _ h; subst h; exact mk _ hr'.1 (by show 0 ≤ m.ticks + 1; omega) hr'.2.2.1 hr'.2.2.2.1 hr'.2.2.2.2
    split at h
    · split at h
      · cases h
      · injection h with _ h; subst h; exact mk _ hr'.1 hr'.2.1 hr'.2.2.1 (cellsF_filter _ hc.2.2.2.2.2.2) hr'.2.2.2.2
    split at h
    · split at h
      · cases h
      · rename_i h3
        injection h with _ h; subst h; exact mk _ hr'.1 hr'.2.1 hr'.2.2.1 rfl (by show cellsF (joinC m.has m.asked) = 0; omega)
    split at h
    · split at h
      · cases h
      · injection h with _ h; subst h; exact mk _ hr'.1 hr'.2.1 hr'.2.2.1 hr'.2.2.2.1 (cellsF_filter _ hr'.2.2.2.2)
    · injection h with _ h; subst h
      refine mk _ hr'.1 hr'.2.1 ?_ hr'.2.2.2.1 hr'.2.2.2.2
      show 0 ≤ IntKind.i64.wrap (m.falls + 1)
      have := hr'.2.2.1
      rw [IntWalk.i64_in _ (by omega)]; omega
  · intro hk
    unfold doF0 at h
    split at h
    · injection h with _ h; subst h; rfl
    split at h
    · split at h
      · cases h
      · injection h with _ h; subst h; rfl
    split at h
    · split at h
      · cases h
      · injection h with _ h; subst h; rfl
    split at h
    · split at h
      · cases h
      · injection h with _ h; subst h; rfl
    split at h
    · split at h
      · cases h
      · injection h with _ h; subst h; rfl
    · exfalso
      rename_i a1 a2 a3 a4 a5
      omega
/-- how often it has fallen matters to nothing else -/
theorem do_falls {m : GMem} {e : GEv} (f : Int) (hf : 0 ≤ f) (h0 : 0 ≤ m.falls) (hk : e.kind ≠ 6) : doF { m with falls := f } e = ((doF m e).1, if (doF m e).1 = 0 then { (doF m e).2 with falls := f } else zeroMem) ∧ ((doF m e).1 ≠ 0 → (doF m e).2 = zeroMem) := by
  have hr : rightF { m with falls := f } = rightF m := by
    unfold rightF
    have e1 : (m.goal < 0 ∨ m.ticks < 0 ∨ f < 0) ↔ (m.goal < 0 ∨ m.ticks < 0 ∨ m.falls < 0) := by omega
    simp only [e1]
  unfold doF
  rw [hr]
  by_cases h1 : checkF e = 0
  · simp only [h1]
    by_cases h2 : rightF m = 0
    · have hc := checkF_zero h1
      simp only [h2]
      unfold doF0
      by_cases k1 : e.kind = 1
      · simp [k1]
      · by_cases k2 : e.kind = 2
        · by_cases t : 2000 ≤ m.ticks <;> simp [k2, t]
        · by_cases k3 : e.kind = 3
          · by_cases t : m.asked = [] <;> simp [k3, t]
          · by_cases k4 : e.kind = 4
            · by_cases t : cellsF (joinC m.has m.asked) = 0 <;> simp [k4, t]
            · by_cases k5 : e.kind = 5
              · by_cases t : withinC e.cells m.has = false
                · simp [k5, t]
                · have t' : withinC e.cells m.has = true := by simpa using t
                  rw [t']
                  simp [k5]
              · omega
    · simp [h2]
  · simp [h1]
/-- the loop's invariant: b knows what the log says; a knows the same, and has never fallen -/
structure TopI (es : List GEv) (a b : GMem) (k : Nat) : Prop where
  good : GoodEvs es
  few : es.length ≤ 2 * k
  fold : b = foldF es
  same : a = { b with falls := 0 }
  low : 0 ≤ b.falls
  high : b.falls ≤ k
theorem TopI.nil : TopI [] zeroMem zeroMem 0 := ⟨GoodEvs.nil, Nat.le_refl _, rfl, rfl, Int.le_refl _, Int.le_refl _⟩
theorem TopI.more {es : List GEv} {a b : GMem} {k : Nat} (h : TopI es a b k) : TopI es a b (k + 1) := ⟨h.good, by have := h.few; omega, h.fold, h.same, h.low, by have := h.high; omega⟩
/-- an event that is done: what Do and Keep say of it -/
theorem top_step {es : List GEv} {a b : GMem} {k : Nat} (h : TopI es a b k) (hk : k ≤ 30) (v : GEv) (hv : v.kind ≠ 6) :
    ∃ X a', doF a v = (X, a') ∧ ((X ≠ 0 ∧ keepF b (bookE es) v = (X, zeroMem, [])) ∨ (X = 0 ∧ ∃ b', keepF b (bookE es) v = (0, b', bookE (es ++ [v])) ∧ GoodEvs (es ++ [v]) ∧ b' = foldF (es ++ [v]) ∧ a' = { b' with falls := 0 } ∧ b'.falls = b.falls ∧ rightF b' = 0)) := by
  obtain ⟨X, b', h1⟩ : ∃ X b', doF b v = (X, b') := ⟨_, _, rfl⟩
  obtain ⟨h2, h3⟩ := do_falls (m := b) (e := v) 0 (Int.le_refl _) h.low hv
  rw [← h.same, h1] at h2
  simp only at h2
  refine ⟨X, _, h2, ?_⟩
  by_cases hX : X = 0
  · subst hX
    right
    have hr := doF_right h1 (by have := h.high; omega)
    rw [h.fold] at h1
    obtain ⟨g1, g2⟩ := h.good.snoc h1
    have hl : (evB v).length ≤ 805 := (recs_fit g1 (evB v) (List.mem_map.2 ⟨v, by simp, rfl⟩)).1
    obtain ⟨e1, e2⟩ := add_fits h.good (by have := h.few; omega) hl
    refine ⟨rfl, b', ?_, g1, g2.symm, by simp, hr.2.1 hv, hr.1⟩
    rw [h.fold]
    unfold keepF
    rw [h1, if_neg (by simp), if_neg (by rw [e1]; simp), e2]
    unfold bookE
    rw [List.map_append]
    rfl
  · left
    refine ⟨hX, ?_⟩
    unfold keepF
    rw [h1, if_pos hX]
theorem back_torn {es : List GEv} (h : GoodEvs es) : backF (bookE es ++ [0, 9, 1]) = (foldF es, es.length, 0) := by
  have hs : (scanL (bookE es ++ [0, 9, 1])).1 = es.map evB := by
    unfold scanL
    have hg : (es.map evB).length ≤ (bookE es).length := book_ge 0 (es.map evB)
    obtain ⟨f, hf⟩ : ∃ f, (bookE es ++ [0, 9, 1]).length + 1 = (es.map evB).length + (f + 1) := ⟨(bookE es ++ [0, 9, 1]).length - (es.map evB).length, by rw [List.length_append]; omega⟩
    rw [hf, scanF_book _ _ _ _ (fun r hr => (recs_fit' h r hr).1), scanF_none (by unfold oneRec; rw [if_pos (by simp)])]
    simp
  unfold backF
  rw [hs]
  exact backL_good h es.length 0 (by omega)
theorem mark_step {es : List GEv} {b : GMem} (h : GoodEvs es) (hb : b = foldF es) (hr : rightF b = 0) (hf : b.falls ≤ 30) (hn : es.length ≤ 61) :
    doF b ⟨6, 0, []⟩ = (0, { b with falls := b.falls + 1 }) ∧ addE (bookE es) [6, 0, 0, 0, 0] = 0 ∧ addB (bookE es) [6, 0, 0, 0, 0] = bookE (es ++ [⟨6, 0, []⟩]) ∧ GoodEvs (es ++ [⟨6, 0, []⟩]) ∧ { b with falls := b.falls + 1 } = foldF (es ++ [⟨6, 0, []⟩]) := by
  have hr' := rightF_zero hr
  have hd : doF b ⟨6, 0, []⟩ = (0, { b with falls := b.falls + 1 }) := by
    unfold doF
    rw [if_neg (by simp [checkF, cellsF, cellsG]), if_neg (by omega)]
    unfold doF0
    simp
    exact IntWalk.i64_in _ (by omega)
  obtain ⟨e1, e2⟩ := add_fits h (by omega) (r := [6, 0, 0, 0, 0]) (by simp)
  rw [hb] at hd ⊢
  obtain ⟨g1, g2⟩ := h.snoc hd
  refine ⟨hd, e1, ?_, g1, g2.symm⟩
  rw [e2]
  unfold bookE
  rw [List.map_append]
  rfl
end Go.Proofs.Ytaahpjjffggaiaa
