/- What log.Add and log.All compute, as plain data, and LogGoes's law. No condition but those typed. -/
import Derived.Test.YtaahpjjffggaiaaLogPlain
namespace Go.Proofs.Ytaahpjjffggaiaa

/-- Add's fault, Add's bytes -/
def addE (b r : List Nat) : Nat := if 2000 < r.length then 2 else if 100000 < (scanL b).2.1 + 6 + r.length then 6 else 0
def addB (b r : List Nat) : List Nat := if addE b r = 0 then b.take (scanL b).2.1 ++ (be2 r.length ++ (r ++ be4 (rsum (scanL b).2.2 r))) else []
def allF (out : List Nat) : List (List Nat) → List Nat × Nat
  | [] => (out, 0)
  | r :: rs => if addE out r = 0 then allF (addB out r) rs else ([], addE out r)
/-- records that a log may hold -/
def Fit (rs : List (List Nat)) : Prop := (∀ r ∈ rs, r.length ≤ 2000 ∧ ∀ x ∈ r, x < 256) ∧ (bookF 0 rs).length ≤ 100000

theorem addE_cases (b r : List Nat) : addE b r = 2 ∨ addE b r = 6 ∨ addE b r = 0 := by
  unfold addE; split
  · exact .inl rfl
  · split
    · exact .inr (.inl rfl)
    · exact .inr (.inr rfl)
theorem addE_zero {b r : List Nat} (h : addE b r = 0) : r.length ≤ 2000 ∧ (scanL b).2.1 + 6 + r.length ≤ 100000 := by
  unfold addE at h
  split at h
  · cases h
  · split at h
    · cases h
    · omega
theorem addE_of {b r : List Nat} (h1 : r.length ≤ 2000) (h2 : (scanL b).2.1 + 6 + r.length ≤ 100000) : addE b r = 0 := by
  unfold addE
  rw [if_neg (by omega), if_neg (by omega)]
theorem bookF_lt : ∀ (last : Nat) (rs : List (List Nat)), (∀ r ∈ rs, ∀ x ∈ r, x < 256) → ∀ x ∈ bookF last rs, x < 256
  | _, [], _, x, h => by simp [bookF] at h
  | last, r :: rs, h8, x, h => by
    simp only [bookF, enc1, List.mem_append] at h
    rcases h with (h | h | h) | h
    · exact be2_lt _ x h
    · exact h8 r (by simp) x h
    · exact be4_lt _ x h
    · exact bookF_lt _ rs (fun q hq => h8 q (by simp [hq])) x h
theorem scan_book {rs : List (List Nat)} (h : ∀ r ∈ rs, r.length ≤ 2000 ∧ ∀ x ∈ r, x < 256) : scanL (bookF 0 rs) = (rs, (bookF 0 rs).length, lastF 0 rs) := by
  have h1 := scanF_book rs 1 [] 0 fun r hr => (h r hr).1
  rw [List.append_nil] at h1
  have hnone : oneRec (lastF 0 rs) [] = none := by unfold oneRec; rw [if_pos (by simp)]
  rw [show scanF 1 [] (lastF 0 rs) = ([], 0, lastF 0 rs) from scanF_none hnone] at h1
  simp only [List.append_nil, Nat.add_zero] at h1
  have h2 : rs.length < (bookF 0 rs).length + 1 := by
    have : ∀ (l : Nat) (qs : List (List Nat)), qs.length ≤ (bookF l qs).length := by
      intro l qs
      induction qs generalizing l with
      | nil => simp
      | cons q qs ih => have := ih (rsum l q); simp only [bookF, List.length_cons, List.length_append, enc1_len]; omega
    have := this 0 rs
    omega
  have h8 := bookF_lt 0 rs fun r hr => (h r hr).2
  unfold scanL
  rw [← h1]
  rcases Nat.lt_or_ge (bookF 0 rs).length (rs.length + 1) with hlt | hge
  · exact scanF_fuel _ _ _ _ h8 (by omega) hlt
  · have h3 : ∀ (qs : List (List Nat)) (f g : Nat) (l : Nat), (∀ r ∈ qs, r.length ≤ 2000) → 0 < f → 0 < g → scanF (qs.length + f) (bookF l qs) l = scanF (qs.length + g) (bookF l qs) l := by
      intro qs f g l hq hf hg
      have e : ∀ f, 0 < f → scanF f [] (lastF l qs) = ([], 0, lastF l qs) := by
        intro f hf
        obtain ⟨f, rfl⟩ : ∃ k, f = k + 1 := ⟨f - 1, by omega⟩
        exact scanF_none (by unfold oneRec; rw [if_pos (by simp)])
      have a := scanF_book qs f [] l hq
      have b := scanF_book qs g [] l hq
      rw [e f hf] at a
      rw [e g hg] at b
      rw [List.append_nil] at a b
      rw [a, b]
    have h4 := h3 rs ((bookF 0 rs).length + 1 - rs.length) 1 0 (fun r hr => (h r hr).1) (by omega) (by omega)
    rw [show rs.length + ((bookF 0 rs).length + 1 - rs.length) = (bookF 0 rs).length + 1 by omega] at h4
    exact h4
theorem add_book {ps : List (List Nat)} {r : List Nat} (hp : ∀ q ∈ ps, q.length ≤ 2000 ∧ ∀ x ∈ q, x < 256) (h : addE (bookF 0 ps) r = 0) : addB (bookF 0 ps) r = bookF 0 (ps ++ [r]) := by
  unfold addB
  rw [if_pos h, scan_book hp, List.take_length, bookF_append]
  simp [bookF, enc1]
theorem all_book : ∀ (rs ps : List (List Nat)), (∀ q ∈ ps, q.length ≤ 2000 ∧ ∀ x ∈ q, x < 256) → (∀ q ∈ rs, ∀ x ∈ q, x < 256) → (allF (bookF 0 ps) rs).2 = 0 →
    (allF (bookF 0 ps) rs).1 = bookF 0 (ps ++ rs) ∧ (∀ q ∈ rs, q.length ≤ 2000) ∧ (rs ≠ [] → (bookF 0 (ps ++ rs)).length ≤ 100000)
  | [], ps, hp, _, h => by simp [allF]
  | r :: rs, ps, hp, h8, h => by
    unfold allF at h ⊢
    by_cases he : addE (bookF 0 ps) r = 0
    · rw [if_pos he] at h ⊢
      rw [add_book hp he] at h ⊢
      have hr := addE_zero he
      have hp' : ∀ q ∈ ps ++ [r], q.length ≤ 2000 ∧ ∀ x ∈ q, x < 256 := by
        intro q hq
        simp only [List.mem_append, List.mem_singleton] at hq
        rcases hq with hq | rfl
        · exact hp q hq
        · exact ⟨hr.1, h8 q (by simp)⟩
      obtain ⟨i1, i2, i3⟩ := all_book rs (ps ++ [r]) hp' (fun q hq => h8 q (by simp [hq])) h
      rw [List.append_assoc, List.singleton_append] at i1 i3
      refine ⟨i1, ?_, fun _ => ?_⟩
      · intro q hq
        simp only [List.mem_cons] at hq
        rcases hq with rfl | hq
        · exact hr.1
        · exact i2 q hq
      · cases rs with
        | nil =>
          rw [scan_book hp] at hr
          rw [bookF_append, List.length_append]
          simp only [bookF, List.append_nil, enc1_len]
          have := hr.2
          simp only at this
          omega
        | cons q qs => exact i3 (by simp)
    · rw [if_neg he] at h
      exact absurd h he
theorem all_fits : ∀ (rs ps : List (List Nat)), (∀ q ∈ ps, q.length ≤ 2000 ∧ ∀ x ∈ q, x < 256) → (∀ q ∈ rs, q.length ≤ 2000 ∧ ∀ x ∈ q, x < 256) → (bookF 0 (ps ++ rs)).length ≤ 100000 →
    allF (bookF 0 ps) rs = (bookF 0 (ps ++ rs), 0)
  | [], ps, _, _, _ => by simp [allF]
  | r :: rs, ps, hp, hr, h => by
    have hr0 := hr r (by simp)
    have he : addE (bookF 0 ps) r = 0 := by
      refine addE_of hr0.1 ?_
      rw [scan_book hp]
      simp only [bookF_append, bookF, List.length_append, enc1_len] at h
      simp only
      omega
    unfold allF
    rw [if_pos he, add_book hp he]
    have := all_fits rs (ps ++ [r]) (fun q hq => by
      simp only [List.mem_append, List.mem_singleton] at hq
      rcases hq with hq | rfl
      · exact hp q hq
      · exact hr0) (fun q hq => hr q (by simp [hq])) (by simpa using h)
    simpa using this
theorem book_len : ∀ (last : Nat) (rs : List (List Nat)), (∀ r ∈ rs, r.length ≤ 2000) → (bookF last rs).length ≤ rs.length * 2006
  | _, [], _ => by simp [bookF]
  | last, r :: rs, h => by
    have h1 := h r (by simp)
    have h2 := book_len (rsum last r) rs fun q hq => h q (by simp [hq])
    simp only [bookF, List.length_append, enc1_len, List.length_cons]
    omega
theorem scanL_spec {b : List Nat} (h8 : ∀ x ∈ b, x < 256) : b.take (scanL b).2.1 = bookF 0 (scanL b).1 ∧ (scanL b).2.1 ≤ b.length ∧ (scanL b).2.1 = (bookF 0 (scanL b).1).length ∧ (scanL b).2.2 = lastF 0 (scanL b).1 ∧ ∀ r ∈ (scanL b).1, r.length ≤ 2000 ∧ ∀ x ∈ r, x < 256 := by
  obtain ⟨h1, h2, h3, h4, h5⟩ := scanF_spec (b.length + 1) b 0 h8
  refine ⟨?_, h2, h3, h4, h5⟩
  show b.take (scanF (b.length + 1) b 0).2.1 = bookF 0 (scanF (b.length + 1) b 0).1
  rw [h3]
  exact (congrArg (List.take _) h1).trans (by rw [List.take_left])
/-- LogGoes, as plain data -/
theorem goes_law {cut more : List Nat} (h8 : ∀ x ∈ cut, x < 256) (hm8 : ∀ x ∈ more, x < 256) (hm : more.length ≤ 2000) (hc : cut.length ≤ 90000) :
    addE cut more = 0 ∧ allF [] ((scanL cut).1 ++ [more]) = (addB cut more, 0) ∧ scanL (addB cut more) = ((scanL cut).1 ++ [more], (addB cut more).length, lastF 0 ((scanL cut).1 ++ [more])) := by
  obtain ⟨h1, h2, h3, h4, h5⟩ := scanL_spec h8
  have he : addE cut more = 0 := addE_of hm (by omega)
  have hb : addB cut more = bookF 0 ((scanL cut).1 ++ [more]) := by
    unfold addB
    rw [if_pos he, h1, h4, bookF_append]
    simp [bookF, enc1]
  have hall : ∀ q ∈ (scanL cut).1 ++ [more], q.length ≤ 2000 ∧ ∀ x ∈ q, x < 256 := by
    intro q hq
    simp only [List.mem_append, List.mem_singleton] at hq
    rcases hq with hq | rfl
    · exact h5 q hq
    · exact ⟨hm, hm8⟩
  refine ⟨he, ?_, ?_⟩
  · rw [hb]
    refine all_fits ((scanL cut).1 ++ [more]) [] (by simp) hall ?_
    rw [List.nil_append, bookF_append, List.length_append, ← h3]
    simp only [bookF, List.append_nil, enc1_len]
    omega
  · rw [hb]
    exact scan_book hall
end Go.Proofs.Ytaahpjjffggaiaa
