/- Logs that are cut, or have one byte changed, as plain data. No condition but those typed. -/
import Derived.Test.YtaahpjjffggaiaaAddPlain
namespace Go.Proofs.Ytaahpjjffggaiaa
open Go.Gy
set_option linter.unusedVariables false

theorem xor_zero {a b : Nat} (h : a ^^^ b = 0) : a = b := by
  have h1 : (a ^^^ b) ^^^ b = b := by rw [h, Nat.zero_xor]
  rw [Nat.xor_assoc, Nat.xor_self, Nat.xor_zero] at h1
  exact h1
theorem cstep_zero {d : Nat} (hd : d < 4294967296) (h : cstep d = 0) : d = 0 := by
  unfold cstep at h
  have h1 := xor_zero h
  rcases Nat.mod_two_eq_zero_or_one d with h2 | h2
  · rw [h2] at h1; omega
  · rw [h2] at h1; unfold poly at h1; omega
theorem csteps_zero : ∀ (k : Nat) {d : Nat}, d < 4294967296 → csteps k d = 0 → d = 0
  | 0, d, _, h => h
  | k + 1, d, hd, h => by
    have h1 : cstep (csteps k d) = 0 := h
    exact csteps_zero k hd (cstep_zero (csteps_lt k hd) h1)
theorem csteps_inj {k a b : Nat} (ha : a < 4294967296) (hb : b < 4294967296) (h : csteps k a = csteps k b) : a = b := by
  have h1 : csteps k (a ^^^ b) = 0 := by rw [csteps_xor, h, Nat.xor_self]
  exact xor_zero (csteps_zero k (xor_lt ha hb) h1)
theorem xor_cancel {a b x : Nat} (h : a ^^^ x = b ^^^ x) : a = b := by
  have h1 : (a ^^^ x) ^^^ x = (b ^^^ x) ^^^ x := by rw [h]
  simpa [Nat.xor_assoc] using h1
theorem xor_cancel_left {a x y : Nat} (h : a ^^^ x = a ^^^ y) : x = y := by
  rw [Nat.xor_comm a x, Nat.xor_comm a y] at h
  exact xor_cancel h
theorem cfold_inj : ∀ (l : List Nat), (∀ x ∈ l, x < 256) → ∀ {s t : Nat}, s < 4294967296 → t < 4294967296 → cfold s l = cfold t l → s = t
  | [], _, s, t, _, _, h => h
  | x :: l, h8, s, t, hs, ht, h => by
    have hx := h8 x (by simp)
    have h1 : cfold (csteps 8 (s ^^^ x)) l = cfold (csteps 8 (t ^^^ x)) l := h
    have h2 := cfold_inj l (fun y hy => h8 y (by simp [hy])) (csteps_lt 8 (xor_lt hs (by omega))) (csteps_lt 8 (xor_lt ht (by omega))) h1
    exact xor_cancel (csteps_inj (xor_lt hs (by omega)) (xor_lt ht (by omega)) h2)
theorem cfold_app (s : Nat) (l m : List Nat) : cfold s (l ++ m) = cfold (cfold s l) m := by simp [cfold]
theorem crc_one {p q : List Nat} {x y : Nat} (hp : ∀ z ∈ p, z < 256) (hq : ∀ z ∈ q, z < 256) (hx : x < 256) (hy : y < 256) (h : crc (p ++ x :: q) = crc (p ++ y :: q)) : x = y := by
  unfold crc at h
  have h1 := xor_cancel h
  rw [cfold_app, cfold_app] at h1
  have hs := cfold_lt p hp (s := 4294967295) (by omega)
  have h2 : cfold (csteps 8 (cfold 4294967295 p ^^^ x)) q = cfold (csteps 8 (cfold 4294967295 p ^^^ y)) q := h1
  have h3 := cfold_inj q hq (csteps_lt 8 (xor_lt hs (by omega))) (csteps_lt 8 (xor_lt hs (by omega))) h2
  exact xor_cancel_left (csteps_inj (xor_lt hs (by omega)) (xor_lt hs (by omega)) h3)
theorem be4_inj {a b : Nat} (ha : a < 4294967296) (hb : b < 4294967296) (h : be4 a = be4 b) : a = b := by
  simp only [be4, List.cons.injEq, and_true] at h
  omega
theorem parted {r : List Nat} {i z : Nat} (h : r[i]? = some z) : ∃ p q, r = p ++ z :: q ∧ p.length = i := by
  obtain ⟨hi, he⟩ := List.getElem?_eq_some_iff.1 h
  refine ⟨r.take i, r.drop (i + 1), ?_, by rw [List.length_take]; omega⟩
  rw [← he, ← List.drop_eq_getElem_cons hi, List.take_append_drop]
theorem rsum_one {last : Nat} {p q : List Nat} {z y : Nat} (hp : ∀ x ∈ p, x < 256) (hq : ∀ x ∈ q, x < 256) (hz : z < 256) (hy : y < 256) (h : rsum last (p ++ z :: q) = rsum last (p ++ y :: q)) : z = y := by
  unfold rsum at h
  have hl : (p ++ z :: q).length = (p ++ y :: q).length := by simp
  rw [hl] at h
  refine crc_one (p := be4 last ++ (be2 (p ++ y :: q).length ++ p)) (q := q) ?_ hq hz hy ?_
  · intro x hx
    simp only [List.mem_append] at hx
    rcases hx with hx | hx | hx
    · exact be4_lt _ x hx
    · exact be2_lt _ x hx
    · exact hp x hx
  · simpa using h

/-- oneRec, of what has its two bytes of length -/
theorem oneRec_of (last : Nat) (r u t : List Nat) (n : Nat) (hn : n ≤ 2000) (hr : r.length = n) (hu : u.length = 4) : oneRec last (be2 n ++ (r ++ (u ++ t))) = if u = be4 (rsum last r) then some r else none := by
  have e0 : (be2 n ++ (r ++ (u ++ t))).getD 0 0 * 256 + (be2 n ++ (r ++ (u ++ t))).getD 1 0 = n := by simp [be2]; omega
  have hl : (be2 n ++ (r ++ (u ++ t))).length = 6 + n + t.length := by simp [be2, hr, hu]; omega
  have hd : (be2 n ++ (r ++ (u ++ t))).drop 2 = r ++ (u ++ t) := by simp [be2]
  have ht : ((be2 n ++ (r ++ (u ++ t))).drop 2).take n = r := by rw [hd, ← hr, List.take_left]
  have hd4 : ((be2 n ++ (r ++ (u ++ t))).drop (2 + n)).take 4 = u := by
    rw [← List.drop_drop, hd, ← hr, List.drop_left, ← hu, List.take_left]
  generalize be2 n ++ (r ++ (u ++ t)) = X at *
  unfold oneRec
  have c1 : ¬ X.length < 6 := by omega
  have c2 : ¬ (2000 < n ∨ X.length < 6 + n) := by omega
  simp only [e0, c1, c2, ht, hd4, if_false]
theorem oneRec_cut (last : Nat) (r t : List Nat) (k : Nat) (hk : k < 6 + r.length) (hr : r.length ≤ 2000) : oneRec last ((enc1 last r ++ t).take k) = none := by
  have hl : ((enc1 last r ++ t).take k).length = k := by rw [List.length_take, List.length_append, enc1_len]; omega
  unfold oneRec
  rw [hl]
  by_cases h6 : k < 6
  · rw [if_pos h6]
  · have e0 : ((enc1 last r ++ t).take k).getD 0 0 * 256 + ((enc1 last r ++ t).take k).getD 1 0 = r.length := by
      obtain ⟨k, rfl⟩ : ∃ j, k = j + 2 := ⟨k - 2, by omega⟩
      simp [enc1, be2]; omega
    rw [e0, if_neg h6, if_pos (by omega)]
theorem enc1_take (last : Nat) (r t : List Nat) (k : Nat) (hk : 6 + r.length ≤ k) : (enc1 last r ++ t).take k = enc1 last r ++ t.take (k - (6 + r.length)) := by
  rw [List.take_append, enc1_len, List.take_of_length_le (by rw [enc1_len]; exact hk)]
/-- a log that is cut: a beginning of its records is read -/
theorem cut_law : ∀ (T : List (List Nat)) (last f k : Nat), (∀ r ∈ T, r.length ≤ 2000) → ∃ j, j ≤ T.length ∧ (scanF f ((bookF last T).take k) last).1 = T.take j
  | T, last, 0, k, _ => ⟨0, Nat.zero_le _, by simp [scanF]⟩
  | [], last, f + 1, k, _ => ⟨0, Nat.le_refl _, by rw [scanF_none (by unfold oneRec; rw [if_pos (by simp [bookF])])]; rfl⟩
  | r :: rs, last, f + 1, k, h => by
    by_cases hk : k < 6 + r.length
    · exact ⟨0, Nat.zero_le _, by simp only [bookF]; rw [scanF_none (oneRec_cut last r _ k hk (h r (by simp)))]; rfl⟩
    · obtain ⟨j, hj, he⟩ := cut_law rs (rsum last r) f (k - (6 + r.length)) fun q hq => h q (by simp [hq])
      refine ⟨j + 1, by simpa using hj, ?_⟩
      simp only [bookF]
      rw [enc1_take _ _ _ _ (by omega), scanF_some (oneRec_enc last r _ (h r (by simp)))]
      rw [List.drop_append_of_le_length (by rw [enc1_len]; omega), List.drop_of_length_le (by rw [enc1_len]; omega), List.nil_append]
      simp only [List.take_succ_cons, List.cons.injEq, true_and]
      exact he
/-- where record j begins -/
def posn : List (List Nat) → Nat → Nat
  | [], _ => 0
  | _ :: _, 0 => 0
  | r :: rs, j + 1 => 6 + r.length + posn rs j
/-- a log with one byte changed, not one of a length: the records before that byte's one are read -/
theorem flip_law : ∀ (T : List (List Nat)) (last f k z y : Nat), (∀ r ∈ T, r.length ≤ 2000 ∧ ∀ x ∈ r, x < 256) → (bookF last T)[k]? = some z → z < 256 → y < 256 → z ≠ y → (∀ j, j < T.length → k ≠ posn T j ∧ k ≠ posn T j + 1) →
    (∃ j, j < T.length ∧ (scanF f ((bookF last T).set k y) last).1 = T.take j) ∧ (scanF f ((bookF last T).set k y) last).2.1 ≤ k
  | [], last, f, k, z, y, _, hz, _, _, _, _ => by simp [bookF] at hz
  | r :: rs, last, 0, k, z, y, _, hz, _, _, _, _ => ⟨⟨0, by simp, by simp [scanF]⟩, by simp [scanF]⟩
  | r :: rs, last, f + 1, k, z, y, h, hz, hz8, hy8, hne, hpos => by
    have hr := h r (by simp)
    have h0 := hpos 0 (by simp)
    simp only [posn] at h0
    by_cases hk : k < 6 + r.length
    · have hnone : oneRec last ((bookF last (r :: rs)).set k y) = none := by
        simp only [bookF, enc1, List.append_assoc] at hz ⊢
        rw [List.set_append_right _ _ (by simp [be2]; omega)]
        rw [List.getElem?_append_right (by simp [be2]; omega)] at hz
        have h2 : k - (be2 r.length).length = k - 2 := rfl
        rw [h2] at hz ⊢
        by_cases hp : k - 2 < r.length
        · rw [List.set_append_left _ _ hp]
          rw [List.getElem?_append_left hp] at hz
          obtain ⟨p, q, rfl, hpl⟩ := parted hz
          have e : (p ++ z :: q).set (k - 2) y = p ++ y :: q := by rw [List.set_append_right _ _ (by omega), hpl, Nat.sub_self]; rfl
          rw [e, oneRec_of last _ _ _ _ hr.1 (by simp) rfl, if_neg]
          intro hs
          have hp8 : ∀ x ∈ p, x < 256 := fun x hx => hr.2 x (by simp [hx])
          have hq8 : ∀ x ∈ q, x < 256 := fun x hx => hr.2 x (by simp [hx])
          refine hne (rsum_one (last := last) hp8 hq8 hz8 hy8 (be4_inj (rsum_lt _ _ hr.2) (rsum_lt _ _ ?_) hs))
          intro x hx
          simp only [List.mem_append, List.mem_cons] at hx
          rcases hx with hx | rfl | hx
          · exact hp8 x hx
          · exact hy8
          · exact hq8 x hx
        · rw [List.set_append_right _ _ (by omega)]
          rw [List.getElem?_append_right (by omega)] at hz
          have h4 : (be4 (rsum last r)).length = 4 := rfl
          rw [List.set_append_left _ _ (by rw [h4]; omega)]
          rw [List.getElem?_append_left (by rw [h4]; omega)] at hz
          rw [oneRec_of last _ _ _ _ hr.1 rfl (by rw [List.length_set, h4]), if_neg]
          intro hs
          have h5 : ((be4 (rsum last r)).set (k - 2 - r.length) y)[k - 2 - r.length]? = some y := by rw [List.getElem?_set_self (by rw [h4]; omega)]
          rw [hs, hz] at h5
          injection h5 with h5
          exact hne h5
      rw [scanF_none hnone]
      exact ⟨⟨0, by simp, rfl⟩, Nat.zero_le _⟩
    · have hz' : (bookF (rsum last r) rs)[k - (6 + r.length)]? = some z := by
        simp only [bookF] at hz
        rw [List.getElem?_append_right (by rw [enc1_len]; omega), enc1_len] at hz
        exact hz
      obtain ⟨⟨j, hj, he⟩, h2⟩ := flip_law rs (rsum last r) f (k - (6 + r.length)) z y (fun q hq => h q (by simp [hq])) hz' hz8 hy8 hne (fun j hj => by
        have := hpos (j + 1) (by simpa using hj)
        simp only [posn] at this
        omega)
      have e : (bookF last (r :: rs)).set k y = enc1 last r ++ (bookF (rsum last r) rs).set (k - (6 + r.length)) y := by
        simp only [bookF]
        rw [List.set_append_right _ _ (by rw [enc1_len]; omega), enc1_len]
      rw [e, scanF_some (oneRec_enc last r _ hr.1)]
      rw [List.drop_append_of_le_length (by rw [enc1_len]; omega), List.drop_of_length_le (by rw [enc1_len]; omega), List.nil_append]
      refine ⟨⟨j + 1, by simpa using hj, ?_⟩, ?_⟩
      · simp only [List.take_succ_cons, List.cons.injEq, true_and]; exact he
      · dsimp only; omega
end Go.Proofs.Ytaahpjjffggaiaa
