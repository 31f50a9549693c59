/- A log, as plain data: its records, how they are read. No condition but those typed. -/
import Derived.Test.YtaahpjjffggaiaaLogA
namespace Go.Proofs.Ytaahpjjffggaiaa

/-- the first record of what is left, where it is whole -/
def oneRec (last : Nat) (rest : List Nat) : Option (List Nat) :=
  if rest.length < 6 then none else
  if 2000 < rest.getD 0 0 * 256 + rest.getD 1 0 ∨ rest.length < 6 + (rest.getD 0 0 * 256 + rest.getD 1 0) then none else
  if (rest.drop (2 + (rest.getD 0 0 * 256 + rest.getD 1 0))).take 4 = be4 (rsum last ((rest.drop 2).take (rest.getD 0 0 * 256 + rest.getD 1 0))) then some ((rest.drop 2).take (rest.getD 0 0 * 256 + rest.getD 1 0)) else none
def scanF : Nat → List Nat → Nat → List (List Nat) × Nat × Nat
  | 0, _, last => ([], 0, last)
  | f + 1, rest, last => match oneRec last rest with
    | none => ([], 0, last)
    | some r =>
      let x := scanF f (rest.drop (6 + r.length)) (rsum last r)
      (r :: x.1, 6 + r.length + x.2.1, x.2.2)
def scanL (b : List Nat) : List (List Nat) × Nat × Nat := scanF (b.length + 1) b 0

/-- one record, written -/
def enc1 (last : Nat) (r : List Nat) : List Nat := be2 r.length ++ (r ++ be4 (rsum last r))
def bookF (last : Nat) : List (List Nat) → List Nat
  | [] => []
  | r :: rs => enc1 last r ++ bookF (rsum last r) rs
def lastF (last : Nat) : List (List Nat) → Nat
  | [] => last
  | r :: rs => lastF (rsum last r) rs

theorem scanF_none {f : Nat} {b : List Nat} {last : Nat} (h : oneRec last b = none) : scanF (f + 1) b last = ([], 0, last) := by simp only [scanF, h]
theorem scanF_some {f : Nat} {b : List Nat} {last : Nat} {r : List Nat} (h : oneRec last b = some r) : scanF (f + 1) b last = (r :: (scanF f (b.drop (6 + r.length)) (rsum last r)).1, 6 + r.length + (scanF f (b.drop (6 + r.length)) (rsum last r)).2.1, (scanF f (b.drop (6 + r.length)) (rsum last r)).2.2) := by simp only [scanF, h]
theorem enc1_len (last : Nat) (r : List Nat) : (enc1 last r).length = 6 + r.length := by simp [enc1, be2, be4]; omega
theorem bookF_append (last : Nat) (rs ss : List (List Nat)) : bookF last (rs ++ ss) = bookF last rs ++ bookF (lastF last rs) ss := by
  induction rs generalizing last with
  | nil => rfl
  | cons r rs ih => simp [bookF, lastF, ih]
theorem lastF_append (last : Nat) (rs ss : List (List Nat)) : lastF last (rs ++ ss) = lastF (lastF last rs) ss := by
  induction rs generalizing last with
  | nil => rfl
  | cons r rs ih => simp [lastF, ih]
set_option maxRecDepth 100000 in
theorem oneRec_enc (last : Nat) (r t : List Nat) (hr : r.length ≤ 2000) : oneRec last (enc1 last r ++ t) = some r := by
  have e0 : (enc1 last r ++ t).getD 0 0 * 256 + (enc1 last r ++ t).getD 1 0 = r.length := by simp [enc1, be2]; omega
  have hl : (enc1 last r ++ t).length = 6 + r.length + t.length := by rw [List.length_append, enc1_len]
  have hd : (enc1 last r ++ t).drop 2 = r ++ (be4 (rsum last r) ++ t) := by simp [enc1, be2]
  have ht : ((enc1 last r ++ t).drop 2).take r.length = r := by rw [hd]; simp
  have hd4 : ((enc1 last r ++ t).drop (2 + r.length)).take 4 = be4 (rsum last r) := by
    rw [← List.drop_drop, hd]; simp [be4]
  generalize enc1 last r ++ t = X at *
  unfold oneRec
  have c1 : ¬ X.length < 6 := by omega
  have c2 : ¬ (2000 < r.length ∨ X.length < 6 + r.length) := by omega
  simp only [e0, c1, c2, ht, hd4, if_true, if_false]
theorem two_of {l : List Nat} (h : 2 ≤ l.length) : ∃ a b q, l = a :: b :: q := by
  match l, h with
  | a :: b :: q, _ => exact ⟨a, b, q, rfl⟩
  | [a], h => simp at h
  | [], h => simp at h
theorem oneRec_some {last : Nat} {rest r : List Nat} (h8 : ∀ x ∈ rest, x < 256) (h : oneRec last rest = some r) : r.length ≤ 2000 ∧ (∀ x ∈ r, x < 256) ∧ rest = enc1 last r ++ rest.drop (6 + r.length) ∧ 6 + r.length ≤ rest.length := by
  unfold oneRec at h
  split at h
  · cases h
  · rename_i h6
    generalize hn : rest.getD 0 0 * 256 + rest.getD 1 0 = n at h
    split at h
    · cases h
    · rename_i hc
      split at h
      · rename_i hs
        injection h with h
        have hlen : r.length = n := by rw [← h, List.length_take, List.length_drop]; omega
        have h8r : ∀ x ∈ r, x < 256 := fun x hx => h8 x (by rw [← h] at hx; exact List.mem_of_mem_drop (List.mem_of_mem_take hx))
        refine ⟨by omega, h8r, ?_, by omega⟩
        obtain ⟨a, b, q, rfl⟩ := two_of (l := rest) (by omega)
        have ha := h8 a (by simp)
        have hb := h8 b (by simp)
        have hn' : a * 256 + b = n := hn
        have hr' : q.take n = r := h
        have hs' : (q.drop n).take 4 = be4 (rsum last r) := by
          rw [← hr']
          rw [Nat.add_comm 2 n] at hs
          exact hs
        have e2 : be2 r.length = [a, b] := by
          rw [hlen, ← hn']; unfold be2
          rw [show (a * 256 + b) / 256 % 256 = a by omega, show (a * 256 + b) % 256 = b by omega]
        have e3 : List.drop (6 + r.length) (a :: b :: q) = (q.drop n).drop 4 := by
          rw [hlen, List.drop_drop]
          rw [show 6 + n = (n + 4) + 2 by omega]
          rfl
        unfold enc1
        rw [e2, e3, ← hs']
        have h4 : q = r ++ q.drop n := by rw [← hr', List.take_append_drop]
        simp only [List.cons_append, List.nil_append, List.append_assoc, List.take_append_drop]
        rw [← h4]
      · cases h
theorem scanF_spec : ∀ (f : Nat) (b : List Nat) (last : Nat), (∀ x ∈ b, x < 256) → b = bookF last (scanF f b last).1 ++ b.drop (scanF f b last).2.1 ∧ (scanF f b last).2.1 ≤ b.length ∧ (scanF f b last).2.1 = (bookF last (scanF f b last).1).length ∧ (scanF f b last).2.2 = lastF last (scanF f b last).1 ∧ (∀ r ∈ (scanF f b last).1, r.length ≤ 2000 ∧ ∀ x ∈ r, x < 256)
  | 0, b, last, _ => by simp [scanF, bookF, lastF]
  | f + 1, b, last, h8 => by
    cases h : oneRec last b with
    | none => rw [scanF_none h]; simp [bookF, lastF]
    | some r =>
      rw [scanF_some h]
      obtain ⟨h1, h2, h3, h4⟩ := oneRec_some h8 h
      obtain ⟨i1, i2, i3, i4, i5⟩ := scanF_spec f (b.drop (6 + r.length)) (rsum last r) fun x hx => h8 x (List.mem_of_mem_drop hx)
      simp only [bookF, lastF]
      refine ⟨?_, ?_, ?_, i4, ?_⟩
      · rw [List.append_assoc, show b.drop (6 + r.length + (scanF f (b.drop (6 + r.length)) (rsum last r)).2.1) = (b.drop (6 + r.length)).drop (scanF f (b.drop (6 + r.length)) (rsum last r)).2.1 by rw [List.drop_drop], ← i1]; exact h3
      · rw [List.length_drop] at i2; omega
      · rw [List.length_append, enc1_len, ← i3]
      · intro q hq
        simp only [List.mem_cons] at hq
        rcases hq with rfl | hq
        · exact ⟨h1, h2⟩
        · exact i5 q hq
theorem scanF_book : ∀ (rs : List (List Nat)) (f : Nat) (t : List Nat) (last : Nat), (∀ r ∈ rs, r.length ≤ 2000) → scanF (rs.length + f) (bookF last rs ++ t) last = (rs ++ (scanF f t (lastF last rs)).1, (bookF last rs).length + (scanF f t (lastF last rs)).2.1, (scanF f t (lastF last rs)).2.2)
  | [], f, t, last, _ => by simp [bookF, lastF]
  | r :: rs, f, t, last, h => by
    have hr := h r (by simp)
    rw [show (r :: rs).length + f = (rs.length + f) + 1 by simp; omega]
    simp only [bookF, lastF, List.append_assoc]
    rw [scanF_some (oneRec_enc last r _ hr)]
    have hd : (enc1 last r ++ (bookF (rsum last r) rs ++ t)).drop (6 + r.length) = bookF (rsum last r) rs ++ t := by
      rw [List.drop_append_of_le_length (by rw [enc1_len]; omega), List.drop_of_length_le (by rw [enc1_len]; omega), List.nil_append]
    rw [hd, scanF_book rs f t (rsum last r) fun q hq => h q (by simp [hq])]
    simp [enc1_len]; omega
/-- enough fuel is enough -/
theorem scanF_fuel : ∀ (f g : Nat) (b : List Nat) (last : Nat), (∀ x ∈ b, x < 256) → b.length < f → b.length < g → scanF f b last = scanF g b last
  | 0, _, _, _, _, h, _ => by omega
  | _, 0, _, _, _, _, h => by omega
  | f + 1, g + 1, b, last, h8, hf, hg => by
    cases h : oneRec last b with
    | none => rw [scanF_none h, scanF_none h]
    | some r =>
      obtain ⟨_, _, _, h4⟩ := oneRec_some h8 h
      rw [scanF_some h, scanF_some h, scanF_fuel f g (b.drop (6 + r.length)) (rsum last r) (fun x hx => h8 x (List.mem_of_mem_drop hx)) (by rw [List.length_drop]; omega) (by rw [List.length_drop]; omega)]
end Go.Proofs.Ytaahpjjffggaiaa
