/- What is kept and what comes back, in words of lists. Conditions: those typed. -/
import Derived.Test.YtaahpjjffggaiaaKeep
import Derived.Test.YtaahpjjffggaiaaCutPlain
namespace Go.Proofs.Ytaahpjjffggaiaa
open Go.RowKit Go.Gy
set_option linter.unusedVariables false
theorem readF_evB {e : GEv} (h : checkF e = 0) : readFE (evB e) = 0 ∧ readF (evB e) = e := by
  have hc := checkF_zero h
  have h0 : readF0 (evB e) = e := by
    obtain ⟨k, n, l⟩ := e
    simp only at hc
    unfold readF0
    have h1 : ((evB ⟨k, n, l⟩).getD 0 0 : Nat) = k.toNat := rfl
    have h2 : numAt (evB ⟨k, n, l⟩) 1 = n.toNat := by
      unfold numAt evB
      simp only [List.drop_succ_cons, List.drop_zero]
      rw [List.take_append_of_le_length (by simp [be4]), List.take_of_length_le (by simp [be4])]
      exact valN_be4 _ (by omega)
    have h3 : (evB ⟨k, n, l⟩).drop 5 = l.flatMap cellB := by
      unfold evB
      rw [List.drop_succ_cons, List.drop_append_of_le_length (by simp [be4]), List.drop_of_length_le (by simp [be4]), List.nil_append]
    rw [h1, h2, h3, cellsOf_flat l (cellsF_zero hc.2.2.2.2.2.2).2]
    congr 1 <;> omega
  have h1 : readFE (evB e) = 0 := by
    unfold readFE
    rw [evB_len, if_neg (by omega), if_neg (by omega), h0, h]
  exact ⟨h1, by unfold readF; rw [if_pos h1, h0]⟩
theorem GoodEvs.take {es : List GEv} (h : GoodEvs es) (j : Nat) : GoodEvs (es.take j) := fun k e he => by
  rw [List.getElem?_take] at he
  split at he
  · rename_i hk
    rw [List.take_take, List.take_take, Nat.min_eq_left (by omega), Nat.min_eq_left (by omega)]
    exact h k e he
  · cases he
theorem recs_fit {es : List GEv} (h : GoodEvs es) : ∀ r ∈ es.map evB, r.length ≤ 805 ∧ ∀ x ∈ r, x < 256 := by
  intro r hr
  obtain ⟨e, he, rfl⟩ := List.mem_map.1 hr
  have hc := h.check he
  refine ⟨?_, evB_lt hc⟩
  rw [evB_len]
  have := (cellsF_zero (checkF_zero hc).2.2.2.2.2.2).1
  omega
theorem recs_fit' {es : List GEv} (h : GoodEvs es) : ∀ r ∈ es.map evB, r.length ≤ 2000 ∧ ∀ x ∈ r, x < 256 := fun r hr => ⟨Nat.le_trans (recs_fit h r hr).1 (by omega), (recs_fit h r hr).2⟩
theorem keep_step {es : List GEv} (h : GoodEvs es) (hn : es.length ≤ 30) {k : Nat} {e : GEv} (he : es[k]? = some e) :
    keepF (foldF (es.take k)) (bookF 0 ((es.take k).map evB)) e = (0, foldF (es.take (k + 1)), bookF 0 ((es.take (k + 1)).map evB)) := by
  have hd := h k e he
  have hm : e ∈ es := List.mem_of_getElem? he
  have hf := recs_fit' (h.take k)
  have hr := recs_fit h (evB e) (List.mem_map.2 ⟨e, hm, rfl⟩)
  have hA : addE (bookF 0 ((es.take k).map evB)) (evB e) = 0 := by
    refine addE_of (by omega) ?_
    rw [scan_book hf]
    have := book_len 0 _ (fun r hr => (hf r hr).1)
    rw [List.length_map, List.length_take] at this
    have h1 : min k es.length ≤ 30 := by omega
    have h2 := Nat.mul_le_mul_right 2006 h1
    show (bookF 0 ((es.take k).map evB)).length + 6 + (evB e).length ≤ 100000
    omega
  unfold keepF
  rw [hd, if_neg (by simp), if_neg (by rw [hA]; simp), add_book hf hA]
  rw [List.take_add_one (i := k), he]
  simp
theorem backL_good {es : List GEv} (h : GoodEvs es) : ∀ (d k : Nat), k + d = es.length → backL (foldF (es.take k)) k ((es.drop k).map evB) = (foldF es, es.length, 0)
  | 0, k, hk => by
    rw [List.drop_of_length_le (by omega), List.take_of_length_le (by omega)]
    simp [backL]; omega
  | d + 1, k, hk => by
    have hk' : k < es.length := by omega
    have he : es[k]? = some es[k] := List.getElem?_eq_getElem hk'
    rw [List.drop_eq_getElem_cons hk', List.map_cons]
    unfold backL
    have hr := readF_evB (h.check (List.getElem_mem hk'))
    rw [hr.1, hr.2, if_neg (by simp), h k _ he, if_neg (by simp)]
    exact backL_good h d (k + 1) (by omega)
theorem back_good {es : List GEv} (h : GoodEvs es) : backF (bookF 0 (es.map evB)) = (foldF es, es.length, 0) := by
  unfold backF
  rw [scan_book (recs_fit' h)]
  exact backL_good h es.length 0 (by omega)
theorem back_cut {es : List GEv} (h : GoodEvs es) (c : Nat) : ∃ j, j ≤ es.length ∧ backF ((bookF 0 (es.map evB)).take c) = (foldF (es.take j), j, 0) := by
  obtain ⟨j, hj, hs⟩ := cut_law (es.map evB) 0 (((bookF 0 (es.map evB)).take c).length + 1) c (fun r hr => (recs_fit' h r hr).1)
  rw [List.length_map] at hj
  refine ⟨j, hj, ?_⟩
  unfold backF scanL
  rw [hs, ← List.map_take]
  have := backL_good (h.take j) j 0 (by rw [List.length_take]; omega)
  simp only [List.drop_zero, List.take_zero] at this
  rw [List.length_take, Nat.min_eq_left hj] at this
  exact this
end Go.Proofs.Ytaahpjjffggaiaa
