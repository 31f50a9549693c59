/- feel.Zero, and what Mean and Zero refuse. Conditions: those typed. -/
import Derived.Test.YtnnbnecpcppkdaaDoorMean
namespace Go.Proofs.YtnnbnecpcppkdaaDoor
open Go.RowKit Go.Gy
set_option linter.unusedVariables false
set_option maxRecDepth 100000 in
set_option maxHeartbeats 4000000 in
theorem mean_bad (w : World) (v : Value) (h : Int) (h1 : h < 1) :
    Calls Tryd.prog 24 #[v, .int .i64 h] w fun e w' => e = .returned (.tuple #[.slice none 0 0, .int .i64 1]) ∧ Below w.heap.size w w' := by
  go_enter Tryd.func24, Tryd.ntmps24
  go_wp2
  refine bodyPost_ret (results_tmp2 rfl _ _ _) rfl ?_
  exact ⟨rfl, Below.refl _ _⟩
set_option maxRecDepth 100000 in
set_option maxHeartbeats 4000000 in
theorem zero_bad (w : World) (v : Value) (l : List Q3) (h : Int) (hv : SlQ w w.heap.size v l) (h1 : h < 1 ∨ (l.length : Int) < h) :
    Calls Tryd.prog 29 #[v, .int .i64 h] w fun e w' => e = .returned (.tuple #[.slice none 0 0, .int .i64 1]) ∧ Below w.heap.size w w' := by
  obtain ⟨A, n, c, rfl, hln, hnc, hA, hrd⟩ := hv
  subst hln
  clear hrd hA
  by_cases h2 : h < 1
  · clear h1
    go_enter Tryd.func29, Tryd.ntmps29
    go_wp2
    refine bodyPost_ret (results_tmp2 rfl _ _ _) rfl ?_
    exact ⟨rfl, Below.refl _ _⟩
  · have h3 : (l.length : Int) < h := by omega
    clear h1
    go_enter Tryd.func29, Tryd.ntmps29
    go_wp2
    refine bodyPost_ret (results_tmp2 rfl _ _ _) rfl ?_
    exact ⟨rfl, Below.refl _ _⟩
theorem own_base {w : World} {base base' : Nat} {e : TypeId} {size n : Nat} {v : Value} {xs : List Value} (h : w.ownsRow base' e size v n xs) (hb : base ≤ base') : w.ownsRow base e size v n xs := by
  obtain ⟨h1, h2 | ⟨g, cap, cur, h2, h3, h4⟩⟩ := h
  · exact ⟨h1, .inl h2⟩
  · exact ⟨h1, .inr ⟨g, cap, cur, h2, Nat.le_trans hb h3, h4⟩⟩
def ZeRel (w : World) (L : List Rat) (c : Rat) (n : Nat) (v i : Value) (wr : World) : Prop := ∃ k : Nat, k ≤ n ∧ i = .int .i64 k ∧ wr.ownsRow w.heap.size 25 3 v k (rowQ ((L.take k).map (· - c))) ∧ Below w.heap.size w wr
set_option maxRecDepth 100000 in
theorem quots_to3 (A : Option Addr) (N C k : Nat) (hk : k ≤ C) (w : World) : (Instr.slice 48 (.slice A N C) none (some (.int .i64 (k : Int))) none).run Tryd.prog w = .ok (.slice A k C) w :=
  run_slice_to 48 3 (by kernel_rfl) size_quot3 A N C k hk w
theorem SlQ.to {w : World} {B n c k : Nat} {A : Option Addr} {L : List Q3} (h : SlQ w B (.slice A n c) L) (hk : k ≤ n) : SlQ w B (.slice A k c) (L.take k) := by
  obtain ⟨A', n', c', he, h1, h2, h3, hrd⟩ := h
  injection he with e1 e2 e3
  subst e1 e2 e3
  refine ⟨A, k, c, rfl, by rw [List.length_take]; omega, by omega, h3, ?_⟩
  have h := hrd.take (k := k) hk
  have key : ∀ (l : List Q3) (k : Nat), (l.flatMap encQ).take (k * 3) = (l.take k).flatMap encQ := by
    intro l
    induction l with
    | nil => intro k; simp
    | cons x l ih =>
      intro k
      cases k with
      | zero => simp
      | succ k => rw [List.flatMap_cons, List.take_succ_cons, List.flatMap_cons, List.take_append, List.take_of_length_le (by rw [encQ_len]; omega), encQ_len, show (k + 1) * 3 - 3 = k * 3 by omega, ih]
  rw [key] at h
  exact h
/-- a row of numbers in lowest terms that the call owns, as a slice -/
theorem SlQ.row {w : World} {base n : Nat} {v : Value} {r : List Rat} (h : w.ownsRow base 25 3 v n (rowQ r)) : SlQ w w.heap.size v (r.map toQ3) := SlQ.own h
set_option maxRecDepth 100000 in
set_option maxHeartbeats 8000000 in
theorem zero_ok (w : World) (v : Value) (l : List Q3) (N : Nat) {B : Nat} (hv : SlQ w w.heap.size v l) (hl : ∀ x ∈ l, x.le B) (hB : 1 ≤ B ∧ B ≤ 134217728) (h1 : 1 ≤ N ∧ N ≤ l.length) (hn : l.length ≤ 1000) (hT : TabW w) :
    Calls Tryd.prog 29 #[v, .int .i64 N] w fun e w' => ∃ v', e = .returned (.tuple #[v', .int .i64 0]) ∧ w'.ownsRow w.heap.size 25 3 v' l.length (rowQ ((l.map Q3.q).map (· - meanV ((l.take N).map Q3.q) N (N - 1)))) ∧ Below w.heap.size w w' := by
  have HT := Lib.hid hT
  obtain ⟨i0, hi0, hz0, hz1, hz2⟩ := info_parts info_rat
  have HV := Lib.hid hv
  obtain ⟨M, rfl⟩ : ∃ M, N = M + 1 := ⟨N - 1, by omega⟩
  rw [Nat.add_sub_cancel]
  obtain ⟨LM, hLM⟩ : ∃ LM, LM = (l.take (M + 1)).map Q3.q := ⟨_, rfl⟩
  have hqz : qz (meanV LM (M + 1) M) ≤ 9 + 1000 * (B + 1) := meanV_qz (B := B) (fun x hx => by
    rw [hLM] at hx
    obtain ⟨y, hy, rfl⟩ := List.mem_map.1 hx
    exact (hl y (List.mem_of_mem_take hy)).qz hB.1) (by rw [hLM, List.length_map, List.length_take]; omega) (by rw [hLM, List.length_map, List.length_take]; omega)
  obtain ⟨z, hz⟩ : ∃ z, z = toQ3 (meanV LM (M + 1) M) := ⟨_, rfl⟩
  have hzq : z.q = meanV LM (M + 1) M := by rw [hz]; exact toQ3_q _
  have hzl : z.le 274877906944 := by rw [hz]; exact toQ3_le (by omega)
  rw [← hLM, ← hzq]
  obtain ⟨A, n, c, rfl, hln, hnc, hA, hrd⟩ := hv
  subst hln
  have g1 : ¬ ((M + 1 : Nat) : Int) < 1 := by omega
  have g2 : ¬ (l.length : Int) < ((M + 1 : Nat) : Int) := by omega
  have g3 : ¬ (l.length : Int) > 1000 := by omega
  have Hto := Lib.hid (fun w => quots_to3 A l.length c (M + 1) (by omega) w)
  have HME := mean_ok w (.slice A (M + 1) c) (l.take (M + 1)) ((M + 1 : Nat) : Int) (HV.out.to h1.2) (fun x hx => hl x (List.mem_of_mem_take hx)) hB (by omega) (by rw [List.length_take]; omega) hT
  rw [Int.toNat_natCast, List.length_take, Nat.min_eq_left h1.2] at HME
  rw [← hLM] at HME
  have HM := Lib.hid HME
  have HRD := Lib.hid hrd
  have Hz := Lib.hid hz
  clear HME hrd hT hz hzq hLM hqz
  go_enter Tryd.func29, Tryd.ntmps29
  go_wp2_with (first
    | (refine wpList_slice_to rfl 48 (.tmp 23) (.tmp 24) rfl A l.length c (M + 1) rfl rfl Tryd.underlying48 Hto.out ?_))
  refine HM.out.mono ?_
  rintro e w1 ⟨vm, rfl, hown, hb1⟩
  obtain ⟨Am, nm, cm, rfl, hnm, _, _, hrdm⟩ := SlQ.row hown
  have hget : ((meansL LM (M + 1) (M + 1)).map toQ3)[M]? = some (toQ3 (meanV LM (M + 1) M)) := by rw [List.getElem?_map, meansL_get (Nat.lt_succ_self M)]; rfl
  have hnm2 : nm = M + 1 := by rw [← hnm, List.length_map]; unfold meansL; rw [List.length_map, List.length_range]
  subst hnm2
  obtain ⟨bm, om, rfl, hbm, e0, e1, e2⟩ := Rd.quot hrdm hget
  rw [← Hz.out] at e0 e1 e2
  have HE := Lib.hid (⟨e0, e1, e2⟩ : And _ (And _ _))
  have HT1 := Lib.hid (tabs w HT.out hb1)
  have hst := Lib.hid (show ZeRel w1 (l.map Q3.q) z.q l.length (.slice none 0 0) (.int .i64 0) w1 from ⟨0, Nat.zero_le _, rfl, ⟨rfl, .inl ⟨rfl, rfl⟩⟩, Below.refl _ _⟩)
  have HML := Lib.hid (show ∀ j, (l.map Q3.q)[j]? = (l[j]?).map Q3.q from fun j => List.getElem?_map)
  have HB1 := Lib.hid hb1
  have hM1 : (M : Int) < (M : Int) + 1 := by omega
  have hbM : 0 ≤ (M : Int) ∧ (M : Int) < ((M + 1 : Nat) : Int) := by omega
  have hwM : IntKind.i64.wrap (M : Int) = (M : Int) := by rw [IntKind.wrap_i64]; omega
  clear hown hrdm hget hnm e0 e1 e2 hb1
  go_wp2_with fail
  go_loopw [8, 32] (fun v i wr => ZeRel w1 (l.map Q3.q) z.q l.length v i wr) (fun _ i _ => l.length - (intOf i).toNat)
  case atStart => exact hst.out
  case round =>
    clear hst
    obtain ⟨k, hk, rfl, hown, hbw⟩ := hrel
    by_cases hkn : k < l.length
    · have hki : (k : Int) < (l.length : Int) := by omega
      have hki2 : 0 ≤ (k : Int) ∧ (k : Int) < (l.length : Int) := by omega
      obtain ⟨x, hx⟩ : ∃ x, l[k]? = some x := ⟨_, List.getElem?_eq_getElem hkn⟩
      obtain ⟨b, o, rfl, hbB, e0, e1, e2⟩ := Rd.quot HRD.out hx
      have hxo : x.le B := hl x (List.mem_of_getElem? hx)
      have hw01 := HB1.out.trans (hbw.mono HB1.out.size)
      have d0 := (hw01.cell (p := ⟨b, o + k * 3, none⟩) hbB).trans e0
      have d1 := (hw01.cell (p := ⟨b, o + k * 3 + 1, none⟩) hbB).trans e1
      have d2 := (hw01.cell (p := ⟨b, o + k * 3 + 2, none⟩) hbB).trans e2
      have hbn : b < wr.heap.size := Nat.lt_of_lt_of_le hbB hw01.size
      obtain ⟨d, qd, cd, _, SU⟩ := subR w1 HT1.out x z (hxo.more (show B ≤ 274877906944 by omega)) hzl
      have hsn : (l.map Q3.q).take (k + 1) = (l.map Q3.q).take k ++ [x.q] := by rw [List.take_add_one, HML.out, hx]; rfl
      have HROW := Lib.hid (show rowQ (((l.map Q3.q).take (k + 1)).map (· - z.q)) = rowQ (((l.map Q3.q).take k).map (· - z.q)) ++ [.bool d.neg, .string d.num, .string d.den] from by rw [hsn, List.map_append]; exact rowQ_can _ cd qd)
      have hwk : IntKind.i64.wrap ((k : Int) + 1) = (k : Int) + 1 := by rw [IntKind.wrap_i64]; omega
      have HNN := Lib.hid (show ∀ v' w', w'.ownsRow w1.heap.size 25 3 v' (k + 1) (rowQ (((l.map Q3.q).take k).map (· - z.q)) ++ [.bool d.neg, .string d.num, .string d.den]) → Below w1.heap.size w1 w' → ZeRel w1 (l.map Q3.q) z.q l.length v' (.int .i64 ((k : Int) + 1)) w' from fun v' w' ho hb => ⟨k + 1, hkn, by simp, by rw [HROW.out]; exact ho, hb⟩)
      have EM := Lib.hid (fun W (hW : Below wr.heap.size wr W) => (⟨((hbw.trans (hW.mono hbw.size)).cell (p := ⟨bm, om + M * 3, none⟩) hbm).trans HE.out.1, ((hbw.trans (hW.mono hbw.size)).cell (p := ⟨bm, om + M * 3 + 1, none⟩) hbm).trans HE.out.2.1, ((hbw.trans (hW.mono hbw.size)).cell (p := ⟨bm, om + M * 3 + 2, none⟩) hbm).trans HE.out.2.2⟩ : And _ (And _ _)))
      replace SU := up SU hbw
      have HOWN := Lib.hid hown
      have HBW := Lib.hid hbw
      have hI := (In.start wr).alloc 25 #[.bool x.neg, .string x.num, .string x.den]
      clear hown hbw hw01 e0 e1 e2 hx qd cd hsn
      go_upto_region 10 with (fail)
      clear d0 d1 d2
      generalize World.alloc _ _ = W1 at hI ⊢
      refine wp_region_in_lateS 8 [0] _ 25 #[.bool d.neg, .string d.num, .string d.den] hI (by kernel_rfl) (by kernel_rfl) rfl ?_
      simp only [List.take_succ_cons, List.take_zero, List.drop_succ_cons, List.drop_zero]
      repeat (first
        | (refine wpSeqL_off (by rfl) ?_; try simp only [Act.put, List.setIfInBounds_toArray, List.set_cons_zero, List.set_cons_succ])
        | (refine wpSeqL_pure (v := ?_) (by rfl) (fun W => ?_) ?_
           rotate_left
           · (go_simp; first | done | with_reducible rfl)
           try simp only [Act.put, List.setIfInBounds_toArray, List.set_cons_zero, List.set_cons_succ])
        | (refine wpSeqL_val (v := ?_) (by rfl) (by rfl) (fun W hS => ?_) ?_
           rotate_left
           · (have fx := hS.facts; simp only [factsOf, cellsOf, Nat.zero_add, Nat.reduceAdd] at fx; have fy0 := EM.out W hS.bel; clear hS; go_simp; first | done | with_reducible rfl)
           try simp only [Act.put, List.setIfInBounds_toArray, List.set_cons_zero, List.set_cons_succ]))
      refine wpSeqL_call (v := .agg #[.bool d.neg, .string d.num, .string d.den]) (by rfl) (by rfl) (fun W hS => ?_) (fun W hS => (SU.out W hS.bel)) ?_
      · (clear hS; go_simp; done)
      try simp only [Act.put, List.setIfInBounds_toArray, List.set_cons_zero, List.set_cons_succ]
      repeat (first
        | (refine wpSeqL_off (by rfl) ?_; try simp only [Act.put, List.setIfInBounds_toArray, List.set_cons_zero, List.set_cons_succ])
        | (refine wpSeqL_pure (v := ?_) (by rfl) (fun W => ?_) ?_
           rotate_left
           · (go_simp; first | done | with_reducible rfl)
           try simp only [Act.put, List.setIfInBounds_toArray, List.set_cons_zero, List.set_cons_succ])
        | (refine wpSeqL_val (v := ?_) (by rfl) (by rfl) (fun W hS => ?_) ?_
           rotate_left
           · (have fx := hS.facts; simp only [factsOf, cellsOf, Nat.zero_add, Nat.reduceAdd] at fx; clear hS; go_simp; first | done | with_reducible rfl)
           try simp only [Act.put, List.setIfInBounds_toArray, List.set_cons_zero, List.set_cons_succ]))
      refine wpSeqL_nil ⟨rfl, fun W hS => ?_, fun g W hI => ?_⟩
      · go_simp
      simp only [List.setIfInBounds_toArray, List.set_cons_zero, List.set_cons_succ]
      have Ho := Lib.hid (own_below HOWN.out hI.bel (Nat.le_refl _))
      have hBK := HBW.out.trans (hI.bel.mono HBW.out.size)
      have hbase := hBK.size
      have HBK := Lib.hid hBK
      have hrs : Rd W W.heap.size 3 (some ⟨g, 0, none⟩) 1 [.bool d.neg, .string d.num, .string d.den] := ⟨rfl, fun _ => ⟨g, 0, rfl, hI.lt (k := 0) rfl, fun j u hj => by rw [Nat.zero_add]; exact hI.cell (k := 0) rfl hj⟩⟩
      have Hrs := Lib.hid hrs
      clear hI hBK hrs
      go_wp2_with (at_builtin; refine wpList_extend rfl (.tmp 36) (.tmp 44) 48 rfl w1.heap.size 25 i0 (.agg #[.bool false, .string { data := #[] }, .string { data := #[] }]) 3 40 Tryd.underlying48 hi0 hz0 hz1 hz2 rfl (by omega) _ k _ rfl Ho.out _ 1 1 _ [.bool d.neg, .string d.num, .string d.den] rfl (fun h => by cases h) Hrs.out (by simp [Value.oneCell']) (by unfold maxLen; omega) (by omega) hbase ?_; intro v6 w6 hn6 hb6)
      have hrel := HNN.out _ _ hn6 (HBK.out.trans hb6)
      clear hn6 hb6
      refine NoPanic.normal ?_
      go_wp2_with fail
      go_roundw
      case rel => exact hrel
      case measure => simp [intOf]; omega
    · obtain rfl : k = l.length := by omega
      have hki : ¬ (l.length : Int) < (l.length : Int) := by omega
      have Ho := Lib.hid hown
      have hfin := HB1.out.trans (hbw.mono HB1.out.size)
      have hsz := HB1.out.size
      clear hown
      go_wp2
      refine bodyPost_ret (results_tmp2 rfl _ _ _) rfl ?_
      refine ⟨_, rfl, ?_, hfin⟩
      have h := Ho.out
      rw [List.take_of_length_le (by simp), List.map_map] at h
      exact own_base h hsz
end Go.Proofs.YtnnbnecpcppkdaaDoor
