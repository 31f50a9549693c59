/- (*ctl.Ctl).Over. Conditions: those typed. -/
import Derived.Test.YtnnbnecpcppkdaaDoorCtlO
namespace Go.Proofs.YtnnbnecpcppkdaaDoor
open Go.RowKit Go.Gy
set_option linter.unusedVariables false
set_option linter.unusedSimpArgs false
/-- an arm is at the end of its track -/
def overB (K : List Ky) (tick : Int) (ql : List Q3) (n : Nat) : Bool := match K[K.length - 1]? with
  | none => false
  | some k => !decide (tick < k.1) && (decide (ql.length = n) && decide (lateV ((atQ K (bndZ tick)).map toQ3) ql n = 0))
theorem over_nil (tick : Int) (ql : List Q3) (n : Nat) : overB [] tick ql n = false := rfl
theorem over_last {K : List Ky} {k : Ky} (h : K[K.length - 1]? = some k) (tick : Int) (ql : List Q3) (n : Nat) : overB K tick ql n = (!decide (tick < k.1) && (decide (ql.length = n) && decide (lateV ((atQ K (bndZ tick)).map toQ3) ql n = 0))) := by
  unfold overB
  rw [h]
theorem qz_absQ (x : Rat) : qz (absQ x) = qz x := by
  unfold absQ
  split
  · exact qz_neg x
  · rfl
theorem late_qz {N : Nat} {gl ql : List Q3} (hg : ∀ x ∈ gl, qz x.q ≤ 3 * N + 40) (hq : ∀ x ∈ ql, qz x.q ≤ N) : ∀ k, qz (lateV gl ql k) ≤ 4 * N + 41
  | 0 => by
    show qz 0 ≤ _
    rw [qz_zero]
    omega
  | k + 1 => by
    have ih := late_qz hg hq k
    show qz (match gl[k]?, ql[k]? with | some g, some q => maxQ (lateV gl ql k) (absQ (g.q - q.q)) | _, _ => lateV gl ql k) ≤ _
    split
    · next g q h1 h2 =>
      have e1 := hg g (List.mem_of_getElem? h1)
      have e2 := hq q (List.mem_of_getElem? h2)
      have e3 := qz_sub g.q q.q
      unfold maxQ
      split
      · rw [qz_absQ]; omega
      · exact ih
    · exact ih
set_option maxRecDepth 100000 in
set_option maxHeartbeats 8000000 in
theorem over_ctl (w : World) (hT : TabW w) (p : Nat) (a : Ar) (vt : Value) (K : List Ky) (tick : Int) (vq vv : Value) (ql : List Q3) (pw : Bool) (hd : Int) {N : Nat} (hC : CtlAt w p a vt) (hL3 : a.L.length ≤ 3) (hv : SlK w w.heap.size vt K) (hl : KyLe K N) (hK : KyOk K) (hKn : KyN K a.L.length) (hn : K.length ≤ 60) (ht : InI tick) (hq : SlQ w w.heap.size vq ql) (lq : ∀ x ∈ ql, x.le N) (hvv : ∃ A n c, vv = .slice A n c) (hN : 1 ≤ N ∧ N ≤ 68719476) :
    Calls Tryd.prog 61 #[.pointer (some ⟨p, 0, none⟩), .int .i64 tick, .agg #[vq, vv, .bool pw, .int .i64 hd]] w fun e w' => e = .returned (.bool (overB K tick ql a.L.length)) ∧ Below w.heap.size w w' := by
  have HLT := Lib.hid (fun (hne : K ≠ []) (hqn : ql.length = a.L.length) (Z : Q3) cZ qZ W (hW : Below w.heap.size w W) => late_ctl W (tabs w hT hW) p a vt K tick vq vv ql pw hd (hC.below hW) hL3 (hv.up hW) hl hK hKn hn hne ht (hq.up hW) lq hqn hvv hN Z cZ qZ)
  have HT := Lib.hid hT
  obtain ⟨Aq, nq, Cq, rfl, hnq, _⟩ := id hq
  subst hnq
  obtain ⟨Av, nv, Cv, rfl⟩ := hvv
  obtain ⟨At, nt, Ct, rfl, hnt, _, _, hrk, _⟩ := id hv
  subst hnt
  obtain ⟨⟨A, N9, C, hva, hNL, _⟩, _⟩ := id hC.2
  have hlen : N9 = a.L.length := by rw [← hNL, Ar.ks_len]
  subst hlen
  have c11 := hC.cell (i := 11) rfl
  have c12 := hC.cell (i := 12) rfl
  rw [hva] at c11
  have hpl : p < w.heap.size := hC.lt
  have EC := Lib.hid (fun W (hW : Below w.heap.size w W) => (⟨(hW.cell (p := ⟨p, 11, none⟩) hpl).trans c11, (hW.cell (p := ⟨p, 12, none⟩) hpl).trans c12, Nat.lt_of_lt_of_le hpl hW.size⟩ : And _ (And _ _)))
  have HQZ := Lib.hid (show K ≠ [] → ∀ k, qz (lateV ((atQ K (bndZ tick)).map toQ3) ql k) ≤ 4 * N + 41 from fun _ => late_qz (fun x hx => by
    obtain ⟨y, hy, rfl⟩ := List.mem_map.1 hx
    rw [toQ3_q]
    exact atQ_qz hN.1 (by unfold bndZ; omega) hK hl y hy) (fun x hx => (lq x hx).qz hN.1))
  obtain ⟨n, hnd⟩ : ∃ n, n = a.L.length := ⟨_, rfl⟩
  rw [← hnd] at EC HLT ⊢
  have hI := ((In.start w).alloc 61 #[.slice Aq ql.length Cq, .slice Av nv Cv, .bool pw, .int .i64 hd])
  obtain ⟨g5, hg5⟩ : ∃ g, g = w.heap.size := ⟨_, rfl⟩
  clear hC hv hl hKn lq hq hT hNL hva c11 c12 hnd ht hpl
  by_cases hK0 : K = []
  · subst hK0
    clear HLT HQZ hrk
    have e0 : (([] : List Ky).length : Int) = 0 := rfl
    have HO := Lib.hid (over_nil tick ql n)
    rw [HO.out]
    go_enter Tryd.func61, Tryd.ntmps61
    go_upto_region 1 with (fail)
    rw [← hg5] at hI ⊢
    clear hg5
    generalize World.alloc _ _ = W1 at hI ⊢
    refine wp_region_in hI (by kernel_rfl) (by kernel_rfl) ?_
    repeat (first
      | (refine wpSeq_off (by rfl) ?_; try simp only [Act.put, List.setIfInBounds_toArray, List.set_cons_zero, List.set_cons_succ])
      | (refine wpSeq_val (v := ?_) (by rfl) (fun W hS => ?_) ?_
         rotate_left
         · (have fx := hS.facts; simp only [factsOf, cellsOf, Nat.zero_add, Nat.reduceAdd] at fx; have fy0 := EC.out W hS.bel; clear hS; go_simp; first | done | with_reducible rfl)
         try simp only [Act.put, List.setIfInBounds_toArray, List.set_cons_zero, List.set_cons_succ]))
    refine wpSeq_nil (fun W hS => ?_)
    have hfin := hS.bel
    clear hI hS
    go_wp2
    go_ret
    exact ⟨rfl, hfin⟩
  · obtain ⟨m, hm⟩ : ∃ m, K.length = m + 1 := ⟨K.length - 1, by have := List.length_pos_iff.mpr hK0; omega⟩
    obtain ⟨k, hk⟩ : ∃ k, K[K.length - 1]? = some k := ⟨_, List.getElem?_eq_getElem (by omega)⟩
    have HO := Lib.hid (over_last hk tick ql n)
    rw [HO.out]
    rw [hm, Nat.add_sub_cancel] at hk
    obtain ⟨b, o, rfl, hb, k0, _⟩ := Rd.key hrk hk
    have HLT := Lib.hid (HLT.out hK0)
    have HQZ := Lib.hid (HQZ.out hK0)
    have hk1 := (hK.1 k (List.mem_of_getElem? hk))
    obtain ⟨kt, hkt⟩ : ∃ kt, kt = k.1 := ⟨_, rfl⟩
    rw [← hkt] at k0 hk1 ⊢
    have EK := Lib.hid (fun W (hW : Below w.heap.size w W) => ((hW.cell (p := ⟨b, o + m * 2, none⟩) hb).trans k0))
    have hm60 : m ≤ 60 := by omega
    rw [hm] at EC
    have hw1 : IntKind.i64.wrap (m : Int) = (m : Int) := by rw [IntKind.wrap_i64]; omega
    have hw3 : 0 ≤ (m : Int) ∧ (m : Int) < (m : Int) + 1 := by omega
    have hw4 : ((m : Int) + 1 == 0) = false := by simp; omega
    obtain ⟨Z, cZ, qZ⟩ : ∃ Z : Q3, Z.can ∧ Z.q = lateV ((atQ K (bndZ tick)).map toQ3) ql n := ⟨toQ3 _, toQ3_can _, toQ3_q _⟩
    have lZ : Z.le (4 * N + 41) := by
      rw [cZ]
      exact toQ3_le (by rw [qZ]; exact HQZ.out n)
    have HL := Lib.hid (fun (hqn : ql.length = n) W (hW : Below w.heap.size w W) => HLT.out hqn Z cZ qZ W hW)
    rw [← qZ]
    obtain ⟨cs, hcs, s1, s2, SG⟩ := signR w HT.out Z lZ (by omega)
    have HSG := Lib.hid (show (cs = 0 ↔ Z.q = 0) from by
      constructor
      · intro h
        have h1 : ¬ 0 < Z.q := fun h2 => by have := s1.mpr h2; omega
        have h2 : ¬ Z.q < 0 := fun h2 => by have := s2.mpr h2; omega
        grind
      · intro h
        have h1 : ¬ 0 < cs := fun h2 => by have := s1.mp h2; grind
        have h2 : ¬ cs < 0 := fun h2 => by have := s2.mp h2; grind
        omega)
    obtain ⟨zq, hzq⟩ : ∃ zq, zq = Z.q := ⟨_, rfl⟩
    rw [← hzq] at HSG ⊢
    obtain ⟨B, hB⟩ : ∃ B, B = (!decide (tick < kt) && (decide (ql.length = n) && decide (zq = 0))) := ⟨_, rfl⟩
    rw [← hB]
    have HBD := Lib.hid hB
    clear hk hkt hrk hK hb k0 hK0 HLT HQZ cZ qZ lZ s1 s2 hcs hzq hB
    go_enter Tryd.func61, Tryd.ntmps61
    go_upto_region 1 with (fail)
    rw [← hg5] at hI ⊢
    clear hg5
    generalize World.alloc _ _ = W1 at hI ⊢
    by_cases ht : tick < kt
    · have hr := Lib.hid (show (!decide (tick < kt) && (decide (ql.length = n) && decide (zq = 0))) = false from by simp [ht])
      refine wp_region_in hI (by kernel_rfl) (by kernel_rfl) ?_
      repeat (first
        | (refine wpSeq_off (by rfl) ?_; try simp only [Act.put, List.setIfInBounds_toArray, List.set_cons_zero, List.set_cons_succ])
        | (refine wpSeq_val (v := ?_) (by rfl) (fun W hS => ?_) ?_
           rotate_left
           · (have fx := hS.facts; simp only [factsOf, cellsOf, Nat.zero_add, Nat.reduceAdd] at fx; have fy0 := EC.out W hS.bel; have fy1 := EK.out W hS.bel; clear hS; go_simp; first | done | with_reducible rfl)
           try simp only [Act.put, List.setIfInBounds_toArray, List.set_cons_zero, List.set_cons_succ]))
      refine wpSeq_nil (fun W hS => ?_)
      have hfin := hS.bel
      clear hI hS
      go_wp2
      go_ret
      exact ⟨(by rw [HBD.out, hr.out]; try rfl), hfin⟩
    · refine wp_region_in hI (by kernel_rfl) (by kernel_rfl) ?_
      repeat (first
        | (refine wpSeq_off (by rfl) ?_; try simp only [Act.put, List.setIfInBounds_toArray, List.set_cons_zero, List.set_cons_succ])
        | (refine wpSeq_val (v := ?_) (by rfl) (fun W hS => ?_) ?_
           rotate_left
           · (have fx := hS.facts; simp only [factsOf, cellsOf, Nat.zero_add, Nat.reduceAdd] at fx; have fy0 := EC.out W hS.bel; have fy1 := EK.out W hS.bel; clear hS; go_simp; first | done | with_reducible rfl)
           try simp only [Act.put, List.setIfInBounds_toArray, List.set_cons_zero, List.set_cons_succ]))
      refine wpSeq_nil (fun W hS => ?_)
      clear hI EK
      have hI := hS
      clear hS
      by_cases hqn : ql.length = n
      · have hq1 : ((ql.length : Int) == (n : Int)) = true := by simp [hqn]
        have HLL := Lib.hid (HL.out hqn)
        have hr := Lib.hid (show (!decide (tick < kt) && (decide (ql.length = n) && decide (zq = 0))) = (cs == 0) from by
          simp only [ht, hqn, decide_false, Bool.not_false, decide_true, Bool.true_and]
          by_cases h : cs = 0
          · rw [decide_eq_true (HSG.out.mp h)]; simp [h]
          · rw [decide_eq_false (fun h2 => h (HSG.out.mpr h2))]; simp [h])
        clear hqn HL
        go_upto_region 3 with (fail)
        refine wp_region_in hI (by kernel_rfl) (by kernel_rfl) ?_
        repeat (first
          | (refine wpSeq_off (by rfl) ?_; try simp only [Act.put, List.setIfInBounds_toArray, List.set_cons_zero, List.set_cons_succ])
          | (refine wpSeq_val (v := ?_) (by rfl) (fun W hS => ?_) ?_
             rotate_left
             · (have fx := hS.facts; simp only [factsOf, cellsOf, Nat.zero_add, Nat.reduceAdd] at fx; have fy0 := EC.out W hS.bel; clear hS; go_simp; first | done | with_reducible rfl)
             try simp only [Act.put, List.setIfInBounds_toArray, List.set_cons_zero, List.set_cons_succ]))
        refine wpSeq_call (v := .agg #[.bool Z.neg, .string Z.num, .string Z.den]) (by rfl) (fun W hS => ?_) (fun W hS => (HLL.out W hS.bel)) ?_
        · (clear hS; go_simp; done)
        try simp only [Act.put, List.setIfInBounds_toArray, List.set_cons_zero, List.set_cons_succ]
        repeat (first
          | (refine wpSeq_off (by rfl) ?_; try simp only [Act.put, List.setIfInBounds_toArray, List.set_cons_zero, List.set_cons_succ])
          | (refine wpSeq_val (v := ?_) (by rfl) (fun W hS => ?_) ?_
             rotate_left
             · (have fx := hS.facts; simp only [factsOf, cellsOf, Nat.zero_add, Nat.reduceAdd] at fx; have fy0 := EC.out W hS.bel; clear hS; go_simp; first | done | with_reducible rfl)
             try simp only [Act.put, List.setIfInBounds_toArray, List.set_cons_zero, List.set_cons_succ]))
        refine wpSeq_call (v := .int .i64 cs) (by rfl) (fun W hS => ?_) (fun W hS => (SG.out W hS.bel)) ?_
        · (clear hS; go_simp; done)
        try simp only [Act.put, List.setIfInBounds_toArray, List.set_cons_zero, List.set_cons_succ]
        repeat (first
          | (refine wpSeq_off (by rfl) ?_; try simp only [Act.put, List.setIfInBounds_toArray, List.set_cons_zero, List.set_cons_succ])
          | (refine wpSeq_val (v := ?_) (by rfl) (fun W hS => ?_) ?_
             rotate_left
             · (have fx := hS.facts; simp only [factsOf, cellsOf, Nat.zero_add, Nat.reduceAdd] at fx; have fy0 := EC.out W hS.bel; clear hS; go_simp; first | done | with_reducible rfl)
             try simp only [Act.put, List.setIfInBounds_toArray, List.set_cons_zero, List.set_cons_succ]))
        refine wpSeq_nil (fun W hS => ?_)
        have hfin := hS.bel
        clear hI hS
        go_wp2
        go_ret
        exact ⟨(by rw [HBD.out, hr.out]; try rfl), hfin⟩
      · have hq1 : ((ql.length : Int) == (n : Int)) = false := by simp; omega
        have hr := Lib.hid (show (!decide (tick < kt) && (decide (ql.length = n) && decide (zq = 0))) = false from by simp [hqn])
        clear hqn HL
        go_upto_region 3 with (fail)
        refine wp_region_in hI (by kernel_rfl) (by kernel_rfl) ?_
        repeat (first
          | (refine wpSeq_off (by rfl) ?_; try simp only [Act.put, List.setIfInBounds_toArray, List.set_cons_zero, List.set_cons_succ])
          | (refine wpSeq_val (v := ?_) (by rfl) (fun W hS => ?_) ?_
             rotate_left
             · (have fx := hS.facts; simp only [factsOf, cellsOf, Nat.zero_add, Nat.reduceAdd] at fx; have fy0 := EC.out W hS.bel; clear hS; go_simp; first | done | with_reducible rfl)
             try simp only [Act.put, List.setIfInBounds_toArray, List.set_cons_zero, List.set_cons_succ]))
        refine wpSeq_nil (fun W hS => ?_)
        have hfin := hS.bel
        clear hI hS
        go_wp2
        go_ret
        exact ⟨(by rw [HBD.out, hr.out]; try rfl), hfin⟩
end Go.Proofs.YtnnbnecpcppkdaaDoor
