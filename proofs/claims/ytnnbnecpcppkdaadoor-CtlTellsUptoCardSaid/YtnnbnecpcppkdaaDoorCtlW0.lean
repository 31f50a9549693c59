/- gantlaw5.wishes says true. Conditions: those typed. -/
import Derived.Test.YtnnbnecpcppkdaaDoorCtlV
namespace Go.Proofs.YtnnbnecpcppkdaaDoor
open Go.RowKit Go.Gy
set_option linter.unusedVariables false
set_option linter.unusedSimpArgs false
set_option maxRecDepth 100000 in
set_option maxHeartbeats 16000000 in
theorem wishes_false (w : World) (p : Nat) (a a' : Ar) (vt v : Value) (K K' : List Ky) (tick tz : Int) (vq vv : Value) (ql : List Q3) (pw : Bool) (hd : Int) {N : Nat} (hO : WhOk w p a a' vt v K K' tz ql false N) (htz : min 2000 (max (-1) tick) = tz) (hq : SlQ w w.heap.size vq ql) (hvv : ∃ A n c, vv = .slice A n c) (hqn : ql.length = a.L.length) :
    Calls Tryd.prog 58 #[.pointer (some ⟨p, 0, none⟩), a.val, v, .int .i64 tick, .agg #[vq, vv, .bool pw, .int .i64 hd], .bool false] w fun e w' => e = .returned (.bool true) ∧ Below w.heap.size w w' := by
  obtain ⟨Aq, nq, Cq, rfl, hnq, _⟩ := id hq
  subst hnq
  obtain ⟨Av, nv, Cv, rfl⟩ := hvv
  obtain ⟨At, nt, Ct, rfl, hnt, _⟩ := id hO.sl
  subst hnt
  have HO := Lib.hid hO
  have HT := Lib.hid hO.tab
  have HQ := Lib.hid hq
  have HQN := Lib.hid hqn
  have HN := Lib.hid hO.hN
  have htz2 := hO.tz
  have HWI := Lib.hid (fun W (hW : Below w.heap.size w W) => wh_wish hO hW hq ⟨Av, nv, Cv, rfl⟩ pw hd hqn)
  obtain ⟨Z, hZ⟩ : ∃ Z, Z = toQ3 (latV K' tz ql a.L.length) := ⟨_, rfl⟩
  have HLT := Lib.hid (fun W (hW : Below w.heap.size w W) => wh_late hO hW hq ⟨Av, nv, Cv, rfl⟩ pw hd hqn (Z := Z) (by rw [hZ]; exact toQ3_can _) (by rw [hZ, toQ3_q]))
  have HOV := Lib.hid (fun W (hW : Below w.heap.size w W) => wh_over hO hW hq ⟨Av, nv, Cv, rfl⟩ pw hd)
  have HZ := Lib.hid hZ
  obtain ⟨k1, k2, k3, k4, k5⟩ := hO.keys
  have HK5 := Lib.hid k5
  have HGN := Lib.hid (goal_len k3 tz (ql := ql) (by rw [hO.n, hqn]))
  have HNN := Lib.hid (nowL_len k3 tz (ql := ql) (by rw [hO.n, hqn]))
  have HGL := Lib.hid (goal_le hO.hN.1 k1 k2 tz hO.lq)
  have HNL := Lib.hid (nowL_le hO.hN.1 k1 k2 hO.tz hO.lq)
  have HTW := Lib.hid (fun k x q g => wh_tow hO (k := k) (x := x) (q := q) (g := g))
  have HLV := Lib.hid (show false = true → ∀ k, latV K' tz ql k = lateV (nowL K' tz ql) ql k from fun h k => latV_cons (k5 h).1 tz ql k)
  have HL0 := Lib.hid (show false = false → ∀ k, latV K' tz ql k = 0 from fun h k => by
    rcases hO.has_ with ⟨h1, _⟩ | ⟨_, h2⟩
    · exact absurd (h.symm.trans h1) (by decide)
    · rw [h2]; rfl)
  have HGE := Lib.hid (show false = true → goalL K' tz ql = (atQ K (tz + 1)).map toQ3 from fun h => by
    rcases hO.has_ with ⟨_, _, h3⟩ | ⟨h1, _⟩
    · rw [goal_cons (k5 h).1, h3.at, bndZ_id hO.tz]
    · exact absurd (h.symm.trans h1) (by decide))
  have HNE := Lib.hid (show false = true → nowL K' tz ql = (atQ K tz).map toQ3 from fun h => by
    rcases hO.has_ with ⟨_, _, h3⟩ | ⟨h1, _⟩
    · rw [nowL_cons (k5 h).1, h3.at]
    · exact absurd (h.symm.trans h1) (by decide))
  have HGF := Lib.hid (show false = false → goalL K' tz ql = ql ∧ nowL K' tz ql = ql from fun h => by
    rcases hO.has_ with ⟨h1, _⟩ | ⟨_, h2⟩
    · exact absurd (h.symm.trans h1) (by decide)
    · rw [h2]; exact ⟨rfl, rfl⟩)
  obtain ⟨gl, hgl⟩ : ∃ gl, gl = goalL K' tz ql := ⟨_, rfl⟩
  obtain ⟨nl, hnl⟩ : ∃ nl, nl = nowL K' tz ql := ⟨_, rfl⟩
  have HGD := Lib.hid hgl
  have HND := Lib.hid hnl
  rw [← hgl] at HGN HGL HTW HWI HGE HGF
  rw [← hnl] at HNN HNL HLV HNE HGF
  obtain ⟨WL, hWL⟩ : ∃ WL, WL = wishL a'.L ql gl a.L.length := ⟨_, rfl⟩
  rw [← hWL] at HWI HTW
  rw [hO.n] at HGN HNN
  obtain ⟨LV, hLV⟩ : ∃ LV, LV = latV K' tz ql := ⟨_, rfl⟩
  rw [← hLV] at HZ HLV HL0
  have HLS := Lib.hid (show LV 0 = 0 from by
    rw [hLV]
    by_cases h : K' = []
    · rw [h]; rfl
    · rw [latV_cons h]; rfl)
  have HBV0 := Lib.hid (show false = false → overB K' tz ql a.L.length = false from fun h => by
    rcases hO.has_ with ⟨h1, _⟩ | ⟨_, h2⟩
    · exact absurd (h.symm.trans h1) (by decide)
    · rw [h2]; rfl)
  have HBV1 := Lib.hid (show false = true → ∀ k, K[K.length - 1]? = some k → overB K' tz ql a.L.length = (!decide (tz < k.1) && decide (LV a.L.length = 0)) from fun h k hk => by
    cases h)
  obtain ⟨ar, har⟩ : ∃ ar, ar = a := ⟨_, rfl⟩
  have HAT := hO.at_
  have HAL := hO.le
  rw [← har] at HWI HOV HGN HNN HTW HQN HO HBV0 HBV1 hqn
  obtain ⟨nm, ⟨px, py⟩, hf, t, va, L⟩ := a
  obtain ⟨⟨A, N9, C, hva, hNL, hNC, _, hrd⟩, hshp⟩ := HAT
  obtain rfl : va = .slice A N9 C := hva
  have hval : (⟨nm, ⟨px, py⟩, hf, t, .slice A N9 C, L⟩ : Ar).val = .agg #[.string nm, .bool px.neg, .string px.num, .string px.den, .bool py.neg, .string py.num, .string py.den, .bool hf, .bool t.neg, .string t.num, .string t.den, .slice A N9 C] := rfl
  rw [hval]
  have hLL : ar.L = L := by rw [har]
  rw [hLL] at HWI HGN HNN HTW HQN HOV HBV0 HBV1 hqn
  obtain rfl : L.length = N9 := (Ar.ks_len ⟨nm, ⟨px, py⟩, hf, t, .slice A N9 C, L⟩).symm.trans hNL
  have HRD := Lib.hid (show Rd w w.heap.size 16 A L.length ((L.map (·.1)).flatMap encK) from hrd)
  have HSH := Lib.hid (show ∀ x ∈ L, SlP w w.heap.size x.1.shape x.2 from hshp)
  have HKS := Lib.hid (show ∀ i : Nat, (L.map (·.1))[i]? = (L[i]?).map (·.1) from fun i => List.getElem?_map)
  have HLK := Lib.hid (show ∀ x ∈ L, x.1.le N from fun x hx => (HAL.2.2.2 x hx).1)
  have hL3 : L.length ≤ 3 := by rw [← hLL]; exact HO.out.ok.three.2
  have HZL := Lib.hid (show Z = toQ3 (LV L.length) from HZ.out)
  have hn1 : ((ql.length : Int) != (L.length : Int)) = false := by simp [hqn]
  have hn2 : ((L.length : Int) != (L.length : Int)) = false := by simp
  obtain ⟨n, hn⟩ : ∃ n, n = L.length := ⟨_, rfl⟩
  have HLN := Lib.hid hn
  rw [← hn] at HWI HGN HNN HQN HOV HBV0 HBV1 hqn hL3 HZL hn1 hn2 HRD ⊢
  have hwt : IntKind.i64.wrap (tz + 1) = tz + 1 := by rw [IntKind.wrap_i64]; omega
  have HATK := Lib.hid (fun (hh : false = true) (tk : Int) (htk : -1 ≤ tk ∧ tk ≤ 2001) W (hW : Below w.heap.size w W) => at_any' W (tabs w HT.out hW) (.slice At K.length Ct) K tk (HO.out.sl.up hW) HO.out.kle (HK5.out (by trivial)).2.2.2 (by have := (HK5.out (by trivial)).2.2.1; omega) (show InI tk from ⟨by omega, by omega⟩) (by have := HN.out; omega))
  obtain ⟨z0, q0, cz0, lz0, O0⟩ := ofR w HT.out 0
  have HZ0 := Lib.hid (show z0.can ∧ z0.le (4 * N + 41) ∧ z0.q = LV 0 from ⟨cz0, lz0.more (by omega), by rw [q0, HLS.out]; rfl⟩)
  have hI := ((In.start w).alloc 37 #[.string nm, .bool px.neg, .string px.num, .string px.den, .bool py.neg, .string py.num, .string py.den, .bool hf, .bool t.neg, .string t.num, .string t.den, .slice A n C]).alloc 61 #[.slice Aq ql.length Cq, .slice Av nv Cv, .bool pw, .int .i64 hd]
  rw [World.size_alloc] at hI
  clear hO hq HAL hrd hshp hNL hNC hval k1 k2 k3 k4 k5 hZ hgl hnl hWL hLV hLL har hn q0 cz0 lz0 hqn
  go_enter Tryd.func58, Tryd.ntmps58
  go_upto_region 1 with (fail)
  obtain ⟨g7, hg7⟩ : ∃ g, g = w.heap.size := ⟨_, rfl⟩
  rw [← hg7] at hI ⊢
  generalize World.alloc _ _ = W1 at hI ⊢
  clear hg7
  have fx := hI.facts
  simp only [factsOf, cellsOf, Nat.zero_add, Nat.reduceAdd] at fx
  go_wp2_with fail
  refine (HWI.out _ hI.bel).mono ?_
  rintro e w2 ⟨vw, rfl, hown, hb⟩
  obtain ⟨Aw, cw, rfl, _⟩ := own_rd hown
  replace hI := hI.call hb
  have HVW := Lib.hid (SlQ.row hown)
  clear hown hb fx HWI
  have fx := hI.facts
  simp only [factsOf, cellsOf, Nat.zero_add, Nat.reduceAdd] at fx
  go_wp2_with fail
  refine (HLT.out _ hI.bel).mono ?_
  rintro e w3 ⟨rfl, hb⟩
  replace hI := (hI.call hb).alloc 25 #[.bool Z.neg, .string Z.num, .string Z.den]
  have HVW := Lib.hid ((SlQ.up HVW.out hb).up ((Below.refl w3.heap.size w3).alloc (Nat.le_refl _) (.cells #[.bool Z.neg, .string Z.num, .string Z.den] 25)))
  obtain ⟨g14, hg14⟩ : ∃ g, g = w3.heap.size := ⟨_, rfl⟩
  clear hb fx HLT
  go_upto_region 4 with (fail)
  rw [← hg14] at hI ⊢
  generalize World.alloc _ _ = W4 at hI HVW ⊢
  clear hg14
  have HB4 := Lib.hid hI.bel
  have e1 := hI.cell (k := 2) (i := 11) rfl rfl
  have e2 := hI.cell (k := 1) (i := 0) rfl rfl
  have e3 := hI.cell (k := 1) (i := 1) rfl rfl
  have e4 := hI.cell (k := 1) (i := 2) rfl rfl
  have e5 := hI.cell (k := 1) (i := 3) rfl rfl
  have e6 := hI.cell (k := 0) (i := 0) rfl rfl
  have e7 := hI.cell (k := 0) (i := 1) rfl rfl
  have e8 := hI.cell (k := 0) (i := 2) rfl rfl
  have d1 := hI.lt (k := 2) rfl
  have d2 := hI.lt (k := 1) rfl
  have d3 := hI.lt (k := 0) rfl
  have EB := Lib.hid (fun W (hW : Below W4.heap.size W4 W) => (⟨(hW.cell (p := ⟨g7, 11, none⟩) d1).trans e1, (hW.cell (p := ⟨g7 + 1, 0, none⟩) d2).trans e2, (hW.cell (p := ⟨g7 + 1, 1, none⟩) d2).trans e3, (hW.cell (p := ⟨g7 + 1, 2, none⟩) d2).trans e4, (hW.cell (p := ⟨g7 + 1, 3, none⟩) d2).trans e5, (hW.cell (p := ⟨g14, 0, none⟩) d3).trans e6, (hW.cell (p := ⟨g14, 1, none⟩) d3).trans e7, (hW.cell (p := ⟨g14, 2, none⟩) d3).trans e8⟩ : And _ (And _ (And _ (And _ (And _ (And _ (And _ _))))))))
  have hJ := In.start W4
  clear hI d1 d2 d3
  go_upto_region 6 with (fail)
  clear e1 e2 e3 e4 e5 e6 e7 e8
  refine wp_region_in hJ (by kernel_rfl) (by kernel_rfl) ?_
  repeat (first
    | (refine wpSeq_off (by rfl) ?_; try simp only [Act.put, List.setIfInBounds_toArray, List.set_cons_zero, List.set_cons_succ])
    | (refine wpSeq_val (v := ?_) (by rfl) (fun W hS => ?_) ?_
       rotate_left
       · (have fy0 := EB.out W hS.bel; clear hS; go_simp; first | done | with_reducible rfl)
       try simp only [Act.put, List.setIfInBounds_toArray, List.set_cons_zero, List.set_cons_succ]))
  refine wpSeq_nil (fun W hS => ?_)
  clear hJ
  have hI := hS
  clear hS
  obtain ⟨wb, rfl⟩ : ∃ wb, wb = W := ⟨_, rfl⟩
  have hsg : SlQ wb wb.heap.size (.slice Aq ql.length Cq) gl := by rw [(HGF.out (by trivial)).1]; exact SlQ.up HQ.out (HB4.out.trans (hI.bel.mono HB4.out.size))
  have hsn : SlQ wb wb.heap.size (.slice Aq ql.length Cq) nl := by rw [(HGF.out (by trivial)).2]; exact SlQ.up HQ.out (HB4.out.trans (hI.bel.mono HB4.out.size))
  clear HATK
  have HB5 := Lib.hid (HB4.out.trans (hI.bel.mono HB4.out.size))
  have HSG := Lib.hid hsg
  have HSN := Lib.hid hsn
  have HVW5 := Lib.hid (SlQ.up HVW.out hI.bel)
  obtain ⟨e1, e2, e3, e4, e5, e6, e7, e8⟩ := EB.out wb hI.bel
  clear hsg hsn
  go_wp2_with fail
  refine (O0.out wb HB5.out).mono ?_
  rintro e w6 ⟨rfl, hb⟩
  have HB6 := Lib.hid (HB5.out.trans (hb.mono HB5.out.size))
  have HSG6 := Lib.hid (SlQ.up HSG.out hb)
  have HSN6 := Lib.hid (SlQ.up HSN.out hb)
  have HVW6 := Lib.hid (SlQ.up HVW5.out hb)
  have HQ6 := Lib.hid (SlQ.up HQ.out HB6.out)
  have HE6 := Lib.hid (fun W (hW : Below w6.heap.size w6 W) => EB.out W ((hI.bel.trans (hb.mono hI.bel.size)).trans (hW.mono (Nat.le_trans hI.bel.size hb.size))))
  have HT6 := Lib.hid (tabs w HT.out HB6.out)
  have hJ := (In.start w6).alloc 25 #[.bool z0.neg, .string z0.num, .string z0.den]
  obtain ⟨g17, hg17⟩ : ∃ g, g = w6.heap.size := ⟨_, rfl⟩
  clear e1 e2 e3 e4 e5 e6 e7 e8 hb hI HSG HSN HVW HVW5 HB5 HB4 EB O0
  go_upto_region 12 with (fail)
  rw [← hg17] at hJ ⊢
  generalize World.alloc _ _ = W7 at hJ ⊢
  clear hg17
  have hst := Lib.hid (show WhRel w6 g17 (4 * N + 41) n LV (.int .i64 0) W7 from ⟨0, z0, Nat.zero_le _, rfl, HZ0.out.1, HZ0.out.2.1, HZ0.out.2.2, hJ⟩)
  obtain ⟨e1, _⟩ := HE6.out _ hJ.bel
  clear hJ
  go_wp2_with fail
  clear e1
  go_loopw [93] (fun i wr => WhRel w6 g17 (4 * N + 41) n LV i wr) (fun i _ => n - (intOf i).toNat)
  case atStart => exact hst.out
  case round =>
    clear hst
    obtain ⟨k, m, hk, rfl, cm, lm, qm, hI⟩ := hrel
    by_cases hin : k < n
    · as_aux_lemma =>
      have hi1 : (k : Int) < (n : Int) := by omega
      have hi2 : 0 ≤ (k : Int) ∧ (k : Int) < (n : Int) := by omega
      have hi3 : 0 ≤ (k : Int) ∧ (k : Int) < (ql.length : Int) := by have := HQN.out; omega
      have hwk : IntKind.i64.wrap ((k : Int) + 1) = (k : Int) + 1 := by rw [IntKind.wrap_i64]; omega
      obtain ⟨⟨⟨klen, klow, khigh, kspeed, kbrake, kshape⟩, pts⟩, ha⟩ : ∃ x, L[k]? = some x := ⟨_, List.getElem?_eq_getElem (by rw [← HLN.out]; exact hin)⟩
      obtain ⟨q, hq⟩ : ∃ q, ql[k]? = some q := ⟨_, List.getElem?_eq_getElem (by rw [HQN.out]; exact hin)⟩
      obtain ⟨gv, hg⟩ : ∃ x, gl[k]? = some x := ⟨_, List.getElem?_eq_getElem (by rw [HGN.out]; exact hin)⟩
      have hy : nl[k]? = some q := by rw [(HGF.out (by trivial)).2]; exact hq
      obtain ⟨A5, n5, c5, hk5, _⟩ := HSH.out _ (List.mem_of_getElem? ha)
      obtain rfl : kshape = .slice A5 n5 c5 := hk5
      have hw := HTW.out k _ q gv ha hq hg
      have lk := HLK.out _ (List.mem_of_getElem? ha)
      obtain ⟨_, llow, lhigh, lspeed, _⟩ := lk
      have lq := HO.out.lq q (List.mem_of_getElem? hq)
      have lg := HGL.out gv (List.mem_of_getElem? hg)
      have ly := HNL.out q (List.mem_of_getElem? hy)
      have hN := HN.out
      obtain ⟨c1, _, _, p1, C1⟩ := cmpR w6 HT6.out gv klow lg llow
      obtain ⟨b9, o9, rfl, hbB, hlc⟩ := Rd.lnk HRD.out (i := k) (k := ⟨klen, klow, khigh, kspeed, kbrake, .slice A5 n5 c5⟩) (by
        show (L.map (·.1))[k]? = _
        rw [HKS.out, ha]; rfl)
      have hbw := HB6.out.trans (hI.bel.mono HB6.out.size)
      have hlc := hlc.below hbw hbB
      have hbn : b9 < wr.heap.size := Nat.lt_of_lt_of_le hbB hbw.size
      obtain ⟨f0, f1, f2, f3, f4, f5, f6, f7, f8, f9, f10, f11, f12, f13, f14, f15⟩ := hlc
      obtain ⟨_, _, _, he8, _, _, _, hrq⟩ := HQ6.out
      cases he8
      obtain ⟨bq, oq, hAbq, hbq, x0, x1, x2⟩ := Rd.quot hrq hq
      cases hAbq
      obtain ⟨_, _, _, he8, _, _, _, hrg⟩ := HSG6.out
      cases he8
      obtain ⟨bg, og, hAbg, hbg, y0, y1, y2⟩ := Rd.quot hrg hg
      cases hAbg
      obtain ⟨_, _, _, he8, _, _, _, hrn⟩ := HSN6.out
      cases he8
      obtain ⟨bn, on, hAbn, hbnn, n0, n1, n2⟩ := Rd.quot hrn hy
      cases hAbn
      obtain ⟨z, hz⟩ : ∃ z, z = toQ3 (refW klow.q khigh.q kspeed.q q.q gv.q) := ⟨_, rfl⟩
      rw [← hz] at hw
      obtain ⟨_, _, _, he8, _, _, _, hrw⟩ := HVW6.out
      cases he8
      obtain ⟨bw, ow, hAbw, hbw2, v0, v1, v2⟩ := Rd.quot hrw hw
      cases hAbw
      have E := Lib.hid (fun W (hW : Below w6.heap.size w6 W) => (⟨(HE6.out W hW).2.1, (hW.cell (p := ⟨bq, oq + k * 3, none⟩) hbq).trans x0, (hW.cell (p := ⟨bq, oq + k * 3 + 1, none⟩) hbq).trans x1, (hW.cell (p := ⟨bq, oq + k * 3 + 2, none⟩) hbq).trans x2,
        (hW.cell (p := ⟨bq, oq + k * 3, none⟩) hbnn).trans n0, (hW.cell (p := ⟨bq, oq + k * 3 + 1, none⟩) hbnn).trans n1, (hW.cell (p := ⟨bq, oq + k * 3 + 2, none⟩) hbnn).trans n2,
        (hW.cell (p := ⟨bw, ow + k * 3, none⟩) hbw2).trans v0, (hW.cell (p := ⟨bw, ow + k * 3 + 1, none⟩) hbw2).trans v1, (hW.cell (p := ⟨bw, ow + k * 3 + 2, none⟩) hbw2).trans v2⟩ : And _ (And _ (And _ (And _ (And _ (And _ (And _ (And _ (And _ _))))))))))
      have EG := Lib.hid (fun W (hW : Below w6.heap.size w6 W) => (⟨(hW.cell (p := ⟨bq, oq + k * 3, none⟩) hbg).trans y0, (hW.cell (p := ⟨bq, oq + k * 3 + 1, none⟩) hbg).trans y1, (hW.cell (p := ⟨bq, oq + k * 3 + 2, none⟩) hbg).trans y2⟩ : And _ (And _ _)))
      have HZ1 := Lib.hid hz
      have HKY := Lib.hid (And.intro hq hy)
      have HM := Lib.hid (And.intro cm (And.intro lm qm))
      have HLL := Lib.hid (And.intro llow (And.intro lhigh (And.intro lspeed (And.intro lq (And.intro lg ly)))))
      have HP1 := Lib.hid p1
      replace hI := hI.alloc 28 #[.bool klen.neg, .string klen.num, .string klen.den, .bool klow.neg, .string klow.num, .string klow.den, .bool khigh.neg, .string khigh.num, .string khigh.den, .bool kspeed.neg, .string kspeed.num, .string kspeed.den, .bool kbrake.neg, .string kbrake.num, .string kbrake.den, .slice A5 n5 c5]
      obtain ⟨g19, hg19⟩ : ∃ g, g = wr.heap.size := ⟨_, rfl⟩
      clear ha hq hg hy hw llow lhigh lspeed lq lg ly p1 x0 x1 x2 y0 y1 y2 n0 n1 n2 v0 v1 v2 hrq hrg hrn hrw hbq hbg hbnn hbw2 hz hbw cm lm qm hbB
      go_upto_region 15 with (fail)
      clear f0 f1 f2 f3 f4 f5 f6 f7 f8 f9 f10 f11 f12 f13 f14 f15 hbn
      rw [← hg19] at hI ⊢
      generalize World.alloc _ _ = W8 at hI ⊢
      clear hg19
      obtain ⟨y0, y1, y2⟩ := EG.out _ hI.bel
      replace hI := hI.alloc 25 #[.bool gv.neg, .string gv.num, .string gv.den]
      obtain ⟨g20, hg20⟩ : ∃ g, g = W8.heap.size := ⟨_, rfl⟩
      go_upto_region 16 with (fail)
      rw [← hg20] at hI ⊢
      generalize World.alloc _ _ = W9 at hI ⊢
      clear hg20 y0 y1 y2 EG
      have fx := hI.facts
      simp only [factsOf, cellsOf, Nat.zero_add, Nat.reduceAdd] at fx
      go_wp2_with fail
      refine (C1.out _ hI.bel).mono ?_
      rintro e wA ⟨rfl, hb⟩
      replace hI := hI.call hb
      clear hb fx C1
      go_upto_if 106 with (fail)
      go_cut [] (fun wx => ∃ g1 : Q3, g1.le (3 * N + 40) ∧ g1.q = (if gv.q < klow.q then klow.q else gv.q) ∧ In w6 [(g20, 25, #[.bool g1.neg, .string g1.num, .string g1.den]), (g19, 28, #[.bool klen.neg, .string klen.num, .string klen.den, .bool klow.neg, .string klow.num, .string klow.den, .bool khigh.neg, .string khigh.num, .string khigh.den, .bool kspeed.neg, .string kspeed.num, .string kspeed.den, .bool kbrake.neg, .string kbrake.num, .string kbrake.den, .slice A5 n5 c5]), (g17, 25, #[.bool m.neg, .string m.num, .string m.den])] wx)
      case first =>
        as_aux_lemma =>
        by_cases hc : c1 < 0
        · have HX := Lib.hid (show ∀ wx, In w6 [(g20, 25, #[.bool klow.neg, .string klow.num, .string klow.den]), (g19, 28, #[.bool klen.neg, .string klen.num, .string klen.den, .bool klow.neg, .string klow.num, .string klow.den, .bool khigh.neg, .string khigh.num, .string khigh.den, .bool kspeed.neg, .string kspeed.num, .string kspeed.den, .bool kbrake.neg, .string kbrake.num, .string kbrake.den, .slice A5 n5 c5]), (g17, 25, #[.bool m.neg, .string m.num, .string m.den])] wx → _ from fun wx h => (⟨klow, HLL.out.1.more (by omega), by rw [if_pos (HP1.out.mp hc)], h⟩ : ∃ g1 : Q3, g1.le (3 * N + 40) ∧ g1.q = (if gv.q < klow.q then klow.q else gv.q) ∧ In w6 [(g20, 25, #[.bool g1.neg, .string g1.num, .string g1.den]), (g19, 28, #[.bool klen.neg, .string klen.num, .string klen.den, .bool klow.neg, .string klow.num, .string klow.den, .bool khigh.neg, .string khigh.num, .string khigh.den, .bool kspeed.neg, .string kspeed.num, .string kspeed.den, .bool kbrake.neg, .string kbrake.num, .string kbrake.den, .slice A5 n5 c5]), (g17, 25, #[.bool m.neg, .string m.num, .string m.den])] wx))
          have fx := hI.facts
          simp only [factsOf, cellsOf, Nat.zero_add, Nat.reduceAdd] at fx
          have hz := fun i => hI.free (k := 0) (i := i) rfl
          have HK := Lib.hid (hI.all3 (a := []) (.bool klow.neg) (.string klow.num) (.string klow.den))
          clear hI
          go_wp2_with fail
          clear fx hz
          have hK := HK.out
          clear HK
          generalize World.setCell _ _ _ = W10 at hK ⊢
          have HR := Lib.hid (HX.out _ hK)
          clear hK HX
          go_meet
          exact HR.out
        · have HR := Lib.hid (show ∃ g1 : Q3, g1.le (3 * N + 40) ∧ g1.q = (if gv.q < klow.q then klow.q else gv.q) ∧ In w6 [(g20, 25, #[.bool g1.neg, .string g1.num, .string g1.den]), (g19, 28, #[.bool klen.neg, .string klen.num, .string klen.den, .bool klow.neg, .string klow.num, .string klow.den, .bool khigh.neg, .string khigh.num, .string khigh.den, .bool kspeed.neg, .string kspeed.num, .string kspeed.den, .bool kbrake.neg, .string kbrake.num, .string kbrake.den, .slice A5 n5 c5]), (g17, 25, #[.bool m.neg, .string m.num, .string m.den])] wA from ⟨gv, HLL.out.2.2.2.2.1, by rw [if_neg (fun h => hc (HP1.out.mpr h))], hI⟩)
          clear hI
          go_wp2_with fail
          go_meet
          exact HR.out
      case rest =>
        clear hI HP1
        obtain ⟨g1, lg1, qg1, hI⟩ := hcut
        obtain ⟨wd, rfl⟩ : ∃ wd, wd = wc := ⟨_, rfl⟩
        have hN := HN.out
        obtain ⟨c2, _, p2, _, C2⟩ := cmpR w6 HT6.out g1 khigh lg1 HLL.out.2.1 (by omega)
        have HP2 := Lib.hid (show (0 < c2 ↔ khigh.q < g1.q) ∧ refG klow.q khigh.q gv.q = (if khigh.q < g1.q then khigh.q else g1.q) from ⟨p2, by unfold refG; rw [← qg1]⟩)
        have HG1 := Lib.hid lg1
        clear p2 qg1 lg1
        have fx := hI.facts
        simp only [factsOf, cellsOf, Nat.zero_add, Nat.reduceAdd] at fx
        go_wp2_with fail
        refine (C2.out _ hI.bel).mono ?_
        rintro e wA ⟨rfl, hb⟩
        replace hI := hI.call hb
        clear hb fx C2
        go_upto_if 113 with (fail)
        go_cut [] (fun wx => ∃ g2 : Q3, g2.le (3 * N + 40) ∧ g2.q = refG klow.q khigh.q gv.q ∧ In w6 [(g20, 25, #[.bool g2.neg, .string g2.num, .string g2.den]), (g19, 28, #[.bool klen.neg, .string klen.num, .string klen.den, .bool klow.neg, .string klow.num, .string klow.den, .bool khigh.neg, .string khigh.num, .string khigh.den, .bool kspeed.neg, .string kspeed.num, .string kspeed.den, .bool kbrake.neg, .string kbrake.num, .string kbrake.den, .slice A5 n5 c5]), (g17, 25, #[.bool m.neg, .string m.num, .string m.den])] wx)
        case first =>
          as_aux_lemma =>
          by_cases hc : c2 > 0
          · have HX := Lib.hid (show ∀ wx, In w6 [(g20, 25, #[.bool khigh.neg, .string khigh.num, .string khigh.den]), (g19, 28, #[.bool klen.neg, .string klen.num, .string klen.den, .bool klow.neg, .string klow.num, .string klow.den, .bool khigh.neg, .string khigh.num, .string khigh.den, .bool kspeed.neg, .string kspeed.num, .string kspeed.den, .bool kbrake.neg, .string kbrake.num, .string kbrake.den, .slice A5 n5 c5]), (g17, 25, #[.bool m.neg, .string m.num, .string m.den])] wx → _ from fun wx h => (⟨khigh, HLL.out.2.1.more (by omega), by rw [HP2.out.2, if_pos (HP2.out.1.mp hc)], h⟩ : ∃ g2 : Q3, g2.le (3 * N + 40) ∧ g2.q = refG klow.q khigh.q gv.q ∧ In w6 [(g20, 25, #[.bool g2.neg, .string g2.num, .string g2.den]), (g19, 28, #[.bool klen.neg, .string klen.num, .string klen.den, .bool klow.neg, .string klow.num, .string klow.den, .bool khigh.neg, .string khigh.num, .string khigh.den, .bool kspeed.neg, .string kspeed.num, .string kspeed.den, .bool kbrake.neg, .string kbrake.num, .string kbrake.den, .slice A5 n5 c5]), (g17, 25, #[.bool m.neg, .string m.num, .string m.den])] wx))
            have fx := hI.facts
            simp only [factsOf, cellsOf, Nat.zero_add, Nat.reduceAdd] at fx
            have hz := fun i => hI.free (k := 0) (i := i) rfl
            have HK := Lib.hid (hI.all3 (a := []) (.bool khigh.neg) (.string khigh.num) (.string khigh.den))
            clear hI
            go_wp2_with fail
            clear fx hz
            have hK := HK.out
            clear HK
            generalize World.setCell _ _ _ = W10 at hK ⊢
            have HR := Lib.hid (HX.out _ hK)
            clear hK HX
            go_meet
            exact HR.out
          · have HR := Lib.hid (show ∃ g2 : Q3, g2.le (3 * N + 40) ∧ g2.q = refG klow.q khigh.q gv.q ∧ In w6 [(g20, 25, #[.bool g2.neg, .string g2.num, .string g2.den]), (g19, 28, #[.bool klen.neg, .string klen.num, .string klen.den, .bool klow.neg, .string klow.num, .string klow.den, .bool khigh.neg, .string khigh.num, .string khigh.den, .bool kspeed.neg, .string kspeed.num, .string kspeed.den, .bool kbrake.neg, .string kbrake.num, .string kbrake.den, .slice A5 n5 c5]), (g17, 25, #[.bool m.neg, .string m.num, .string m.den])] wA from ⟨g1, HG1.out, by rw [HP2.out.2, if_neg (fun h => hc (HP2.out.1.mpr h))], hI⟩)
            clear hI
            go_wp2_with fail
            go_meet
            exact HR.out
        case rest =>
          clear hI HP2 HG1
          obtain ⟨g2, lg2, qg2, hI⟩ := hcut
          obtain ⟨we, rfl⟩ : ∃ we, we = wc := ⟨_, rfl⟩
          obtain ⟨d, qd, cd, ld, SU⟩ := subR w6 HT6.out g2 q lg2 HLL.out.2.2.2.1 (by omega)
          obtain ⟨u, qu, _, lu, AB⟩ := absR w6 HT6.out d ld (by omega)
          obtain ⟨c3, _, p3, _, C3⟩ := cmpR w6 HT6.out u kspeed lu HLL.out.2.2.1 (by omega)
          rw [qg2] at qd
          rw [qu, qd] at p3
          have HD := Lib.hid (And.intro qd (And.intro cd ld))
          have HP3 := Lib.hid p3
          clear qg2 lg2 qd cd ld qu lu p3
          go_upto_region 20 with (fail)
          refine wp_region_in_float 7 _ 25 #[.bool false, .string { data := #[] }, .string { data := #[] }] hI (by kernel_rfl) (by kernel_rfl) rfl ?_
          simp only [List.take_succ_cons, List.take_zero, List.drop_succ_cons, List.drop_zero]
          repeat (first
            | (refine wpSeq_off (by rfl) ?_; try simp only [Act.put, List.setIfInBounds_toArray, List.set_cons_zero, List.set_cons_succ])
            | (refine wpSeq_val (v := ?_) (by rfl) (fun W hS => ?_) ?_
               rotate_left
               · (have fx := hS.facts; simp only [factsOf, cellsOf, Nat.zero_add, Nat.reduceAdd] at fx; have fy0 := E.out W hS.bel; clear hS; go_simp; first | done | with_reducible rfl)
               try simp only [Act.put, List.setIfInBounds_toArray, List.set_cons_zero, List.set_cons_succ]))
          refine wpSeq_call (v := .agg #[.bool d.neg, .string d.num, .string d.den]) (by rfl) (fun W hS => ?_) (fun W hS => (SU.out W hS.bel)) ?_
          · (clear hS; go_simp; done)
          try simp only [Act.put, List.setIfInBounds_toArray, List.set_cons_zero, List.set_cons_succ]
          repeat (first
            | (refine wpSeq_off (by rfl) ?_; try simp only [Act.put, List.setIfInBounds_toArray, List.set_cons_zero, List.set_cons_succ])
            | (refine wpSeq_val (v := ?_) (by rfl) (fun W hS => ?_) ?_
               rotate_left
               · (have fx := hS.facts; simp only [factsOf, cellsOf, Nat.zero_add, Nat.reduceAdd] at fx; have fy0 := E.out W hS.bel; clear hS; go_simp; first | done | with_reducible rfl)
               try simp only [Act.put, List.setIfInBounds_toArray, List.set_cons_zero, List.set_cons_succ]))
          refine wpSeq_nil ⟨rfl, fun W hS => ?_, fun g W hI => ?_⟩
          · go_simp
          simp only [List.setIfInBounds_toArray, List.set_cons_zero, List.set_cons_succ]
          obtain ⟨g21, rfl⟩ : ∃ g21, g21 = g := ⟨_, rfl⟩
          have hS1 := hI.take (a := [_])
          have fx := hS1.facts
          simp only [factsOf, cellsOf, Nat.zero_add, Nat.reduceAdd] at fx
          have hz := fun i => hS1.free (k := 0) (i := i) rfl
          have HX := Lib.hid (hI.all3 (a := []) (.bool d.neg) (.string d.num) (.string d.den))
          clear hS1 hI SU
          go_upto_region 21 with (fail)
          have hI : In w6 (_ :: _ :: _ :: _ :: _) _ := HX.out
          clear HX fx hz
          generalize World.setCell _ _ _ = W11 at hI ⊢
          refine wp_region_in hI (by kernel_rfl) (by kernel_rfl) ?_
          repeat (first
            | (refine wpSeq_off (by rfl) ?_; try simp only [Act.put, List.setIfInBounds_toArray, List.set_cons_zero, List.set_cons_succ])
            | (refine wpSeq_val (v := ?_) (by rfl) (fun W hS => ?_) ?_
               rotate_left
               · (have fx := hS.facts; simp only [factsOf, cellsOf, Nat.zero_add, Nat.reduceAdd] at fx; have fy0 := E.out W hS.bel; clear hS; go_simp; first | done | with_reducible rfl)
               try simp only [Act.put, List.setIfInBounds_toArray, List.set_cons_zero, List.set_cons_succ]))
          refine wpSeq_call (v := .agg #[.bool u.neg, .string u.num, .string u.den]) (by rfl) (fun W hS => ?_) (fun W hS => (AB.out W hS.bel)) ?_
          · (clear hS; go_simp; done)
          try simp only [Act.put, List.setIfInBounds_toArray, List.set_cons_zero, List.set_cons_succ]
          repeat (first
            | (refine wpSeq_off (by rfl) ?_; try simp only [Act.put, List.setIfInBounds_toArray, List.set_cons_zero, List.set_cons_succ])
            | (refine wpSeq_val (v := ?_) (by rfl) (fun W hS => ?_) ?_
               rotate_left
               · (have fx := hS.facts; simp only [factsOf, cellsOf, Nat.zero_add, Nat.reduceAdd] at fx; have fy0 := E.out W hS.bel; clear hS; go_simp; first | done | with_reducible rfl)
               try simp only [Act.put, List.setIfInBounds_toArray, List.set_cons_zero, List.set_cons_succ]))
          refine wpSeq_call (v := .int .i64 c3) (by rfl) (fun W hS => ?_) (fun W hS => (C3.out W hS.bel)) ?_
          · (clear hS; go_simp; done)
          try simp only [Act.put, List.setIfInBounds_toArray, List.set_cons_zero, List.set_cons_succ]
          repeat (first
            | (refine wpSeq_off (by rfl) ?_; try simp only [Act.put, List.setIfInBounds_toArray, List.set_cons_zero, List.set_cons_succ])
            | (refine wpSeq_val (v := ?_) (by rfl) (fun W hS => ?_) ?_
               rotate_left
               · (have fx := hS.facts; simp only [factsOf, cellsOf, Nat.zero_add, Nat.reduceAdd] at fx; have fy0 := E.out W hS.bel; clear hS; go_simp; first | done | with_reducible rfl)
               try simp only [Act.put, List.setIfInBounds_toArray, List.set_cons_zero, List.set_cons_succ]))
          refine wpSeq_nil (fun W hS => ?_)
          clear hI AB C3
          have hI := hS
          clear hS
          go_upto_if 128 with (fail)
          go_cut [] (fun wx => In w6 [(g21, 25, #[.bool z.neg, .string z.num, .string z.den]), (g20, 25, #[.bool g2.neg, .string g2.num, .string g2.den]), (g19, 28, #[.bool klen.neg, .string klen.num, .string klen.den, .bool klow.neg, .string klow.num, .string klow.den, .bool khigh.neg, .string khigh.num, .string khigh.den, .bool kspeed.neg, .string kspeed.num, .string kspeed.den, .bool kbrake.neg, .string kbrake.num, .string kbrake.den, .slice A5 n5 c5]), (g17, 25, #[.bool m.neg, .string m.num, .string m.den])] wx)
          case first =>
            as_aux_lemma =>
            by_cases hc : c3 > 0
            · obtain ⟨s, hs, s1, s2, SG⟩ := signR w6 HT6.out d HD.out.2.2 (by omega)
              obtain ⟨zo, qo, _, lo, OF⟩ := ofR w6 HT6.out s (by omega)
              obtain ⟨mu, qm, cmu, _, MU⟩ := mulR w6 HT6.out kspeed zo HLL.out.2.2.1 lo (by omega)
              have hmz : mu = z := by
                rw [cmu, HZ1.out, qm, qo, sgn_cast hs s1 s2, HD.out.1]
                unfold refW
                rw [if_pos (HP3.out.mp hc)]
              subst hmz
              clear s1 s2 qo lo qm cmu hs
              go_upto_region 22 with (fail)
              refine wp_region_in_tail 6 hI (by kernel_rfl) (by kernel_rfl) ?_
              simp only [List.take_succ_cons, List.take_zero, List.drop_succ_cons, List.drop_zero]
              repeat (first
                | (refine wpSeq_off (by rfl) ?_; try simp only [Act.put, List.setIfInBounds_toArray, List.set_cons_zero, List.set_cons_succ])
                | (refine wpSeq_val (v := ?_) (by rfl) (fun W hS => ?_) ?_
                   rotate_left
                   · (have fx := hS.facts; simp only [factsOf, cellsOf, Nat.zero_add, Nat.reduceAdd] at fx; clear hS; go_simp; first | done | with_reducible rfl)
                   try simp only [Act.put, List.setIfInBounds_toArray, List.set_cons_zero, List.set_cons_succ]))
              refine wpSeq_call (v := .int .i64 s) (by rfl) (fun W hS => ?_) (fun W hS => (SG.out W hS.bel)) ?_
              · (clear hS; go_simp; done)
              try simp only [Act.put, List.setIfInBounds_toArray, List.set_cons_zero, List.set_cons_succ]
              repeat (first
                | (refine wpSeq_off (by rfl) ?_; try simp only [Act.put, List.setIfInBounds_toArray, List.set_cons_zero, List.set_cons_succ])
                | (refine wpSeq_val (v := ?_) (by rfl) (fun W hS => ?_) ?_
                   rotate_left
                   · (have fx := hS.facts; simp only [factsOf, cellsOf, Nat.zero_add, Nat.reduceAdd] at fx; clear hS; go_simp; first | done | with_reducible rfl)
                   try simp only [Act.put, List.setIfInBounds_toArray, List.set_cons_zero, List.set_cons_succ]))
              refine wpSeq_call (v := .agg #[.bool zo.neg, .string zo.num, .string zo.den]) (by rfl) (fun W hS => ?_) (fun W hS => (OF.out W hS.bel)) ?_
              · (clear hS; go_simp; done)
              try simp only [Act.put, List.setIfInBounds_toArray, List.set_cons_zero, List.set_cons_succ]
              repeat (first
                | (refine wpSeq_off (by rfl) ?_; try simp only [Act.put, List.setIfInBounds_toArray, List.set_cons_zero, List.set_cons_succ])
                | (refine wpSeq_val (v := ?_) (by rfl) (fun W hS => ?_) ?_
                   rotate_left
                   · (have fx := hS.facts; simp only [factsOf, cellsOf, Nat.zero_add, Nat.reduceAdd] at fx; clear hS; go_simp; first | done | with_reducible rfl)
                   try simp only [Act.put, List.setIfInBounds_toArray, List.set_cons_zero, List.set_cons_succ]))
              refine wpSeq_call (v := .agg #[.bool mu.neg, .string mu.num, .string mu.den]) (by rfl) (fun W hS => ?_) (fun W hS => (MU.out W hS.bel)) ?_
              · (clear hS; go_simp; done)
              try simp only [Act.put, List.setIfInBounds_toArray, List.set_cons_zero, List.set_cons_succ]
              repeat (first
                | (refine wpSeq_off (by rfl) ?_; try simp only [Act.put, List.setIfInBounds_toArray, List.set_cons_zero, List.set_cons_succ])
                | (refine wpSeq_val (v := ?_) (by rfl) (fun W hS => ?_) ?_
                   rotate_left
                   · (have fx := hS.facts; simp only [factsOf, cellsOf, Nat.zero_add, Nat.reduceAdd] at fx; clear hS; go_simp; first | done | with_reducible rfl)
                   try simp only [Act.put, List.setIfInBounds_toArray, List.set_cons_zero, List.set_cons_succ]))
              refine wpSeq_nil (fun W hS => ?_)
              clear hI SG OF MU
              have fx := hS.facts
              simp only [factsOf, cellsOf, Nat.zero_add, Nat.reduceAdd] at fx
              have hz := fun i => hS.free (k := 0) (i := i) rfl
              have HK := Lib.hid (hS.all3 (a := []) (.bool mu.neg) (.string mu.num) (.string mu.den))
              clear hS
              go_wp2_with fail
              clear fx hz
              have hK := HK.out
              clear HK
              generalize World.setCell _ _ _ = W12 at hK ⊢
              have HR := Lib.hid hK
              clear hK
              go_meet
              exact HR.out
            · have hmz : d = z := by
                rw [HD.out.2.1, HZ1.out, HD.out.1]
                unfold refW
                rw [if_neg (fun h => hc (HP3.out.mpr h))]
              subst hmz
              have HR := Lib.hid hI
              clear hI
              go_wp2_with fail
              go_meet
              exact HR.out
          case rest =>
            clear hI HP3 HD
            have hI := hcut
            obtain ⟨wf, rfl⟩ : ∃ wf, wf = wc := ⟨_, rfl⟩
            clear hcut
            have ge := guard_quot
            have hn3 := fun W => neq_quot W z
            go_upto_region 23 with (fail)
            refine wp_region_in hI (by kernel_rfl) (by kernel_rfl) ?_
            repeat (first
              | (refine wpSeq_off (by rfl) ?_; try simp only [Act.put, List.setIfInBounds_toArray, List.set_cons_zero, List.set_cons_succ])
              | (refine wpSeq_val (v := ?_) (by rfl) (fun W hS => ?_) ?_
                 rotate_left
                 · (have fx := hS.facts; simp only [factsOf, cellsOf, Nat.zero_add, Nat.reduceAdd] at fx; have fy0 := E.out W hS.bel; clear hS; go_simp; first | done | with_reducible rfl)
                 try simp only [Act.put, List.setIfInBounds_toArray, List.set_cons_zero, List.set_cons_succ]))
            refine wpSeq_nil (fun W hS => ?_)
            clear hI
            have hI := hS
            clear hS hn3 ge
            have hN2 := HN.out
            obtain ⟨x1, qx1, _, lx1, SU⟩ := subR w6 HT6.out q q HLL.out.2.2.2.2.2 HLL.out.2.2.2.1 (by omega)
            obtain ⟨x2, qx2, cx2, lx2, AB⟩ := absR w6 HT6.out x1 lx1 (by omega)
            rw [qx1] at qx2
            have lx3 : x2.le (4 * N + 41) := lx2.more (by omega)
            obtain ⟨c4, _, p4, _, C4⟩ := cmpR w6 HT6.out x2 m lx3 HM.out.2.1 (by omega)
            have HX2 := Lib.hid (And.intro qx2 (And.intro cx2 lx3))
            have HP4 := Lib.hid p4
            clear qx1 lx1 qx2 cx2 lx2 lx3 p4
            go_upto_region 25 with (fail)
            refine wp_region_in_float 11 _ 25 #[.bool false, .string { data := #[] }, .string { data := #[] }] hI (by kernel_rfl) (by kernel_rfl) rfl ?_
            simp only [List.take_succ_cons, List.take_zero, List.drop_succ_cons, List.drop_zero]
            repeat (first
              | (refine wpSeq_off (by rfl) ?_; try simp only [Act.put, List.setIfInBounds_toArray, List.set_cons_zero, List.set_cons_succ])
              | (refine wpSeq_val (v := ?_) (by rfl) (fun W hS => ?_) ?_
                 rotate_left
                 · (have fx := hS.facts; simp only [factsOf, cellsOf, Nat.zero_add, Nat.reduceAdd] at fx; have fy0 := E.out W hS.bel; clear hS; go_simp; first | done | with_reducible rfl)
                 try simp only [Act.put, List.setIfInBounds_toArray, List.set_cons_zero, List.set_cons_succ]))
            refine wpSeq_call (v := .agg #[.bool x1.neg, .string x1.num, .string x1.den]) (by rfl) (fun W hS => ?_) (fun W hS => (SU.out W hS.bel)) ?_
            · (clear hS; go_simp; done)
            try simp only [Act.put, List.setIfInBounds_toArray, List.set_cons_zero, List.set_cons_succ]
            repeat (first
              | (refine wpSeq_off (by rfl) ?_; try simp only [Act.put, List.setIfInBounds_toArray, List.set_cons_zero, List.set_cons_succ])
              | (refine wpSeq_val (v := ?_) (by rfl) (fun W hS => ?_) ?_
                 rotate_left
                 · (have fx := hS.facts; simp only [factsOf, cellsOf, Nat.zero_add, Nat.reduceAdd] at fx; have fy0 := E.out W hS.bel; clear hS; go_simp; first | done | with_reducible rfl)
                 try simp only [Act.put, List.setIfInBounds_toArray, List.set_cons_zero, List.set_cons_succ]))
            refine wpSeq_call (v := .agg #[.bool x2.neg, .string x2.num, .string x2.den]) (by rfl) (fun W hS => ?_) (fun W hS => (AB.out W hS.bel)) ?_
            · (clear hS; go_simp; done)
            try simp only [Act.put, List.setIfInBounds_toArray, List.set_cons_zero, List.set_cons_succ]
            repeat (first
              | (refine wpSeq_off (by rfl) ?_; try simp only [Act.put, List.setIfInBounds_toArray, List.set_cons_zero, List.set_cons_succ])
              | (refine wpSeq_val (v := ?_) (by rfl) (fun W hS => ?_) ?_
                 rotate_left
                 · (have fx := hS.facts; simp only [factsOf, cellsOf, Nat.zero_add, Nat.reduceAdd] at fx; have fy0 := E.out W hS.bel; clear hS; go_simp; first | done | with_reducible rfl)
                 try simp only [Act.put, List.setIfInBounds_toArray, List.set_cons_zero, List.set_cons_succ]))
            refine wpSeq_nil ⟨rfl, fun W hS => ?_, fun g W hI => ?_⟩
            · go_simp
            simp only [List.setIfInBounds_toArray, List.set_cons_zero, List.set_cons_succ]
            obtain ⟨g22, rfl⟩ : ∃ g22, g22 = g := ⟨_, rfl⟩
            have hS1 := hI.take (a := [_])
            have fx := hS1.facts
            simp only [factsOf, cellsOf, Nat.zero_add, Nat.reduceAdd] at fx
            have hz := fun i => hS1.free (k := 0) (i := i) rfl
            have HX := Lib.hid (hI.all3 (a := []) (.bool x2.neg) (.string x2.num) (.string x2.den))
            clear hS1 hI SU AB
            go_upto_region 26 with (fail)
            have hI : In w6 (_ :: _ :: _ :: _ :: _ :: _) _ := HX.out
            clear HX fx hz
            generalize World.setCell _ _ _ = W13 at hI ⊢
            have HR := Lib.hid (show m.q = LV (k + 1) from by rw [HM.out.2.2, HL0.out (by trivial), HL0.out (by trivial)])
            have HK := Lib.hid (In.drop (a := [_, _, _, _]) hI)
            clear hI C4
            go_wp2_with fail
            go_roundw
            case rel => exact ⟨k + 1, m, hin, by simp, HM.out.1, HM.out.2.1, HR.out, HK.out⟩
            case measure => simp [intOf]; omega
    · obtain rfl : k = n := by omega
      have hi1 : ¬ (k : Int) < (k : Int) := by omega
      obtain rfl : m = Z := by rw [cm, qm, ← HZL.out]
      have HBF := Lib.hid (fun W (hW : Below wr.heap.size wr W) => HB6.out.trans ((hI.bel.trans (hW.mono hI.bel.size)).mono HB6.out.size))
      have HE := Lib.hid (fun W (hW : Below wr.heap.size wr W) => HE6.out W (hI.bel.trans (hW.mono hI.bel.size)))
      have ge := guard_quot
      have hn3 := fun W => eql_quot W m
      have HQM := Lib.hid qm
      have hN := HN.out
      have hb0 := HBV0.out (by trivial)
      have HOV := Lib.hid (fun W hW => HOV.out W (HBF.out W hW))
      rw [hb0] at HOV
      obtain ⟨_, e2, e3, e4, e5, e6, e7, e8⟩ := HE.out _ (Below.refl _ _)
      have fx := hI.facts
      simp only [factsOf, cellsOf, Nat.zero_add, Nat.reduceAdd] at fx
      clear hI hb0
      go_wp2_with fail
      refine (HOV.out _ (Below.refl _ _)).mono ?_
      rintro e wC ⟨rfl, hb⟩
      have HFI := Lib.hid (HBF.out _ hb)
      clear hb fx e2 e3 e4 e5 e6 e7 e8
      go_wp2
      go_ret
      exact ⟨rfl, HFI.out⟩
end Go.Proofs.YtnnbnecpcppkdaaDoor
