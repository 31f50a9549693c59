/- ZoneLevels: the walk. Conditions: those typed. -/
import Derived.Test.YthmgcbpmfipfiaaDoorPolys
import Derived.Test.YthmgcbpmfipfiaaDoorPolyP
import Derived.Test.YthmgcbpmfipfiaaDoorZoneC
namespace Go.Proofs.YthmgcbpmfipfiaaDoor.zoneLevels
open Go.RowKit Go.Gy
set_option linter.unusedVariables false
theorem wf_i64 {n : Int} (h : wfI .i64 n) : -9223372036854775808 ≤ n ∧ n ≤ 9223372036854775807 := by
  simpa [wfI, Lit.wf, IntKind.min, IntKind.max, IntKind.signed, IntKind.bits] using h
def nilQ : Q3 := ⟨false, { data := #[] }, { data := #[] }⟩
theorem nilQ_q : nilQ.q = 0 := by decide +kernel
theorem FE.uniq {L : List (List P2)} {e f : Int} (h : FE L e) (h' : FE L f) : e = f := by
  rcases h with ⟨rfl, h1⟩ | ⟨h0, k, l, h1, h2, h3⟩
  · rcases h' with ⟨rfl, _⟩ | ⟨g0, k, l, g1, g2, _⟩
    · rfl
    · exact absurd (g2.uniq (h1 l (List.mem_of_getElem? g1))) g0
  · rcases h' with ⟨rfl, g1⟩ | ⟨g0, k', l', g1, g2, g3⟩
    · exact h2.uniq (g1 l (List.mem_of_getElem? h1))
    · rcases Nat.lt_trichotomy k k' with hk | rfl | hk
      · exact absurd (h2.uniq (g3 k l hk h1)) h0
      · rw [h1] at g1; cases g1; exact h2.uniq g2
      · exact absurd (g2.uniq (h3 k' l' hk g1)) g0
theorem square_level {l : List P2} {n e : Int} (hl : PolyIs l) (h : LevelIs nilQ.q nilQ.q ((1 : Int) : Rat) 0 0 [l] n e) : e = 0 ∧ n = 2 := by
  have hchk : FE [l] e → e = 0 := by
    rintro (⟨h1, _⟩ | ⟨h0, k, l', h1, h2, _⟩)
    · exact h1
    · have : l' = l := by have := List.mem_of_getElem? h1; simpa using this
      subst this
      exact hl.check h2
  rcases h with ⟨h, _⟩ | ⟨_, _, h0, h1⟩ | ⟨_, h0, _, h2⟩
  · omega
  · exact absurd (hchk h1) h0
  · refine ⟨h0, ?_⟩
    have ht : TB nilQ.q nilQ.q ((1 : Int) : Rat) 0 l := by
      intro y hy
      have ho := hl.origin hy
      have hf : farV ((1 : Int) : Rat) 0 = 0 := by
        unfold farV
        rw [show ((max 0 0 : Int) : Rat) = 0 from rfl, Rat.mul_zero]
      rw [tchB_iff, hf, nilQ_q]
      refine ⟨?_, by grind, by grind, by grind, by grind⟩
      unfold validB
      rw [decide_eq_true (by grind), decide_eq_true (by grind)]; rfl
    rcases h2 with ⟨h3, _⟩ | ⟨_, h3, _⟩ | ⟨_, h3, _⟩
    · exact h3
    · exact absurd ht (h3 l (by simp))
    · exact absurd ht (h3 l (by simp))
theorem rboxes_tch {e f g h : Q3} {y : B4} {p q z v : Rat} (h1 : e.q = p - z) (h2 : f.q = q - z) (h3 : g.q = p + z) (h4 : h.q = q + z) (hz : z = v) : rboxB ⟨e, f, g, h⟩ y = tchB p q v y := by
  subst hz
  unfold rboxB tchB validB
  simp only
  rw [h1, h2, h3, h4, Bool.and_assoc]
/-- the first loop: the fault of the first i polygons -/
def ZlF (w : World) (ls : List (Nat × TypeId × Array Value)) (bad : Prop) (L : List (List P2)) (vf v : Value) (wr : World) : Prop := ∃ (i : Nat) (f : Int), i ≤ L.length ∧ v = .int .i64 i ∧ vf = .int .i64 f ∧
  ((bad ∧ f = 1) ∨ (¬ bad ∧ f = 0 ∧ ∀ (j : Nat) (l : List P2), j < i → L[j]? = some l → CheckIs l 8 0) ∨ (¬ bad ∧ f ≠ 0 ∧ FE L f)) ∧ In w ls wr
/-- the second loop: how close the first i polygons are -/
def ZlW (w : World) (ls : List (Nat × TypeId × Array Value)) (p q x : Rat) (near slow : Int) (L : List (List P2)) (o v : Value) (wr : World) : Prop := ∃ (i : Nat) (c : Int), i ≤ L.length ∧ v = .int .i64 i ∧ o = .int .i64 c ∧
  ((c = 2 ∧ ∃ l ∈ L, TB p q x near l) ∨ (c = 1 ∧ (∀ (j : Nat) (l : List P2), j < i → L[j]? = some l → ¬ TB p q x near l) ∧ ∃ l ∈ L, TB p q x slow l) ∨
    (c = 0 ∧ (∀ (j : Nat) (l : List P2), j < i → L[j]? = some l → ¬ TB p q x near l) ∧ ∀ (j : Nat) (l : List P2), j < i → L[j]? = some l → ¬ TB p q x slow l)) ∧ In w ls wr
set_option maxRecDepth 100000 in
set_option maxHeartbeats 8000000 in
theorem walk (vp vx : Value) (near slow : Int) (vl : Value) (w : World) {b0 b1 b4 : Nat} (f0 : VecArg w vp b0) (f1 : QuotArg w vx b1) (w2 : wfI .i64 near) (w3 : wfI .i64 slow) (f4 : PolysArg w vl b4) (hT : TabW w) (hk : b0 + b1 + b4 ≤ 1048576) :
    Calls Tryd.prog 11 #[vp, vx, .int .i64 near, .int .i64 slow, vl] w fun e w' => e = .returned (.bool true) ∧ Below w.heap.size w w' := by
  obtain ⟨p, q, rfl, hp, hq⟩ := f0
  obtain ⟨x, rfl, hx⟩ := f1
  obtain ⟨L, hLs, hLl, hLn⟩ := f4
  replace hp : p.le 1048576 := hp.more (by omega)
  replace hq : q.le 1048576 := hq.more (by omega)
  replace hx : x.le 1048576 := hx.more (by omega)
  have hL1 : ∀ l ∈ L, ∀ z ∈ l, z.le 1048576 := fun l hl z hz => ((hLl l hl).1 z hz).more (by omega)
  have hL2 : ∀ l ∈ L, l.length ≤ 4611686018427387904 := fun l hl => by have := (hLl l hl).2; omega
  have hL3 : L.length ≤ 4611686018427387904 := by omega
  have HT := Lib.hid hT
  have HL1 := Lib.hid hL1
  have HL2 := Lib.hid hL2
  have HSL := Lib.hid hLs
  have wn2 := wf_i64 w2
  have wn3 := wf_i64 w3
  obtain ⟨z1, q1, _, l1, O1⟩ := ofR w hT 1
  have HQ1 := Lib.hid q1
  have hI := ((In.start w).alloc 58 #[.bool p.neg, .string p.num, .string p.den, .bool q.neg, .string q.num, .string q.den]).alloc 27 #[.bool x.neg, .string x.num, .string x.den]
  rw [World.size_alloc] at hI
  obtain ⟨ls, hls⟩ : ∃ ls : List (Nat × TypeId × Array Value), ls = [(w.heap.size + 1, 27, #[.bool x.neg, .string x.num, .string x.den]), (w.heap.size, 58, #[.bool p.neg, .string p.num, .string p.den, .bool q.neg, .string q.num, .string q.den])] := ⟨_, rfl⟩
  have Hls := Lib.hid hls
  clear hls hT hLs hLl hL1 hL2 w2 w3 q1 hk
  go_enter Tryd.func11, Tryd.ntmps11
  go_upto_region 1 with (fail)
  generalize World.alloc _ _ = W1 at hI ⊢
  have hls3 : SlI (W1.alloc (.cells #[.int .i64 3, .int .i64 3, .int .i64 0] 3)) (W1.alloc (.cells #[.int .i64 3, .int .i64 3, .int .i64 0] 3)).heap.size (.slice (some ⟨W1.heap.size, 0, none⟩) 3 3) [3, 3, 0] :=
    ⟨_, _, _, rfl, rfl, Nat.le_refl _, (fun h => by cases h), by rw [World.size_alloc]; exact Rd.lit W1 _ _ 1 3 rfl⟩
  have HPM := Lib.hid (polyMake _ _ _ hls3 (by decide))
  replace hI := hI.skip (.cells #[.int .i64 3, .int .i64 3, .int .i64 0] 3)
  clear hls3
  go_wp2_with fail
  refine HPM.out.mono ?_
  rintro e wn ⟨vs, ls', rfl, hps, hss, hb⟩
  replace hI := hI.call hb
  obtain ⟨As, ns, cs, rfl, hss'⟩ := id hss
  clear hss'
  have HSS := Lib.hid hss
  have HPS := Lib.hid hps
  clear hb HPM hss hps
  go_wp2_with fail
  refine (O1.out _ hI.bel).mono ?_
  rintro e wm ⟨rfl, hb⟩
  have hsz := hb.size
  have hs2 := (HSS.out.below hb).more hsz
  replace hI := hI.call hb
  have hrow : SlPs (wm.alloc (.cells #[.slice As ns cs] 68)) (wm.alloc (.cells #[.slice As ns cs] 68)).heap.size (.slice (some ⟨wm.heap.size, 0, none⟩) 1 1) [ls'] :=
    ⟨_, _, _, [.slice As ns cs], rfl, rfl, rfl, by rw [World.size_alloc]; exact Rd.lit wm _ [.slice As ns cs] 1 1 rfl, fun k v' l hk hl => by
      cases k with
      | zero => cases hk; cases hl; exact (hs2.below ((Below.refl _ _).alloc (Nat.le_refl _) _)).more (by rw [World.size_alloc]; omega)
      | succ k => simp at hk⟩
  replace hI := hI.skip (.cells #[.slice As ns cs] 68)
  have hle : ∀ l ∈ [ls'], ∀ z ∈ l, z.le 1048576 := by
    intro l hl z hz
    rw [List.mem_singleton.1 hl] at hz
    exact (HPS.out.le z hz).more (by decide)
  have hlen : ∀ l ∈ [ls'], l.length ≤ 4611686018427387904 := by
    intro l hl
    rw [List.mem_singleton.1 hl]
    have := HPS.out.len
    omega
  have HLV := Lib.hid (level_any _ (tabs w HT.out hI.bel) nilQ nilQ z1 0 0 _ [ls'] (N := 1048576) ⟨by decide, by decide⟩ ⟨by decide, by decide⟩ (l1.more (by decide)) hrow hle hlen (by simp) (by decide))
  clear hb hsz hs2 hrow HSS hle hlen
  simp only [nilQ] at HLV
  go_wp2_with fail
  refine HLV.out.mono ?_
  rintro e wk ⟨n0, e0, rfl, hlv, hb⟩
  replace hI := hI.call hb
  obtain ⟨rfl, rfl⟩ := square_level HPS.out (by rw [← HQ1.out]; exact hlv)
  clear hb hlv HLV HPS HQ1 O1
  have fx := hI.facts
  simp only [factsOf, cellsOf, Nat.zero_add, Nat.reduceAdd] at fx
  have HLV := Lib.hid (fun W (hW : Below w.heap.size w W) => level_any W (tabs w HT.out hW) p q x near slow vl L hp hq hx ((HSL.out.below hW).more hW.size) HL1.out HL2.out hL3 (by decide))
  go_wp2_with fail
  refine (HLV.out _ hI.bel).mono ?_
  rintro e w5 ⟨n, e, rfl, hlv, hb⟩
  have HLI := Lib.hid hlv
  replace hI := hI.call hb
  clear hb hlv HLV fx
  obtain ⟨bad, hbad⟩ : ∃ bad : Prop, bad = (near < 0 ∨ slow < near ∨ 2000 < slow) := ⟨_, rfl⟩
  have HB := Lib.hid hbad
  have hways : (near < 0 ∧ bad) ∨ (¬ near < 0 ∧ slow < near ∧ bad) ∨ (¬ near < 0 ∧ ¬ slow < near ∧ slow > 2000 ∧ bad) ∨ (¬ near < 0 ∧ ¬ slow < near ∧ ¬ slow > 2000 ∧ ¬ bad) := by rw [hbad]; omega
  have HWY := Lib.hid hways
  clear hbad hways
  obtain ⟨A, nn, c, vs, rfl, hvn, hLn2, hrd, hrow⟩ := HSL.out
  subst hvn
  have HRD := Lib.hid hrd
  have HROW := Lib.hid hrow
  clear hrd hrow
  have hI0 : In w ls w5 := by rw [Hls.out]; exact hI
  clear hI
  have hI := hI0
  clear hI0
  go_upto_region 7 with (fail)
  go_cut [58] (fun b wx => ∃ bb : Bool, b = .bool bb ∧ (bb = true ↔ bad) ∧ In w ls wx)
  case first =>
    as_aux_lemma =>
      rcases HWY.out with ⟨h1, h⟩ | ⟨h1, h2, h⟩ | ⟨h1, h2, h3, h⟩ | ⟨h1, h2, h3, h⟩
      · have hb2 := Lib.hid h
        clear h
        go_wp2
        go_meet
        exact ⟨true, rfl, ⟨fun _ => hb2.out, fun _ => rfl⟩, hI⟩
      · have hb2 := Lib.hid h
        clear h
        go_wp2
        go_meet
        exact ⟨true, rfl, ⟨fun _ => hb2.out, fun _ => rfl⟩, hI⟩
      · have hb2 := Lib.hid h
        clear h
        go_wp2
        go_meet
        exact ⟨true, rfl, ⟨fun _ => hb2.out, fun _ => rfl⟩, hI⟩
      · have hb2 := Lib.hid h
        clear h
        go_wp2
        go_meet
        exact ⟨false, congrArg Value.bool (by rw [decide_eq_false (by omega), decide_eq_false (by omega), decide_eq_false (by omega)]; rfl), ⟨(fun h => by cases h), fun h => absurd h hb2.out⟩, hI⟩
  case rest =>
    clear hI
    obtain ⟨bb, rfl, hbb, hI⟩ := hcut
    have HBB := Lib.hid hbb
    clear hbb
    go_upto_if 58 with (fail)
    go_cut [16] (fun f wx => ∃ k : Int, f = .int .i64 k ∧ ((bad ∧ k = 1) ∨ (¬ bad ∧ k = 0)) ∧ In w ls wx)
    case first =>
      as_aux_lemma =>
        cases bb with
        | true =>
          have hbd := Lib.hid (HBB.out.mp rfl)
          go_wp2
          go_meet
          exact ⟨1, rfl, .inl ⟨hbd.out, rfl⟩, hI⟩
        | false =>
          have hbd := Lib.hid (show ¬ bad from fun h => by have := HBB.out.mpr h; cases this)
          go_wp2
          go_meet
          exact ⟨0, rfl, .inr ⟨hbd.out, rfl⟩, hI⟩
    case rest =>
      clear hI HBB
      obtain ⟨f, rfl, hf, hI⟩ := hcut
      have hst := Lib.hid (show ZlF w ls bad L (.int .i64 f) (.int .i64 0) wc from ⟨0, f, Nat.zero_le _, rfl, rfl, by
        rcases hf with h | ⟨h, h'⟩
        · exact .inl h
        · exact .inr (.inl ⟨h, h', fun j l hj => absurd hj (Nat.not_lt_zero j)⟩), hI⟩)
      clear hI hf
      go_wp2_with fail
      go_loopw [16, 61] (fun f v wr => ZlF w ls bad L f v wr) (fun _ v _ => L.length - (intOf v).toNat)
      case atStart => exact hst.out
      case round =>
        clear hst
        obtain ⟨i, f, hi, rfl, rfl, hf, hI⟩ := hrel
        have HF := Lib.hid hf
        clear hf
        by_cases hin : i < vs.length
        · have hi1 : (i : Int) < (vs.length : Int) := by omega
          have hi2 : 0 ≤ (i : Int) ∧ (i : Int) < (vs.length : Int) := by omega
          have hwi : IntKind.i64.wrap ((i : Int) + 1) = (i : Int) + 1 := by rw [IntKind.wrap_i64]; omega
          obtain ⟨b, o, u, rfl, hbB, hu, hcu⟩ := HRD.out.at_ hin
          obtain ⟨l, hl⟩ : ∃ l, L[i]? = some l := ⟨_, List.getElem?_eq_getElem (by omega)⟩
          have hml := List.mem_of_getElem? hl
          have hsl := HROW.out i u l hu hl
          obtain ⟨k, hk, CK⟩ := checkR w HT.out u l hsl (Nat.le_refl _) (HL1.out l hml) (by decide)
          have d0 := (hI.bel.cell (p := ⟨b, o + i, none⟩) hbB).trans hcu
          have hbn : b < wr.heap.size := Nat.lt_of_lt_of_le hbB hI.bel.size
          have HKE := Lib.hid hk
          have HLX := Lib.hid hl
          clear hk hl hml hsl hu hcu
          by_cases hf0 : f = 0
          · subst hf0
            have HN := Lib.hid (show ∀ W, In w ls W → ZlF w ls bad L (.int .i64 k) (.int .i64 ((i : Int) + 1)) W from fun W hW => ⟨i + 1, k, by omega, by simp, rfl, by
              rcases HF.out with ⟨_, h⟩ | ⟨h1, _, h2⟩ | ⟨_, h, _⟩
              · exact absurd h (by decide)
              · by_cases hk0 : k = 0
                · refine .inr (.inl ⟨h1, hk0, fun j l' hj hl' => ?_⟩)
                  rcases Nat.lt_succ_iff_lt_or_eq.mp hj with h | rfl
                  · exact h2 j l' h hl'
                  · rw [HLX.out] at hl'; cases hl'; rw [← hk0]; exact HKE.out
                · exact .inr (.inr ⟨h1, hk0, .inr ⟨hk0, i, l, HLX.out, HKE.out, h2⟩⟩)
              · exact absurd rfl h, hW⟩)
            go_wp2_with fail
            refine (CK.out _ hI.bel).mono ?_
            rintro e wn ⟨rfl, hb⟩
            replace hI := hI.call hb
            clear hb
            have hrel := HN.out _ hI
            clear d0 hI
            go_wp2_with fail
            go_roundw
            case rel => exact hrel
            case measure => simp [intOf]; omega
          · have hf1 : (f == 0) = false := by simpa using hf0
            have HN := Lib.hid (show ∀ W, In w ls W → ZlF w ls bad L (.int .i64 f) (.int .i64 ((i : Int) + 1)) W from fun W hW => ⟨i + 1, f, by omega, by simp, rfl, by
              rcases HF.out with h | ⟨_, h, _⟩ | h
              · exact .inl h
              · exact absurd h hf0
              · exact .inr (.inr h), hW⟩)
            have hrel := HN.out _ hI
            clear hI CK
            go_wp2_with fail
            go_roundw
            case rel => exact hrel
            case measure => simp [intOf]; omega
        · obtain rfl : i = vs.length := by omega
          have hi1 : ¬ (vs.length : Int) < (vs.length : Int) := by omega
          by_cases hf0 : f = 0
          · subst hf0
            obtain ⟨hnb, hok⟩ : ¬ bad ∧ ∀ (j : Nat) (l : List P2), j < vs.length → L[j]? = some l → CheckIs l 8 0 := by
              rcases HF.out with ⟨_, h⟩ | ⟨h1, _, h2⟩ | ⟨_, h, _⟩
              · exact absurd h (by decide)
              · exact ⟨h1, h2⟩
              · exact absurd rfl h
            have HFE : FE L 0 := .inl ⟨rfl, fun l hl => by
              obtain ⟨j, hj, rfl⟩ := List.getElem_of_mem hl
              exact hok j _ (by omega) (List.getElem?_eq_getElem hj)⟩
            obtain ⟨rfl, hlev⟩ : e = 0 ∧ ((n = 2 ∧ ∃ l ∈ L, TB p.q q.q x.q near l) ∨ (n = 1 ∧ (∀ l ∈ L, ¬ TB p.q q.q x.q near l) ∧ ∃ l ∈ L, TB p.q q.q x.q slow l) ∨ (n = 0 ∧ (∀ l ∈ L, ¬ TB p.q q.q x.q near l) ∧ ∀ l ∈ L, ¬ TB p.q q.q x.q slow l)) := by
              rcases HLI.out with ⟨h, _⟩ | ⟨_, _, h0, h⟩ | ⟨_, h0, _, h⟩
              · exact absurd (by rw [HB.out]; exact h) hnb
              · exact absurd (FE.uniq h HFE) h0
              · exact ⟨h0, h⟩
            have HLEV := Lib.hid hlev
            have hnr : ¬ near < 0 ∧ ¬ slow < near ∧ ¬ slow > 2000 := by
              rcases HWY.out with ⟨_, h⟩ | ⟨_, _, h⟩ | ⟨_, _, _, h⟩ | ⟨h1, h2, h3, _⟩
              · exact absurd h hnb
              · exact absurd h hnb
              · exact absurd h hnb
              · exact ⟨by omega, by omega, by omega⟩
            obtain ⟨hn1, hn2, hn3⟩ := hnr
            have hst2 := Lib.hid (show ZlW w ls p.q q.q x.q near slow L (.int .i64 0) (.int .i64 0) wr from ⟨0, 0, Nat.zero_le _, rfl, rfl, .inr (.inr ⟨rfl, fun j l hj => absurd hj (Nat.not_lt_zero j), fun j l hj => absurd hj (Nat.not_lt_zero j)⟩), hI⟩)
            obtain ⟨ea, eb, ec, ed, qea, qeb, qec, qed, _, hel, RN⟩ := reachR w HT.out p q x hp hq hx near wn2
            obtain ⟨fa, fb, fc, fd, qfa, qfb, qfc, qfd, _, hfl, RS⟩ := reachR w HT.out p q x hp hq hx slow wn3
            have HEN := Lib.hid (fun y : B4 => rboxes_tch (y := y) qea qeb qec qed rfl)
            have HES := Lib.hid (fun y : B4 => rboxes_tch (y := y) qfa qfb qfc qfd rfl)
            clear hnb hok HFE hlev hI HF HLI qea qeb qec qed qfa qfb qfc qfd
            go_wp2_with fail
            go_loopw [19, 81] (fun o v wr => ZlW w ls p.q q.q x.q near slow L o v wr) (fun _ v _ => L.length - (intOf v).toNat)
            case atStart => exact hst2.out
            case round =>
              clear hst2
              obtain ⟨i, cc, hi, rfl, rfl, hc, hI⟩ := hrel
              have HC := Lib.hid hc
              clear hc
              by_cases hin : i < vs.length
              · have hi1 : (i : Int) < (vs.length : Int) := by omega
                have hi2 : 0 ≤ (i : Int) ∧ (i : Int) < (vs.length : Int) := by omega
                have hwi : IntKind.i64.wrap ((i : Int) + 1) = (i : Int) + 1 := by rw [IntKind.wrap_i64]; omega
                obtain ⟨b, o, u, rfl, hbB, hu, hcu⟩ := HRD.out.at_ hin
                obtain ⟨l, hl⟩ : ∃ l, L[i]? = some l := ⟨_, List.getElem?_eq_getElem (by omega)⟩
                have hml := List.mem_of_getElem? hl
                have hsl := HROW.out i u l hu hl
                have HBX := Lib.hid (fun W (hW : Below w.heap.size w W) => box_at W (tabs w HT.out hW) u l ((hsl.below hW).more hW.size) (HL1.out l hml) (by decide) (HL2.out l hml))
                have d0 := (hI.bel.cell (p := ⟨b, o + i, none⟩) hbB).trans hcu
                have hbn : b < wr.heap.size := Nat.lt_of_lt_of_le hbB hI.bel.size
                have HLX := Lib.hid hl
                have HML := Lib.hid hml
                clear hl hml hsl hu hcu
                rw [Hls.out] at hI
                go_wp2_with fail
                refine (HBX.out _ hI.bel).mono ?_
                rintro r wn ⟨y, rfl, hy, hyc, hyl, hb⟩
                replace hI := hI.call hb
                clear hb d0 hbn
                have BN := rboxesR w HT.out ⟨ea, eb, ec, ed⟩ y ⟨hel.1.more (by decide), hel.2.1.more (by decide), hel.2.2.1.more (by decide), hel.2.2.2.more (by decide)⟩ ⟨hyl.1.more (by decide), hyl.2.1.more (by decide), hyl.2.2.1.more (by decide), hyl.2.2.2.more (by decide)⟩
                have BS := rboxesR w HT.out ⟨fa, fb, fc, fd⟩ y ⟨hfl.1.more (by decide), hfl.2.1.more (by decide), hfl.2.2.1.more (by decide), hfl.2.2.2.more (by decide)⟩ ⟨hyl.1.more (by decide), hyl.2.1.more (by decide), hyl.2.2.1.more (by decide), hyl.2.2.2.more (by decide)⟩
                rw [HEN.out y] at BN
                rw [HES.out y] at BS
                have HT1 := Lib.hid (TB_iff (p := p.q) (q := q.q) (x := x.q) (t := near) hy)
                have HT2 := Lib.hid (TB_iff (p := p.q) (q := q.q) (x := x.q) (t := slow) hy)
                obtain ⟨b1, hb1⟩ : ∃ b1, b1 = tchB p.q q.q (farV x.q near) y := ⟨_, rfl⟩
                obtain ⟨b2, hb2⟩ : ∃ b2, b2 = tchB p.q q.q (farV x.q slow) y := ⟨_, rfl⟩
                rw [← hb1] at BN HT1
                rw [← hb2] at BS HT2
                clear hb1 hb2 hy hyc hyl HBX
                replace hI := hI.alloc 64 #[.bool y.a.neg, .string y.a.num, .string y.a.den, .bool y.b.neg, .string y.b.num, .string y.b.den, .bool y.c.neg, .string y.c.num, .string y.c.den, .bool y.d.neg, .string y.d.num, .string y.d.den]
                obtain ⟨g, hg⟩ : ∃ g, g = wn.heap.size := ⟨_, rfl⟩
                go_upto_region 22 with (fail)
                rw [← hg] at hI ⊢
                generalize World.alloc _ _ = W2 at hI ⊢
                clear hg
                have hsnoc : ∀ (P : List P2 → Prop), (∀ (j : Nat) (l : List P2), j < i → L[j]? = some l → ¬ P l) → ¬ P l → ∀ (j : Nat) (l : List P2), j < i + 1 → L[j]? = some l → ¬ P l := by
                  intro P h1 h2 j l' hj hl'
                  rcases Nat.lt_succ_iff_lt_or_eq.mp hj with h | rfl
                  · exact h1 j l' h hl'
                  · rw [HLX.out] at hl'; cases hl'; exact h2
                have HS := Lib.hid hsnoc
                clear hsnoc
                have hmx : max cc 1 = 1 ∨ max cc 1 = cc := by omega
                have hcc : cc = 0 ∨ cc = 1 ∨ cc = 2 := by
                  rcases HC.out with ⟨h, _⟩ | ⟨h, _⟩ | ⟨h, _⟩ <;> omega
                cases b1 with
                | true =>
                  have HN := Lib.hid (show ∀ W, In w ls W → ZlW w ls p.q q.q x.q near slow L (.int .i64 2) (.int .i64 ((i : Int) + 1)) W from fun W hW => ⟨i + 1, 2, by omega, by simp, rfl, .inl ⟨rfl, l, HML.out, HT1.out.mpr rfl⟩, hW⟩)
                  cases b2 with
                  | true =>
                    refine wp_region_in hI (by kernel_rfl) (by kernel_rfl) ?_
                    repeat (first
                      | (refine wpSeq_off (by rfl) ?_; try simp only [Act.put, List.setIfInBounds_toArray, List.set_cons_zero, List.set_cons_succ])
                      | (refine wpSeq_val (v := ?_) (by rfl) (fun W hS => ?_) ?_
                         rotate_left
                         · (have fx := hS.facts; simp only [factsOf, cellsOf, Nat.zero_add, Nat.reduceAdd] at fx; clear hS; go_simp; first | done | with_reducible rfl)
                         try simp only [Act.put, List.setIfInBounds_toArray, List.set_cons_zero, List.set_cons_succ]))
                    refine wpSeq_call (v := .agg #[.bool fa.neg, .string fa.num, .string fa.den, .bool fb.neg, .string fb.num, .string fb.den, .bool fc.neg, .string fc.num, .string fc.den, .bool fd.neg, .string fd.num, .string fd.den]) (by rfl) (fun W hS => ?_) (fun W hS => (RS.out W hS.bel)) ?_
                    · (clear hS; go_simp; done)
                    try simp only [Act.put, List.setIfInBounds_toArray, List.set_cons_zero, List.set_cons_succ]
                    repeat (first
                      | (refine wpSeq_off (by rfl) ?_; try simp only [Act.put, List.setIfInBounds_toArray, List.set_cons_zero, List.set_cons_succ])
                      | (refine wpSeq_val (v := ?_) (by rfl) (fun W hS => ?_) ?_
                         rotate_left
                         · (have fx := hS.facts; simp only [factsOf, cellsOf, Nat.zero_add, Nat.reduceAdd] at fx; clear hS; go_simp; first | done | with_reducible rfl)
                         try simp only [Act.put, List.setIfInBounds_toArray, List.set_cons_zero, List.set_cons_succ]))
                    refine wpSeq_call (v := .bool true) (by rfl) (fun W hS => ?_) (fun W hS => (BS.out W hS.bel)) ?_
                    · (clear hS; go_simp; done)
                    try simp only [Act.put, List.setIfInBounds_toArray, List.set_cons_zero, List.set_cons_succ]
                    repeat (first
                      | (refine wpSeq_off (by rfl) ?_; try simp only [Act.put, List.setIfInBounds_toArray, List.set_cons_zero, List.set_cons_succ])
                      | (refine wpSeq_val (v := ?_) (by rfl) (fun W hS => ?_) ?_
                         rotate_left
                         · (have fx := hS.facts; simp only [factsOf, cellsOf, Nat.zero_add, Nat.reduceAdd] at fx; clear hS; go_simp; first | done | with_reducible rfl)
                         try simp only [Act.put, List.setIfInBounds_toArray, List.set_cons_zero, List.set_cons_succ]))
                    refine wpSeq_nil (fun W hS => ?_)
                    clear hI
                    replace hI := hS
                    clear hS
                    go_upto_region 24 with (fail)
                    refine wp_region_in hI (by kernel_rfl) (by kernel_rfl) ?_
                    repeat (first
                      | (refine wpSeq_off (by rfl) ?_; try simp only [Act.put, List.setIfInBounds_toArray, List.set_cons_zero, List.set_cons_succ])
                      | (refine wpSeq_val (v := ?_) (by rfl) (fun W hS => ?_) ?_
                         rotate_left
                         · (have fx := hS.facts; simp only [factsOf, cellsOf, Nat.zero_add, Nat.reduceAdd] at fx; clear hS; go_simp; first | done | with_reducible rfl)
                         try simp only [Act.put, List.setIfInBounds_toArray, List.set_cons_zero, List.set_cons_succ]))
                    refine wpSeq_call (v := .agg #[.bool ea.neg, .string ea.num, .string ea.den, .bool eb.neg, .string eb.num, .string eb.den, .bool ec.neg, .string ec.num, .string ec.den, .bool ed.neg, .string ed.num, .string ed.den]) (by rfl) (fun W hS => ?_) (fun W hS => (RN.out W hS.bel)) ?_
                    · (clear hS; go_simp; done)
                    try simp only [Act.put, List.setIfInBounds_toArray, List.set_cons_zero, List.set_cons_succ]
                    repeat (first
                      | (refine wpSeq_off (by rfl) ?_; try simp only [Act.put, List.setIfInBounds_toArray, List.set_cons_zero, List.set_cons_succ])
                      | (refine wpSeq_val (v := ?_) (by rfl) (fun W hS => ?_) ?_
                         rotate_left
                         · (have fx := hS.facts; simp only [factsOf, cellsOf, Nat.zero_add, Nat.reduceAdd] at fx; clear hS; go_simp; first | done | with_reducible rfl)
                         try simp only [Act.put, List.setIfInBounds_toArray, List.set_cons_zero, List.set_cons_succ]))
                    refine wpSeq_call (v := .bool true) (by rfl) (fun W hS => ?_) (fun W hS => (BN.out W hS.bel)) ?_
                    · (clear hS; go_simp; done)
                    try simp only [Act.put, List.setIfInBounds_toArray, List.set_cons_zero, List.set_cons_succ]
                    repeat (first
                      | (refine wpSeq_off (by rfl) ?_; try simp only [Act.put, List.setIfInBounds_toArray, List.set_cons_zero, List.set_cons_succ])
                      | (refine wpSeq_val (v := ?_) (by rfl) (fun W hS => ?_) ?_
                         rotate_left
                         · (have fx := hS.facts; simp only [factsOf, cellsOf, Nat.zero_add, Nat.reduceAdd] at fx; clear hS; go_simp; first | done | with_reducible rfl)
                         try simp only [Act.put, List.setIfInBounds_toArray, List.set_cons_zero, List.set_cons_succ]))
                    refine wpSeq_nil (fun W hS => ?_)
                    clear hI
                    have hrel := HN.out W (by rw [Hls.out]; exact hS.tail)
                    clear hS
                    go_wp2_with fail
                    go_roundw
                    case rel => exact hrel
                    case measure => simp [intOf]; omega
                  | false =>
                    refine wp_region_in hI (by kernel_rfl) (by kernel_rfl) ?_
                    repeat (first
                      | (refine wpSeq_off (by rfl) ?_; try simp only [Act.put, List.setIfInBounds_toArray, List.set_cons_zero, List.set_cons_succ])
                      | (refine wpSeq_val (v := ?_) (by rfl) (fun W hS => ?_) ?_
                         rotate_left
                         · (have fx := hS.facts; simp only [factsOf, cellsOf, Nat.zero_add, Nat.reduceAdd] at fx; clear hS; go_simp; first | done | with_reducible rfl)
                         try simp only [Act.put, List.setIfInBounds_toArray, List.set_cons_zero, List.set_cons_succ]))
                    refine wpSeq_call (v := .agg #[.bool fa.neg, .string fa.num, .string fa.den, .bool fb.neg, .string fb.num, .string fb.den, .bool fc.neg, .string fc.num, .string fc.den, .bool fd.neg, .string fd.num, .string fd.den]) (by rfl) (fun W hS => ?_) (fun W hS => (RS.out W hS.bel)) ?_
                    · (clear hS; go_simp; done)
                    try simp only [Act.put, List.setIfInBounds_toArray, List.set_cons_zero, List.set_cons_succ]
                    repeat (first
                      | (refine wpSeq_off (by rfl) ?_; try simp only [Act.put, List.setIfInBounds_toArray, List.set_cons_zero, List.set_cons_succ])
                      | (refine wpSeq_val (v := ?_) (by rfl) (fun W hS => ?_) ?_
                         rotate_left
                         · (have fx := hS.facts; simp only [factsOf, cellsOf, Nat.zero_add, Nat.reduceAdd] at fx; clear hS; go_simp; first | done | with_reducible rfl)
                         try simp only [Act.put, List.setIfInBounds_toArray, List.set_cons_zero, List.set_cons_succ]))
                    refine wpSeq_call (v := .bool false) (by rfl) (fun W hS => ?_) (fun W hS => (BS.out W hS.bel)) ?_
                    · (clear hS; go_simp; done)
                    try simp only [Act.put, List.setIfInBounds_toArray, List.set_cons_zero, List.set_cons_succ]
                    repeat (first
                      | (refine wpSeq_off (by rfl) ?_; try simp only [Act.put, List.setIfInBounds_toArray, List.set_cons_zero, List.set_cons_succ])
                      | (refine wpSeq_val (v := ?_) (by rfl) (fun W hS => ?_) ?_
                         rotate_left
                         · (have fx := hS.facts; simp only [factsOf, cellsOf, Nat.zero_add, Nat.reduceAdd] at fx; clear hS; go_simp; first | done | with_reducible rfl)
                         try simp only [Act.put, List.setIfInBounds_toArray, List.set_cons_zero, List.set_cons_succ]))
                    refine wpSeq_nil (fun W hS => ?_)
                    clear hI
                    replace hI := hS
                    clear hS
                    go_upto_region 24 with (fail)
                    refine wp_region_in hI (by kernel_rfl) (by kernel_rfl) ?_
                    repeat (first
                      | (refine wpSeq_off (by rfl) ?_; try simp only [Act.put, List.setIfInBounds_toArray, List.set_cons_zero, List.set_cons_succ])
                      | (refine wpSeq_val (v := ?_) (by rfl) (fun W hS => ?_) ?_
                         rotate_left
                         · (have fx := hS.facts; simp only [factsOf, cellsOf, Nat.zero_add, Nat.reduceAdd] at fx; clear hS; go_simp; first | done | with_reducible rfl)
                         try simp only [Act.put, List.setIfInBounds_toArray, List.set_cons_zero, List.set_cons_succ]))
                    refine wpSeq_call (v := .agg #[.bool ea.neg, .string ea.num, .string ea.den, .bool eb.neg, .string eb.num, .string eb.den, .bool ec.neg, .string ec.num, .string ec.den, .bool ed.neg, .string ed.num, .string ed.den]) (by rfl) (fun W hS => ?_) (fun W hS => (RN.out W hS.bel)) ?_
                    · (clear hS; go_simp; done)
                    try simp only [Act.put, List.setIfInBounds_toArray, List.set_cons_zero, List.set_cons_succ]
                    repeat (first
                      | (refine wpSeq_off (by rfl) ?_; try simp only [Act.put, List.setIfInBounds_toArray, List.set_cons_zero, List.set_cons_succ])
                      | (refine wpSeq_val (v := ?_) (by rfl) (fun W hS => ?_) ?_
                         rotate_left
                         · (have fx := hS.facts; simp only [factsOf, cellsOf, Nat.zero_add, Nat.reduceAdd] at fx; clear hS; go_simp; first | done | with_reducible rfl)
                         try simp only [Act.put, List.setIfInBounds_toArray, List.set_cons_zero, List.set_cons_succ]))
                    refine wpSeq_call (v := .bool true) (by rfl) (fun W hS => ?_) (fun W hS => (BN.out W hS.bel)) ?_
                    · (clear hS; go_simp; done)
                    try simp only [Act.put, List.setIfInBounds_toArray, List.set_cons_zero, List.set_cons_succ]
                    repeat (first
                      | (refine wpSeq_off (by rfl) ?_; try simp only [Act.put, List.setIfInBounds_toArray, List.set_cons_zero, List.set_cons_succ])
                      | (refine wpSeq_val (v := ?_) (by rfl) (fun W hS => ?_) ?_
                         rotate_left
                         · (have fx := hS.facts; simp only [factsOf, cellsOf, Nat.zero_add, Nat.reduceAdd] at fx; clear hS; go_simp; first | done | with_reducible rfl)
                         try simp only [Act.put, List.setIfInBounds_toArray, List.set_cons_zero, List.set_cons_succ]))
                    refine wpSeq_nil (fun W hS => ?_)
                    clear hI
                    have hrel := HN.out W (by rw [Hls.out]; exact hS.tail)
                    clear hS
                    go_wp2_with fail
                    go_roundw
                    case rel => exact hrel
                    case measure => simp [intOf]; omega
                | false =>
                  have hnt : ¬ TB p.q q.q x.q near l := fun h => absurd (HT1.out.mp h) (by decide)
                  have HNT := Lib.hid hnt
                  clear hnt
                  cases b2 with
                  | true =>
                    have HN := Lib.hid (show ∀ W, In w ls W → ZlW w ls p.q q.q x.q near slow L (.int .i64 (max cc 1)) (.int .i64 ((i : Int) + 1)) W from fun W hW => ⟨i + 1, max cc 1, by omega, by simp, rfl, by
                      rcases HC.out with ⟨h, h'⟩ | ⟨h, h', _⟩ | ⟨h, h', _⟩
                      · exact .inl ⟨by omega, h'⟩
                      · exact .inr (.inl ⟨by omega, HS.out _ h' HNT.out, l, HML.out, HT2.out.mpr rfl⟩)
                      · exact .inr (.inl ⟨by omega, HS.out _ h' HNT.out, l, HML.out, HT2.out.mpr rfl⟩), hW⟩)
                    clear hmx hcc
                    refine wp_region_in hI (by kernel_rfl) (by kernel_rfl) ?_
                    repeat (first
                      | (refine wpSeq_off (by rfl) ?_; try simp only [Act.put, List.setIfInBounds_toArray, List.set_cons_zero, List.set_cons_succ])
                      | (refine wpSeq_val (v := ?_) (by rfl) (fun W hS => ?_) ?_
                         rotate_left
                         · (have fx := hS.facts; simp only [factsOf, cellsOf, Nat.zero_add, Nat.reduceAdd] at fx; clear hS; go_simp; first | done | with_reducible rfl)
                         try simp only [Act.put, List.setIfInBounds_toArray, List.set_cons_zero, List.set_cons_succ]))
                    refine wpSeq_call (v := .agg #[.bool fa.neg, .string fa.num, .string fa.den, .bool fb.neg, .string fb.num, .string fb.den, .bool fc.neg, .string fc.num, .string fc.den, .bool fd.neg, .string fd.num, .string fd.den]) (by rfl) (fun W hS => ?_) (fun W hS => (RS.out W hS.bel)) ?_
                    · (clear hS; go_simp; done)
                    try simp only [Act.put, List.setIfInBounds_toArray, List.set_cons_zero, List.set_cons_succ]
                    repeat (first
                      | (refine wpSeq_off (by rfl) ?_; try simp only [Act.put, List.setIfInBounds_toArray, List.set_cons_zero, List.set_cons_succ])
                      | (refine wpSeq_val (v := ?_) (by rfl) (fun W hS => ?_) ?_
                         rotate_left
                         · (have fx := hS.facts; simp only [factsOf, cellsOf, Nat.zero_add, Nat.reduceAdd] at fx; clear hS; go_simp; first | done | with_reducible rfl)
                         try simp only [Act.put, List.setIfInBounds_toArray, List.set_cons_zero, List.set_cons_succ]))
                    refine wpSeq_call (v := .bool true) (by rfl) (fun W hS => ?_) (fun W hS => (BS.out W hS.bel)) ?_
                    · (clear hS; go_simp; done)
                    try simp only [Act.put, List.setIfInBounds_toArray, List.set_cons_zero, List.set_cons_succ]
                    repeat (first
                      | (refine wpSeq_off (by rfl) ?_; try simp only [Act.put, List.setIfInBounds_toArray, List.set_cons_zero, List.set_cons_succ])
                      | (refine wpSeq_val (v := ?_) (by rfl) (fun W hS => ?_) ?_
                         rotate_left
                         · (have fx := hS.facts; simp only [factsOf, cellsOf, Nat.zero_add, Nat.reduceAdd] at fx; clear hS; go_simp; first | done | with_reducible rfl)
                         try simp only [Act.put, List.setIfInBounds_toArray, List.set_cons_zero, List.set_cons_succ]))
                    refine wpSeq_nil (fun W hS => ?_)
                    clear hI
                    replace hI := hS
                    clear hS
                    go_upto_region 24 with (fail)
                    refine wp_region_in hI (by kernel_rfl) (by kernel_rfl) ?_
                    repeat (first
                      | (refine wpSeq_off (by rfl) ?_; try simp only [Act.put, List.setIfInBounds_toArray, List.set_cons_zero, List.set_cons_succ])
                      | (refine wpSeq_val (v := ?_) (by rfl) (fun W hS => ?_) ?_
                         rotate_left
                         · (have fx := hS.facts; simp only [factsOf, cellsOf, Nat.zero_add, Nat.reduceAdd] at fx; clear hS; go_simp; first | done | with_reducible rfl)
                         try simp only [Act.put, List.setIfInBounds_toArray, List.set_cons_zero, List.set_cons_succ]))
                    refine wpSeq_call (v := .agg #[.bool ea.neg, .string ea.num, .string ea.den, .bool eb.neg, .string eb.num, .string eb.den, .bool ec.neg, .string ec.num, .string ec.den, .bool ed.neg, .string ed.num, .string ed.den]) (by rfl) (fun W hS => ?_) (fun W hS => (RN.out W hS.bel)) ?_
                    · (clear hS; go_simp; done)
                    try simp only [Act.put, List.setIfInBounds_toArray, List.set_cons_zero, List.set_cons_succ]
                    repeat (first
                      | (refine wpSeq_off (by rfl) ?_; try simp only [Act.put, List.setIfInBounds_toArray, List.set_cons_zero, List.set_cons_succ])
                      | (refine wpSeq_val (v := ?_) (by rfl) (fun W hS => ?_) ?_
                         rotate_left
                         · (have fx := hS.facts; simp only [factsOf, cellsOf, Nat.zero_add, Nat.reduceAdd] at fx; clear hS; go_simp; first | done | with_reducible rfl)
                         try simp only [Act.put, List.setIfInBounds_toArray, List.set_cons_zero, List.set_cons_succ]))
                    refine wpSeq_call (v := .bool false) (by rfl) (fun W hS => ?_) (fun W hS => (BN.out W hS.bel)) ?_
                    · (clear hS; go_simp; done)
                    try simp only [Act.put, List.setIfInBounds_toArray, List.set_cons_zero, List.set_cons_succ]
                    repeat (first
                      | (refine wpSeq_off (by rfl) ?_; try simp only [Act.put, List.setIfInBounds_toArray, List.set_cons_zero, List.set_cons_succ])
                      | (refine wpSeq_val (v := ?_) (by rfl) (fun W hS => ?_) ?_
                         rotate_left
                         · (have fx := hS.facts; simp only [factsOf, cellsOf, Nat.zero_add, Nat.reduceAdd] at fx; clear hS; go_simp; first | done | with_reducible rfl)
                         try simp only [Act.put, List.setIfInBounds_toArray, List.set_cons_zero, List.set_cons_succ]))
                    refine wpSeq_nil (fun W hS => ?_)
                    clear hI
                    have hrel := HN.out W (by rw [Hls.out]; exact hS.tail)
                    clear hS
                    go_wp2_with fail
                    go_roundw
                    case rel => exact hrel
                    case measure => simp [intOf]; omega
                  | false =>
                    have HN := Lib.hid (show ∀ W, In w ls W → ZlW w ls p.q q.q x.q near slow L (.int .i64 cc) (.int .i64 ((i : Int) + 1)) W from fun W hW => ⟨i + 1, cc, by omega, by simp, rfl, by
                      rcases HC.out with ⟨h, h'⟩ | ⟨h, h', h''⟩ | ⟨h, h', h''⟩
                      · exact .inl ⟨h, h'⟩
                      · exact .inr (.inl ⟨h, HS.out _ h' HNT.out, h''⟩)
                      · exact .inr (.inr ⟨h, HS.out _ h' HNT.out, HS.out _ h'' (fun h => absurd (HT2.out.mp h) (by decide))⟩), hW⟩)
                    clear hmx hcc
                    refine wp_region_in hI (by kernel_rfl) (by kernel_rfl) ?_
                    repeat (first
                      | (refine wpSeq_off (by rfl) ?_; try simp only [Act.put, List.setIfInBounds_toArray, List.set_cons_zero, List.set_cons_succ])
                      | (refine wpSeq_val (v := ?_) (by rfl) (fun W hS => ?_) ?_
                         rotate_left
                         · (have fx := hS.facts; simp only [factsOf, cellsOf, Nat.zero_add, Nat.reduceAdd] at fx; clear hS; go_simp; first | done | with_reducible rfl)
                         try simp only [Act.put, List.setIfInBounds_toArray, List.set_cons_zero, List.set_cons_succ]))
                    refine wpSeq_call (v := .agg #[.bool fa.neg, .string fa.num, .string fa.den, .bool fb.neg, .string fb.num, .string fb.den, .bool fc.neg, .string fc.num, .string fc.den, .bool fd.neg, .string fd.num, .string fd.den]) (by rfl) (fun W hS => ?_) (fun W hS => (RS.out W hS.bel)) ?_
                    · (clear hS; go_simp; done)
                    try simp only [Act.put, List.setIfInBounds_toArray, List.set_cons_zero, List.set_cons_succ]
                    repeat (first
                      | (refine wpSeq_off (by rfl) ?_; try simp only [Act.put, List.setIfInBounds_toArray, List.set_cons_zero, List.set_cons_succ])
                      | (refine wpSeq_val (v := ?_) (by rfl) (fun W hS => ?_) ?_
                         rotate_left
                         · (have fx := hS.facts; simp only [factsOf, cellsOf, Nat.zero_add, Nat.reduceAdd] at fx; clear hS; go_simp; first | done | with_reducible rfl)
                         try simp only [Act.put, List.setIfInBounds_toArray, List.set_cons_zero, List.set_cons_succ]))
                    refine wpSeq_call (v := .bool false) (by rfl) (fun W hS => ?_) (fun W hS => (BS.out W hS.bel)) ?_
                    · (clear hS; go_simp; done)
                    try simp only [Act.put, List.setIfInBounds_toArray, List.set_cons_zero, List.set_cons_succ]
                    repeat (first
                      | (refine wpSeq_off (by rfl) ?_; try simp only [Act.put, List.setIfInBounds_toArray, List.set_cons_zero, List.set_cons_succ])
                      | (refine wpSeq_val (v := ?_) (by rfl) (fun W hS => ?_) ?_
                         rotate_left
                         · (have fx := hS.facts; simp only [factsOf, cellsOf, Nat.zero_add, Nat.reduceAdd] at fx; clear hS; go_simp; first | done | with_reducible rfl)
                         try simp only [Act.put, List.setIfInBounds_toArray, List.set_cons_zero, List.set_cons_succ]))
                    refine wpSeq_nil (fun W hS => ?_)
                    clear hI
                    replace hI := hS
                    clear hS
                    go_upto_region 24 with (fail)
                    refine wp_region_in hI (by kernel_rfl) (by kernel_rfl) ?_
                    repeat (first
                      | (refine wpSeq_off (by rfl) ?_; try simp only [Act.put, List.setIfInBounds_toArray, List.set_cons_zero, List.set_cons_succ])
                      | (refine wpSeq_val (v := ?_) (by rfl) (fun W hS => ?_) ?_
                         rotate_left
                         · (have fx := hS.facts; simp only [factsOf, cellsOf, Nat.zero_add, Nat.reduceAdd] at fx; clear hS; go_simp; first | done | with_reducible rfl)
                         try simp only [Act.put, List.setIfInBounds_toArray, List.set_cons_zero, List.set_cons_succ]))
                    refine wpSeq_call (v := .agg #[.bool ea.neg, .string ea.num, .string ea.den, .bool eb.neg, .string eb.num, .string eb.den, .bool ec.neg, .string ec.num, .string ec.den, .bool ed.neg, .string ed.num, .string ed.den]) (by rfl) (fun W hS => ?_) (fun W hS => (RN.out W hS.bel)) ?_
                    · (clear hS; go_simp; done)
                    try simp only [Act.put, List.setIfInBounds_toArray, List.set_cons_zero, List.set_cons_succ]
                    repeat (first
                      | (refine wpSeq_off (by rfl) ?_; try simp only [Act.put, List.setIfInBounds_toArray, List.set_cons_zero, List.set_cons_succ])
                      | (refine wpSeq_val (v := ?_) (by rfl) (fun W hS => ?_) ?_
                         rotate_left
                         · (have fx := hS.facts; simp only [factsOf, cellsOf, Nat.zero_add, Nat.reduceAdd] at fx; clear hS; go_simp; first | done | with_reducible rfl)
                         try simp only [Act.put, List.setIfInBounds_toArray, List.set_cons_zero, List.set_cons_succ]))
                    refine wpSeq_call (v := .bool false) (by rfl) (fun W hS => ?_) (fun W hS => (BN.out W hS.bel)) ?_
                    · (clear hS; go_simp; done)
                    try simp only [Act.put, List.setIfInBounds_toArray, List.set_cons_zero, List.set_cons_succ]
                    repeat (first
                      | (refine wpSeq_off (by rfl) ?_; try simp only [Act.put, List.setIfInBounds_toArray, List.set_cons_zero, List.set_cons_succ])
                      | (refine wpSeq_val (v := ?_) (by rfl) (fun W hS => ?_) ?_
                         rotate_left
                         · (have fx := hS.facts; simp only [factsOf, cellsOf, Nat.zero_add, Nat.reduceAdd] at fx; clear hS; go_simp; first | done | with_reducible rfl)
                         try simp only [Act.put, List.setIfInBounds_toArray, List.set_cons_zero, List.set_cons_succ]))
                    refine wpSeq_nil (fun W hS => ?_)
                    clear hI
                    have hrel := HN.out W (by rw [Hls.out]; exact hS.tail)
                    clear hS
                    go_wp2_with fail
                    go_roundw
                    case rel => exact hrel
                    case measure => simp [intOf]; omega
              · obtain rfl : i = vs.length := by omega
                have hi1 : ¬ (vs.length : Int) < (vs.length : Int) := by omega
                have hcn : n = cc := by
                  have key : ∀ (P : List P2 → Prop), (∀ (j : Nat) (l : List P2), j < vs.length → L[j]? = some l → ¬ P l) → ¬ ∃ l ∈ L, P l := by
                    rintro P h ⟨l, hl, hp⟩
                    obtain ⟨j, hj, rfl⟩ := List.getElem_of_mem hl
                    exact h j _ (by omega) (List.getElem?_eq_getElem hj) hp
                  rcases HC.out with ⟨rfl, h⟩ | ⟨rfl, h, h'⟩ | ⟨rfl, h, h'⟩
                  · rcases HLEV.out with ⟨g, _⟩ | ⟨_, g, _⟩ | ⟨_, g, _⟩
                    · exact g
                    · obtain ⟨l, hl, hp⟩ := h; exact absurd hp (g l hl)
                    · obtain ⟨l, hl, hp⟩ := h; exact absurd hp (g l hl)
                  · rcases HLEV.out with ⟨_, g⟩ | ⟨g, _⟩ | ⟨_, _, g⟩
                    · exact absurd g (key _ h)
                    · exact g
                    · obtain ⟨l, hl, hp⟩ := h'; exact absurd hp (g l hl)
                  · rcases HLEV.out with ⟨_, g⟩ | ⟨_, _, g⟩ | ⟨g, _⟩
                    · exact absurd g (key _ h)
                    · exact absurd g (key _ h')
                    · exact g
                subst hcn
                clear HC HLEV
                go_wp2
                go_ret
                exact ⟨rfl, hI.bel⟩
          · have hf1 : (f == 0) = false := by simpa using hf0
            have hf2 : (f != 0) = true := by simpa using hf0
            obtain ⟨rfl, rfl⟩ : e = f ∧ n = 0 := by
              rcases HF.out with ⟨hb, h⟩ | ⟨_, h, _⟩ | ⟨hb, _, h⟩
              · rcases HLI.out with ⟨_, h1, h2⟩ | ⟨g, _⟩ | ⟨g, _⟩
                · exact ⟨by rw [h2, h], h1⟩
                · rw [HB.out] at hb; exact absurd hb g
                · rw [HB.out] at hb; exact absurd hb g
              · exact absurd h hf0
              · rcases HLI.out with ⟨g, _⟩ | ⟨_, h1, h2, h3⟩ | ⟨_, _, h3, _⟩
                · rw [HB.out] at hb; exact absurd g hb
                · exact ⟨FE.uniq h3 h, h1⟩
                · exact absurd (FE.uniq h h3) hf0
            clear HF HLI
            go_wp2
            go_ret
            exact ⟨rfl, hI.bel⟩
end Go.Proofs.YthmgcbpmfipfiaaDoor.zoneLevels
