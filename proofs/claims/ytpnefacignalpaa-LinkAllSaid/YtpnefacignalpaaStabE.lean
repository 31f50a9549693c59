/- slices.symMergeCmpFunc at sent messages. Conditions: those typed. -/
import Derived.Test.YtpnefacignalpaaStabC
import Derived.Test.YtpnefacignalpaaStabD
namespace Go.Proofs.Ytpnefacignalpaa
open Go.RowKit Go.Gy
set_option linter.unusedVariables false
set_option linter.unusedSimpArgs false
def S3Rel (w : World) (base g n cap N l0 h0 : Nat) (xs : List (SE × Nat)) (i j : Value) (wr : World) : Prop := ∃ (p q : Nat), i = .int .i64 p ∧ j = .int .i64 q ∧ Srch2 dueE N l0 h0 p q xs ∧ GRow base g n cap xs wr ∧ GroW g w wr
def SymAny (base g n cap : Nat) (k : Nat) : Prop := ∀ (w : World) (xs : List (SE × Nat)) (a m b : Nat), b - a < k → GRow base g n cap xs w → DuesOk xs → a < m → m < b → b ≤ n → MPre dueE a m b xs →
    Calls Try.prog 46 #[.slice (some ⟨g, 0, none⟩) n cap, .int .i64 a, .int .i64 m, .int .i64 b, .func (.func 36) #[] #[]] w fun e w' => e = .returned (.tuple #[]) ∧ ∃ ys, MPost dueE a b xs ys ∧ GRow base g n cap ys w' ∧ GroW g w w'
set_option maxRecDepth 100000 in
set_option maxHeartbeats 4000000 in
theorem symmerge_rec (w : World) (base g n cap : Nat) (xs : List (SE × Nat)) (a m b : Nat) (h : GRow base g n cap xs w) (hd : DuesOk xs) (ham : a < m) (hmb : m < b) (hb : b ≤ n) (hn : n ≤ 1000000) (hp : MPre dueE a m b xs) (h0 : m ≠ a + 1) (h1 : b ≠ m + 1) (IH : SymAny base g n cap (b - a)) :
    Calls Try.prog 46 #[.slice (some ⟨g, 0, none⟩) n cap, .int .i64 a, .int .i64 m, .int .i64 b, .func (.func 36) #[] #[]] w fun e w' => e = .returned (.tuple #[]) ∧ ∃ ys, MPost dueE a b xs ys ∧ GRow base g n cap ys w' ∧ GroW g w w' := by
  have HP := Lib.hid hp
  have HD := Lib.hid hd
  have HL := Lib.hid h.len
  have HI := Lib.hid IH
  obtain ⟨mid, hmid⟩ : ∃ mid, mid = (a + b) / 2 := ⟨_, rfl⟩
  obtain ⟨N, hN⟩ : ∃ N, N = mid + m := ⟨_, rfl⟩
  have HMID := Lib.hid hmid
  have HN := Lib.hid hN
  have hmb1 : a < mid ∧ mid < b := by omega
  have hw0 : IntKind.i64.wrap ((m : Int) - (a : Int)) = (m : Int) - (a : Int) := by rw [IntKind.wrap_i64]; omega
  have hw1 : IntKind.i64.wrap ((b : Int) - (m : Int)) = (b : Int) - (m : Int) := by rw [IntKind.wrap_i64]; omega
  have hn1 : ((m : Int) - (a : Int) == 1) = false := by rw [beq_eq_false_iff_ne]; omega
  have hn2 : ¬ (m : Int) - (a : Int) = 1 := by omega
  have hn3 : ((b : Int) - (m : Int) == 1) = false := by rw [beq_eq_false_iff_ne]; omega
  have hn4 : ¬ (b : Int) - (m : Int) = 1 := by omega
  have hg1 : IntKind.i64.wrap ((a : Int) + (b : Int)) = (a : Int) + (b : Int) := by rw [IntKind.wrap_i64]; omega
  have hg2 : IntKind.u64.wrap ((a : Int) + (b : Int)) = (a : Int) + (b : Int) := by rw [IntKind.wrap_u64]; omega
  have hg3 : ((a : Int) + (b : Int)) / 2 = (mid : Int) := by omega
  have hg4 : IntKind.u64.wrap (mid : Int) = (mid : Int) := by rw [IntKind.wrap_u64]; omega
  have hg5 : IntKind.i64.wrap (mid : Int) = (mid : Int) := by rw [IntKind.wrap_i64]; omega
  have hg6 : IntKind.i64.wrap ((mid : Int) + (m : Int)) = (N : Int) := by rw [IntKind.wrap_i64]; omega
  have hg7 : IntKind.i64.wrap ((N : Int) - 1) = (N : Int) - 1 := by rw [IntKind.wrap_i64]; omega
  have H0 := Lib.hid h
  clear h hp hd h0 h1 hmid hN IH
  go_enter Try.func46, Try.ntmps46
  go_upto_region 27 with (fail)
  go_cut [140] (fun q wx => (∃ B, q = .bool B ∧ Hid (B = decide (mid < m))) ∧ wx = w)
  case first => as_aux_lemma =>
    by_cases c1 : mid < m
    · have c1' : (mid : Int) < (m : Int) := by omega
      have hB := Lib.hid (show true = decide (mid < m) by simp [c1])
      go_wp2_with fail
      go_meet
      exact ⟨⟨_, rfl, hB⟩, rfl⟩
    · have c1' : ¬ (mid : Int) < (m : Int) := by omega
      have hB := Lib.hid (show false = decide (mid < m) by simp [c1])
      go_wp2_with fail
      go_meet
      exact ⟨⟨_, rfl, hB⟩, rfl⟩
  case rest =>
    obtain ⟨⟨B, rfl, HB⟩, hwx⟩ := hcut
    obtain rfl : w = wc := hwx.symm
    clear hw0 hw1 hn1 hn2 hn3 hn4 hg1 hg2 hg3 hg4 hg5 hg6
    go_upto_if 140 with (fail)
    go_cut [20, 21] (fun x y wx => (∃ l0 h0 : Nat, x = .int .i64 l0 ∧ y = .int .i64 h0 ∧ SrchOk a m b N l0 h0) ∧ wx = w)
    case first => as_aux_lemma =>
      cases B
      · have hm := Lib.hid (SrchOk.left ham hmb HMID.out (Nat.not_lt.1 (of_decide_eq_false HB.out.symm)))
        clear HB
        go_wp2_with fail
        go_meet
        exact ⟨⟨_, _, rfl, rfl, by rw [HN.out]; exact hm.out⟩, rfl⟩
      · have hc := of_decide_eq_true HB.out.symm
        have hm := Lib.hid (SrchOk.right ham hmb HMID.out hc)
        have hw2 : IntKind.i64.wrap ((N : Int) - (b : Int)) = ((mid + m - b : Nat) : Int) := by
          have := HMID.out
          have := HN.out
          rw [IntKind.wrap_i64]
          omega
        clear hc HB
        go_wp2_with fail
        go_meet
        exact ⟨⟨_, _, rfl, rfl, by rw [HN.out]; exact hm.out⟩, rfl⟩
    case rest =>
      obtain ⟨⟨l0, h0, rfl, rfl, hok⟩, hwx⟩ := hcut
      obtain rfl : w = wc := hwx.symm
      have HOK := Lib.hid hok
      have hst := Lib.hid (show S3Rel w base g n cap N l0 h0 xs (.int .i64 (l0 : Int)) (.int .i64 (h0 : Int)) w from ⟨l0, h0, rfl, rfl, Srch2.start hok.lh, H0.out, GroW.refl _ _⟩)
      clear hok H0 HB
      go_wp2_with fail
      go_loopw [20, 21] (fun i j wr => S3Rel w base g n cap N l0 h0 xs i j wr) (fun i j _ => (intOf j).toNat - (intOf i).toNat)
      case atStart => exact hst.out
      case round =>
        clear hst hg7
        obtain ⟨i, j, rfl, rfl, hsr, hrow, hbw⟩ := hrel
        have hx1 := hsr.ls
        have hx2 := hsr.sr
        have hx3 := hsr.rh
        obtain ⟨o1, o2, o3, o4, o5, _, _⟩ := id HOK.out
        by_cases hlt : i < j
        · as_aux_lemma =>
          obtain ⟨h, hh⟩ : ∃ h, h = (i + j) / 2 := ⟨_, rfl⟩
          have h1 : i ≤ h := by omega
          have h2 : h < j := by omega
          have hg1 : IntKind.i64.wrap ((i : Int) + (j : Int)) = (i : Int) + (j : Int) := by rw [IntKind.wrap_i64]; omega
          have hg2 : IntKind.u64.wrap ((i : Int) + (j : Int)) = (i : Int) + (j : Int) := by rw [IntKind.wrap_u64]; omega
          have hg3 : ((i : Int) + (j : Int)) / 2 = (h : Int) := by omega
          have hg4 : IntKind.u64.wrap (h : Int) = (h : Int) := by rw [IntKind.wrap_u64]; omega
          have hg5 : IntKind.i64.wrap (h : Int) = (h : Int) := by rw [IntKind.wrap_i64]; omega
          have hg6 : IntKind.i64.wrap ((h : Int) + 1) = (h : Int) + 1 := by rw [IntKind.wrap_i64]; omega
          have hh2 : 0 ≤ (h : Int) ∧ (h : Int) < (n : Int) := by omega
          have hij : (i : Int) < (j : Int) := by omega
          obtain ⟨u, hu⟩ : ∃ u, u = N - 1 - h := ⟨_, rfl⟩
          have hw3 : IntKind.i64.wrap ((N : Int) - 1 - (h : Int)) = (u : Int) := by rw [IntKind.wrap_i64]; omega
          have hu2 : 0 ≤ (u : Int) ∧ (u : Int) < (n : Int) := by omega
          clear hx1 hx2 hx3
          obtain ⟨dx, kx, sx, tx, qx, cx, lx, Ax, mx, px, ix, hx, hx2⟩ := hrow.get (i := h) (by omega)
          obtain ⟨dy, ky, sy, ty, qy, cy, ly, Ay, my, py, iy, hy, hy2⟩ := hrow.get (i := u) (by omega)
          have hdx := HD.out.get hx
          have hdy := HD.out.get hy
          have HX2 := Lib.hid hx2
          have HY2 := Lib.hid hy2
          have HC := Lib.hid (fun (W : World) => cmp_sent W dy ky sy ty qy cy dx kx sx tx qx cx Ay Ax my py mx px hdy hdx)
          have HSF := Lib.hid (show SwF w base g n cap xs wr.drew from ⟨SRow.below hrow (Below.refl _ _).drew, hbw.drew⟩)
          have HUP := Lib.hid (fun (W : World) (hW : SwF w base g n cap xs W) (hlt : ¬ dy < dx) => show S3Rel w base g n cap N l0 h0 xs (.int .i64 ((h : Int) + 1)) (.int .i64 (j : Int)) W from ⟨h + 1, j, by simp, rfl, hsr.up HOK.out HP.out ⟨h1, h2⟩ hx (by rw [← hu]; exact hy) hlt, hW.1, hW.2⟩)
          have HDN := Lib.hid (fun (W : World) (hW : SwF w base g n cap xs W) (hlt : dy < dx) => show S3Rel w base g n cap N l0 h0 xs (.int .i64 (i : Int)) (.int .i64 (h : Int)) W from ⟨i, h, rfl, rfl, hsr.down HOK.out HP.out ⟨h1, h2⟩ hx (by rw [← hu]; exact hy) hlt, hW.1, hW.2⟩)
          have HH := Lib.hid hh
          clear hrow hbw hsr hx hy hx2 hy2 hdx hdy hh hu o1 o2 o3 o4 o5
          go_upto_region 35 with (fail)
          refine wp_region_seq (SwF w base g n cap xs) (SwF.lasts _ _ _ _ _ _) (by kernel_rfl) (by kernel_rfl) HSF.out ?_
          clear HSF
          repeat (first
            | (refine wpSeq_off (by rfl) ?_; try simp only [Act.put, List.setIfInBounds_toArray, List.set_cons_zero, List.set_cons_succ])
            | (refine wpSeq_val (v := .bool true) (by rfl) (fun W hS => ?_) ?_
               · (clear hS; go_simp; done)
               try simp only [Act.put, List.setIfInBounds_toArray, List.set_cons_zero, List.set_cons_succ])
            | (refine wpSeq_val (v := .bool false) (by rfl) (fun W hS => ?_) ?_
               · (clear hS; go_simp; done)
               try simp only [Act.put, List.setIfInBounds_toArray, List.set_cons_zero, List.set_cons_succ])
            | (refine wpSeq_val (v := ?_) (by rfl) (fun W hS => ?_) ?_
               rotate_left
               · ((obtain ⟨x0, x1, x2, x3, x4, x5, x6⟩ := SRow.cells hS.1 HX2.out; obtain ⟨y0, y1, y2, y3, y4, y5, y6⟩ := SRow.cells hS.1 HY2.out; clear hS); go_simp; first | done | with_reducible rfl)
               try simp only [Act.put, List.setIfInBounds_toArray, List.set_cons_zero, List.set_cons_succ]))
          refine wpSeq_call (v := .int .i64 (dy - dx)) (by rfl) (fun W hS => ?_) (fun W hS => ((fun W _ => HC.out W) W hS)) ?_
          · (clear hS; go_simp; done)
          try simp only [Act.put, List.setIfInBounds_toArray, List.set_cons_zero, List.set_cons_succ]
          by_cases hd1 : dy < dx
          · have hd2 : dy - dx < 0 := by omega
            repeat (first
              | (refine wpSeq_off (by rfl) ?_; try simp only [Act.put, List.setIfInBounds_toArray, List.set_cons_zero, List.set_cons_succ])
              | (refine wpSeq_val (v := .bool true) (by rfl) (fun W hS => ?_) ?_
                 · (clear hS; go_simp; done)
                 try simp only [Act.put, List.setIfInBounds_toArray, List.set_cons_zero, List.set_cons_succ])
              | (refine wpSeq_val (v := .bool false) (by rfl) (fun W hS => ?_) ?_
                 · (clear hS; go_simp; done)
                 try simp only [Act.put, List.setIfInBounds_toArray, List.set_cons_zero, List.set_cons_succ])
              | (refine wpSeq_val (v := ?_) (by rfl) (fun W hS => ?_) ?_
                 rotate_left
                 · ((clear hS); go_simp; first | done | with_reducible rfl)
                 try simp only [Act.put, List.setIfInBounds_toArray, List.set_cons_zero, List.set_cons_succ]))
            refine wpSeq_nil (fun W hS => ?_)
            have HX := Lib.hid (HDN.out W hS hd1)
            clear hS HUP HDN HC HX2 HY2
            go_wp2_with fail
            go_roundw
            case rel => exact HX.out
            case measure => simp [intOf]; omega
          · have hd2 : ¬ dy - dx < 0 := by omega
            repeat (first
              | (refine wpSeq_off (by rfl) ?_; try simp only [Act.put, List.setIfInBounds_toArray, List.set_cons_zero, List.set_cons_succ])
              | (refine wpSeq_val (v := .bool true) (by rfl) (fun W hS => ?_) ?_
                 · (clear hS; go_simp; done)
                 try simp only [Act.put, List.setIfInBounds_toArray, List.set_cons_zero, List.set_cons_succ])
              | (refine wpSeq_val (v := .bool false) (by rfl) (fun W hS => ?_) ?_
                 · (clear hS; go_simp; done)
                 try simp only [Act.put, List.setIfInBounds_toArray, List.set_cons_zero, List.set_cons_succ])
              | (refine wpSeq_val (v := ?_) (by rfl) (fun W hS => ?_) ?_
                 rotate_left
                 · ((clear hS); go_simp; first | done | with_reducible rfl)
                 try simp only [Act.put, List.setIfInBounds_toArray, List.set_cons_zero, List.set_cons_succ]))
            refine wpSeq_nil (fun W hS => ?_)
            have HX := Lib.hid (HUP.out W hS hd1)
            clear hS HUP HDN HC HX2 HY2
            go_wp2_with fail
            go_roundw
            case rel => exact HX.out
            case measure => simp [intOf]; omega
        · obtain rfl : i = j := by omega
          obtain ⟨s, rfl⟩ : ∃ s, s = i := ⟨_, rfl⟩
          obtain ⟨w1, rfl⟩ : ∃ w1, w1 = wr := ⟨_, rfl⟩
          have hij : ¬ (s : Int) < (s : Int) := by omega
          obtain ⟨e, he⟩ : ∃ e, e = N - s := ⟨_, rfl⟩
          have hcut0 := hsr.cut HOK.out HP.out (by rw [HL.out]; exact hb)
          rw [← he] at hcut0
          have HCUT := Lib.hid hcut0
          have hsm := hcut0.sm
          have HSA := Lib.hid (show a ≤ s ∧ s ≤ mid by
            have h1 := HMID.out
            have h2 := HN.out
            obtain ⟨o1, o2, o3, o4, o5, o6, o7⟩ := id HOK.out
            omega)
          have HEM := Lib.hid (show s + (e - m) = mid by
            have h2 := HN.out
            have := HSA.out
            omega)
          have HSE := Lib.hid (show e ≤ n ∧ mid ≤ e ∧ e ≤ b by
            have h2 := HN.out
            have h3 := hcut0.eb
            have h4 := HSA.out
            omega)
          have hen : e ≤ n := HSE.out.1
          have hw8 : IntKind.i64.wrap ((N : Int) - (s : Int)) = (e : Int) := by
            have h2 := HN.out
            have h4 := HSA.out
            rw [IntKind.wrap_i64]
            omega
          have HG1 := Lib.hid (And.intro hrow hbw)
          clear hrow hbw hsr hcut0 he hlt hx1 hx2 hx3 o1 o2 o3 o4 o5
          go_upto_region 39 with (fail)
          go_cut [185] (fun q wx => (∃ B, q = .bool B ∧ Hid (B = decide (s < m ∧ m < e))) ∧ wx = w1)
          case first => as_aux_lemma =>
            by_cases c1 : s < m
            · have c1' : (s : Int) < (m : Int) := by omega
              by_cases c2 : m < e
              · have c2' : (m : Int) < (e : Int) := by omega
                have hB := Lib.hid (show true = decide (s < m ∧ m < e) by simp [c1, c2])
                go_wp2_with fail
                go_meet
                exact ⟨⟨_, rfl, hB⟩, rfl⟩
              · have c2' : ¬ (m : Int) < (e : Int) := by omega
                have hB := Lib.hid (show false = decide (s < m ∧ m < e) by simp [c2])
                go_wp2_with fail
                go_meet
                exact ⟨⟨_, rfl, hB⟩, rfl⟩
            · have c1' : ¬ (s : Int) < (m : Int) := by omega
              have hB := Lib.hid (show false = decide (s < m ∧ m < e) by simp [c1])
              go_wp2_with fail
              go_meet
              exact ⟨⟨_, rfl, hB⟩, rfl⟩
          case rest =>
            obtain ⟨⟨B, rfl, HB⟩, hwx⟩ := hcut
            obtain rfl : w1 = wc := hwx.symm
            go_upto_if 185 with (fail)
            go_cut [] (fun wx => ∃ zs, RotIs s m e xs zs ∧ GRow base g n cap zs wx ∧ GroW g w wx)
            case first => as_aux_lemma =>
              cases B
              · have hc := of_decide_eq_false HB.out.symm
                have hm := Lib.hid (show ∃ zs, RotIs s m e xs zs ∧ GRow base g n cap zs w1 ∧ GroW g w w1 from ⟨xs, by
                  have h3 := HCUT.out.sm
                  have h4 := HCUT.out.me
                  by_cases h5 : s = m
                  · rw [h5]; exact RotIs.none' _ _ _
                  · rw [show e = m by omega]; exact RotIs.none _ _ _, HG1.out.1, HG1.out.2⟩)
                clear HB
                go_wp2_with fail
                go_meet
                exact hm.out
              · have hc := of_decide_eq_true HB.out.symm
                have HCALL := Lib.hid (rotate_any w1 base g n cap xs s m e (.func (.func 36) #[] #[]) HG1.out.1 hc.1 hc.2 (by omega) hn)
                clear hc HB
                go_wp2_with fail
                refine HCALL.out.mono ?_
                rintro e2 wn ⟨rfl, zs, hz, hrow, hbn⟩
                have hm := Lib.hid (show ∃ zs, RotIs s m e xs zs ∧ GRow base g n cap zs wn ∧ GroW g w wn from ⟨zs, hz, hrow, HG1.out.2.trans hbn⟩)
                clear hz hrow hbn
                go_wp2_with fail
                go_meet
                exact hm.out
            case rest =>
              obtain ⟨ys, hz1, hr3, hb3⟩ := hcut
              obtain ⟨w2, rfl⟩ : ∃ w2, w2 = wc := ⟨_, rfl⟩
              have HROT := Lib.hid hz1
              have HG2 := Lib.hid (And.intro hr3 hb3)
              have hsp := HCUT.out.split HP.out hz1
              rw [HEM.out] at hsp
              have HMP := Lib.hid (And.intro hsp.1 hsp.2.1)
              clear hz1 hr3 hb3 hsp
              go_upto_region 41 with (fail)
              go_cut [199] (fun q wx => (∃ B, q = .bool B ∧ Hid (B = decide (a < s ∧ s < mid))) ∧ wx = w2)
              case first => as_aux_lemma =>
                by_cases c1 : a < s
                · have c1' : (a : Int) < (s : Int) := by omega
                  by_cases c2 : s < mid
                  · have c2' : (s : Int) < (mid : Int) := by omega
                    have hB := Lib.hid (show true = decide (a < s ∧ s < mid) by simp [c1, c2])
                    go_wp2_with fail
                    go_meet
                    exact ⟨⟨_, rfl, hB⟩, rfl⟩
                  · have c2' : ¬ (s : Int) < (mid : Int) := by omega
                    have hB := Lib.hid (show false = decide (a < s ∧ s < mid) by simp [c2])
                    go_wp2_with fail
                    go_meet
                    exact ⟨⟨_, rfl, hB⟩, rfl⟩
                · have c1' : ¬ (a : Int) < (s : Int) := by omega
                  have hB := Lib.hid (show false = decide (a < s ∧ s < mid) by simp [c1])
                  go_wp2_with fail
                  go_meet
                  exact ⟨⟨_, rfl, hB⟩, rfl⟩
              case rest =>
                obtain ⟨⟨B, rfl, HB⟩, hwx⟩ := hcut
                obtain rfl : w2 = wc := hwx.symm
                go_upto_if 199 with (fail)
                go_cut [] (fun wx => ∃ zs, MPost dueE a mid ys zs ∧ GRow base g n cap zs wx ∧ GroW g w wx)
                case first => as_aux_lemma =>
                  cases B
                  · have hc := of_decide_eq_false HB.out.symm
                    have hm := Lib.hid (show ∃ zs, MPost dueE a mid ys zs ∧ GRow base g n cap zs w2 ∧ GroW g w w2 from ⟨ys, HMP.out.1.none1 HSA.out.1 hc HSA.out.2, HG2.out.1, HG2.out.2⟩)
                    clear HB
                    go_wp2_with fail
                    go_meet
                    exact hm.out
                  · have hc := of_decide_eq_true HB.out.symm
                    have HCALL := Lib.hid (HI.out w2 ys a s mid (by omega) HG2.out.1 (HD.out.perm HROT.out.perm) hc.1 hc.2 (by omega) HMP.out.1)
                    clear hc HB
                    go_wp2_with fail
                    refine HCALL.out.mono ?_
                    rintro e2 wn ⟨rfl, zs, hz, hrow, hbn⟩
                    have hm := Lib.hid (show ∃ zs, MPost dueE a mid ys zs ∧ GRow base g n cap zs wn ∧ GroW g w wn from ⟨zs, hz, hrow, HG2.out.2.trans hbn⟩)
                    clear hz hrow hbn
                    go_wp2_with fail
                    go_meet
                    exact hm.out
                case rest =>
                  obtain ⟨z1, hz1, hr3, hb3⟩ := hcut
                  obtain ⟨w3, rfl⟩ : ∃ w3, w3 = wc := ⟨_, rfl⟩
                  have HM1 := Lib.hid hz1
                  have HG3 := Lib.hid (And.intro hr3 hb3)
                  clear hz1 hr3 hb3
                  go_upto_region 43 with (fail)
                  go_cut [213] (fun q wx => (∃ B, q = .bool B ∧ Hid (B = decide (mid < e ∧ e < b))) ∧ wx = w3)
                  case first => as_aux_lemma =>
                    by_cases c1 : mid < e
                    · have c1' : (mid : Int) < (e : Int) := by omega
                      by_cases c2 : e < b
                      · have c2' : (e : Int) < (b : Int) := by omega
                        have hB := Lib.hid (show true = decide (mid < e ∧ e < b) by simp [c1, c2])
                        go_wp2_with fail
                        go_meet
                        exact ⟨⟨_, rfl, hB⟩, rfl⟩
                      · have c2' : ¬ (e : Int) < (b : Int) := by omega
                        have hB := Lib.hid (show false = decide (mid < e ∧ e < b) by simp [c2])
                        go_wp2_with fail
                        go_meet
                        exact ⟨⟨_, rfl, hB⟩, rfl⟩
                    · have c1' : ¬ (mid : Int) < (e : Int) := by omega
                      have hB := Lib.hid (show false = decide (mid < e ∧ e < b) by simp [c1])
                      go_wp2_with fail
                      go_meet
                      exact ⟨⟨_, rfl, hB⟩, rfl⟩
                  case rest =>
                    obtain ⟨⟨B, rfl, HB⟩, hwx⟩ := hcut
                    obtain rfl : w3 = wc := hwx.symm
                    cases B
                    · as_aux_lemma =>
                      have hc := of_decide_eq_false HB.out.symm
                      have hz2 := (HMP.out.2.next HM1.out HSE.out.2.1 HSE.out.2.2).none1 HSE.out.2.1 hc HSE.out.2.2
                      have HX := Lib.hid (show ∃ ys, MPost dueE a b xs ys ∧ GRow base g n cap ys w3 ∧ GroW g w w3 from ⟨z1, MPost.all HP.out HCUT.out HROT.out HEM.out HM1.out hz2, HG3.out.1, HG3.out.2⟩)
                      clear hc hz2 HB
                      go_wp2_with fail
                      go_end0
                      exact ⟨rfl, HX.out⟩
                    · as_aux_lemma =>
                      have hc := of_decide_eq_true HB.out.symm
                      have HCALL := Lib.hid (HI.out w3 z1 mid e b (by omega) HG3.out.1 (HD.out.perm (HM1.out.seg.perm.trans HROT.out.perm)) hc.1 hc.2 hb (HMP.out.2.next HM1.out HSE.out.2.1 HSE.out.2.2))
                      clear hc HB
                      go_wp2_with fail
                      refine HCALL.out.mono ?_
                      rintro e2 wn ⟨rfl, z2, hz2, hr4, hb4⟩
                      have HX := Lib.hid (show ∃ ys, MPost dueE a b xs ys ∧ GRow base g n cap ys wn ∧ GroW g w wn from ⟨z2, MPost.all HP.out HCUT.out HROT.out HEM.out HM1.out hz2, hr4, HG3.out.2.trans hb4⟩)
                      clear hz2 hr4 hb4
                      go_wp2
                      go_end0
                      exact ⟨rfl, HX.out⟩
theorem symmerge_any (w : World) (base g n cap : Nat) (xs : List (SE × Nat)) (a m b : Nat) (h : GRow base g n cap xs w) (hd : DuesOk xs) (ham : a < m) (hmb : m < b) (hb : b ≤ n) (hn : n ≤ 1000000) (hp : MPre dueE a m b xs) :
    Calls Try.prog 46 #[.slice (some ⟨g, 0, none⟩) n cap, .int .i64 a, .int .i64 m, .int .i64 b, .func (.func 36) #[] #[]] w fun e w' => e = .returned (.tuple #[]) ∧ ∃ ys, MPost dueE a b xs ys ∧ GRow base g n cap ys w' ∧ GroW g w w' := by
  have key : ∀ k, SymAny base g n cap k := by
    intro k
    induction k with
    | zero => intro w xs a m b hk; omega
    | succ k ih =>
      intro w xs a m b hk h hd ham hmb hb hp
      by_cases h1 : m = a + 1
      · exact symmerge_one1 w base g n cap xs a m b h hd ham hmb hb hn hp h1
      · by_cases h2 : b = m + 1
        · exact symmerge_one2 w base g n cap xs a m b h hd ham hmb hb hn hp h1 h2
        · exact symmerge_rec w base g n cap xs a m b h hd ham hmb hb hn hp h1 h2 (fun w' xs' a' m' b' hk' => ih w' xs' a' m' b' (by omega))
  exact key (b - a + 1) w xs a m b (by omega) h hd ham hmb hb hp
end Go.Proofs.Ytpnefacignalpaa
