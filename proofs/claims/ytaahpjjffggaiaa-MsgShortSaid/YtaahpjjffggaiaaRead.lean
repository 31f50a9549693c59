/- msg.Read. Conditions: those typed. -/
import Derived.Test.YtaahpjjffggaiaaReadA
namespace Go.Proofs.Ytaahpjjffggaiaa
open Go.RowKit Go.Gy
set_option linter.unusedVariables false
set_option maxRecDepth 100000 in
set_option maxHeartbeats 4000000 in
theorem read_msg (w : World) (v : Value) (b : List Nat) (hv : SlB w w.heap.size v b) (h8 : ∀ x ∈ b, x < 256) (hn : b.length ≤ 140737488355328) :
    Calls Try.prog 18 #[v] w (ReadMPost w b) := by
  obtain ⟨A, n, c, rfl, hbl, hnc, hA, hr⟩ := id hv
  rw [hbl] at hn
  have Hbl := Lib.hid hbl
  have H8 := Lib.hid h8
  have Hv := Lib.hid hv
  have hk0 := Lib.hid (Blk.new w 28 zeroV)
  have Hb0 := Lib.hid ((Below.refl w.heap.size w).alloc (Nat.le_refl _) (.cells zeroV 28))
  clear hbl h8 hv
  by_cases h17 : n < 17
  · have hE := Lib.hid (readE_of (b := b) (x := 14) (by unfold readE0; rw [Hbl.out, if_pos h17]) (by omega))
    have h17' : (n : Int) < 17 := by omega
    clear hr hA
    go_enter Try.func18, Try.ntmps18
    go_wp2
    refine bodyPost_ret (results_cell_two Try.results18 _ _ w.heap.size 28 _ (0, 0) _ _ rfl rfl hk0.out Try.underlying28 rfl (by kernel_rfl)) rfl ?_
    exact ReadMPost.bad (x := 14) hE.out (by decide) Hb0.out
  · have h17' : ¬ (n : Int) < 17 := by omega
    have hc17 : ¬ c = 11 := by omega
    have hc13 : 13 ≤ c := by omega
    obtain ⟨g, o, rfl⟩ : ∃ g o, A = some ⟨g, o, none⟩ := by
      obtain ⟨g, o, _, h, _⟩ := hr.at_ (show 0 < n by omega)
      exact ⟨g, o, h⟩
    obtain ⟨N, hN⟩ : ∃ N, N = manyB b := ⟨_, rfl⟩
    have hN16 : N < 65536 := by
      rw [hN]
      exact valN_lt 2 _ (by rw [List.length_take, List.length_drop]; omega) fun x hx => H8.out x (List.mem_of_mem_drop (List.mem_of_mem_take hx))
    have Hn1 := Lib.hid (fun w' (hb : Below w.heap.size w w') => (number_any w' _ w.heap.size ((b.drop 11).take 2) ((Hv.out.mid (i := 11) (m := 2) (by omega) hc17).below hb) (by rw [List.length_take]; omega) fun x hx => H8.out x (List.mem_of_mem_drop (List.mem_of_mem_take hx))))
    have HN := Lib.hid hN
    clear hN hA hr
    by_cases hs : n < 17 + 2 * N
    · have hE := Lib.hid (readE_of (b := b) (x := 14) (by unfold readE0; rw [Hbl.out, if_neg h17, ← HN.out, if_pos hs]) (by omega))
      have hs' : (n : Int) < 17 + 2 * (N : Int) := by omega
      go_enter Try.func18, Try.ntmps18
      go_wp2_with fail
      refine (Hn1.out _ Hb0.out).mono ?_
      rintro e w1 ⟨he, rfl⟩
      have he : e = .returned (.int .u32 (N : Int)) := by rw [HN.out]; exact he
      subst he
      go_wp2_with fail
      refine bodyPost_ret (results_cell_two Try.results18 _ _ w.heap.size 28 _ (0, 0) _ _ rfl rfl hk0.out Try.underlying28 rfl (by kernel_rfl)) rfl ?_
      exact ReadMPost.bad (x := 14) hE.out (by decide) Hb0.out
    by_cases hl : 17 + 2 * N < n
    · have hE := Lib.hid (readE_of (b := b) (x := 3) (by unfold readE0; rw [Hbl.out, if_neg h17, ← HN.out, if_neg hs, if_pos (by omega)]) (by omega))
      have hs' : ¬ (n : Int) < 17 + 2 * (N : Int) := by omega
      have hl' : 17 + 2 * (N : Int) < (n : Int) := by omega
      go_enter Try.func18, Try.ntmps18
      go_wp2_with fail
      refine (Hn1.out _ Hb0.out).mono ?_
      rintro e w1 ⟨he, rfl⟩
      have he : e = .returned (.int .u32 (N : Int)) := by rw [HN.out]; exact he
      subst he
      go_wp2_with fail
      refine bodyPost_ret (results_cell_two Try.results18 _ _ w.heap.size 28 _ (0, 0) _ _ rfl rfl hk0.out Try.underlying28 rfl (by kernel_rfl)) rfl ?_
      exact ReadMPost.bad (x := 3) hE.out (by decide) Hb0.out
    have hnN := Lib.hid (show n = 17 + 2 * N by omega)
    have hs' : ¬ (n : Int) < 17 + 2 * (N : Int) := by omega
    have hl' : ¬ 17 + 2 * (N : Int) < (n : Int) := by omega
    have f1 : ¬ c = 13 + 2 * N := by omega
    have f2 : (13 + 2 * (N : Int)).toNat = 13 + 2 * N := by omega
    have f3 : (0 : Int) ≤ 13 + 2 * (N : Int) := by omega
    have f4 : 13 + 2 * (N : Int) ≤ (n : Int) := by omega
    have f5 : 13 + 2 * (N : Int) ≤ (c : Int) := by omega
    have f6 : IntKind.i64.wrap (2 * (N : Int)) = 2 * (N : Int) := IntWalk.i64_in _ (by omega)
    have f7 : IntKind.i64.wrap (13 + 2 * (N : Int)) = 13 + 2 * (N : Int) := IntWalk.i64_in _ (by omega)
    have f8 : n - (13 + 2 * N) = 4 := by omega
    obtain ⟨V, hV⟩ : ∃ V, V = valN (b.drop (13 + 2 * N)) := ⟨_, rfl⟩
    obtain ⟨R, hR⟩ : ∃ R, R = crc (b.take (13 + 2 * N)) := ⟨_, rfl⟩
    have htail : (b.drop (13 + 2 * N)).take 4 = b.drop (13 + 2 * N) := List.take_of_length_le (by rw [List.length_drop, Hbl.out]; omega)
    have hn2 : ∀ w', Below w.heap.size w w' → Calls Try.prog 56 #[.slice (some ⟨g, o + (13 + 2 * N), none⟩) 4 (c - (13 + 2 * N))] w' fun e w'' => e = .returned (.int .u32 (V : Int)) ∧ w'' = w' := fun w' hb =>
      (number_any w' _ w.heap.size ((b.drop (13 + 2 * N)).take 4) ((Hv.out.mid (i := 13 + 2 * N) (m := 4) (by omega) f1).below hb) (by rw [List.length_take]; omega) fun x hx => H8.out x (List.mem_of_mem_drop (List.mem_of_mem_take hx))).mono fun e w'' ⟨h1, h2⟩ => ⟨by rw [hV, ← htail]; exact h1, h2.symm⟩
    have hn3 : ∀ w', Below w.heap.size w w' → Calls Try.prog 54 #[.slice (some ⟨g, o, none⟩) (13 + 2 * N) c] w' fun e w'' => e = .returned (.int .u32 (R : Int)) ∧ w'' = w' := fun w' hb => by
      obtain ⟨_, _, _, he, h1, _, _, h2⟩ := (Hv.out.head (m := 13 + 2 * N) (by omega)).below hb
      injection he with e1 e2 e3
      subst e1 e2 e3
      exact (sum_any w' _ _ _ w.heap.size (b.take (13 + 2 * N)) h1 (by omega) h2 fun x hx => H8.out x (List.mem_of_mem_take hx)).mono fun e w'' ⟨h1, h2⟩ => ⟨by rw [hR]; exact h1, h2.symm⟩
    have Hn2 := Lib.hid hn2
    have Hn3 := Lib.hid hn3
    have HV := Lib.hid hV
    have HR := Lib.hid hR
    have HF := Lib.hid (And.intro f2 (And.intro f6 f7))
    clear hn2 hn3 hV hR htail h17 hs hl f2 f6 f7
    go_enter Try.func18, Try.ntmps18
    go_wp2_with fail
    refine (Hn1.out _ Hb0.out).mono ?_
    rintro e w1 ⟨he, rfl⟩
    have he : e = .returned (.int .u32 (N : Int)) := by rw [HN.out]; exact he
    subst he
    go_wp2_with fail
    change Code.wp _ _ _ _ (w.alloc (.cells zeroV 28))
    have hk0 := hk0
    have Hb0 := Hb0
    generalize w.alloc (.cells zeroV 28) = w0 at hk0 Hb0 ⊢
    obtain ⟨f2, f6, f7⟩ := HF.out
    have hq1 : ∀ q, Calls Try.prog 56 #[.slice (some ⟨g, o + (13 + 2 * N), none⟩) 4 (c - (13 + 2 * N))] (w0.drewN q) fun e w'' => e = .returned (.int .u32 (V : Int)) ∧ w'' = w0.drewN q := fun q => Hn2.out _ (below_drewN Hb0.out q)
    have hq2 : ∀ q, Calls Try.prog 54 #[.slice (some ⟨g, o, none⟩) (13 + 2 * N) c] (w0.drewN q) fun e w'' => e = .returned (.int .u32 (R : Int)) ∧ w'' = w0.drewN q := fun q => Hn3.out _ (below_drewN Hb0.out q)
    have Hq1 := Lib.hid hq1
    have Hq2 := Lib.hid hq2
    clear hq1 hq2
    go_quiet ((first | (go_at_call 56; exact Calls.quiet_of_same (Hq1.out _)) | (go_at_call 54; exact Calls.quiet_of_same (Hq2.out _))))
    clear f2 f6 f7
    by_cases hVR : V = R
    · have hE0 := Lib.hid (show readE0 b = 0 by unfold readE0; rw [Hbl.out, ← HN.out, if_neg (by omega), if_neg (by omega), if_neg (by have := hnN.out; omega), ← HV.out, ← HR.out, if_neg (by simpa using hVR)])
      have hVb : ((V : Int) != (R : Int)) = false := by simp; omega
      have hVn : (V : Int) = (R : Int) := by omega
      have HVn := Lib.hid hVn
      clear hVR hVn
      go_wp2_with fail
      simp only [hVb]
      clear hVb
      have hk1 := hk0.out.drewN nq
      have hb1 := below_drewN Hb0.out nq
      generalize w0.drewN nq = w1 at hk1 hb1 ⊢
      obtain ⟨x0, hx0, hg, hc0⟩ := (Hv.out.below hb1).byte (k := 0) (by omega)
      obtain ⟨x1, hx1, _, hc1⟩ := (Hv.out.below hb1).byte (k := 1) (by omega)
      obtain ⟨x2, hx2, _, hc2⟩ := (Hv.out.below hb1).byte (k := 2) (by omega)
      have hy0 := H8.out x0 (List.mem_of_getElem? hx0)
      have hy1 := H8.out x1 (List.mem_of_getElem? hx1)
      have hy2 := H8.out x2 (List.mem_of_getElem? hx2)
      have hSl := numAt_lt H8.out 3
      have hCl := numAt_lt H8.out 7
      have hzw := hb1.size
      have hS : ∀ w', Below w1.heap.size w1 w' → (w'.cell? ⟨g, o, none⟩ = some (.int .u8 (x0 : Int)) ∧ w'.cell? ⟨g, o + 1, none⟩ = some (.int .u8 (x1 : Int)) ∧ w'.cell? ⟨g, o + 2, none⟩ = some (.int .u8 (x2 : Int)) ∧ Below w1.heap.size w1 w') := fun w' h =>
        ⟨(h.cell (p := ⟨g, o, none⟩) (by show g < _; omega)).trans hc0, (h.cell (p := ⟨g, o + 1, none⟩) (by show g < _; omega)).trans hc1, (h.cell (p := ⟨g, o + 2, none⟩) (by show g < _; omega)).trans hc2, h⟩
      have h3 : ∀ i, i + 4 ≤ n → ¬ c = i → ∀ w', Below w1.heap.size w1 w' → Calls Try.prog 56 #[.slice (some ⟨g, o + i, none⟩) 4 (c - i)] w' fun e w'' => e = .returned (.int .u32 (numAt b i : Nat)) ∧ w' = w'' := fun i hi hci w' h =>
        number_any w' _ w.heap.size ((b.drop i).take 4) ((Hv.out.mid (i := i) (m := 4) hi hci).below (hb1.trans (h.mono hzw))) (by rw [List.length_take]; omega) fun x hx => H8.out x (List.mem_of_mem_drop (List.mem_of_mem_take hx))
      have HS := Lib.hid hS
      have H3 := Lib.hid h3
      have HX := Lib.hid (And.intro hx0 (And.intro hx1 hx2))
      have HK1 := Lib.hid hk1
      have Hb1 := Lib.hid hb1
      have hc3 : ¬ c = 3 := by omega
      have hc7 : ¬ c = 7 := by omega
      have hi0 : (0 : Int) < (n : Int) := by omega
      have hi0' : 0 < n := by omega
      have hi1 : (1 : Int) < (n : Int) := by omega
      have hi2 : (2 : Int) < (n : Int) := by omega
      have hi3 : (7 : Int) ≤ (c : Int) := by omega
      have hi4 : (11 : Int) ≤ (c : Int) := by omega
      have hwS : IntKind.i64.wrap (numAt b 3 : Int) = (numAt b 3 : Int) := IntWalk.i64_in _ (by omega)
      clear hS h3 hx0 hx1 hx2 hk1 hb1 hc0 hc1 hc2
      have HwS := Lib.hid hwS
      clear hwS
      go_cut [5] (fun s5 wx => ReadCut w1 b x0 x1 x2 s5 wx)
      case first =>
       have hwS := HwS.out
       go_region_held3 (fun w' => w'.cell? ⟨g, o, none⟩ = some (.int .u8 (x0 : Int)) ∧ w'.cell? ⟨g, o + 1, none⟩ = some (.int .u8 (x1 : Int)) ∧ w'.cell? ⟨g, o + 2, none⟩ = some (.int .u8 (x2 : Int)) ∧ Below w1.heap.size w1 w')
        (first | exact HS.out _ (by assumption) | exact HS.out _ (Below.refl _ _).drew | exact HS.out _ (((Below.refl _ _).alloc (Nat.le_refl _) _).drew))
        (first | (go_at_call 56; refine (H3.out _ (by omega) (by omega) _ (by first | assumption | exact (Below.refl _ _).drew | exact (((Below.refl _ _).alloc (Nat.le_refl _) _).drew))).mono ?_; rintro e w' ⟨rfl, rfl⟩))
       all_goals
        go_wp2_with fail
        go_meet
        clear hwS
        have e0 : IntKind.i64.wrap (x0 : Int) = x0 := IntWalk.i64_in _ (by omega)
        have e1 : IntKind.i64.wrap (x1 : Int) = x1 := IntWalk.i64_in _ (by omega)
        have e2 : IntKind.i64.wrap (x2 : Int) = x2 := IntWalk.i64_in _ (by omega)
        exact ⟨w1.heap.size, rfl, Nat.le_refl _, by rw [e0, e1, e2]; exact Blk.new w1 28 _, ((Below.refl _ _).alloc (Nat.le_refl _) _).drew⟩
      case rest =>
       obtain ⟨G, rfl, hGle, hG, hbx⟩ := hcut
       have hst := Lib.hid (show RdRel w1 wc.heap.size b x0 x1 x2 G N (.int .i64 0) wc from ⟨0, none, 0, Nat.zero_le _, rfl, hG, by simpa [cellsOf] using World.ownsRow_nil _ _ _ _, hbx, Nat.le_refl _⟩)
       have hGx := hG.lt
       have HRb := Lib.hid (Nat.le_trans hzw hbx.size)
       have HRb' := Nat.le_trans hGle (Nat.le_refl G)
       obtain ⟨j0, hj, hy0', hy1', hy2'⟩ := info_parts info_cell
       have h13 := Lib.hid (show ∀ k, k < N → ∃ z1 z2 : Nat, z1 < 256 ∧ z2 < 256 ∧ (b.drop 13)[2 * k]? = some z1 ∧ (b.drop 13)[2 * k + 1]? = some z2 ∧ w.cell? ⟨g, o + (13 + 2 * k), none⟩ = some (.int .u8 (z1 : Int)) ∧ w.cell? ⟨g, o + (14 + 2 * k), none⟩ = some (.int .u8 (z2 : Int)) from fun k hk => by
         have := hnN.out
         obtain ⟨z1, hz1, _, hd1⟩ := Hv.out.byte (k := 13 + 2 * k) (by omega)
         obtain ⟨z2, hz2, _, hd2⟩ := Hv.out.byte (k := 14 + 2 * k) (by omega)
         exact ⟨z1, z2, H8.out _ (List.mem_of_getElem? hz1), H8.out _ (List.mem_of_getElem? hz2), by rw [List.getElem?_drop]; exact hz1, by rw [List.getElem?_drop, show 13 + (2 * k + 1) = 14 + 2 * k by omega]; exact hz2, hd1, hd2⟩)
       clear hG hbx
       go_wp2_with fail
       go_loopw [68] (fun i wr => RdRel w1 wc.heap.size b x0 x1 x2 G N i wr) (fun i _ => N - (intOf i).toNat)
       case atStart => exact hst.out
       case round =>
         obtain ⟨k, A2, c2, hk, rfl, hG, hown, hbr, hbz⟩ := hrel
         by_cases hlt : k < N
         · obtain ⟨z1, z2, hz1, hz2, hf1, hf2, hd1, hd2⟩ := h13.out k hlt
           have hlt' : (k : Int) < (N : Int) := by omega
           have hk7 := hG.cell 5 _ rfl
           have hkf := hG.free 5
           have hgw : g < w.heap.size := by
             obtain ⟨_, _, hgg, _⟩ := Hv.out.byte (k := 0) (by omega)
             exact hgg
           have hzr := hbr.size
           have hbw := Lib.hid (Hb1.out.trans (hbr.mono hzw))
           have d1 : wr.cell? ⟨g, o + (13 + 2 * k), none⟩ = some (.int .u8 (z1 : Int)) := (hbw.out.cell (p := ⟨g, o + (13 + 2 * k), none⟩) hgw).trans hd1
           have d2 : wr.cell? ⟨g, o + (14 + 2 * k), none⟩ = some (.int .u8 (z2 : Int)) := (hbw.out.cell (p := ⟨g, o + (14 + 2 * k), none⟩) hgw).trans hd2
           have hS : ∀ w', Below w1.heap.size w1 w' → (w'.cell? ⟨g, o + (13 + 2 * k), none⟩ = some (.int .u8 (z1 : Int)) ∧ w'.cell? ⟨g, o + (14 + 2 * k), none⟩ = some (.int .u8 (z2 : Int)) ∧ Below w1.heap.size w1 w') := fun w' h =>
             ⟨((Hb1.out.trans (h.mono hzw)).cell (p := ⟨g, o + (13 + 2 * k), none⟩) hgw).trans hd1, ((Hb1.out.trans (h.mono hzw)).cell (p := ⟨g, o + (14 + 2 * k), none⟩) hgw).trans hd2, h⟩
           have HS2 := Lib.hid hS
           have HGb := Lib.hid hG
           have Hown := Lib.hid hown
           have Hbr := Lib.hid hbr
           have Hlst := Lib.hid (cellsOf_snoc k (b.drop 13) z1 z2 hf1 hf2)
           have hnb := hnN.out
           have q1 : (0 : Int) ≤ 13 + 2 * (k : Int) := by omega
           have q2 : (0 : Int) ≤ 14 + 2 * (k : Int) := by omega
           have q3 : 13 + 2 * (k : Int) < (n : Int) := by omega
           have q4 : 14 + 2 * (k : Int) < (n : Int) := by omega
           have q5 : (13 + 2 * (k : Int)).toNat = 13 + 2 * k := by omega
           have q6 : (14 + 2 * (k : Int)).toNat = 14 + 2 * k := by omega
           have q7 : IntKind.i64.wrap (2 * (k : Int)) = 2 * (k : Int) := IntWalk.i64_in _ (by omega)
           have q8 : IntKind.i64.wrap (13 + 2 * (k : Int)) = 13 + 2 * (k : Int) := IntWalk.i64_in _ (by omega)
           have q9 : IntKind.i64.wrap (14 + 2 * (k : Int)) = 14 + 2 * (k : Int) := IntWalk.i64_in _ (by omega)
           have r1 : IntKind.i64.wrap (z1 : Int) = (z1 : Int) := IntWalk.i64_in _ (by omega)
           have r2 : IntKind.i64.wrap (z2 : Int) = (z2 : Int) := IntWalk.i64_in _ (by omega)
           have r3 : IntKind.i64.wrap ((z1 : Int) - 64) = (z1 : Int) - 64 := IntWalk.i64_in _ (by omega)
           have r4 : IntKind.i64.wrap ((z2 : Int) - 64) = (z2 : Int) - 64 := IntWalk.i64_in _ (by omega)
           have p1 : k + 1 ≤ maxLen := by unfold maxLen; omega
           have p2 : (k + 1) * 16 ≤ 140737488355328 := by omega
           have p3 : (1 : Nat) * 2 = 2 := rfl
           have hk8 := (hG.alloc (.cells #[.int .i64 ((z1 : Int) - 64), .int .i64 ((z2 : Int) - 64)] 24)).cell 5 _ rfl
           have HQ := Lib.hid (And.intro q5 (And.intro q6 (And.intro q7 (And.intro q8 (And.intro q9 (And.intro r1 (And.intro r2 (And.intro r3 r4))))))))
           clear hS hG hown hbr hf1 hf2 hd1 hd2 hnb q5 q6 q7 q8 q9 r1 r2 r3 r4
           go_wp2_with fail
           obtain ⟨q5, q6, q7, q8, q9, r1, r2, r3, r4⟩ := HQ.out
           go_region_law (first | (refine step_extend (by rfl) (.tmp 72) (.tmp 90) 25 (by rfl) wc.heap.size 24 j0 (.agg #[.int .i64 0, .int .i64 0]) 2 16 Try.underlying25 hj hy0' hy1' hy2' rfl (by decide) _ k _ (by rfl) (by first | exact (Hown.out.alloc _).drew | exact Hown.out.alloc _) ⟨wr.heap.size, 0, none⟩ 1 1 (wr.heap.size + 1) [.int .i64 ((z1 : Int) - 64), .int .i64 ((z2 : Int) - 64)] (by rfl) (by decide) (by first | exact (Rd.lit wr 24 [.int .i64 ((z1 : Int) - 64), .int .i64 ((z2 : Int) - 64)] 2 1 rfl).drew | exact (Rd.lit wr 24 [.int .i64 ((z1 : Int) - 64), .int .i64 ((z2 : Int) - 64)] 2 1 rfl)) (by simp [Value.oneCell']) (k + 1) rfl p1 p2 (Nat.le_trans hbz (by simp)) ?_; intro v4 w4 hown4 hb4; obtain ⟨g4, c4, rfl, _, _⟩ := own_shape hown4 (by omega); have hG4 := ((HGb.out.alloc _).drew.below hb4 hGx); have hk4 := hG4.cell 5 _ rfl; have hf4 := hG4.free 5))
           clear q5 q6 q7 q8 q9 r1 r2 r3 r4 hk7 hk8 d1 d2
           all_goals
             clear hk4
             go_wp2
             go_roundw
             case rel => exact ⟨k + 1, some ⟨g4, 0, none⟩, c4, by omega, by go_num, hG4.set 5 _, by rw [Hlst.out, List.flatMap_append]; exact ownsRow_setCell_below hown4 (by show G < _; omega) _, Below.setCell (((Hbr.out.alloc hzr _).drew).trans (hb4.mono (Nat.le_trans HRb' (Nat.le_of_lt hGx)))) hGle _, Nat.le_trans hbz (((((Below.refl 0 wr).alloc (Nat.zero_le _) _).drew).trans (hb4.mono (Nat.zero_le _))).setCell (Nat.zero_le _) _).size⟩
             case measure => simp [intOf]; omega
         · --LAST
           obtain rfl : k = N := by omega
           have hnb := hnN.out
           have hm : readM0 b = ⟨(x0 : Int), (x1 : Int), (x2 : Int), (numAt b 3 : Int), (numAt b 7 : Int), cellsOf ((b.drop 13).take (2 * k))⟩ := by
             unfold readM0
             rw [← HN.out]
             obtain ⟨h0, h1, h2⟩ := HX.out
             simp only [List.getD_eq_getElem?_getD, h0, h1, h2, Option.getD_some]
             rfl
           have hat : MsgAt wr wr.heap.size (readM0 b) A2 k c2 := by
             rw [hm]
             exact MsgAt.of_own hown (cellsOf_len k _ (by rw [List.length_drop, Hbl.out]; omega)) (by omega)
           have Hown' := Lib.hid (show wr.ownsRow wc.heap.size 24 2 (.slice A2 k c2) k ((readM0 b).cells.flatMap encC) by rw [hm]; exact hown)
           have hval : msgV (readM0 b) A2 k c2 = .agg (msgRow b x0 x1 x2 (.slice A2 k c2)) := by rw [hm]
           have HC := check_any wr (readM0 b) A2 k c2 hat
           rw [hval] at HC
           have HC := Lib.hid HC
           have Hat := Lib.hid hat
           have Hval := Lib.hid hval
           have g0 := hG.cell 0 _ rfl
           have g1 := hG.cell 1 _ rfl
           have g2 := hG.cell 2 _ rfl
           have g3 := hG.cell 3 _ rfl
           have g4 := hG.cell 4 _ rfl
           have g5 := hG.cell 5 _ rfl
           obtain ⟨F, hF⟩ : ∃ F, F = msgF (readM0 b) := ⟨_, rfl⟩
           have HEE := Lib.hid (show readE b = F by unfold readE; rw [if_pos hE0.out, hF])
           rw [← hF] at HC
           have HG := Lib.hid hG
           have HBR := Lib.hid hbr
           clear hm hat hval hF hnb hown hG hbr
           go_wp2_with fail
           refine HC.out.mono ?_
           rintro e w5 ⟨rfl, hb5⟩
           have hGw := HG.out.lt
           have hbr5 := HBR.out.trans (hb5.mono HBR.out.size)
           have hR := HK1.out.below hbr5 HK1.out.lt
           have b0 := hR.cell 0 _ rfl
           have b1 := hR.cell 1 _ rfl
           have b2 := hR.cell 2 _ rfl
           have b3 := hR.cell 3 _ rfl
           have b4 := hR.cell 4 _ rfl
           have b5 := hR.cell 5 _ rfl
           have bf0 := hR.free 0
           have bf1 := hR.free 1
           have bf2 := hR.free 2
           have bf3 := hR.free 3
           have bf4 := hR.free 4
           have bf5 := hR.free 5
           have HR5 := Lib.hid hR
           have HB5 := Lib.hid (Hb1.out.trans (hbr5.mono hzw))
           have HG5 := Lib.hid (HG.out.below hb5 hGw)
           have Hown5 := Lib.hid (own_below Hown'.out hb5 (Nat.le_refl _))
           have hRw := Nat.lt_of_lt_of_le HK1.out.lt (Nat.le_trans hGle (Nat.le_of_lt hGx))
           clear hR g0 g1 g2 g3 g4 g5 hb5 hbr5
           by_cases hF0 : F = 0
           · subst hF0
             have g0 := HG5.out.cell 0 _ rfl
             have g1 := HG5.out.cell 1 _ rfl
             have g2 := HG5.out.cell 2 _ rfl
             have g3 := HG5.out.cell 3 _ rfl
             have g4 := HG5.out.cell 4 _ rfl
             have g5 := HG5.out.cell 5 _ rfl
             go_wp2_with fail
             refine bodyPost_ret (results_cell_two Try.results18 _ _ w.heap.size 28 (msgRow b x0 x1 x2 (.slice A2 k c2)) (0, 0) _ (.int .i64 0) rfl rfl ((((((HR5.out.set 0 (.int .i64 (x0 : Int))).set 1 (.int .i64 (x1 : Int))).set 2 (.int .i64 (x2 : Int))).set 3 (.int .i64 (numAt b 3 : Int))).set 4 (.int .u32 (numAt b 7 : Int))).set 5 (.slice A2 k c2)) Try.underlying28 rfl (by kernel_rfl)) rfl ?_
             have hmz : readM b = readM0 b := by unfold readM; rw [if_pos HEE.out]
             refine ⟨A2, k, c2, ?_, ?_, ?_⟩
             · rw [hmz, HEE.out, Hval.out]; rfl
             · rw [hmz]
               refine MsgAt.of_own (base := wc.heap.size) ?_ Hat.out.len Hat.out.bound
               repeat' (refine ownsRow_setCell_below ?_ (by show w.heap.size < _; exact hRw) _)
               exact Hown5.out
             · exact (((((HB5.out.setCell (Nat.le_refl _) _).setCell (Nat.le_refl _) _).setCell (Nat.le_refl _) _).setCell (Nat.le_refl _) _).setCell (Nat.le_refl _) _).setCell (Nat.le_refl _) _
           · have hFn : ¬ (F : Int) = 0 := by omega
             have hFb : ((F : Int) != 0) = true := by simp; omega
             have HF0 := Lib.hid hF0
             clear hF0
             go_wp2_with fail
             refine bodyPost_ret (results_cell_two Try.results18 _ _ w.heap.size 28 _ (0, 0) _ (.int .i64 (F : Int)) rfl rfl (blk_zero HR5.out) Try.underlying28 rfl (by kernel_rfl)) rfl ?_
             exact ReadMPost.bad (x := F) HEE.out HF0.out ((((((HB5.out.setCell (Nat.le_refl _) _).setCell (Nat.le_refl _) _).setCell (Nat.le_refl _) _).setCell (Nat.le_refl _) _).setCell (Nat.le_refl _) _).setCell (Nat.le_refl _) _)
    · have hE := Lib.hid (readE_of (b := b) (x := 13) (by unfold readE0; rw [Hbl.out, ← HN.out, if_neg (by omega), if_neg (by omega), if_neg (by have := hnN.out; omega), ← HV.out, ← HR.out, if_pos hVR]) (by omega))
      have hVb : ((V : Int) != (R : Int)) = true := by simp; omega
      have hVn : ¬ (V : Int) = (R : Int) := by omega
      clear hVR
      have b0 := (hk0.out.drewN nq).cell 0 _ rfl
      have bf0 := (hk0.out.drewN nq).free 0
      have b1 := (hk0.out.drewN nq).cell 1 _ rfl
      have bf1 := (hk0.out.drewN nq).free 1
      have b2 := (hk0.out.drewN nq).cell 2 _ rfl
      have bf2 := (hk0.out.drewN nq).free 2
      have b3 := (hk0.out.drewN nq).cell 3 _ rfl
      have bf3 := (hk0.out.drewN nq).free 3
      have b4 := (hk0.out.drewN nq).cell 4 _ rfl
      have bf4 := (hk0.out.drewN nq).free 4
      have b5 := (hk0.out.drewN nq).cell 5 _ rfl
      have bf5 := (hk0.out.drewN nq).free 5
      go_wp2_with fail
      refine bodyPost_ret (results_cell_two Try.results18 _ _ w.heap.size 28 _ (0, 0) _ _ rfl rfl (blk_zero (hk0.out.drewN nq)) Try.underlying28 rfl (by kernel_rfl)) rfl ?_
      have hB := below_drewN Hb0.out nq
      exact ReadMPost.bad (x := 13) hE.out (by decide) ((((((hB.setCell (Nat.le_refl _) _).setCell (Nat.le_refl _) _).setCell (Nat.le_refl _) _).setCell (Nat.le_refl _) _).setCell (Nat.le_refl _) _).setCell (Nat.le_refl _) _)
end Go.Proofs.Ytaahpjjffggaiaa
