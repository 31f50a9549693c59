/- The second implementation's Unframe. Conditions: those typed. -/
import Derived.Test.YtbeemdlgjiclcaaReadA
import Derived.Test.YtbeemdlgjiclcaaBook
namespace Go.Proofs.Ytbeemdlgjiclcaa
open Go.RowKit Go.Gy
set_option linter.unusedVariables false

def unfM (b : List Nat) : GMsg := if readE0 b = 0 then readM0 b else zeroM
def UnfPost (w : World) (b : List Nat) (e : Ending) (w' : World) : Prop := ∃ A n c, e = .returned (.tuple #[msgV (unfM b) A n c, .int .i64 ((readE0 b : Nat) : Int)]) ∧ MsgAt w' w'.heap.size (unfM b) A n c ∧ Below w.heap.size w w'
theorem UnfPost.bad {w w' : World} {b : List Nat} {x : Nat} (h : readE0 b = x) (hx : x ≠ 0) (hb : Below w.heap.size w w') : UnfPost w b (.returned (.tuple #[.agg #[.int .i64 0, .int .i64 0, .int .i64 0, .int .i64 0, .int .u32 0, .slice none 0 0], .int .i64 (x : Int)])) w' := by
  have hm : unfM b = zeroM := by unfold unfM; rw [if_neg (by omega)]
  refine ⟨none, 0, 0, ?_, ?_, hb⟩
  · rw [hm, h]; rfl
  · rw [hm]; exact ⟨rfl, Nat.le_refl _, fun _ => ⟨rfl, rfl⟩, by omega, ⟨rfl, fun h => by omega⟩⟩
def UnfRel (w1 : World) (Bx : Nat) (b : List Nat) (x0 x1 x2 G N g o : Nat) (s : Value) (wr : World) : Prop := ∃ k p m C A2 c2, k ≤ N ∧ p = o + (13 + 2 * k) ∧ m = 2 * (N - k) ∧ m + 4 ≤ C ∧ s = .slice (some ⟨g, p, none⟩) m C ∧ Blk wr G 25 (msgRow b x0 x1 x2 (.slice A2 k c2)) ∧ wr.ownsRow Bx 108 2 (.slice A2 k c2) k ((cellsOf ((b.drop 13).take (2 * k))).flatMap encC) ∧ Below w1.heap.size w1 wr ∧ Bx ≤ wr.heap.size
set_option maxRecDepth 100000 in
set_option maxHeartbeats 4000000 in
theorem unframe_any (w : World) (v : Value) (b : List Nat) (hv : SlB w w.heap.size v b) (h8 : ∀ x ∈ b, x < 256) (hn : b.length ≤ 140737488355328) :
    Calls Try.prog 47 #[v] w (UnfPost w b) := by
  obtain ⟨A, n, c, rfl, hbl, hnc, hA, hr⟩ := id hv
  rw [hbl] at hn
  have Hbl := Lib.hid hbl
  have H8 := Lib.hid h8
  have Hv := Lib.hid hv
  have hk0 := Lib.hid (Blk.new w 25 zeroV)
  have Hb0 := Lib.hid ((Below.refl w.heap.size w).alloc (Nat.le_refl _) (.cells zeroV 25))
  clear hbl h8 hv
  by_cases h17 : n < 17
  · have hE := Lib.hid (show readE0 b = 14 from (by unfold readE0; rw [Hbl.out, if_pos h17]))
    have h17' : (n : Int) < 17 := by omega
    clear hr hA
    go_enter Try.func47, Try.ntmps47
    go_wp2
    refine bodyPost_ret (results_cell_two Try.results47 _ _ w.heap.size 25 _ (0, 0) _ _ rfl rfl hk0.out Try.underlying25 rfl (by kernel_rfl)) rfl ?_
    exact UnfPost.bad (x := 14) hE.out (by decide) Hb0.out
  · have h17' : ¬ (n : Int) < 17 := by omega
    have hc17 : ¬ c = 11 := by omega
    have hc13 : 13 ≤ c := by omega
    obtain ⟨g, o, rfl⟩ : ∃ g o, A = some ⟨g, o, none⟩ := by
      obtain ⟨g, o, _, h, _⟩ := hr.at_ (show 0 < n by omega)
      exact ⟨g, o, h⟩
    obtain ⟨N, hN⟩ : ∃ N, N = manyB b := ⟨_, rfl⟩
    have hN16 : N < 65536 := by
      rw [hN]
      exact valN_lt 2 _ (by rw [List.length_take, List.length_drop]; omega) fun x hx => H8.out x (List.mem_of_mem_drop (List.mem_of_mem_take hx))
    have Hn1 := Lib.hid (fun w' (hb : Below w.heap.size w w') => (show Calls Try.prog 89 #[.slice (some ⟨g, o + 11, none⟩) 2 (c - 11)] w' fun e w'' => e = .returned (.int .i64 (N : Int)) ∧ w' = w'' by
      rw [hN]
      exact value_any w' _ w.heap.size ((b.drop 11).take 2) ((Hv.out.mid (i := 11) (m := 2) (by omega) hc17).below hb) (by rw [List.length_take]; omega) fun x hx => H8.out x (List.mem_of_mem_drop (List.mem_of_mem_take hx))))
    have HN := Lib.hid hN
    clear hN hA hr
    by_cases hs : n < 17 + 2 * N
    · have hE := Lib.hid (show readE0 b = 14 from (by unfold readE0; rw [Hbl.out, if_neg h17, ← HN.out, if_pos hs]))
      have hs' : (n : Int) < 17 + 2 * (N : Int) := by omega
      go_enter Try.func47, Try.ntmps47
      go_wp2_with fail
      refine (Hn1.out _ Hb0.out).mono ?_
      rintro e w1 ⟨rfl, rfl⟩
      go_wp2_with fail
      refine bodyPost_ret (results_cell_two Try.results47 _ _ w.heap.size 25 _ (0, 0) _ _ rfl rfl hk0.out Try.underlying25 rfl (by kernel_rfl)) rfl ?_
      exact UnfPost.bad (x := 14) hE.out (by decide) Hb0.out
    by_cases hl : 17 + 2 * N < n
    · have hE := Lib.hid (show readE0 b = 3 from (by unfold readE0; rw [Hbl.out, if_neg h17, ← HN.out, if_neg hs, if_pos (by omega)]))
      have hs' : ¬ (n : Int) < 17 + 2 * (N : Int) := by omega
      have hl' : 17 + 2 * (N : Int) < (n : Int) := by omega
      have hlb : ((n : Int) != 17 + 2 * (N : Int)) = true := by simp; omega
      have hln : ¬ (n : Int) = 17 + 2 * (N : Int) := by omega
      go_enter Try.func47, Try.ntmps47
      go_wp2_with fail
      refine (Hn1.out _ Hb0.out).mono ?_
      rintro e w1 ⟨rfl, rfl⟩
      go_wp2_with fail
      refine (Hn1.out _ Hb0.out).mono ?_
      rintro e w1 ⟨rfl, rfl⟩
      go_wp2_with fail
      refine bodyPost_ret (results_cell_two Try.results47 _ _ w.heap.size 25 _ (0, 0) _ _ rfl rfl hk0.out Try.underlying25 rfl (by kernel_rfl)) rfl ?_
      exact UnfPost.bad (x := 3) hE.out (by decide) Hb0.out
    have hnN := Lib.hid (show n = 17 + 2 * N by omega)
    have hs' : ¬ (n : Int) < 17 + 2 * (N : Int) := by omega
    have hlb : ((n : Int) != 17 + 2 * (N : Int)) = false := by simp; omega
    have hle1 : (n : Int) ≤ 17 + 2 * (N : Int) := by omega
    have f1 : ¬ c = 13 + 2 * N := by omega
    have f2 : ((n : Int) - 4).toNat = 13 + 2 * N := by omega
    have f3 : (0 : Int) ≤ (n : Int) - 4 := by omega
    have f3' : (4 : Int) ≤ (n : Int) := by omega
    have f4 : (n : Int) - 4 ≤ (n : Int) := by omega
    have f5 : (n : Int) - 4 ≤ (c : Int) := by omega
    have f7 : IntKind.i64.wrap ((n : Int) - 4) = (n : Int) - 4 := IntWalk.i64_in _ (by omega)
    have f8 : n - (13 + 2 * N) = 4 := by omega
    obtain ⟨V, hV⟩ : ∃ V, V = valN (b.drop (13 + 2 * N)) := ⟨_, rfl⟩
    obtain ⟨R, hR⟩ : ∃ R, R = crc (b.take (13 + 2 * N)) := ⟨_, rfl⟩
    have hR32 : R < 4294967296 := by rw [hR]; exact crc_lt _ fun x hx => H8.out x (List.mem_of_mem_take hx)
    have hwR : IntKind.i64.wrap (R : Int) = (R : Int) := IntWalk.i64_in _ (by omega)
    have htail : (b.drop (13 + 2 * N)).take 4 = b.drop (13 + 2 * N) := List.take_of_length_le (by rw [List.length_drop, Hbl.out]; omega)
    have hn2 : ∀ w', Below w.heap.size w w' → Calls Try.prog 89 #[.slice (some ⟨g, o + (13 + 2 * N), none⟩) 4 (c - (13 + 2 * N))] w' fun e w'' => e = .returned (.int .i64 (V : Int)) ∧ w' = w'' := fun w' hb =>
      (value_any w' _ w.heap.size ((b.drop (13 + 2 * N)).take 4) ((Hv.out.mid (i := 13 + 2 * N) (m := 4) (by omega) f1).below hb) (by rw [List.length_take]; omega) fun x hx => H8.out x (List.mem_of_mem_drop (List.mem_of_mem_take hx))).mono fun e w'' ⟨h1, h2⟩ => ⟨by rw [hV, ← htail]; exact h1, h2⟩
    have hn3 : ∀ w', Below w.heap.size w w' → Calls Try.prog 28 #[.slice (some ⟨g, o, none⟩) (13 + 2 * N) c] w' fun e w'' => e = .returned (.int .u32 (R : Int)) ∧ Below w'.heap.size w' w'' := fun w' hb => by
      rw [hR]
      exact crc_slice w' _ (b.take (13 + 2 * N)) (((Hv.out.head (m := 13 + 2 * N) (by omega)).below hb).more hb.size) (by rw [List.length_take]; omega) fun x hx => H8.out x (List.mem_of_mem_take hx)
    have Hn2 := Lib.hid hn2
    have Hn3 := Lib.hid hn3
    have HV := Lib.hid hV
    have HR := Lib.hid hR
    have HF := Lib.hid (And.intro f2 (And.intro f7 hwR))
    clear hn2 hn3 hV hR htail h17 hs hl f2 f7 hwR
    go_enter Try.func47, Try.ntmps47
    go_wp2_with fail
    refine (Hn1.out _ Hb0.out).mono ?_
    rintro e w1 ⟨rfl, rfl⟩
    go_wp2_with fail
    refine (Hn1.out _ Hb0.out).mono ?_
    rintro e w1 ⟨rfl, rfl⟩
    go_wp2_with fail
    change Code.wp _ _ _ _ (w.alloc (.cells zeroV 25))
    have hk0 := hk0
    have Hb0 := Hb0
    generalize w.alloc (.cells zeroV 25) = w0 at hk0 Hb0 ⊢
    have Hq1 := Lib.hid (fun w' (h : Below w0.heap.size w0 w') => Hn2.out w' (Hb0.out.trans (h.mono Hb0.out.size)))
    have hq2 : ∀ w', Below w0.heap.size w0 w' → Calls Try.prog 28 #[.slice (some ⟨g, o, none⟩) (13 + 2 * N) c] w' fun e w'' => e = .returned (.int .u32 (R : Int)) ∧ Below w0.heap.size w0 w'' := fun w' h => (Hn3.out w' (Hb0.out.trans (h.mono Hb0.out.size))).mono fun e w'' ⟨h1, h2⟩ => ⟨h1, h.trans (h2.mono h.size)⟩
    have Hq2 := Lib.hid hq2
    clear hq2
    clear hlb hle1
    obtain ⟨f2, f7, hwR⟩ := HF.out
    go_region_held3 (fun w' => Below w0.heap.size w0 w' ∧ Below w0.heap.size w0 w')
        (first | exact ⟨Below.refl _ _, Below.refl _ _⟩ | exact ⟨(Below.refl _ _).drew, (Below.refl _ _).drew⟩ | exact ⟨by assumption, by assumption⟩)
        (first
          | (go_at_call 89; refine (Hq1.out _ (by first | assumption | exact (Below.refl _ _).drew)).mono ?_; rintro e w' ⟨rfl, rfl⟩)
          | (go_at_call 28; refine (Hq2.out _ (by first | assumption | exact (Below.refl _ _).drew)).mono ?_; rintro e w1 ⟨rfl, hbn⟩))
    clear f2 f7 hwR
    have hk1 := hk0.out.below hbn hk0.out.lt
    have hb1 := Hb0.out.trans (hbn.mono Hb0.out.size)
    by_cases hVR : V = R
    · have hE0 := Lib.hid (show readE0 b = 0 by unfold readE0; rw [Hbl.out, ← HN.out, if_neg (by omega), if_neg (by omega), if_neg (by have := hnN.out; omega), ← HV.out, ← HR.out, if_neg (by simpa using hVR)])
      have hVb : ((V : Int) != (R : Int)) = false := by simp; omega
      clear hVR
      go_wp2_with fail
      obtain ⟨x0, hx0, hg, hc0⟩ := (Hv.out.below hb1).byte (k := 0) (by omega)
      obtain ⟨x1, hx1, _, hc1⟩ := (Hv.out.below hb1).byte (k := 1) (by omega)
      obtain ⟨x2, hx2, _, hc2⟩ := (Hv.out.below hb1).byte (k := 2) (by omega)
      have hy0 := H8.out x0 (List.mem_of_getElem? hx0)
      have hy1 := H8.out x1 (List.mem_of_getElem? hx1)
      have hy2 := H8.out x2 (List.mem_of_getElem? hx2)
      have hSl := numAt_lt H8.out 3
      have hCl := numAt_lt H8.out 7
      have hzw := hb1.size
      have hS : ∀ w', Below w1.heap.size w1 w' → (w'.cell? ⟨g, o, none⟩ = some (.int .u8 (x0 : Int)) ∧ w'.cell? ⟨g, o + 1, none⟩ = some (.int .u8 (x1 : Int)) ∧ w'.cell? ⟨g, o + 2, none⟩ = some (.int .u8 (x2 : Int)) ∧ Below w1.heap.size w1 w') := fun w' h =>
        ⟨(h.cell (p := ⟨g, o, none⟩) (by show g < _; omega)).trans hc0, (h.cell (p := ⟨g, o + 1, none⟩) (by show g < _; omega)).trans hc1, (h.cell (p := ⟨g, o + 2, none⟩) (by show g < _; omega)).trans hc2, h⟩
      have h3 : ∀ i, i + 4 ≤ n → ¬ c = i → ∀ w', Below w1.heap.size w1 w' → Calls Try.prog 89 #[.slice (some ⟨g, o + i, none⟩) 4 (c - i)] w' fun e w'' => e = .returned (.int .i64 (numAt b i : Nat)) ∧ w' = w'' := fun i hi hci w' h =>
        value_any w' _ w.heap.size ((b.drop i).take 4) ((Hv.out.mid (i := i) (m := 4) hi hci).below (hb1.trans (h.mono hzw))) (by rw [List.length_take]; omega) fun x hx => H8.out x (List.mem_of_mem_drop (List.mem_of_mem_take hx))
      have HS := Lib.hid hS
      have H3 := Lib.hid h3
      have HX := Lib.hid (And.intro hx0 (And.intro hx1 hx2))
      have HK1 := Lib.hid hk1
      have Hb1 := Lib.hid hb1
      have hc3 : ¬ c = 3 := by omega
      have hc7 : ¬ c = 7 := by omega
      have hi0 : (0 : Int) < (n : Int) := by omega
      have hi0' : 0 < n := by omega
      have hi1 : (1 : Int) < (n : Int) := by omega
      have hi2 : (2 : Int) < (n : Int) := by omega
      have hi3 : (7 : Int) ≤ (c : Int) := by omega
      have hi4 : (11 : Int) ≤ (c : Int) := by omega
      have hwS : IntKind.u32.wrap (numAt b 7 : Int) = (numAt b 7 : Int) := IntWalk.u32_in _ (by omega)
      clear hS h3 hx0 hx1 hx2 hk1 hb1 hc0 hc1 hc2
      have HwS := Lib.hid hwS
      clear hwS
      go_cut [4] (fun s5 wx => ReadCut w1 b x0 x1 x2 s5 wx)
      case first =>
       have hwS := HwS.out
       go_region_held3 (fun w' => w'.cell? ⟨g, o, none⟩ = some (.int .u8 (x0 : Int)) ∧ w'.cell? ⟨g, o + 1, none⟩ = some (.int .u8 (x1 : Int)) ∧ w'.cell? ⟨g, o + 2, none⟩ = some (.int .u8 (x2 : Int)) ∧ Below w1.heap.size w1 w')
        (first | exact HS.out _ (by assumption) | exact HS.out _ (Below.refl _ _).drew | exact HS.out _ (((Below.refl _ _).alloc (Nat.le_refl _) _).drew))
        (first | (go_at_call 89; refine (H3.out _ (by omega) (by omega) _ (by first | assumption | exact (Below.refl _ _).drew | exact (((Below.refl _ _).alloc (Nat.le_refl _) _).drew))).mono ?_; rintro e w' ⟨rfl, rfl⟩))
       all_goals
        go_wp2_with fail
        go_meet
        clear hwS
        have e0 : IntKind.i64.wrap (x0 : Int) = x0 := IntWalk.i64_in _ (by omega)
        have e1 : IntKind.i64.wrap (x1 : Int) = x1 := IntWalk.i64_in _ (by omega)
        have e2 : IntKind.i64.wrap (x2 : Int) = x2 := IntWalk.i64_in _ (by omega)
        exact ⟨w1.heap.size, rfl, Nat.le_refl _, by rw [e0, e1, e2]; exact Blk.new w1 25 _, ((Below.refl _ _).alloc (Nat.le_refl _) _).drew⟩
      case rest =>
       obtain ⟨G, rfl, hGle, hG, hbx⟩ := hcut
       have hGx := hG.lt
       have HRb' := Nat.le_trans hGle (Nat.le_refl G)
       have hst := Lib.hid (show ∀ m, m = 2 * N → UnfRel w1 wc.heap.size b x0 x1 x2 G N g o (.slice (some ⟨g, o + 13, none⟩) m (c - 13)) wc from fun m hm => ⟨0, o + 13, m, c - 13, none, 0, Nat.zero_le _, by omega, by omega, by have := hnN.out; omega, rfl, hG, by simpa [cellsOf] using World.ownsRow_nil _ _ _ _, hbx, Nat.le_refl _⟩)
       obtain ⟨j0, hj, hy0', hy1', hy2'⟩ := info_parts info_cell
       have h13 := Lib.hid (show ∀ k, k < N → ∃ z1 z2 : Nat, z1 < 256 ∧ z2 < 256 ∧ (b.drop 13)[2 * k]? = some z1 ∧ (b.drop 13)[2 * k + 1]? = some z2 ∧ w.cell? ⟨g, o + (13 + 2 * k), none⟩ = some (.int .u8 (z1 : Int)) ∧ w.cell? ⟨g, o + (14 + 2 * k), none⟩ = some (.int .u8 (z2 : Int)) from fun k hk => by
         have := hnN.out
         obtain ⟨z1, hz1, _, hd1⟩ := Hv.out.byte (k := 13 + 2 * k) (by omega)
         obtain ⟨z2, hz2, _, hd2⟩ := Hv.out.byte (k := 14 + 2 * k) (by omega)
         exact ⟨z1, z2, H8.out _ (List.mem_of_getElem? hz1), H8.out _ (List.mem_of_getElem? hz2), by rw [List.getElem?_drop]; exact hz1, by rw [List.getElem?_drop, show 13 + (2 * k + 1) = 14 + 2 * k by omega]; exact hz2, hd1, hd2⟩)
       have hi5 : (13 : Int) ≤ (n : Int) - 4 := by omega
       have hc13' : ¬ c = 13 := by omega
       have e13 := Lib.hid (show 13 + 2 * N - 13 = 2 * N by omega)
       clear hG hbx
       have f2 := HF.out.1
       go_wp2_with fail
       clear f2
       go_loopw [5] (fun s wr => UnfRel w1 wc.heap.size b x0 x1 x2 G N g o s wr) (fun s _ => match s with | .slice _ m _ => m | _ => 0)
       case atStart => exact hst.out _ (by omega)
       case round =>
         obtain ⟨k, p, m, C, A2, c2, hk, hp, hm, hmC, rfl, hG, hown, hbr, hbz⟩ := hrel
         by_cases hlt : k < N
         · obtain ⟨z1, z2, hz1, hz2, hf1, hf2, hd1, hd2⟩ := h13.out k hlt
           rw [show o + (13 + 2 * k) = p from hp.symm] at hd1
           rw [show o + (14 + 2 * k) = p + 1 by omega] at hd2
           have hk7 := hG.cell 5 _ rfl
           have hgw : g < w.heap.size := by
             obtain ⟨_, _, hgg, _⟩ := Hv.out.byte (k := 0) (by omega)
             exact hgg
           have hzr := hbr.size
           have hbw := Lib.hid (Hb1.out.trans (hbr.mono hzw))
           have d1 : wr.cell? ⟨g, p, none⟩ = some (.int .u8 (z1 : Int)) := (hbw.out.cell (p := ⟨g, p, none⟩) hgw).trans hd1
           have d2 : wr.cell? ⟨g, p + 1, none⟩ = some (.int .u8 (z2 : Int)) := (hbw.out.cell (p := ⟨g, p + 1, none⟩) hgw).trans hd2
           have HGb := Lib.hid hG
           have Hown := Lib.hid hown
           have Hbr := Lib.hid hbr
           have Hlst := Lib.hid (cellsOf_snoc k (b.drop 13) z1 z2 hf1 hf2)
           have hm0 : 0 < m := by omega
           have hm1 : (1 : Int) < (m : Int) := by omega
           have hm2 : (2 : Int) ≤ (m : Int) := by omega
           have hm3 : (0 : Int) < (m : Int) := by omega
           have hC2 : ¬ C = 2 := by omega
           have Hp := Lib.hid (show p + 2 = o + (13 + 2 * (k + 1)) by omega)
           have Hm := Lib.hid (show m - 2 = 2 * (N - (k + 1)) by omega)
           have HmC := Lib.hid (show m - 2 + 4 ≤ C - 2 by omega)
           have Hlt := Lib.hid (show m - 2 < m by omega)
           have r1 : IntKind.i64.wrap (z1 : Int) = (z1 : Int) := IntWalk.i64_in _ (by omega)
           have r2 : IntKind.i64.wrap (z2 : Int) = (z2 : Int) := IntWalk.i64_in _ (by omega)
           have r3 : IntKind.i64.wrap ((z1 : Int) - 64) = (z1 : Int) - 64 := IntWalk.i64_in _ (by omega)
           have r4 : IntKind.i64.wrap ((z2 : Int) - 64) = (z2 : Int) - 64 := IntWalk.i64_in _ (by omega)
           have p1 : k + 1 ≤ maxLen := by unfold maxLen; omega
           have p2 : (k + 1) * 16 ≤ 140737488355328 := by omega
           have hk8 := (hG.alloc (.cells #[.int .i64 ((z1 : Int) - 64), .int .i64 ((z2 : Int) - 64)] 108)).cell 5 _ rfl
           have HQ := Lib.hid (And.intro r1 (And.intro r2 (And.intro r3 r4)))
           clear hG hown hbr hf1 hf2 hd1 hd2 hp hm hmC r1 r2 r3 r4
           go_wp2_with fail
           obtain ⟨r1, r2, r3, r4⟩ := HQ.out
           go_region_law (first | (refine step_extend (by rfl) (.tmp 75) (.tmp 87) 23 (by rfl) wc.heap.size 108 j0 (.agg #[.int .i64 0, .int .i64 0]) 2 16 Try.underlying23 hj hy0' hy1' hy2' rfl (by decide) _ k _ (by rfl) (by first | exact (Hown.out.alloc _).drew | exact Hown.out.alloc _) ⟨wr.heap.size, 0, none⟩ 1 1 (wr.heap.size + 1) [.int .i64 ((z1 : Int) - 64), .int .i64 ((z2 : Int) - 64)] (by rfl) (by decide) (by first | exact (Rd.lit wr 108 [.int .i64 ((z1 : Int) - 64), .int .i64 ((z2 : Int) - 64)] 2 1 rfl).drew | exact (Rd.lit wr 108 [.int .i64 ((z1 : Int) - 64), .int .i64 ((z2 : Int) - 64)] 2 1 rfl)) (by simp [Value.oneCell']) (k + 1) rfl p1 p2 (Nat.le_trans hbz (by simp)) ?_; intro v4 w4 hown4 hb4; obtain ⟨g4, c4, rfl, _, _⟩ := own_shape hown4 (by omega); have hG4 := ((HGb.out.alloc _).drew.below hb4 hGx); have hk4 := hG4.cell 5 _ rfl; have hf4 := hG4.free 5))
           clear r1 r2 r3 r4 hk7 hk8 d1 d2
           all_goals
             clear hk4
             go_wp2
             go_roundw
             case rel => exact ⟨k + 1, p + 2, m - 2, C - 2, some ⟨g4, 0, none⟩, c4, by omega, Hp.out, Hm.out, HmC.out, rfl, hG4.set 5 _, by rw [Hlst.out, List.flatMap_append]; exact ownsRow_setCell_below hown4 (by show G < _; omega) _, Below.setCell (((Hbr.out.alloc hzr _).drew).trans (hb4.mono (Nat.le_trans HRb' (Nat.le_of_lt hGx)))) hGle _, Nat.le_trans hbz (((((Below.refl 0 wr).alloc (Nat.zero_le _) _).drew).trans (hb4.mono (Nat.zero_le _))).setCell (Nat.zero_le _) _).size⟩
             case measure => exact Hlt.out
         · --LAST
           obtain rfl : k = N := by omega
           obtain rfl : m = 0 := by omega
           clear hm
           have hm : readM0 b = ⟨(x0 : Int), (x1 : Int), (x2 : Int), (numAt b 3 : Int), (numAt b 7 : Int), cellsOf ((b.drop 13).take (2 * k))⟩ := by
             unfold readM0
             rw [← HN.out]
             obtain ⟨h0, h1, h2⟩ := HX.out
             simp only [List.getD_eq_getElem?_getD, h0, h1, h2, Option.getD_some]
             rfl
           have hlen := cellsOf_len k (b.drop 13) (by have := hnN.out; rw [List.length_drop, Hbl.out]; omega)
           have hval : msgV (readM0 b) A2 k c2 = .agg (msgRow b x0 x1 x2 (.slice A2 k c2)) := by rw [hm]
           have Hown' := Lib.hid (show wr.ownsRow wc.heap.size 108 2 (.slice A2 k c2) k ((readM0 b).cells.flatMap encC) by rw [hm]; exact hown)
           have Hlen := Lib.hid (show (readM0 b).cells.length = k by rw [hm]; exact hlen)
           have Hval := Lib.hid hval
           have g0 := hG.cell 0 _ rfl
           have g1 := hG.cell 1 _ rfl
           have g2 := hG.cell 2 _ rfl
           have g3 := hG.cell 3 _ rfl
           have g4 := hG.cell 4 _ rfl
           have g5 := hG.cell 5 _ rfl
           have hR := HK1.out.below hbr HK1.out.lt
           have b0 := hR.cell 0 _ rfl
           have b1 := hR.cell 1 _ rfl
           have b2 := hR.cell 2 _ rfl
           have b3 := hR.cell 3 _ rfl
           have b4 := hR.cell 4 _ rfl
           have b5 := hR.cell 5 _ rfl
           have bf0 := hR.free 0
           have bf1 := hR.free 1
           have bf2 := hR.free 2
           have bf3 := hR.free 3
           have bf4 := hR.free 4
           have bf5 := hR.free 5
           have HR5 := Lib.hid hR
           have HB5 := Lib.hid (Hb1.out.trans (hbr.mono hzw))
           have hRw := Nat.lt_of_lt_of_le HK1.out.lt (Nat.le_trans hGle (Nat.le_of_lt hGx))
           clear hR hm hval hlen hown hG hbr hp hmC
           go_wp2_with fail
           refine bodyPost_ret (results_cell_two Try.results47 _ _ w.heap.size 25 (msgRow b x0 x1 x2 (.slice A2 k c2)) (0, 0) _ (.int .i64 0) rfl rfl ((((((HR5.out.set 0 (.int .i64 (x0 : Int))).set 1 (.int .i64 (x1 : Int))).set 2 (.int .i64 (x2 : Int))).set 3 (.int .i64 (numAt b 3 : Int))).set 4 (.int .u32 (numAt b 7 : Int))).set 5 (.slice A2 k c2)) Try.underlying25 rfl (by kernel_rfl)) rfl ?_
           have hmz : unfM b = readM0 b := by unfold unfM; rw [if_pos hE0.out]
           refine ⟨A2, k, c2, ?_, ?_, ?_⟩
           · rw [hmz, hE0.out, Hval.out]; rfl
           · rw [hmz]
             refine MsgAt.of_own (base := wc.heap.size) ?_ Hlen.out (by omega)
             repeat' (refine ownsRow_setCell_below ?_ (by show w.heap.size < _; exact hRw) _)
             exact Hown'.out
           · exact (((((HB5.out.setCell (Nat.le_refl _) _).setCell (Nat.le_refl _) _).setCell (Nat.le_refl _) _).setCell (Nat.le_refl _) _).setCell (Nat.le_refl _) _).setCell (Nat.le_refl _) _
    · have hE := Lib.hid (show readE0 b = 13 from (by unfold readE0; rw [Hbl.out, ← HN.out, if_neg (by omega), if_neg (by omega), if_neg (by have := hnN.out; omega), ← HV.out, ← HR.out, if_pos hVR]))
      have hVb : ((V : Int) != (R : Int)) = true := by simp; omega
      have hVn : ¬ (V : Int) = (R : Int) := by omega
      clear hVR
      have b0 := hk1.cell 0 _ rfl
      have b1 := hk1.cell 1 _ rfl
      have b2 := hk1.cell 2 _ rfl
      have b3 := hk1.cell 3 _ rfl
      have b4 := hk1.cell 4 _ rfl
      have b5 := hk1.cell 5 _ rfl
      have bf0 := hk1.free 0
      have bf1 := hk1.free 1
      have bf2 := hk1.free 2
      have bf3 := hk1.free 3
      have bf4 := hk1.free 4
      have bf5 := hk1.free 5
      have HK1 := Lib.hid hk1
      have HB1 := Lib.hid hb1
      clear hk1 hb1
      go_wp2_with fail
      refine bodyPost_ret (results_cell_two Try.results47 _ _ w.heap.size 25 _ (0, 0) _ (.int .i64 13) rfl rfl (blk_zero HK1.out) Try.underlying25 rfl (by kernel_rfl)) rfl ?_
      exact UnfPost.bad (x := 13) hE.out (by decide) ((((((HB1.out.setCell (Nat.le_refl _) _).setCell (Nat.le_refl _) _).setCell (Nat.le_refl _) _).setCell (Nat.le_refl _) _).setCell (Nat.le_refl _) _).setCell (Nat.le_refl _) _)
end Go.Proofs.Ytbeemdlgjiclcaa
