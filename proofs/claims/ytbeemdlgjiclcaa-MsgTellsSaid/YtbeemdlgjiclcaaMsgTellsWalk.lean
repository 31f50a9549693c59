/- MsgTells's walk: it returns true. Conditions: the reach. -/
import Derived.Test.YtbeemdlgjiclcaaMsgOpen
import Derived.Test.YtbeemdlgjiclcaaLogOpen
import Derived.Test.YtbeemdlgjiclcaaFrame
import Derived.Test.YtbeemdlgjiclcaaRead
import Derived.Test.YtbeemdlgjiclcaaUnframe
namespace Go.Proofs.Ytbeemdlgjiclcaa
open Go.RowKit Go.Gy
set_option linter.unusedVariables false
def beatX : GMsg := ⟨3, 1, 0, 7, 0, []⟩
theorem beatX_zero : msgF beatX = 0 := by decide
theorem unf_read {b : List Nat} (h : readE b = 0) : readE0 b = 0 ∧ unfM b = readM0 b ∧ readM b = readM0 b ∧ msgF (readM0 b) = 0 := by
  have h0 : readE0 b = 0 := by
    unfold readE at h
    split at h
    · assumption
    · exact h
  refine ⟨h0, by unfold unfM; rw [if_pos h0], by unfold readM; rw [if_pos h], ?_⟩
  unfold readE at h
  rw [if_pos h0] at h
  exact h
theorem same_refl (m : GMsg) : sameM m m = true := by simp [sameM]
end Go.Proofs.Ytbeemdlgjiclcaa
namespace Go.Proofs.Ytbeemdlgjiclcaa.msgTells
open Go.RowKit Go.Gy
set_option linter.unusedVariables false
set_option maxRecDepth 100000 in
set_option maxHeartbeats 4000000 in
theorem walk (v0 v1 : Value) (w : World) {b0 b1 : Nat} (f0 : MsgArg w v0 b0) (f1 : BytesArg w v1 b1) :
    Calls Try.prog 7 #[v0, v1] w fun e w' => e = .returned (.bool true) ∧ Below w.heap.size w w' := by
  obtain ⟨m, A, n, c, rfl, hm, hwf, _, _⟩ := f0
  obtain ⟨b, Hv1, hb8, _, hbr⟩ := f1
  obtain ⟨A1, n1, c1, rfl, hn1, _⟩ := id Hv1
  have hcl := Lib.hid (wf_u32 hwf.clock)
  have hbl := Lib.hid (show b.length ≤ 140737488355328 by simp only [reachBytes] at hbr; omega)
  have Hm := Lib.hid hm
  have HV1 := Lib.hid Hv1
  have Hb8 := Lib.hid hb8
  clear hwf hbr hm Hv1 hb8 hn1
  have hb0 : ∀ X Y, Below w.heap.size w ((w.alloc X).alloc Y) := fun X Y => ((Below.refl _ _).alloc (Nat.le_refl _) _).alloc (by simp) _
  have Hb0 := Lib.hid hb0
  have HF := Lib.hid (fun (w5 : World) (h5 : Below w.heap.size w w5) => msgfault_any w5 m A n c Hm.out.len)
  have HCf := Lib.hid (fun (w5 : World) (h5 : Below w.heap.size w w5) => cellsfault_any w5 A n c m.cells Hm.out.len ((Hm.out.rd.below h5).more h5.size))
  have HWr := Lib.hid (fun (w5 : World) (h5 : Below w.heap.size w w5) => write_any w5 m A n c ((Hm.out.below h5).more h5.size) hcl.out)
  have HCk := Lib.hid (fun (w5 : World) (h5 : Below w.heap.size w w5) => check_any w5 m A n c ((Hm.out.below h5).more h5.size))
  have HFr := Lib.hid (fun (hE : msgF m = 0) (w5 : World) (h5 : Below w.heap.size w w5) => frame_any w5 m A n c ((Hm.out.below h5).more h5.size) hcl.out hE)
  have Hlf := Lib.hid (fun (h : msgF m = 0) => show (frameM m).length ≤ 1000 ∧ ∀ x ∈ frameM m, x < 256 from ⟨by rw [frameM_len]; have := (cellsF_zero (msgF_zero h).2).1; omega, frameM_lt (msgF_zero h).1⟩)
  obtain ⟨F, hF⟩ : ∃ F, F = msgF m := ⟨_, rfl⟩
  obtain ⟨F0, hF0⟩ : ∃ F0, F0 = msgF0 m := ⟨_, rfl⟩
  obtain ⟨FC, hFC⟩ : ∃ FC, FC = cellsF m.cells := ⟨_, rfl⟩
  have HFF := Lib.hid (show F = if F0 = 0 then FC else F0 by rw [hF, hF0, hFC]; rfl)
  have Hbx := Lib.hid (fun Y => (Blk.new w 25 #[.int .i64 m.kind, .int .i64 m.src, .int .i64 m.dst, .int .i64 m.seq, .int .u32 m.clock, .slice A n c]).alloc Y)
  rw [← hF0] at HF
  rw [← hFC] at HCf
  rw [← hF] at HCk HFr Hlf
  unfold WritePost at HWr
  rw [← hF] at HWr
  obtain ⟨k, s, d, q, t, l⟩ := m
  clear hb0 hF hF0 hFC
  go_enter Try.func7, Try.ntmps7
  go_wp2_with fail
  have hbw := Hb0.out (.cells #[.int .i64 k, .int .i64 s, .int .i64 d, .int .i64 q, .int .u32 t, .slice A n c] 25) (.cells #[.int .i64 3, .int .i64 1, .int .i64 0, .int .i64 7, .int .u32 0, .slice none 0 0] 25)
  have hkb := Hbx.out (.cells #[.int .i64 3, .int .i64 1, .int .i64 0, .int .i64 7, .int .u32 0, .slice none 0 0] 25)
  refine (write_any _ beatX none 0 0 ⟨rfl, Nat.le_refl _, fun _ => ⟨rfl, rfl⟩, by omega, ⟨rfl, fun h => by omega⟩⟩ (by decide)).mono ?_
  rintro e w1 ⟨v1, n2, he, hown1, hb1⟩
  rw [beatX_zero] at he
  subst he
  rw [if_pos beatX_zero] at hown1
  have hn2 := hown1.1
  rw [List.length_map, frameM_len] at hn2
  obtain rfl : n2 = 17 := by have : beatX.cells.length = 0 := rfl; omega
  obtain ⟨A2, c2, rfl, _, _, _⟩ := own_rd hown1
  have hbw1 := hbw.trans (hb1.mono hbw.size)
  have hk1 := hkb.below hb1 (by simp; omega)
  have a0 := hk1.cell 0 _ rfl
  have a1 := hk1.cell 1 _ rfl
  have a2 := hk1.cell 2 _ rfl
  have a3 := hk1.cell 3 _ rfl
  have a4 := hk1.cell 4 _ rfl
  have a5 := hk1.cell 5 _ rfl
  have Hk1 := Lib.hid hk1
  have hwl := hk1.lt
  clear hown1 hn2 hb1 hkb hbw hk1
  go_wp2_with fail
  refine (HF.out _ hbw1).mono ?_
  rintro e w2 ⟨rfl, hb2⟩
  have hbw2 := hbw1.trans (hb2.mono hbw1.size)
  have hk2 := Hk1.out.below hb2 hwl
  have hwl2 := hk2.lt
  have a5 := hk2.cell 5 _ rfl
  have Hk2 := Lib.hid hk2
  clear a0 a1 a2 a3 a4 hb2 hk2
  go_upto_if 31 with (fail)
  go_cut [8] (fun s8 wx => s8 = .int .i64 (F : Int) ∧ Below w2.heap.size w2 wx)
  case first =>
    by_cases h0 : F0 = 0
    · have hFe : F = FC := by rw [HFF.out, if_pos h0]
      subst h0 hFe
      go_wp2_with fail
      refine (HCf.out _ hbw2).mono ?_
      rintro e w3 ⟨rfl, hb3⟩
      go_wp2_with fail
      go_meet
      exact ⟨rfl, hb3⟩
    · have hFe : F = F0 := by rw [HFF.out, if_neg h0]
      subst hFe
      have h0' : ¬ (F : Int) = 0 := by omega
      have h0b : ((F : Int) == 0) = false := by simp; omega
      clear h0
      go_wp2_with fail
      go_meet
      exact ⟨rfl, Below.refl _ _⟩
  case rest =>
    obtain ⟨rfl, hb3⟩ := hcut
    have hbw3 := hbw2.trans (hb3.mono hbw2.size)
    have hk3 := Hk2.out.below hb3 hwl2
    have hwl3 := hk3.lt
    have a0 := hk3.cell 0 _ rfl
    have a1 := hk3.cell 1 _ rfl
    have a2 := hk3.cell 2 _ rfl
    have a3 := hk3.cell 3 _ rfl
    have a4 := hk3.cell 4 _ rfl
    have a5 := hk3.cell 5 _ rfl
    have Hk3 := Lib.hid hk3
    clear hb3 hk3
    go_wp2_with fail
    refine (HWr.out _ hbw3).mono ?_
    rintro e w4 ⟨v4, n4, rfl, hown4, hb4⟩
    have hbw4 := hbw3.trans (hb4.mono hbw3.size)
    have hk4 := Hk3.out.below hb4 hwl3
    have hwl4 := hk4.lt
    have a0 := hk4.cell 0 _ rfl
    have a1 := hk4.cell 1 _ rfl
    have a2 := hk4.cell 2 _ rfl
    have a3 := hk4.cell 3 _ rfl
    have a4 := hk4.cell 4 _ rfl
    have a5 := hk4.cell 5 _ rfl
    have Hk4 := Lib.hid hk4
    obtain ⟨A5, c5, rfl, _, _, _⟩ := own_rd hown4
    have Hown4 := Lib.hid hown4
    clear hb4 hk4 hown4
    go_upto_region 9 with (fail)
    go_cut [68] (fun s68 wx => s68 = .bool false ∧ Below w4.heap.size w4 wx)
    case first =>
      by_cases h0 : F = 0
      · have HFr0 := Lib.hid (HFr.out h0)
        have Hlf0 := Lib.hid (Hlf.out h0)
        have hown4 := Hown4.out
        rw [if_pos h0] at hown4
        have Hown0 := Lib.hid hown4
        clear hown4
        subst h0
        go_wp2_with fail
        refine (HCk.out _ hbw4).mono ?_
        rintro e w5 ⟨rfl, hb5⟩
        have hbw5 := hbw4.trans (hb5.mono hbw4.size)
        have hk5 := Hk4.out.below hb5 hwl4
        have a0 := hk5.cell 0 _ rfl
        have a1 := hk5.cell 1 _ rfl
        have a2 := hk5.cell 2 _ rfl
        have a3 := hk5.cell 3 _ rfl
        have a4 := hk5.cell 4 _ rfl
        have a5 := hk5.cell 5 _ rfl
        clear hk5
        go_wp2_with fail
        refine (HFr0.out _ hbw5).mono ?_
        rintro e w6 ⟨v6, rfl, S6, hb6⟩
        have hown4 := Hown0.out
        have hb46 := hb5.trans (hb6.mono hb5.size)
        have S4 : SlB w4 w4.heap.size (.slice A5 n4 c5) (frameM ⟨k, s, d, q, t, l⟩) := by
          have h1 := hown4.1
          rw [List.length_map] at h1
          obtain ⟨A', c', he, h2, _, h3⟩ := own_rd hown4
          injection he with e1 e2 e3
          subst e1 e3
          exact ⟨A5, n4, c5, rfl, by omega, h2, fun h => (own_none hown4 h).2, h3⟩
        have HEq := Lib.hid (equal_bytes w6 (.slice A5 n4 c5) v6 w6.heap.size _ _ ((S4.below hb46).more hb46.size) S6 (Nat.le_trans (Hlf0.out).1 (by omega)) (Nat.le_trans (Hlf0.out).1 (by omega)))
        clear S4 S6 hown4
        go_wp2_with fail
        refine HEq.out.mono ?_
        rintro e w7 ⟨he, q7, rfl⟩
        obtain rfl : e = .returned (.bool true) := he.trans (ret_bool (by simp))
        go_wp2_with fail
        go_meet
        exact ⟨rfl, below_drewN hb46 q7⟩
      · have hown4 := Hown4.out
        rw [if_neg h0] at hown4
        have hn4 := hown4.1
        simp at hn4
        subst hn4
        have h0' : ¬ (F : Int) = 0 := by omega
        have h0b : ((F : Int) != 0) = true := by simp; omega
        have h0c : ((F : Int) == 0) = false := by simp; omega
        clear hown4 h0
        go_wp2_with fail
        refine (HCk.out _ hbw4).mono ?_
        rintro e w5 ⟨rfl, hb5⟩
        go_wp2_with fail
        go_meet
        exact ⟨rfl, hb5⟩
    case rest =>
      obtain ⟨rfl, hb5⟩ := hcut
      have hbw5 := hbw4.trans (hb5.mono hbw4.size)
      clear hb5 a0 a1 a2 a3 a4 a5 Hown4 Hk4 Hk3 Hk2 Hk1
      have HU := Lib.hid (unframe_any wc (.slice A1 n1 c1) b ((HV1.out.below hbw5).more hbw5.size) Hb8.out hbl.out)
      obtain ⟨y, hy⟩ : ∃ y, y = unfM b := ⟨_, rfl⟩
      obtain ⟨E, hE⟩ : ∃ E, E = readE0 b := ⟨_, rfl⟩
      unfold UnfPost at HU
      rw [← hy, ← hE] at HU
      have Hy := Lib.hid hy
      have HEe := Lib.hid hE
      clear hy hE
      obtain ⟨k, s, d, q, t, l⟩ := y
      go_wp2_with fail
      refine HU.out.mono ?_
      rintro e w4 ⟨A4, n4, c4, rfl, hat4, hb4⟩
      have hbw4' := hbw5.trans (hb4.mono hbw5.size)
      have hbwA := Lib.hid (hbw4'.alloc hbw4'.size (.cells #[.int .i64 k, .int .i64 s, .int .i64 d, .int .i64 q, .int .u32 t, .slice A4 n4 c4] 25))
      have hb4A : Below w4.heap.size w4 (w4.alloc (.cells #[.int .i64 k, .int .i64 s, .int .i64 d, .int .i64 q, .int .u32 t, .slice A4 n4 c4] 25)) := (Below.refl _ _).alloc (Nat.le_refl _) _
      have HatA := Lib.hid ((hat4.below hb4A).more hb4A.size)
      have HkA := Lib.hid (Blk.new w4 25 #[.int .i64 k, .int .i64 s, .int .i64 d, .int .i64 q, .int .u32 t, .slice A4 n4 c4])
      have HzA := Lib.hid (show (w4.alloc (.cells #[.int .i64 k, .int .i64 s, .int .i64 d, .int .i64 q, .int .u32 t, .slice A4 n4 c4] 25)).heap.size = w4.heap.size + 1 by simp)
      clear hat4 hb4 hb4A hbw4'
      by_cases h0 : E = 0
      · have hE0 : readE0 b = 0 := by rw [← HEe.out]; exact h0
        have hyr : unfM b = readM0 b := by unfold unfM; rw [if_pos hE0]
        have hrE : readE b = msgF ⟨k, s, d, q, t, l⟩ := by unfold readE; rw [if_pos hE0, ← hyr, ← Hy.out]
        have HrE := Lib.hid hrE
        have Hyr := Lib.hid (Hy.out.trans hyr)
        obtain ⟨G0, hG0⟩ : ∃ G0, G0 = msgF0 ⟨k, s, d, q, t, l⟩ := ⟨_, rfl⟩
        obtain ⟨GC, hGC⟩ : ∃ GC, GC = cellsF l := ⟨_, rfl⟩
        have HMF := Lib.hid (msgfault_any (w4.alloc (.cells #[.int .i64 k, .int .i64 s, .int .i64 d, .int .i64 q, .int .u32 t, .slice A4 n4 c4] 25)) ⟨k, s, d, q, t, l⟩ A4 n4 c4 HatA.out.len)
        have HGF := Lib.hid (show readE b = if G0 = 0 then GC else G0 by rw [hrE, hG0, hGC]; rfl)
        rw [← hG0] at HMF
        have HGC := Lib.hid hGC
        subst h0
        clear hE0 hyr hrE hG0 hGC
        go_wp2_with fail
        refine HMF.out.mono ?_
        rintro e w5 ⟨rfl, hb5⟩
        have hzA := HzA.out
        have hkA := HkA.out.below hb5 (by omega)
        have hwlA := hkA.lt
        have g0 := hkA.cell 0 _ rfl
        have g1 := hkA.cell 1 _ rfl
        have g2 := hkA.cell 2 _ rfl
        have g3 := hkA.cell 3 _ rfl
        have g4 := hkA.cell 4 _ rfl
        have g5 := hkA.cell 5 _ rfl
        have hbwB := hbwA.out.trans (hb5.mono hbwA.out.size)
        have HatB := Lib.hid ((HatA.out.below hb5).more hb5.size)
        have HkB := Lib.hid hkA
        clear hb5 hkA hzA
        by_cases h1 : G0 = 0
        · have HFC := Lib.hid (cellsfault_any w5 A4 n4 c4 l HatB.out.len HatB.out.rd)
          rw [← HGC.out] at HFC
          have hr := HGF.out
          rw [if_pos h1] at hr
          have Hr0 := Lib.hid hr
          subst h1
          clear hr
          go_wp2_with fail
          refine HFC.out.mono ?_
          rintro e w6 ⟨rfl, hb6⟩
          have hbwC := hbwB.trans (hb6.mono hbwB.size)
          have hkC := HkB.out.below hb6 hwlA
          have HatC := Lib.hid ((HatB.out.below hb6).more hb6.size)
          have HkC := Lib.hid hkC
          have hwlC := hkC.lt
          clear hb6 hkC g0 g1 g2 g3 g4 g5
          by_cases h2 : GC = 0
          · have hr0 := Hr0.out.trans h2
            obtain ⟨r1, r2, r3, r4⟩ := unf_read hr0
            have hyz : readM b = ⟨k, s, d, q, t, l⟩ := r3.trans Hyr.out.symm
            have HRd := Lib.hid (read_msg w6 (.slice A1 n1 c1) b ((HV1.out.below hbwC).more hbwC.size) Hb8.out hbl.out)
            have Hyz := Lib.hid hyz
            have Hr1 := Lib.hid hr0
            subst h2
            clear r1 r2 r3 r4 hyz hr0
            go_wp2_with fail
            refine HRd.out.mono ?_
            rintro e w7 ⟨A7, n7, c7, he, hat7, hb7⟩
            rw [Hyz.out, Hr1.out] at he
            rw [Hyz.out] at hat7
            subst he
            have hbwD := hbwC.trans (hb7.mono hbwC.size)
            have hkD := HkC.out.below hb7 hwlC
            have hwlD := hkD.lt
            have hb7A : Below w7.heap.size w7 (w7.alloc (.cells #[.int .i64 k, .int .i64 s, .int .i64 d, .int .i64 q, .int .u32 t, .slice A7 n7 c7] 25)) := (Below.refl _ _).alloc (Nat.le_refl _) _
            have hz7 : (w7.alloc (.cells #[.int .i64 k, .int .i64 s, .int .i64 d, .int .i64 q, .int .u32 t, .slice A7 n7 c7] 25)).heap.size = w7.heap.size + 1 := by simp
            have hkE := hkD.alloc (.cells #[.int .i64 k, .int .i64 s, .int .i64 d, .int .i64 q, .int .u32 t, .slice A7 n7 c7] 25)
            have hkZ := Blk.new w7 25 #[.int .i64 k, .int .i64 s, .int .i64 d, .int .i64 q, .int .u32 t, .slice A7 n7 c7]
            have HatE := Lib.hid ((((HatC.out.below hb7).more hb7.size).below hb7A).more hb7A.size)
            have HatZ := Lib.hid ((hat7.below hb7A).more hb7A.size)
            have hbwE := hbwD.alloc hbwD.size (.cells #[.int .i64 k, .int .i64 s, .int .i64 d, .int .i64 q, .int .u32 t, .slice A7 n7 c7] 25)
            have g0 := hkD.cell 0 _ rfl
            have g1 := hkD.cell 1 _ rfl
            have g2 := hkD.cell 2 _ rfl
            have g3 := hkD.cell 3 _ rfl
            have g4 := hkD.cell 4 _ rfl
            have g5 := hkD.cell 5 _ rfl
            have G0' := hkE.cell 0 _ rfl
            have G1' := hkE.cell 1 _ rfl
            have G2' := hkE.cell 2 _ rfl
            have G3' := hkE.cell 3 _ rfl
            have G4' := hkE.cell 4 _ rfl
            have G5' := hkE.cell 5 _ rfl
            have HkE := Lib.hid hkE
            have HkZ := Lib.hid hkZ
            have Hz7 := Lib.hid hz7
            have HbwE := Lib.hid hbwE
            clear hat7 hb7 hkD hb7A hz7 hkE hkZ hbwE
            go_wp2_with fail
            refine (same_any _ ⟨k, s, d, q, t, l⟩ ⟨k, s, d, q, t, l⟩ A4 A7 n4 n7 c4 c7 HatE.out HatZ.out).mono ?_
            rintro e w8 ⟨he, hb8'⟩
            obtain rfl : e = .returned (.bool true) := he.trans (ret_bool (same_refl _))
            have hbw8 := HbwE.out.trans (hb8'.mono HbwE.out.size)
            have hk8 := HkE.out.below hb8' (by have := HkE.out.lt; exact this)
            have hz8 := HkZ.out.below hb8' (by have := HkZ.out.lt; exact this)
            have HatE8 := Lib.hid ((HatE.out.below hb8').more hb8'.size)
            have HatZ8 := Lib.hid ((HatZ.out.below hb8').more hb8'.size)
            have k0 := hk8.cell 0 _ rfl
            have k1 := hk8.cell 1 _ rfl
            have k2 := hk8.cell 2 _ rfl
            have k3 := hk8.cell 3 _ rfl
            have k4 := hk8.cell 4 _ rfl
            have k5 := hk8.cell 5 _ rfl
            have z0 := hz8.cell 0 _ rfl
            have z1 := hz8.cell 1 _ rfl
            have z2 := hz8.cell 2 _ rfl
            have z3 := hz8.cell 3 _ rfl
            have z4 := hz8.cell 4 _ rfl
            have z5 := hz8.cell 5 _ rfl
            clear hb8' hk8 hz8 g0 g1 g2 g3 g4 g5 G0' G1' G2' G3' G4' G5'
            go_wp2_with fail
            refine (same26_any _ ⟨k, s, d, q, t, l⟩ ⟨k, s, d, q, t, l⟩ A4 A7 n4 n7 c4 c7 HatE8.out HatZ8.out).mono ?_
            rintro e w9 ⟨he, hb9⟩
            obtain rfl : e = .returned (.bool true) := he.trans (ret_bool (same_refl _))
            have hbw9 := hbw8.trans (hb9.mono hbw8.size)
            clear k0 k1 k2 k3 k4 k5 z0 z1 z2 z3 z4 z5 hb9
            have HS9 := Lib.hid (show Calls Try.prog 24 #[.slice A1 n1 c1] w9 fun e w' => e = .returned (.int .u32 (crc b : Nat)) ∧ w9 = w' by
              obtain ⟨_, _, _, he, e1, _, _, e4⟩ := HV1.out.below hbw9
              injection he with x1 x2 x3
              subst x1 x2 x3
              exact sum_any w9 _ _ _ w.heap.size b e1 (by rw [← e1]; exact hbl.out) e4 Hb8.out)
            go_wp2_with fail
            refine HS9.out.mono ?_
            rintro e w10 ⟨rfl, rfl⟩
            have HC9 := Lib.hid (show Calls Try.prog 28 #[.slice A1 n1 c1] w9 fun e w' => e = .returned (.int .u32 (crc b : Nat)) ∧ Below w9.heap.size w9 w' by
              obtain ⟨_, _, _, he, e1, _, _, e4⟩ := (HV1.out.below hbw9).more hbw9.size
              injection he with x1 x2 x3
              subst x1 x2 x3
              exact crc_any w9 _ _ _ b e1 (by rw [← e1]; exact hbl.out) e4 Hb8.out)
            go_wp2_with fail
            refine HC9.out.mono ?_
            rintro e w11 ⟨rfl, hb11⟩
            have hbw11 := hbw9.trans (hb11.mono hbw9.size)
            go_wp2
            go_ret
            exact ⟨rfl, hbw11⟩
          · have HE := Lib.hid h2
            have Hr := Hr0
            have h0' : ¬ (GC : Int) = 0 := by omega
            have h0b : ((GC : Int) == 0) = false := by simp; omega
            have h0c : ((GC : Int) != 0) = true := by simp; omega
            clear h2
            have HRd := Lib.hid (fun (w5 : World) (h5 : Below w.heap.size w w5) => read_msg w5 (.slice A1 n1 c1) b ((HV1.out.below h5).more h5.size) Hb8.out hbl.out)
            have hz : readM b = zeroM := by unfold readM; rw [if_neg (by rw [Hr.out]; exact HE.out)]
            have Hz := Lib.hid hz
            clear hz
            go_wp2_with fail
            refine (HRd.out _ hbwC).mono ?_
            rintro e w6 ⟨A6, n6, c6, he, hat6, hb6⟩
            rw [Hz.out, Hr.out] at he
            rw [Hz.out] at hat6
            change e = .returned (.tuple #[.agg #[.int .i64 0, .int .i64 0, .int .i64 0, .int .i64 0, .int .u32 0, .slice A6 n6 c6], .int .i64 (GC : Int)]) at he
            subst he
            have hbw6 := (hbwC).trans (hb6.mono (hbwC).size)
            have hb67 : ∀ X, Below w6.heap.size w6 (w6.alloc X) := fun X => (Below.refl _ _).alloc (Nat.le_refl _) _
            have HSm := Lib.hid (fun X => same_any (w6.alloc X) zeroM zeroM A6 none n6 0 c6 0 ((hat6.below (hb67 X)).more (hb67 X).size) ⟨rfl, Nat.le_refl _, fun _ => ⟨rfl, rfl⟩, by omega, ⟨rfl, fun h => by omega⟩⟩)
            have Hb67 := Lib.hid hb67
            clear hat6 hb6 hb67
            go_wp2_with fail
            refine (HSm.out _).mono ?_
            rintro e w7 ⟨he, hb7⟩
            obtain rfl : e = .returned (.bool true) := he.trans (ret_bool (same_refl _))
            have hbw7 := hbw6.trans (((Hb67.out _).trans (hb7.mono (Hb67.out _).size)).mono hbw6.size)
            go_wp2
            go_ret
            exact ⟨rfl, hbw7⟩
        · have hr := HGF.out
          rw [if_neg h1] at hr
          have Hr := Lib.hid hr
          have HE := Lib.hid h1
          have h0' : ¬ (G0 : Int) = 0 := by omega
          have h0b : ((G0 : Int) == 0) = false := by simp; omega
          have h0c : ((G0 : Int) != 0) = true := by simp; omega
          clear h1 hr
          have HRd := Lib.hid (fun (w5 : World) (h5 : Below w.heap.size w w5) => read_msg w5 (.slice A1 n1 c1) b ((HV1.out.below h5).more h5.size) Hb8.out hbl.out)
          have hz : readM b = zeroM := by unfold readM; rw [if_neg (by rw [Hr.out]; exact HE.out)]
          have Hz := Lib.hid hz
          clear hz
          go_wp2_with fail
          refine (HRd.out _ hbwB).mono ?_
          rintro e w6 ⟨A6, n6, c6, he, hat6, hb6⟩
          rw [Hz.out, Hr.out] at he
          rw [Hz.out] at hat6
          change e = .returned (.tuple #[.agg #[.int .i64 0, .int .i64 0, .int .i64 0, .int .i64 0, .int .u32 0, .slice A6 n6 c6], .int .i64 (G0 : Int)]) at he
          subst he
          have hbw6 := (hbwB).trans (hb6.mono (hbwB).size)
          have hb67 : ∀ X, Below w6.heap.size w6 (w6.alloc X) := fun X => (Below.refl _ _).alloc (Nat.le_refl _) _
          have HSm := Lib.hid (fun X => same_any (w6.alloc X) zeroM zeroM A6 none n6 0 c6 0 ((hat6.below (hb67 X)).more (hb67 X).size) ⟨rfl, Nat.le_refl _, fun _ => ⟨rfl, rfl⟩, by omega, ⟨rfl, fun h => by omega⟩⟩)
          have Hb67 := Lib.hid hb67
          clear hat6 hb6 hb67
          go_wp2_with fail
          refine (HSm.out _).mono ?_
          rintro e w7 ⟨he, hb7⟩
          obtain rfl : e = .returned (.bool true) := he.trans (ret_bool (same_refl _))
          have hbw7 := hbw6.trans (((Hb67.out _).trans (hb7.mono (Hb67.out _).size)).mono hbw6.size)
          go_wp2
          go_ret
          exact ⟨rfl, hbw7⟩
      · have Hr := Lib.hid (show readE b = E from readE_of HEe.out.symm h0)
        have HE := Lib.hid h0
        have h0' : ¬ (E : Int) = 0 := by omega
        have h0b : ((E : Int) == 0) = false := by simp; omega
        have h0c : ((E : Int) != 0) = true := by simp; omega
        clear h0
        have HRd := Lib.hid (fun (w5 : World) (h5 : Below w.heap.size w w5) => read_msg w5 (.slice A1 n1 c1) b ((HV1.out.below h5).more h5.size) Hb8.out hbl.out)
        have hz : readM b = zeroM := by unfold readM; rw [if_neg (by rw [Hr.out]; exact HE.out)]
        have Hz := Lib.hid hz
        clear hz
        go_wp2_with fail
        refine (HRd.out _ hbwA.out).mono ?_
        rintro e w6 ⟨A6, n6, c6, he, hat6, hb6⟩
        rw [Hz.out, Hr.out] at he
        rw [Hz.out] at hat6
        change e = .returned (.tuple #[.agg #[.int .i64 0, .int .i64 0, .int .i64 0, .int .i64 0, .int .u32 0, .slice A6 n6 c6], .int .i64 (E : Int)]) at he
        subst he
        have hbw6 := (hbwA.out).trans (hb6.mono (hbwA.out).size)
        have hb67 : ∀ X, Below w6.heap.size w6 (w6.alloc X) := fun X => (Below.refl _ _).alloc (Nat.le_refl _) _
        have HSm := Lib.hid (fun X => same_any (w6.alloc X) zeroM zeroM A6 none n6 0 c6 0 ((hat6.below (hb67 X)).more (hb67 X).size) ⟨rfl, Nat.le_refl _, fun _ => ⟨rfl, rfl⟩, by omega, ⟨rfl, fun h => by omega⟩⟩)
        have Hb67 := Lib.hid hb67
        clear hat6 hb6 hb67
        go_wp2_with fail
        refine (HSm.out _).mono ?_
        rintro e w7 ⟨he, hb7⟩
        obtain rfl : e = .returned (.bool true) := he.trans (ret_bool (same_refl _))
        have hbw7 := hbw6.trans (((Hb67.out _).trans (hb7.mono (Hb67.out _).size)).mono hbw6.size)
        go_wp2
        go_ret
        exact ⟨rfl, hbw7⟩
end Go.Proofs.Ytbeemdlgjiclcaa.msgTells
