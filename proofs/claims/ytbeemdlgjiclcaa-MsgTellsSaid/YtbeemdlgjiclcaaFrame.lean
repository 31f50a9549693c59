/- The second implementation's Frame, at right messages. Conditions: those typed. -/
import Derived.Test.YtbeemdlgjiclcaaWrite
import Derived.Test.YtbeemdlgjiclcaaBook
namespace Go.Proofs.Ytbeemdlgjiclcaa
open Go.RowKit Go.Gy
set_option linter.unusedVariables false

theorem concat4 (w : World) (u1 u2 u3 u4 : Value) (r1 r2 r3 r4 : List Nat) (h1 : SlB w w.heap.size u1 r1) (h2 : SlB w w.heap.size u2 r2) (h3 : SlB w w.heap.size u3 r3) (h4 : SlB w w.heap.size u4 r4) (hb : r1.length + r2.length + r3.length + r4.length ≤ 1000000000) (k : Nat) (hk : (r1 ++ (r2 ++ (r3 ++ r4))).length = k) :
    Calls Try.prog 69 #[.slice (some ⟨w.heap.size, 0, none⟩) 4 4] (w.alloc (.cells #[u1, u2, u3, u4] 26)) fun e w' => ∃ v, e = .returned v ∧ w'.ownsRow w.heap.size 5 1 v k ((r1 ++ (r2 ++ (r3 ++ r4))).map bv) ∧ Below w.heap.size w w' := by
  have ha : Below w.heap.size w (w.alloc (.cells #[u1, u2, u3, u4] 26)) := (Below.refl _ _).alloc (Nat.le_refl _) _
  have hs := ha.size
  refine (concat_bytes _ _ 4 4 [u1, u2, u3, u4] [r1, r2, r3, r4] rfl (by omega) ?_ ?_ ?_).mono ?_
  · have h := Rd.lit w 26 [u1, u2, u3, u4] 1 4 rfl
    simpa using h
  · exact SlsB.cons ((h1.below ha).more hs) (SlsB.cons ((h2.below ha).more hs) (SlsB.cons ((h3.below ha).more hs) (SlsB.cons ((h4.below ha).more hs) (SlsB.nil _ _))))
  · simp; omega
  · rintro e w' ⟨v, rfl, ho, hb'⟩
    refine ⟨v, rfl, ?_, ha.trans (hb'.mono hs)⟩
    have e : [r1, r2, r3, r4].flatten = r1 ++ (r2 ++ (r3 ++ r4)) := by simp
    rw [e, hk] at ho
    exact own_mono ho hs
set_option maxRecDepth 100000 in
set_option maxHeartbeats 4000000 in
theorem frame_any (w : World) (m : GMsg) (A : Option Addr) (n c : Nat) (hm : MsgAt w w.heap.size m A n c) (hc : 0 ≤ m.clock ∧ m.clock < 4294967296) (hE : msgF m = 0) :
    Calls Try.prog 46 #[msgV m A n c] w (CatPost w (frameM m)) := by
  obtain ⟨i0, hi, hz0, hz1, hz2⟩ := info_parts info_byte
  have hb0 : ∀ X, Below w.heap.size w (w.alloc X) := fun X => (Below.refl _ _).alloc (Nat.le_refl _) _
  have Hl := Lib.hid hm.len
  have Hrd := Lib.hid hm.rd
  obtain ⟨k, s, d, q, t, l⟩ := m
  simp only at hc
  have g0 := msgF0_zero (msgF_zero hE).1
  have H1 := Lib.hid (cellsF_zero (msgF_zero hE).2).2
  have hn : n ≤ 400 := by rw [← Hl.out]; exact (cellsF_zero (msgF_zero hE).2).1
  simp only at g0
  obtain ⟨K, rfl⟩ : ∃ K : Nat, k = (K : Int) := ⟨k.toNat, by omega⟩
  obtain ⟨S, rfl⟩ : ∃ K : Nat, s = (K : Int) := ⟨s.toNat, by omega⟩
  obtain ⟨D, rfl⟩ : ∃ K : Nat, d = (K : Int) := ⟨d.toNat, by omega⟩
  obtain ⟨Q, rfl⟩ : ∃ K : Nat, q = (K : Int) := ⟨q.toNat, by omega⟩
  obtain ⟨T, rfl⟩ : ∃ K : Nat, t = (K : Int) := ⟨t.toNat, by omega⟩
  have k1 : K ≤ 3 := by omega
  have s1 : S ≤ 4 := by omega
  have d1 : D ≤ 4 := by omega
  have q1 : Q ≤ 2147483647 := by omega
  have t1 : T < 4294967296 := by omega
  have HE := Lib.hid hE
  have hw1 : ∃ w1, w1 = w.alloc (.cells #[.int .i64 (K : Int), .int .i64 (S : Int), .int .i64 (D : Int), .int .i64 (Q : Int), .int .u32 (T : Int), .slice A n c] 25) := ⟨_, rfl⟩
  clear hm hE g0 hc
  go_enter Try.func46, Try.ntmps46
  obtain ⟨w1, hw1⟩ := hw1
  have hk0 := Blk.new w 25 #[.int .i64 (K : Int), .int .i64 (S : Int), .int .i64 (D : Int), .int .i64 (Q : Int), .int .u32 (T : Int), .slice A n c]
  have hbw1 := hb0 (.cells #[.int .i64 (K : Int), .int .i64 (S : Int), .int .i64 (D : Int), .int .i64 (Q : Int), .int .u32 (T : Int), .slice A n c] 25)
  have hz1 : w.heap.size + 1 ≤ (w.alloc (.cells #[.int .i64 (K : Int), .int .i64 (S : Int), .int .i64 (D : Int), .int .i64 (Q : Int), .int .u32 (T : Int), .slice A n c] 25)).heap.size := by simp
  have hzz : (w.alloc (.cells #[.int .i64 (K : Int), .int .i64 (S : Int), .int .i64 (D : Int), .int .i64 (Q : Int), .int .u32 (T : Int), .slice A n c] 25)).heap.size = w.heap.size + 1 := by simp
  rw [← hw1] at hk0 hbw1 hz1 hzz
  have HK0 := Lib.hid hk0
  have HZ1 := Lib.hid hz1
  have HZZ := Lib.hid hzz
  have Hbw1 := Lib.hid hbw1
  have Hw1 := Lib.hid hw1
  clear hk0 hz1 hbw1 hw1 hb0 hzz
  go_wp2_with fail
  have hown2 := World.ownsRow_lit (e := 5) (size := 1) (base := w1.heap.size) w1 #[.int .u8 (K : Int), .int .u8 (S : Int), .int .u8 (D : Int)] 3 (Nat.le_refl _) (by decide) rfl
  rw [show (#[Value.int .u8 (K : Int), .int .u8 (S : Int), .int .u8 (D : Int)] : Array Value).toList = [K, S, D].map bv from rfl] at hown2
  have hb12 : Below w1.heap.size w1 (w1.alloc (.cells #[.int .u8 (K : Int), .int .u8 (S : Int), .int .u8 (D : Int)] 5)) := (Below.refl _ _).alloc (Nat.le_refl _) _
  rw [HZZ.out, Hw1.out] at hown2
  rw [Hw1.out] at hb12
  generalize ((w.alloc (.cells #[.int .i64 (K : Int), .int .i64 (S : Int), .int .i64 (D : Int), .int .i64 (Q : Int), .int .u32 (T : Int), .slice A n c] 25)).alloc (.cells #[.int .u8 (K : Int), .int .u8 (S : Int), .int .u8 (D : Int)] 5)) = w2 at hown2 hb12 ⊢
  rw [← Hw1.out] at hb12
  have hS : ∀ w', Below w1.heap.size w1 w' → (w'.cell? ⟨w.heap.size, 3, none⟩ = some (.int .i64 (Q : Int)) ∧ w'.cell? ⟨w.heap.size, 4, none⟩ = some (.int .u32 (T : Int)) ∧ w'.cell? ⟨w.heap.size, 5, none⟩ = some (.slice A n c) ∧ Below w1.heap.size w1 w') := fun w' h =>
    ⟨(HK0.out.below h HZ1.out).cell 3 _ rfl, (HK0.out.below h HZ1.out).cell 4 _ rfl, (HK0.out.below h HZ1.out).cell 5 _ rfl, h⟩
  have h4 : ∀ (x : Nat), x < 4294967296 → ∀ w', Below w1.heap.size w1 w' → Calls Try.prog 90 #[.int .u64 (x : Int), .int .i64 4] w' fun e w'' => ∃ g c, e = .returned (.slice (some ⟨g, 0, none⟩) 4 c) ∧ SlB w'' w''.heap.size (.slice (some ⟨g, 0, none⟩) 4 c) (be4 x) ∧ Below w1.heap.size w1 w'' ∧ Below w'.heap.size w' w'' := fun x hx w' h =>
    (rbytes4 w' x hx).mono fun e w'' ⟨v, h1, h2, h3⟩ => by
      have h2' : w''.ownsRow w'.heap.size 5 1 v 4 ((be4 x).map bv) := h2
      obtain ⟨g, c, rfl, _, _, _⟩ := own_shape h2' (by omega)
      exact ⟨g, c, h1, SlB.own h2', h.trans (h3.mono h.size), h3⟩
  have h2 : ∀ (x : Nat), x < 4294967296 → ∀ w', Below w1.heap.size w1 w' → Calls Try.prog 90 #[.int .u64 (x : Int), .int .i64 2] w' fun e w'' => ∃ g c, e = .returned (.slice (some ⟨g, 0, none⟩) 2 c) ∧ SlB w'' w''.heap.size (.slice (some ⟨g, 0, none⟩) 2 c) (be2 x) ∧ Below w1.heap.size w1 w'' ∧ Below w'.heap.size w' w'' := fun x hx w' h =>
    (rbytes2 w' x hx).mono fun e w'' ⟨v, h1, h2, h3⟩ => by
      have h2' : w''.ownsRow w'.heap.size 5 1 v 2 ((be2 x).map bv) := h2
      obtain ⟨g, c, rfl, _, _, _⟩ := own_shape h2' (by omega)
      exact ⟨g, c, h1, SlB.own h2', h.trans (h3.mono h.size), h3⟩
  have hR0 : SlB w2.drew w2.heap.size (.slice (some ⟨w.heap.size + 1, 0, none⟩) 3 3) [K, S, D] := SlB.own hown2
  have HS := Lib.hid hS
  have H4 := Lib.hid h4
  have H2 := Lib.hid h2
  have HB12 := Lib.hid hb12
  have HR0 := Lib.hid hR0
  clear hS h4 h2 hb12 hown2 hR0
  have hqw : IntKind.u64.wrap (Q : Int) = (Q : Int) := IntWalk.u64_in _ (by omega)
  have htw : IntKind.u64.wrap (T : Int) = (T : Int) := IntWalk.u64_in _ (by omega)
  have hnw : IntKind.u64.wrap (n : Int) = (n : Int) := IntWalk.u64_in _ (by omega)
  go_region_held3 (fun w' => w'.cell? ⟨w.heap.size, 3, none⟩ = some (.int .i64 (Q : Int)) ∧ w'.cell? ⟨w.heap.size, 4, none⟩ = some (.int .u32 (T : Int)) ∧ w'.cell? ⟨w.heap.size, 5, none⟩ = some (.slice A n c) ∧ Below w1.heap.size w1 w')
    (first | exact HS.out _ (by assumption) | exact HS.out _ HB12.out.drew | exact HS.out _ HB12.out | exact HS.out _ (hbn.alloc hbn.size _))
    (first
      | (go_at_call_of 90 (Value.int .u64 (Q : Int)); refine (H4.out Q (by omega) _ (by first | assumption | exact HB12.out.drew)).mono ?_; rintro e w3 ⟨g3, c3, rfl, S3, hbn, hb3⟩; have R3 := (HR0.out.below hb3).more hb3.size)
      | (go_at_call_of 90 (Value.int .u64 (T : Int)); refine (H4.out T (by omega) _ (by first | assumption | exact HB12.out.drew)).mono ?_; rintro e w4 ⟨g4, c4, rfl, S4, hbn, hb4⟩; have R4 := (R3.below hb4).more hb4.size; have S3 := (S3.below hb4).more hb4.size)
      | (go_at_call_of 90 (Value.int .u64 (n : Int)); refine (H2.out n (by omega) _ (by first | assumption | exact HB12.out.drew)).mono ?_; rintro e w5 ⟨g5, c5, rfl, S5, hbn, hb5⟩; have R5 := (R4.below hb5).more hb5.size; have S3 := (S3.below hb5).more hb5.size; have S4 := (S4.below hb5).more hb5.size)
      | (go_at_call 69; refine (concat4 w5 _ _ _ _ [K, S, D] (be4 Q) (be4 T) (be2 n) R5 S3 S4 S5 (by simp [be4, be2]) 13 (by simp [be4, be2])).mono ?_; rintro e w6 ⟨v6, rfl, hown6, hb6⟩; have hz5 := hbn.size; have hbn := hbn.trans (hb6.mono hbn.size); obtain ⟨g6, c6, rfl, _, _, _⟩ := own_shape hown6 (by omega)))
  clear hqw htw hnw
  have a5 := (HK0.out.below hbn HZ1.out).cell 5 _ rfl
  obtain ⟨hd, hhd⟩ : ∃ hd : List Nat, hd = [K, S, D] ++ (be4 Q ++ (be4 T ++ be2 n)) := ⟨_, rfl⟩
  rw [← hhd] at hown6
  have hhead : headM ⟨(K : Int), (S : Int), (D : Int), (Q : Int), (T : Int), l⟩ = hd ++ l.flatMap cellB := by
    rw [hhd]
    simp [headM, ← Hl.out]
  have hst := Lib.hid (show WrRel w1.heap.size n w1 hd l (.slice (some ⟨g6, 0, none⟩) 13 c6) (.int .i64 0) w6 from ⟨0, 13, g6, c6, Nat.zero_le _, rfl, rfl, rfl, by simpa using own_mono hown6 hz5, hbn⟩)
  have Hhead := Lib.hid hhead
  clear hhd hhead hown6 hb3 S3 R3 hb4 R4 S4 hb5 R5 S5 hb6
  go_wp2
  go_loopw [3, 35] (fun v i wr => WrRel w1.heap.size n w1 hd l v i wr) (fun _ i _ => n - (intOf i).toNat)
  case atStart => exact hst.out
  case round =>
    obtain ⟨k, nn, g, cc, hk, rfl, hnn, rfl, hown, hbr⟩ := hrel
    have hbase := hbr.size
    have hnn' : nn ≤ 813 := by omega
    by_cases hlt : k < n
    · obtain ⟨b, o, f, rfl, hbB, hf, hcl⟩ := (Hrd.out.below (Hbw1.out.trans (hbr.mono (by have := HZ1.out; omega)))).elem encC_len Hl.out hlt
      obtain ⟨x, y⟩ := f
      have c0 : wr.cell? ⟨b, o + k * 2, none⟩ = some (.int .i64 x) := hcl 0 _ rfl
      have c1 : wr.cell? ⟨b, o + k * 2 + 1, none⟩ = some (.int .i64 y) := hcl 1 _ rfl
      obtain ⟨x1, x2, y1, y2⟩ := H1.out (x, y) (List.mem_of_getElem? hf)
      simp only at x1 x2 y1 y2
      have hlt' : (k : Int) < (n : Int) := by omega
      have HL := Lib.hid (cell_lits (hd := hd) hf ⟨x1, x2⟩ ⟨y1, y2⟩)
      have Hnn := Lib.hid hnn
      clear hcl hf hnn a5
      go_wp2_with (at_builtin; refine wpList_lits rfl (.tmp 39) (.tmp 48) 26 rfl w1.heap.size 5 i0 (.int .u8 0) 1 1 Try.underlying26 hi hz0 hz1 hz2 rfl (by omega) _ nn _ rfl (hown.alloc _) [.int .u8 (x + 64), .int .u8 (y + 64)] 2 (wr.heap.size + 1) (by simp) rfl rfl (by omega) (by simp [Value.oneCell']) (nn + 2) rfl (by unfold maxLen; omega) (by omega) (by simp; omega) ?_; intro v8 w8 hown8 hb8 hs8; obtain ⟨g8, c8, rfl, _, _⟩ := hs8)
      go_roundw
      case rel => exact ⟨k + 1, nn + 2, g8, c8, by omega, by go_num, by rw [Hnn.out]; omega, rfl, by rw [← HL.out]; exact hown8, (hbr.alloc hbase _).trans hb8⟩
      case measure => simp [intOf]; omega
    · obtain rfl : k = n := by omega
      rw [List.take_of_length_le (by rw [Hl.out]; omega), ← Hhead.out] at hown
      obtain ⟨hL, hLd⟩ : ∃ L, L = headM ⟨(K : Int), (S : Int), (D : Int), (Q : Int), (T : Int), l⟩ := ⟨_, rfl⟩
      rw [← hLd] at hown
      have HLd := Lib.hid hLd
      have h8 := Lib.hid (show ∀ z ∈ hL, z < 256 by rw [hLd]; exact headM_lt (msgF_zero HE.out).1)
      have hlen : hL.length = nn := by have := hown.1; simpa using this
      have HS0 := Lib.hid (SlB.own (r := hL) hown)
      have HC := Lib.hid (crc_slice wr _ hL HS0.out (by omega) h8.out)
      have hcrc := crc_lt hL h8.out
      obtain ⟨r, hr⟩ : ∃ r, r = crc hL := ⟨_, rfl⟩
      rw [← hr] at HC hcrc
      have Hr := Lib.hid hr
      have Hlen := Lib.hid (show hL.length ≤ 1000 by omega)
      clear hlen hnn hr hLd a5 hown
      go_wp2_with fail
      refine HC.out.mono ?_
      rintro e w9 ⟨rfl, hb9⟩
      have S9 := Lib.hid ((HS0.out.below hb9).more hb9.size)
      have hbr9 := hbr.trans (hb9.mono hbase)
      go_wp2_with fail
      refine (rbytes4 _ r hcrc).mono ?_
      rintro e w10 ⟨v10, rfl, hown10, hb10⟩
      have hown10 : w10.ownsRow w9.heap.size 5 1 v10 4 ((be4 r).map bv) := hown10
      obtain ⟨g10, c10, rfl, _, _, _⟩ := own_shape hown10 (by omega)
      have S10 := Lib.hid (SlB.own (r := be4 r) hown10)
      have S11 := Lib.hid ((S9.out.below hb10).more hb10.size)
      have hbr10 := hbr9.trans (hb10.mono hbr9.size)
      clear hown10
      go_wp2_with fail
      refine (concat2 w10 _ _ hL (be4 r) S11.out S10.out (by have := Hlen.out; simp [be4]; omega)).mono ?_
      rintro e w12 ⟨v12, rfl, S12, hb12⟩
      have hbr12 := hbr10.trans (hb12.mono hbr10.size)
      obtain ⟨A12, n12, c12, rfl, _⟩ := id S12
      have HS12 := Lib.hid S12
      clear S12
      go_wp2
      go_ret
      refine ⟨_, rfl, ?_, Hbw1.out.trans (hbr12.mono (by have := HZ1.out; omega))⟩
      unfold frameM
      rw [← HLd.out, ← Hr.out]
      exact HS12.out
end Go.Proofs.Ytbeemdlgjiclcaa
