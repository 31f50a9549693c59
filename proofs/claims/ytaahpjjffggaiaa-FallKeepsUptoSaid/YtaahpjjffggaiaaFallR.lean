/- fall.Read. Conditions: those typed. -/
import Derived.Test.YtaahpjjffggaiaaFallW
import Derived.Test.YtaahpjjffggaiaaReadA
import Derived.Test.YtaahpjjffggaiaaRefBytes
import Derived.Deep.RegionHeld3
import Derived.Laws.BitsAllLaws
import Derived.Laws.BitsLemmas
namespace Go.Proofs.Ytaahpjjffggaiaa
open Go.RowKit Go.Gy
set_option linter.unusedVariables false
abbrev zeroE : GEv := ⟨0, 0, []⟩
def readF0 (b : List Nat) : GEv := ⟨(b.getD 0 0 : Nat), (numAt b 1 : Nat), cellsOf (b.drop 5)⟩
def readFE (b : List Nat) : Nat := if b.length < 5 then 14 else if b.length % 2 = 0 then 3 else checkF (readF0 b)
def readF (b : List Nat) : GEv := if readFE b = 0 then readF0 b else zeroE
def ReadFPost (w : World) (b : List Nat) (e : Ending) (w' : World) : Prop := ∃ A n c, e = .returned (.tuple #[evV (readF b) A n c, .int .i64 ((readFE b : Nat) : Int)]) ∧ SlC w' w'.heap.size (.slice A n c) (readF b).cells ∧ n ≤ 70368744177664 ∧ Below w.heap.size w w'
theorem SlC.nil (w : World) (B : Nat) : SlC w B (.slice none 0 0) [] := ⟨none, 0, 0, rfl, rfl, Nat.le_refl _, fun _ => rfl, ⟨rfl, fun h => by omega⟩⟩
theorem ReadFPost.bad {w w' : World} {b : List Nat} {x : Nat} (h : readFE b = x) (hx : x ≠ 0) (hb : Below w.heap.size w w') : ReadFPost w b (.returned (.tuple #[.agg #[.int .i64 0, .int .i64 0, .slice none 0 0], .int .i64 (x : Int)])) w' := by
  have hm : readF b = zeroE := by unfold readF; rw [if_neg (by omega)]
  refine ⟨none, 0, 0, ?_, ?_, by decide, hb⟩
  · rw [hm, h]
  · rw [hm]; exact SlC.nil _ _
def FrRel (w1 : World) (Bx : Nat) (b : List Nat) (x0 V G N : Nat) (i : Value) (wr : World) : Prop := ∃ j k A2 c2, j = 5 + 2 * k ∧ k ≤ N ∧ i = .int .i64 (j : Nat) ∧ Blk wr G 48 #[.int .i64 (x0 : Int), .int .i64 (V : Int), .slice A2 k c2] ∧ wr.ownsRow Bx 24 2 (.slice A2 k c2) k ((cellsOf ((b.drop 5).take (2 * k))).flatMap encC) ∧ Below w1.heap.size w1 wr ∧ Bx ≤ wr.heap.size
theorem ofInt_i64' (a : Nat) (ha : a < 9223372036854775808) : (BitVec.ofInt 64 (a : Int)).toNat = a := by
  rw [BitVec.ofInt_natCast, BitVec.toNat_ofNat]; exact Nat.mod_eq_of_lt (by omega)
theorem i64_or_nat' (a b : Nat) (ha : a < 9223372036854775808) (hb : b < 9223372036854775808) : bits .or .i64 (a : Int) (b : Int) = ((a ||| b : Nat) : Int) := by
  have hx : a ||| b < 2 ^ 63 := Nat.or_lt_two_pow (by omega) (by omega)
  show IntKind.i64.wrap ((BitVec.ofInt 64 (a : Int) ||| BitVec.ofInt 64 (b : Int)).toNat : Int) = _
  rw [BitVec.toNat_or, ofInt_i64' a ha, ofInt_i64' b hb, IntKind.wrap_i64]
  omega
theorem or_add (m k x : Nat) (hx : x < 2 ^ k) : (2 ^ k * m) ||| x = 2 ^ k * m + x := (Nat.two_pow_add_eq_or_of_lt hx m).symm
set_option maxRecDepth 100000 in
set_option maxHeartbeats 4000000 in
theorem fread_any (w : World) (v : Value) (b : List Nat) (hv : SlB w w.heap.size v b) (h8 : ∀ x ∈ b, x < 256) (hn : b.length ≤ 10000000000000) :
    Calls Try.prog 34 #[v] w (ReadFPost w b) := by
  obtain ⟨A, n, c, rfl, hbl, hnc, hA, hr⟩ := id hv
  rw [hbl] at hn
  have Hbl := Lib.hid hbl
  have H8 := Lib.hid h8
  have Hv := Lib.hid hv
  have hk0 := Lib.hid (Blk.new w 48 #[.int .i64 0, .int .i64 0, .slice none 0 0])
  have Hb0 := Lib.hid ((Below.refl w.heap.size w).alloc (Nat.le_refl _) (.cells #[.int .i64 0, .int .i64 0, .slice none 0 0] 48))
  clear hbl h8 hv
  by_cases h5 : n < 5
  · have hE := Lib.hid (show readFE b = 14 by unfold readFE; rw [Hbl.out, if_pos h5])
    have h5' : (n : Int) < 5 := by omega
    clear hr hA
    go_enter Try.func34, Try.ntmps34
    go_wp2
    refine bodyPost_ret (results_cell_two Try.results34 _ _ w.heap.size 48 _ (0, 0) _ _ rfl rfl hk0.out Try.underlying48 rfl (by kernel_rfl)) rfl ?_
    exact ReadFPost.bad (x := 14) hE.out (by decide) Hb0.out
  by_cases hp : n % 2 = 0
  · have hE := Lib.hid (show readFE b = 3 by unfold readFE; rw [Hbl.out, if_neg h5, if_pos hp])
    have h5' : ¬ (n : Int) < 5 := by omega
    have hp' : (n : Int) % 2 = 0 := by omega
    clear hr hA hp h5
    go_enter Try.func34, Try.ntmps34
    go_wp2
    refine bodyPost_ret (results_cell_two Try.results34 _ _ w.heap.size 48 _ (0, 0) _ _ rfl rfl hk0.out Try.underlying48 rfl (by kernel_rfl)) rfl ?_
    exact ReadFPost.bad (x := 3) hE.out (by decide) Hb0.out
  · have h5' : ¬ (n : Int) < 5 := by omega
    have hp' : ((n : Int) % 2 == 0) = false := by simp; omega
    have hp'' : ¬ (n : Int) % 2 = 0 := by omega
    obtain ⟨g, o, rfl⟩ : ∃ g o, A = some ⟨g, o, none⟩ := by
      obtain ⟨g, o, _, h, _⟩ := hr.at_ (show 0 < n by omega)
      exact ⟨g, o, h⟩
    obtain ⟨N, hN⟩ : ∃ N, n = 5 + 2 * N := ⟨(n - 5) / 2, by omega⟩
    have HN := Lib.hid hN
    have hw0 := hk0.out.lt
    have Hwb : ∀ w', Below w.heap.size w w' → ∃ x0 x1 x2 x3 x4 : Nat, (b[0]? = some x0 ∧ b[1]? = some x1 ∧ b[2]? = some x2 ∧ b[3]? = some x3 ∧ b[4]? = some x4) := fun w' hb => by
      obtain ⟨x0, h0, _⟩ := (Hv.out.below hb).byte (k := 0) (by omega)
      obtain ⟨x1, h1, _⟩ := (Hv.out.below hb).byte (k := 1) (by omega)
      obtain ⟨x2, h2, _⟩ := (Hv.out.below hb).byte (k := 2) (by omega)
      obtain ⟨x3, h3, _⟩ := (Hv.out.below hb).byte (k := 3) (by omega)
      obtain ⟨x4, h4, _⟩ := (Hv.out.below hb).byte (k := 4) (by omega)
      exact ⟨x0, x1, x2, x3, x4, h0, h1, h2, h3, h4⟩
    obtain ⟨x0, x1, x2, x3, x4, hx0, hx1, hx2, hx3, hx4⟩ := Hwb w (Below.refl _ _)
    have hy0 := H8.out x0 (List.mem_of_getElem? hx0)
    have hy1 := H8.out x1 (List.mem_of_getElem? hx1)
    have hy2 := H8.out x2 (List.mem_of_getElem? hx2)
    have hy3 := H8.out x3 (List.mem_of_getElem? hx3)
    have hy4 := H8.out x4 (List.mem_of_getElem? hx4)
    have hgw : g < w.heap.size := by
      obtain ⟨_, _, hgg, _⟩ := Hv.out.byte (k := 0) (by omega)
      exact hgg
    have HC5 := Lib.hid (show ∀ w', Below w.heap.size w w' → (w'.cell? ⟨g, o, none⟩ = some (.int .u8 (x0 : Int)) ∧ w'.cell? ⟨g, o + 1, none⟩ = some (.int .u8 (x1 : Int)) ∧ w'.cell? ⟨g, o + 2, none⟩ = some (.int .u8 (x2 : Int)) ∧ w'.cell? ⟨g, o + 3, none⟩ = some (.int .u8 (x3 : Int)) ∧ w'.cell? ⟨g, o + 4, none⟩ = some (.int .u8 (x4 : Int)) ∧ Below w.heap.size w w') from fun w' hb => by
      obtain ⟨z0, h0, _, c0⟩ := (Hv.out.below hb).byte (k := 0) (by omega)
      obtain ⟨z1, h1, _, c1⟩ := (Hv.out.below hb).byte (k := 1) (by omega)
      obtain ⟨z2, h2, _, c2⟩ := (Hv.out.below hb).byte (k := 2) (by omega)
      obtain ⟨z3, h3, _, c3⟩ := (Hv.out.below hb).byte (k := 3) (by omega)
      obtain ⟨z4, h4, _, c4⟩ := (Hv.out.below hb).byte (k := 4) (by omega)
      rw [h0] at hx0; rw [h1] at hx1; rw [h2] at hx2; rw [h3] at hx3; rw [h4] at hx4
      injection hx0 with hx0; injection hx1 with hx1; injection hx2 with hx2; injection hx3 with hx3; injection hx4 with hx4
      subst hx0 hx1 hx2 hx3 hx4
      exact ⟨c0, c1, c2, c3, c4, hb⟩)
    have HX := Lib.hid (And.intro hx0 (And.intro hx1 (And.intro hx2 (And.intro hx3 hx4))))
    clear hx0 hx1 hx2 hx3 hx4 Hwb hr hA hN h5 hp
    have i0 : (0 : Int) < (n : Int) := by omega
    have i0' : 0 < n := by omega
    have i1 : (1 : Int) < (n : Int) := by omega
    have i2 : (2 : Int) < (n : Int) := by omega
    have i3 : (3 : Int) < (n : Int) := by omega
    have i4 : (4 : Int) < (n : Int) := by omega
    go_enter Try.func34, Try.ntmps34
    go_wp2_with fail
    have hk0 := hk0
    have Hb0 := Hb0
    change Code.wp _ _ _ _ (w.alloc (.cells #[.int .i64 0, .int .i64 0, .slice none 0 0] 48))
    generalize w.alloc (.cells #[.int .i64 0, .int .i64 0, .slice none 0 0] 48) = w1 at hk0 Hb0 hw0 ⊢
    go_region_held3 (fun w' => w'.cell? ⟨g, o, none⟩ = some (.int .u8 (x0 : Int)) ∧ w'.cell? ⟨g, o + 1, none⟩ = some (.int .u8 (x1 : Int)) ∧ w'.cell? ⟨g, o + 2, none⟩ = some (.int .u8 (x2 : Int)) ∧ w'.cell? ⟨g, o + 3, none⟩ = some (.int .u8 (x3 : Int)) ∧ w'.cell? ⟨g, o + 4, none⟩ = some (.int .u8 (x4 : Int)) ∧ Below w.heap.size w w')
        (first | exact HC5.out _ (by assumption) | exact HC5.out _ (Hb0.out.drew) | exact HC5.out _ ((Hb0.out.alloc (Nat.le_of_lt hw0) _).drew) | exact HC5.out _ (((Hb0.out.alloc (Nat.le_of_lt hw0) _).setCell (Nat.le_of_lt hw0) _).drew))
        (fail)
    have hval : bits BinOp.or IntKind.i64 (bits BinOp.or IntKind.i64 (bits BinOp.or IntKind.i64 (IntKind.i64.wrap (IntKind.i64.wrap (x1 : Int) * 16777216)) (IntKind.i64.wrap (IntKind.i64.wrap (x2 : Int) * 65536))) (IntKind.i64.wrap (IntKind.i64.wrap (x3 : Int) * 256))) (IntKind.i64.wrap (x4 : Int)) = ((numAt b 1 : Nat) : Int) := by
      rw [IntWalk.i64_in (x1 : Int) (by omega), IntWalk.i64_in (x2 : Int) (by omega), IntWalk.i64_in (x3 : Int) (by omega), IntWalk.i64_in (x4 : Int) (by omega),
        IntWalk.i64_in ((x1 : Int) * 16777216) (by omega), IntWalk.i64_in ((x2 : Int) * 65536) (by omega), IntWalk.i64_in ((x3 : Int) * 256) (by omega)]
      rw [show (x1 : Int) * 16777216 = ((16777216 * x1 : Nat) : Int) by omega, show (x2 : Int) * 65536 = ((65536 * x2 : Nat) : Int) by omega, show (x3 : Int) * 256 = ((256 * x3 : Nat) : Int) by omega]
      have o1 : (16777216 * x1) ||| (65536 * x2) = 65536 * (256 * x1 + x2) := by
        have := or_add x1 24 (65536 * x2) (by omega)
        rw [show (2 : Nat) ^ 24 = 16777216 by rfl] at this
        omega
      have o2 : (65536 * (256 * x1 + x2)) ||| (256 * x3) = 256 * (65536 * x1 + 256 * x2 + x3) := by
        have := or_add (256 * x1 + x2) 16 (256 * x3) (by omega)
        rw [show (2 : Nat) ^ 16 = 65536 by rfl] at this
        omega
      have o3 : (256 * (65536 * x1 + 256 * x2 + x3)) ||| x4 = 256 * (65536 * x1 + 256 * x2 + x3) + x4 := by
        have := or_add (65536 * x1 + 256 * x2 + x3) 8 x4 (by omega)
        rw [show (2 : Nat) ^ 8 = 256 by rfl] at this
        omega
      rw [i64_or_nat' _ _ (by omega) (by omega), o1, i64_or_nat' _ _ (by omega) (by omega), o2, i64_or_nat' _ _ (by omega) (by omega), o3]
      have e : (b.drop 1).take 4 = [x1, x2, x3, x4] := by
        obtain ⟨_, h1, h2, h3, h4⟩ := HX.out
        apply List.ext_getElem?
        intro i
        rw [List.getElem?_take]
        match i with
        | 0 => simpa using h1
        | 1 => simpa using h2
        | 2 => simpa using h3
        | 3 => simpa using h4
        | i + 4 => simp; omega
      unfold numAt
      rw [e]
      simp [valN]
      omega
    have e0 : IntKind.i64.wrap (x0 : Int) = x0 := IntWalk.i64_in _ (by omega)
    go_wp2_with fail
    simp only [hval, e0]
    clear hval e0
    obtain ⟨V, hV⟩ : ∃ V, V = numAt b 1 := ⟨_, rfl⟩
    have hV32 : V < 4294967296 := by rw [hV]; exact numAt_lt H8.out 1
    rw [← hV]
    have HV := Lib.hid hV
    clear hV
    obtain ⟨wc, hwc⟩ : ∃ wc, wc = (w1.alloc (.cells #[.int .i64 (x0 : Int), .int .i64 (V : Int), .slice none 0 0] 48)).drew := ⟨_, rfl⟩
    have hG : Blk wc w1.heap.size 48 #[.int .i64 (x0 : Int), .int .i64 (V : Int), .slice none 0 0] := by rw [hwc]; exact (Blk.new w1 _ _).drew
    have hbx : Below w1.heap.size w1 wc := by rw [hwc]; exact ((Below.refl _ _).alloc (Nat.le_refl _) _).drew
    have hst := Lib.hid (show FrRel w1 wc.heap.size b x0 V w1.heap.size N (.int .i64 5) wc from ⟨5, 0, none, 0, rfl, Nat.zero_le _, rfl, hG, by simpa [cellsOf] using World.ownsRow_nil _ _ _ _, hbx, Nat.le_refl _⟩)
    have hGx := hG.lt
    rw [← hwc]
    obtain ⟨j0, hj, hy0', hy1', hy2'⟩ := info_parts info_cell
    have h13 := Lib.hid (show ∀ k, k < N → ∃ z1 z2 : Nat, z1 < 256 ∧ z2 < 256 ∧ (b.drop 5)[2 * k]? = some z1 ∧ (b.drop 5)[2 * k + 1]? = some z2 ∧ w.cell? ⟨g, o + (5 + 2 * k), none⟩ = some (.int .u8 (z1 : Int)) ∧ w.cell? ⟨g, o + (5 + 2 * k + 1), none⟩ = some (.int .u8 (z2 : Int)) from fun k hk => by
         have := HN.out
         obtain ⟨z1, hz1, _, hd1⟩ := Hv.out.byte (k := 5 + 2 * k) (by omega)
         obtain ⟨z2, hz2, _, hd2⟩ := Hv.out.byte (k := 5 + 2 * k + 1) (by omega)
         exact ⟨z1, z2, H8.out _ (List.mem_of_getElem? hz1), H8.out _ (List.mem_of_getElem? hz2), by rw [List.getElem?_drop]; exact hz1, by rw [List.getElem?_drop, show 5 + (2 * k + 1) = 5 + 2 * k + 1 by omega]; exact hz2, hd1, hd2⟩)
    have hzw := Hb0.out.size
    clear hG hbx hwc
    go_loopw [5] (fun i wr => FrRel w1 wc.heap.size b x0 V w1.heap.size N i wr) (fun i _ => n - (intOf i).toNat)
    case atStart => exact hst.out
    case round =>
      obtain ⟨j, k, A2, c2, hj5, hk, rfl, hG, hown, hbr, hbz⟩ := hrel
      have hnN := HN.out
      by_cases hlt : k < N
      · obtain ⟨z1, z2, hz1, hz2, hf1, hf2, hd1, hd2⟩ := h13.out k hlt
        rw [← hj5] at hd1 hd2
        have hjn : j + 1 < n := by omega
        have Hj5 := Lib.hid hj5
        have hk7 := hG.cell 2 _ rfl
        have hkf := hG.free 2
        have hzr := hbr.size
        have hbw := Lib.hid (Hb0.out.trans (hbr.mono hzw))
        have d1 : wr.cell? ⟨g, o + j, none⟩ = some (.int .u8 (z1 : Int)) := (hbw.out.cell (p := ⟨g, o + j, none⟩) hgw).trans hd1
        have d2 : wr.cell? ⟨g, o + (j + 1), none⟩ = some (.int .u8 (z2 : Int)) := (hbw.out.cell (p := ⟨g, o + (j + 1), none⟩) hgw).trans hd2
        have HGb := Lib.hid hG
        have Hown := Lib.hid hown
        have Hbr := Lib.hid hbr
        have Hlst := Lib.hid (cellsOf_snoc k (b.drop 5) z1 z2 hf1 hf2)
        have q1 : (0 : Int) ≤ (j : Int) + 1 := by omega
        have q2 : (0 : Int) ≤ (j : Int) := by omega
        have q3 : (j : Int) < (n : Int) := by omega
        have q4 : (j : Int) + 1 < (n : Int) := by omega
        have q6 : ((j : Int) + 1).toNat = j + 1 := by omega
        have q8 : IntKind.i64.wrap ((j : Int) + 1) = (j : Int) + 1 := IntWalk.i64_in _ (by omega)
        have r1 : IntKind.i64.wrap (z1 : Int) = (z1 : Int) := IntWalk.i64_in _ (by omega)
        have r2 : IntKind.i64.wrap (z2 : Int) = (z2 : Int) := IntWalk.i64_in _ (by omega)
        have r3 : IntKind.i64.wrap ((z1 : Int) - 64) = (z1 : Int) - 64 := IntWalk.i64_in _ (by omega)
        have r4 : IntKind.i64.wrap ((z2 : Int) - 64) = (z2 : Int) - 64 := IntWalk.i64_in _ (by omega)
        have p1 : k + 1 ≤ maxLen := by unfold maxLen; omega
        have p2 : (k + 1) * 16 ≤ 140737488355328 := by omega
        have hk8 := (hG.alloc (.cells #[.int .i64 ((z1 : Int) - 64), .int .i64 ((z2 : Int) - 64)] 24)).cell 2 _ rfl
        have HQ := Lib.hid (And.intro q6 (And.intro q8 (And.intro r1 (And.intro r2 (And.intro r3 r4)))))
        clear hG hown hbr hf1 hf2 hd1 hd2 hnN hj5 q6 q8 r1 r2 r3 r4
        go_wp2_with fail
        obtain ⟨q6, q8, r1, r2, r3, r4⟩ := HQ.out
        go_region_law (first | (refine step_extend (by rfl) (.tmp 50) (.tmp 65) 25 (by rfl) wc.heap.size 24 j0 (.agg #[.int .i64 0, .int .i64 0]) 2 16 Try.underlying25 hj hy0' hy1' hy2' rfl (by decide) _ k _ (by rfl) (by first | exact (Hown.out.alloc _).drew | exact Hown.out.alloc _) ⟨wr.heap.size, 0, none⟩ 1 1 (wr.heap.size + 1) [.int .i64 ((z1 : Int) - 64), .int .i64 ((z2 : Int) - 64)] (by rfl) (by decide) (by first | exact (Rd.lit wr 24 [.int .i64 ((z1 : Int) - 64), .int .i64 ((z2 : Int) - 64)] 2 1 rfl).drew | exact (Rd.lit wr 24 [.int .i64 ((z1 : Int) - 64), .int .i64 ((z2 : Int) - 64)] 2 1 rfl)) (by simp [Value.oneCell']) (k + 1) rfl p1 p2 (Nat.le_trans hbz (by simp)) ?_; intro v4 w4 hown4 hb4; obtain ⟨g4, c4, rfl, _, _⟩ := own_shape hown4 (by omega); have hG4 := ((HGb.out.alloc _).drew.below hb4 hGx); have hk4 := hG4.cell 2 _ rfl; have hf4 := hG4.free 2))
        clear q6 q8 r1 r2 r3 r4 hk7 hk8 d1 d2
        all_goals
          clear hk4
          go_wp2
          go_roundw
          case rel => exact ⟨j + 2, k + 1, some ⟨g4, 0, none⟩, c4, by rw [Hj5.out]; omega, by omega, by go_num, hG4.set 2 _, by rw [Hlst.out, List.flatMap_append]; exact ownsRow_setCell_below hown4 (by show w1.heap.size < _; exact hGx) _, Below.setCell (((Hbr.out.alloc hzr _).drew).trans (hb4.mono (Nat.le_of_lt hGx))) (Nat.le_refl _) _, Nat.le_trans hbz (((((Below.refl 0 wr).alloc (Nat.zero_le _) _).drew).trans (hb4.mono (Nat.zero_le _))).setCell (Nat.zero_le _) _).size⟩
          case measure => simp [intOf]; omega
      · obtain rfl : k = N := by omega
        have hjn : j = n := by omega
        have hm : readF0 b = ⟨(x0 : Int), (V : Int), cellsOf ((b.drop 5).take (2 * k))⟩ := by
          unfold readF0
          rw [← HV.out]
          obtain ⟨h0, _⟩ := HX.out
          rw [List.take_of_length_le (by rw [List.length_drop, Hbl.out]; omega)]
          simp only [List.getD_eq_getElem?_getD, h0, Option.getD_some]
        have hlk : (readF0 b).cells.length = k := by
          rw [hm]
          exact cellsOf_len k _ (by rw [List.length_drop, Hbl.out]; omega)
        have hown' : wr.ownsRow wc.heap.size 24 2 (.slice A2 k c2) k ((readF0 b).cells.flatMap encC) := by rw [hm]; exact hown
        have hval : evV (readF0 b) A2 k c2 = .agg #[.int .i64 (x0 : Int), .int .i64 (V : Int), .slice A2 k c2] := by rw [hm]
        have HC := fcheck_any wr (readF0 b) A2 k c2 (SlC.own hown')
        rw [hval] at HC
        have HC := Lib.hid HC
        have Hval := Lib.hid hval
        have Hown' := Lib.hid hown'
        have g0 := hG.cell 0 _ rfl
        have g1 := hG.cell 1 _ rfl
        have g2 := hG.cell 2 _ rfl
        obtain ⟨F, hF⟩ : ∃ F, F = checkF (readF0 b) := ⟨_, rfl⟩
        have HEE := Lib.hid (show readFE b = F by unfold readFE; rw [Hbl.out, if_neg (by omega), if_neg (by omega), hF])
        rw [← hF] at HC
        have HG := Lib.hid hG
        have HBR := Lib.hid hbr
        have hk32 : k ≤ 10000000000000 := by omega
        subst hjn
        clear hm hval hF hown hG hbr hown' hnN hlk hj5
        go_wp2_with fail
        refine HC.out.mono ?_
        rintro e w5 ⟨rfl, hb5⟩
        have hGw := HG.out.lt
        have hbr5 := HBR.out.trans (hb5.mono HBR.out.size)
        have hR := hk0.out.below hbr5 hw0
        have b0 := hR.cell 0 _ rfl
        have b1 := hR.cell 1 _ rfl
        have b2 := hR.cell 2 _ rfl
        have bf0 := hR.free 0
        have bf1 := hR.free 1
        have bf2 := hR.free 2
        have HR5 := Lib.hid hR
        have HB5 := Lib.hid (Hb0.out.trans (hbr5.mono hzw))
        have HG5 := Lib.hid (HG.out.below hb5 hGw)
        have Hown5 := Lib.hid (own_below Hown'.out hb5 (Nat.le_refl _))
        clear hR g0 g1 g2 hb5 hbr5
        by_cases hF0 : F = 0
        · subst hF0
          have g0 := HG5.out.cell 0 _ rfl
          have g1 := HG5.out.cell 1 _ rfl
          have g2 := HG5.out.cell 2 _ rfl
          go_wp2_with fail
          refine bodyPost_ret (results_cell_two Try.results34 _ _ w.heap.size 48 #[.int .i64 (x0 : Int), .int .i64 (V : Int), .slice A2 k c2] (0, 0) _ (.int .i64 0) rfl rfl (((HR5.out.set 0 (.int .i64 (x0 : Int))).set 1 (.int .i64 (V : Int))).set 2 (.slice A2 k c2)) Try.underlying48 rfl (by kernel_rfl)) rfl ?_
          have hmz : readF b = readF0 b := by unfold readF; rw [if_pos HEE.out]
          refine ⟨A2, k, c2, ?_, ?_, by omega, ?_⟩
          · rw [hmz, HEE.out, Hval.out]; rfl
          · rw [hmz]
            refine SlC.own (base := wc.heap.size) (n := k) ?_
            repeat' (refine ownsRow_setCell_below ?_ (by show w.heap.size < _; omega) _)
            exact Hown5.out
          · exact ((HB5.out.setCell (Nat.le_refl _) _).setCell (Nat.le_refl _) _).setCell (Nat.le_refl _) _
        · have hFb : ((F : Int) != 0) = true := by simp; omega
          have HF0 := Lib.hid hF0
          clear hF0
          go_wp2_with fail
          refine bodyPost_ret (results_cell_two Try.results34 _ _ w.heap.size 48 #[.int .i64 0, .int .i64 0, .slice none 0 0] (0, 0) _ (.int .i64 (F : Int)) rfl rfl (((HR5.out.set 0 (.int .i64 0)).set 1 (.int .i64 0)).set 2 (.slice none 0 0)) Try.underlying48 rfl (by kernel_rfl)) rfl ?_
          exact ReadFPost.bad (x := F) HEE.out HF0.out (((HB5.out.setCell (Nat.le_refl _) _).setCell (Nat.le_refl _) _).setCell (Nat.le_refl _) _)
end Go.Proofs.Ytaahpjjffggaiaa
