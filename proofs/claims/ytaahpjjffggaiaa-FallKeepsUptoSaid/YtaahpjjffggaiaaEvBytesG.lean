/- gantref5.EventBytes of any event: some bytes. Conditions: those typed. -/
import Derived.Test.YtaahpjjffggaiaaFallRefs
namespace Go.Proofs.Ytaahpjjffggaiaa
open Go.RowKit Go.Gy
set_option linter.unusedVariables false
set_option maxRecDepth 100000 in
set_option maxHeartbeats 2000000 in
theorem rbytes4g (w : World) (x : Nat) (hx : x < 18446744073709551616) :
    Calls Try.prog 61 #[.int .u64 x, .int .i64 4] w (BytesPost w (be4 x)) := by
  obtain ⟨i0, hi, hz0, hz1, hz2⟩ := info_parts info_byte
  go_enter Try.func61, Try.ntmps61
  go_wp2_with (refine wpList_make_full _ rfl (.tmp 7) (.tmp 7) 33 rfl w.heap.size 5 i0 (.int .u8 0) 1 Try.underlying33 hi hz0 hz1 .i64 .i64 4 4 4 rfl rfl rfl rfl (by omega) (by unfold maxLen; omega) (Nat.le_refl _) ?_; intro w1 hown1 hg1)
  have hb1 : Below w.heap.size w w1 := (Below.refl _ _).grown hg1 (Nat.le_refl _) (fun k h => by cases h)
  have hB1 := row_blk hown1 rfl
  rw [show (madeCells (Value.int .u8 0).cells (4 * 1)).toList.toArray = part4 x 0 by first | rfl | (simp [madeCells, part4, bv]; done) | (simp [madeCells, part4, bv, Value.cells]; rfl)] at hB1
  clear hown1 hg1
  go_loopw [0, 6] (fun n i wr => R4 w x n i wr) (fun _ i _ => (intOf i + 1).toNat)
  case atStart => exact ⟨0, by omega, rfl, by simp, hB1, hb1⟩
  case round =>
    obtain ⟨k, hk, rfl, rfl, hB, hb⟩ := hrel
    have hgl := hB.lt
    obtain rfl | rfl | rfl | rfl | rfl : k = 0 ∨ k = 1 ∨ k = 2 ∨ k = 3 ∨ k = 4 := by omega
    case inr.inr.inr.inr =>
      go_wp2
      go_ret
      exact ⟨_, rfl, blk_row hB (Nat.le_refl _) rfl (by unfold maxLen; omega), hb⟩
    case inl =>
      have hc := hB.cell 3 (bv 0) rfl
      have hf := hB.free 3
      have e : (part4 x 0).setIfInBounds 3 (.int .u8 ((x : Int) % 256)) = part4 x 1 := by simp [part4, bv]
      go_wp2
      go_roundw
      case measure => simp [intOf]
      case rel => exact ⟨1, by omega, by simp, by simp, by rw [← e]; exact hB.set 3 _, hb.setCell (Nat.le_refl _) _⟩
    case inr.inl =>
      have hc := hB.cell 2 (bv 0) rfl
      have hf := hB.free 2
      have e : (part4 x 1).setIfInBounds 2 (.int .u8 ((x : Int) / 256 % 256)) = part4 x 2 := by simp [part4, bv]
      go_wp2
      go_roundw
      case measure => simp [intOf]
      case rel => exact ⟨2, by omega, by simp, by simp; omega, by rw [← e]; exact hB.set 2 _, hb.setCell (Nat.le_refl _) _⟩
    case inr.inr.inl =>
      have hc := hB.cell 1 (bv 0) rfl
      have hf := hB.free 1
      have e : (part4 x 2).setIfInBounds 1 (.int .u8 ((x : Int) / 65536 % 256)) = part4 x 3 := by simp [part4, bv]
      go_wp2
      go_roundw
      case measure => simp [intOf]
      case rel => exact ⟨3, by omega, by simp, by simp; omega, by rw [← e]; exact hB.set 1 _, hb.setCell (Nat.le_refl _) _⟩
    case inr.inr.inr.inl =>
      have hc := hB.cell 0 (bv 0) rfl
      have hf := hB.free 0
      have e : (part4 x 3).setIfInBounds 0 (.int .u8 ((x : Int) / 16777216 % 256)) = part4 x 4 := by simp [part4, bv]
      go_wp2
      go_roundw
      case measure => simp [intOf]
      case rel => exact ⟨4, by omega, by simp, by simp; omega, by rw [← e]; exact hB.set 0 _, hb.setCell (Nat.le_refl _) _⟩


def EgRel (w : World) (n : Nat) (v i : Value) (wr : World) : Prop := ∃ (k nn g c : Nat) (r : List Nat), k ≤ n ∧ i = .int .i64 (k : Nat) ∧ nn = 5 + 2 * k ∧ v = .slice (some ⟨g, 0, none⟩) nn c ∧ wr.ownsRow w.heap.size 5 1 v nn (r.map bv) ∧ Below w.heap.size w wr
def SomeBytes (m : Nat) (w : World) (e : Ending) (w' : World) : Prop := ∃ (r : List Nat) (v' : Value), e = .returned v' ∧ w'.ownsRow w.heap.size 5 1 v' m (r.map bv) ∧ Below w.heap.size w w'
theorem byte_nat (z : Int) (h0 : 0 ≤ z) : (.int .u8 z : Value) = bv z.toNat := by
  show _ = Value.int .u8 ((z.toNat : Nat) : Int)
  rw [Int.toNat_of_nonneg h0]
set_option maxRecDepth 100000 in
set_option maxHeartbeats 4000000 in
theorem eventbytes_gen (w : World) (k v : Int) (l : List Cell) (A : Option Addr) (n c : Nat) (hm : SlC w w.heap.size (.slice A n c) l) (hn : n ≤ 8796093022207) (hk : wfI .i64 k) (hv : wfI .i64 v) (hl' : ∀ x ∈ l, wfI .i64 x.1 ∧ wfI .i64 x.2) :
    Calls Try.prog 28 #[.int .i64 k, .int .i64 v, .slice A n c] w (SomeBytes (5 + 2 * n) w) := by
  obtain ⟨i0, hi, hz0, hz1, hz2⟩ := info_parts info_byte
  have hb0 : ∀ X, Below w.heap.size w (w.alloc X) := fun X => (Below.refl _ _).alloc (Nat.le_refl _) _
  obtain ⟨hl, _, _, hrd⟩ := hm.parts
  have Hl := Lib.hid hl
  have Hrd := Lib.hid hrd
  have H1 := Lib.hid hl'
  obtain ⟨Q, hQ, hQl⟩ : ∃ Q : Nat, IntKind.u64.wrap v = (Q : Int) ∧ Q < 18446744073709551616 := ⟨(IntKind.u64.wrap v).toNat, by rw [IntKind.wrap_u64]; omega, by rw [IntKind.wrap_u64]; omega⟩
  obtain ⟨K, hK⟩ : ∃ K : Nat, IntKind.u8.wrap k = (K : Int) := ⟨(IntKind.u8.wrap k).toNat, by rw [IntKind.wrap_u8]; omega⟩
  have HB4 := Lib.hid (rbytes4g (w.alloc (.cells #[.int .u8 (K : Int)] 5)) Q hQl)
  have h1l := World.ownsRow_lit (e := 5) (size := 1) (base := w.heap.size) w #[.int .u8 (K : Int)] 1 (Nat.le_refl _) (by decide) rfl
  have H1l := Lib.hid h1l
  have Hb0 := Lib.hid hb0
  clear hb0 hm hl hrd h1l hl'
  go_enter Try.func28, Try.ntmps28
  go_wp2_with fail
  refine HB4.out.mono ?_
  rintro e w1 ⟨v1, rfl, hown1, hb1⟩
  obtain ⟨A1, c1, rfl, _, _, hr1⟩ := own_rd hown1
  have hA1 : A1 = none → c1 = 0 := fun h => (own_none hown1 h).2
  have hO1 := own_below H1l.out hb1 (Nat.le_refl _)
  have hbw1 := (Hb0.out (.cells #[.int .u8 (K : Int)] 5)).trans (hb1.mono (by simp))
  have hz1' := hbw1.size
  have h4 : (be4 Q).length = 4 := rfl
  have HO1 := Lib.hid hO1
  have HA1 := Lib.hid hA1
  have Hr1 := Lib.hid hr1
  have Hbw1 := Lib.hid hbw1
  clear hO1 hA1 hr1 hown1 hb1 hbw1 HB4
  go_wp2_with (at_builtin; refine wpList_extend rfl (.tmp 12) (.tmp 15) 33 rfl w.heap.size 5 i0 (.int .u8 0) 1 1 Try.underlying33 hi hz0 hz1 hz2 rfl (by omega) _ 1 _ rfl HO1.out A1 4 c1 _ ((be4 Q).map bv) rfl HA1.out Hr1.out (bv_one _) (by unfold maxLen; omega) (by omega) hz1' ?_; intro v2 w2 hn2 hb2; have Hn2 := Lib.hid hn2; have Hb2 := Lib.hid (Hbw1.out.trans hb2); obtain ⟨g2, c2, rfl, _⟩ := own_shape hn2 (by omega); clear hn2 hb2)
  go_loopw [7, 19] (fun v i wr => EgRel w n v i wr) (fun _ i _ => n - (intOf i).toNat)
  case atStart => exact ⟨0, 5, g2, c2, K :: be4 Q, Nat.zero_le _, rfl, rfl, rfl, by simpa [bv] using Hn2.out, Hb2.out⟩
  case round =>
    obtain ⟨k, nn, g, cc, r, hk, rfl, hnn, rfl, hown, hbr⟩ := hrel
    have hbase := hbr.size
    have hnn' : nn ≤ 17592186044420 := by omega
    have Hown := Lib.hid hown
    have Hbr := Lib.hid hbr
    clear hown hbr
    by_cases hlt : k < n
    · obtain ⟨b, o, f, rfl, hbB, hf, hcl⟩ := (Hrd.out.below Hbr.out).elem encC_len Hl.out hlt
      obtain ⟨x, y⟩ := f
      have c0 : wr.cell? ⟨b, o + k * 2, none⟩ = some (.int .i64 x) := hcl 0 _ rfl
      have c1 : wr.cell? ⟨b, o + k * 2 + 1, none⟩ = some (.int .i64 y) := hcl 1 _ rfl
      obtain ⟨P1, hP1⟩ : ∃ P : Nat, IntKind.u8.wrap (wrap64 (x + 64)) = (P : Int) := ⟨(IntKind.u8.wrap (wrap64 (x + 64))).toNat, by rw [IntKind.wrap_u8]; omega⟩
      obtain ⟨P2, hP2⟩ : ∃ P : Nat, IntKind.u8.wrap (wrap64 (y + 64)) = (P : Int) := ⟨(IntKind.u8.wrap (wrap64 (y + 64))).toNat, by rw [IntKind.wrap_u8]; omega⟩
      have hlt' : (k : Int) < (n : Int) := by omega
      have Hnn := Lib.hid hnn
      clear hcl hf hnn
      go_wp2_with (at_builtin; refine wpList_lits rfl (.tmp 23) (.tmp 32) 33 rfl w.heap.size 5 i0 (.int .u8 0) 1 1 Try.underlying33 hi hz0 hz1 hz2 rfl (by omega) _ nn _ rfl (Hown.out.alloc _) [.int .u8 (P1 : Int), .int .u8 (P2 : Int)] 2 (wr.heap.size + 1) (by simp) rfl rfl (by omega) (by simp [Value.oneCell']) (nn + 2) rfl (by unfold maxLen; omega) (by omega) (by simp; omega) ?_; intro v8 w8 hown8 hb8 hs8; obtain ⟨g8, c8, rfl, _, _⟩ := hs8)
      go_roundw
      case rel => exact ⟨k + 1, nn + 2, g8, c8, r ++ [P1, P2], by omega, by go_num, by rw [Hnn.out]; omega, rfl, by rw [List.map_append]; exact hown8, (Hbr.out.alloc hbase _).trans hb8⟩
      case measure => simp [intOf]; omega
    · obtain rfl : k = n := by omega
      have HP := Lib.hid (show SomeBytes (5 + 2 * k) w (.returned (.slice (some ⟨g, 0, none⟩) nn cc)) wr from ⟨r, _, rfl, by rw [← hnn]; exact Hown.out, Hbr.out⟩)
      clear hnn
      go_wp2
      go_ret
      exact HP.out
end Go.Proofs.Ytaahpjjffggaiaa
