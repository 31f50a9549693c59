/- gantref5.Bytes, of two and of four bytes; gantref5.Value. Conditions: those typed. -/
import Derived.Test.YtaahpjjffggaiaaLogOpen
namespace Go.Proofs.Ytaahpjjffggaiaa
open Go.RowKit Go.Gy
set_option linter.unusedVariables false

/-- the four bytes, k of them written -/
def part4 (x : Nat) : Nat → Array Value
  | 0 => #[bv 0, bv 0, bv 0, bv 0]
  | 1 => #[bv 0, bv 0, bv 0, bv (x % 256)]
  | 2 => #[bv 0, bv 0, bv (x / 256 % 256), bv (x % 256)]
  | 3 => #[bv 0, bv (x / 65536 % 256), bv (x / 256 % 256), bv (x % 256)]
  | _ => #[bv (x / 16777216 % 256), bv (x / 65536 % 256), bv (x / 256 % 256), bv (x % 256)]
def R4 (w : World) (x : Nat) (n i : Value) (wr : World) : Prop := ∃ k : Nat, k ≤ 4 ∧ i = .int .i64 (3 - (k : Int)) ∧ n = .int .u64 ((x / 256 ^ k : Nat) : Int) ∧ Blk wr w.heap.size 5 (part4 x k) ∧ Below w.heap.size w wr
theorem row_blk {w : World} {base g n cap : Nat} {xs : List Value} (h : w.ownsRow base 5 1 (.slice (some ⟨g, 0, none⟩) n cap) n xs) (hc : cap = n) : Blk w g 5 xs.toArray := by
  obtain ⟨hl, ⟨h0, _⟩ | ⟨g', cap', cur, he, hg, hh, hnc, _, hcs, ht⟩⟩ := h
  · cases h0
  · injection he with e1 e2 e3
    injection e1 with e1
    injection e1 with e1
    subst e1 e3
    have : cur = xs.toArray := by
      rw [← ht, List.take_of_length_le (by rw [Array.length_toList]; omega), Array.toArray_toList]
    rw [← this]; exact hh
theorem blk_row {w : World} {base g n : Nat} {cs : Array Value} (h : Blk w g 5 cs) (hb : base ≤ g) (hn : cs.size = n) (hm : n ≤ maxLen) : w.ownsRow base 5 1 (.slice (some ⟨g, 0, none⟩) n n) n cs.toList :=
  ⟨by rw [Array.length_toList, hn, Nat.mul_one], .inr ⟨g, n, cs, rfl, hb, h, Nat.le_refl _, hm, by rw [hn, Nat.mul_one], List.take_of_length_le (by rw [Array.length_toList]; omega)⟩⟩
def BytesPost (w : World) (l : List Nat) (e : Ending) (w' : World) : Prop := ∃ v', e = .returned v' ∧ w'.ownsRow w.heap.size 5 1 v' l.length (l.map bv) ∧ Below w.heap.size w w'
set_option maxRecDepth 100000 in
set_option maxHeartbeats 2000000 in
theorem rbytes4 (w : World) (x : Nat) (hx : x < 4294967296) :
    Calls Try.prog 61 #[.int .u64 x, .int .i64 4] w (BytesPost w (be4 x)) := by
  obtain ⟨i0, hi, hz0, hz1, hz2⟩ := info_parts info_byte
  go_enter Try.func61, Try.ntmps61
  go_wp2_with (refine wpList_make_full _ rfl (.tmp 7) (.tmp 7) 33 rfl w.heap.size 5 i0 (.int .u8 0) 1 Try.underlying33 hi hz0 hz1 .i64 .i64 4 4 4 rfl rfl rfl rfl (by omega) (by unfold maxLen; omega) (Nat.le_refl _) ?_; intro w1 hown1 hg1)
  have hb1 : Below w.heap.size w w1 := (Below.refl _ _).grown hg1 (Nat.le_refl _) (fun k h => by cases h)
  have hB1 := row_blk hown1 rfl
  rw [show (madeCells (Value.int .u8 0).cells (4 * 1)).toList.toArray = part4 x 0 by first | rfl | (simp [madeCells, part4, bv]; done) | (simp [madeCells, part4, bv, Value.cells]; rfl)] at hB1
  clear hown1 hg1
  go_loopw [0, 6] (fun n i wr => R4 w x n i wr) (fun _ i _ => (intOf i + 1).toNat)
  case atStart => exact ⟨0, by omega, rfl, by simp, hB1, hb1⟩
  case round =>
    obtain ⟨k, hk, rfl, rfl, hB, hb⟩ := hrel
    have hgl := hB.lt
    obtain rfl | rfl | rfl | rfl | rfl : k = 0 ∨ k = 1 ∨ k = 2 ∨ k = 3 ∨ k = 4 := by omega
    case inr.inr.inr.inr =>
      go_wp2
      go_ret
      exact ⟨_, rfl, blk_row hB (Nat.le_refl _) rfl (by unfold maxLen; omega), hb⟩
    case inl =>
      have hc := hB.cell 3 (bv 0) rfl
      have hf := hB.free 3
      have e : (part4 x 0).setIfInBounds 3 (.int .u8 ((x : Int) % 256)) = part4 x 1 := by simp [part4, bv]
      go_wp2
      go_roundw
      case measure => simp [intOf]
      case rel => exact ⟨1, by omega, by simp, by simp, by rw [← e]; exact hB.set 3 _, hb.setCell (Nat.le_refl _) _⟩
    case inr.inl =>
      have hc := hB.cell 2 (bv 0) rfl
      have hf := hB.free 2
      have e : (part4 x 1).setIfInBounds 2 (.int .u8 ((x : Int) / 256 % 256)) = part4 x 2 := by simp [part4, bv]
      go_wp2
      go_roundw
      case measure => simp [intOf]
      case rel => exact ⟨2, by omega, by simp, by simp; omega, by rw [← e]; exact hB.set 2 _, hb.setCell (Nat.le_refl _) _⟩
    case inr.inr.inl =>
      have hc := hB.cell 1 (bv 0) rfl
      have hf := hB.free 1
      have e : (part4 x 2).setIfInBounds 1 (.int .u8 ((x : Int) / 65536 % 256)) = part4 x 3 := by simp [part4, bv]
      go_wp2
      go_roundw
      case measure => simp [intOf]
      case rel => exact ⟨3, by omega, by simp, by simp; omega, by rw [← e]; exact hB.set 1 _, hb.setCell (Nat.le_refl _) _⟩
    case inr.inr.inr.inl =>
      have hc := hB.cell 0 (bv 0) rfl
      have hf := hB.free 0
      have e : (part4 x 3).setIfInBounds 0 (.int .u8 ((x : Int) / 16777216)) = part4 x 4 := by simp [part4, bv]; omega
      go_wp2
      go_roundw
      case measure => simp [intOf]
      case rel => exact ⟨4, by omega, by simp, by simp; omega, by rw [← e]; exact hB.set 0 _, hb.setCell (Nat.le_refl _) _⟩

def part2 (x : Nat) : Nat → Array Value
  | 0 => #[bv 0, bv 0]
  | 1 => #[bv 0, bv (x % 256)]
  | _ => #[bv (x / 256 % 256), bv (x % 256)]
def R2 (w : World) (x : Nat) (n i : Value) (wr : World) : Prop := ∃ k : Nat, k ≤ 2 ∧ i = .int .i64 (1 - (k : Int)) ∧ n = .int .u64 ((x / 256 ^ k : Nat) : Int) ∧ Blk wr w.heap.size 5 (part2 x k) ∧ Below w.heap.size w wr
set_option maxRecDepth 100000 in
set_option maxHeartbeats 2000000 in
theorem rbytes2 (w : World) (x : Nat) (hx : x < 4294967296) :
    Calls Try.prog 61 #[.int .u64 x, .int .i64 2] w (BytesPost w (be2 x)) := by
  obtain ⟨i0, hi, hz0, hz1, hz2⟩ := info_parts info_byte
  go_enter Try.func61, Try.ntmps61
  go_wp2_with (refine wpList_make_full _ rfl (.tmp 7) (.tmp 7) 33 rfl w.heap.size 5 i0 (.int .u8 0) 1 Try.underlying33 hi hz0 hz1 .i64 .i64 2 2 2 rfl rfl rfl rfl (by omega) (by unfold maxLen; omega) (Nat.le_refl _) ?_; intro w1 hown1 hg1)
  have hb1 : Below w.heap.size w w1 := (Below.refl _ _).grown hg1 (Nat.le_refl _) (fun k h => by cases h)
  have hB1 := row_blk hown1 rfl
  rw [show (madeCells (Value.int .u8 0).cells (2 * 1)).toList.toArray = part2 x 0 by first | rfl | (simp [madeCells, part2, bv]; done) | (simp [madeCells, part2, bv, Value.cells]; rfl)] at hB1
  clear hown1 hg1
  go_loopw [0, 6] (fun n i wr => R2 w x n i wr) (fun _ i _ => (intOf i + 1).toNat)
  case atStart => exact ⟨0, by omega, rfl, by simp, hB1, hb1⟩
  case round =>
    obtain ⟨k, hk, rfl, rfl, hB, hb⟩ := hrel
    have hgl := hB.lt
    obtain rfl | rfl | rfl : k = 0 ∨ k = 1 ∨ k = 2 := by omega
    case inr.inr =>
      go_wp2
      go_ret
      exact ⟨_, rfl, blk_row hB (Nat.le_refl _) rfl (by unfold maxLen; omega), hb⟩
    case inl =>
      have hc := hB.cell 1 (bv 0) rfl
      have hf := hB.free 1
      have e : (part2 x 0).setIfInBounds 1 (.int .u8 ((x : Int) % 256)) = part2 x 1 := by simp [part2, bv]
      go_wp2
      go_roundw
      case measure => simp [intOf]
      case rel => exact ⟨1, by omega, by simp, by simp, by rw [← e]; exact hB.set 1 _, hb.setCell (Nat.le_refl _) _⟩
    case inr.inl =>
      have hc := hB.cell 0 (bv 0) rfl
      have hf := hB.free 0
      have e : (part2 x 1).setIfInBounds 0 (.int .u8 ((x : Int) / 256 % 256)) = part2 x 2 := by simp [part2, bv]
      go_wp2
      go_roundw
      case measure => simp [intOf]
      case rel => exact ⟨2, by omega, by simp, by simp; omega, by rw [← e]; exact hB.set 0 _, hb.setCell (Nat.le_refl _) _⟩

def valN (b : List Nat) : Nat := b.foldl (fun n x => 256 * n + x) 0
theorem valN_snoc (b : List Nat) (x : Nat) : valN (b ++ [x]) = 256 * valN b + x := by simp [valN]
theorem valN_lt : ∀ (k : Nat) (b : List Nat), b.length ≤ k → (∀ x ∈ b, x < 256) → valN b < 256 ^ k := by
  intro k
  induction k with
  | zero => intro b hb _; have : b = [] := List.eq_nil_of_length_eq_zero (by omega); subst this; simp [valN]
  | succ k ih =>
    intro b hb h8
    rcases List.eq_nil_or_concat b with rfl | ⟨c, x, rfl⟩
    · simp only [valN, List.foldl_nil]; exact Nat.pos_of_ne_zero (by simp)
    · rw [List.concat_eq_append] at hb h8 ⊢
      rw [valN_snoc]
      have h1 := ih c (by simp at hb; omega) fun y hy => h8 y (by simp [hy])
      have h2 := h8 x (by simp)
      rw [Nat.pow_succ]
      omega
set_option maxRecDepth 100000 in
set_option maxHeartbeats 2000000 in
theorem value_any (w : World) (v : Value) (B : Nat) (b : List Nat) (hv : SlB w B v b) (hn : b.length ≤ 6) (h8 : ∀ x ∈ b, x < 256) :
    Calls Try.prog 64 #[v] w fun e w' => e = .returned (.int .i64 (valN b : Nat)) ∧ w = w' := by
  obtain ⟨A, n, c, rfl, hbl, _, _, hr⟩ := hv
  rw [hbl] at hn
  have Hbl := Lib.hid hbl
  have H8 := Lib.hid h8
  clear hbl h8
  go_enter Try.func64, Try.ntmps64
  go_wp2
  go_loop [3, 8] (fun s i => ∃ k m : Nat, k ≤ n ∧ i = .int .i64 k ∧ s = .int .i64 m ∧ Hid (m = valN (b.take k))) (fun _ i => n - (intOf i).toNat)
  case atStart => exact ⟨0, 0, Nat.zero_le _, rfl, rfl, Lib.hid rfl⟩
  case round =>
    obtain ⟨k, m, hk, rfl, rfl, Hm⟩ := hrel
    by_cases hlt : k < n
    · obtain ⟨g, o, x, rfl, hg, hx, hc⟩ := bv_at hr hlt
      have x1 := H8.out x (List.mem_of_getElem? hx)
      have hm : m < 281474976710656 := by
        rw [Hm.out]
        exact Nat.lt_of_lt_of_le (valN_lt 6 _ (by rw [List.length_take, Hbl.out]; omega) fun y hy => H8.out y (List.mem_of_mem_take hy)) (by decide)
      have Hs := Lib.hid (show 256 * m + x = valN (b.take (k + 1)) by rw [List.take_add_one, hx, Hm.out]; exact (valN_snoc _ _).symm)
      clear hx
      go_wp2
      go_round
      case rel => exact ⟨k + 1, 256 * m + x, by omega, by go_num, by go_num, Hs⟩
      case measure => simp [intOf]; omega
    · obtain rfl : k = n := by omega
      go_wp2
      go_ret
      refine ⟨ret_int ?_, rfl⟩
      rw [Hm.out, List.take_of_length_le (by rw [Hbl.out]; omega)]
end Go.Proofs.Ytaahpjjffggaiaa
