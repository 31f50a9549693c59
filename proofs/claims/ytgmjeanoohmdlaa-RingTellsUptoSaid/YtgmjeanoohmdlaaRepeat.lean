/- slices.Repeat of one integer (a slice of -1). Conditions: those typed. -/
import Derived.Test.YtgmjeanoohmdlaaStuck
import Derived.Lib.Mul64
import Derived.Laws.Bits64b
import Derived.Deep.RegionLaw
import Derived.Outline
namespace Go.Proofs.Ytgmjeanoohmdlaa
open Go.RowKit Go.Gy
set_option linter.unusedVariables false
namespace MulN
theorem maskN (a : Nat) (ha : a < 18446744073709551616) : bits .and .u64 (a : Int) 4294967295 = ((a % 4294967296 : Nat) : Int) := by
  have h := bits_and_u64_nat a 4294967295 ha (by omega)
  have e : a &&& 4294967295 = a % 4294967296 := Nat.and_two_pow_sub_one_eq_mod a 32
  rw [e] at h
  exact h
theorem divN (a : Nat) : (a : Int) / 4294967296 = ((a / 4294967296 : Nat) : Int) := by omega
theorem mulN (a b : Nat) : (a : Int) * (b : Int) = ((a * b : Nat) : Int) := (Int.natCast_mul a b).symm
theorem addN (a b : Nat) : (a : Int) + (b : Int) = ((a + b : Nat) : Int) := (Int.natCast_add a b).symm
theorem wrapN (a : Nat) (ha : a < 18446744073709551616) : IntKind.u64.wrap (a : Int) = (a : Int) := by rw [IntKind.wrap_u64]; omega
theorem wrapM (a : Nat) : IntKind.u64.wrap (a : Int) = ((a % 18446744073709551616 : Nat) : Int) := by rw [IntKind.wrap_u64]; omega
end MulN
set_option maxRecDepth 100000 in
set_option maxHeartbeats 2000000 in
theorem mul64_any (x y : Nat) (hx : x < 18446744073709551616) (hy : y < 18446744073709551616) (w : World) :
    Calls Try.prog 31 #[.int .u64 x, .int .u64 y] w fun e w' => e = .returned (.tuple #[.int .u64 ((x * y / 18446744073709551616 : Nat) : Int), .int .u64 ((x * y % 18446744073709551616 : Nat) : Int)]) ∧ w = w' := by
  obtain ⟨bd, bt, bw, hhi⟩ := Lib.mul64_hi x y hx hy
  have ba := Lib.half_mul_le (a := x / 4294967296) (b := y / 4294967296) (by omega) (by omega)
  have bb := Lib.half_mul_le (a := x / 4294967296) (b := y % 4294967296) (by omega) (by omega)
  have bc := Lib.half_mul_le (a := x % 4294967296) (b := y / 4294967296) (by omega) (by omega)
  have ba' : x / 4294967296 * (y / 4294967296) < 18446744073709551616 := by omega
  have bb' : x / 4294967296 * (y % 4294967296) < 18446744073709551616 := by omega
  have bc' : x % 4294967296 * (y / 4294967296) < 18446744073709551616 := by omega
  have bh1 : x / 4294967296 * (y / 4294967296) + (x / 4294967296 * (y % 4294967296) + x % 4294967296 * (y % 4294967296) / 4294967296) / 4294967296 < 18446744073709551616 := by omega
  have bh : x / 4294967296 * (y / 4294967296) + (x / 4294967296 * (y % 4294967296) + x % 4294967296 * (y % 4294967296) / 4294967296) / 4294967296 + ((x / 4294967296 * (y % 4294967296) + x % 4294967296 * (y % 4294967296) / 4294967296) % 4294967296 + x % 4294967296 * (y / 4294967296)) / 4294967296 < 18446744073709551616 := by omega
  go_enter Try.func31, Try.ntmps31
  go_wp2
  simp only [MulN.maskN x hx, MulN.maskN y hy, MulN.divN, MulN.mulN, MulN.addN, MulN.wrapN _ bd, MulN.wrapN _ bb', MulN.wrapN _ bt, MulN.maskN _ bt, MulN.wrapN _ bc', MulN.wrapN _ bw, MulN.wrapN _ ba', MulN.wrapN _ bh1, MulN.wrapN _ bh, MulN.wrapM (x * y)]
  rw [hhi]
  go_ret2
  exact ⟨rfl, rfl⟩
set_option maxRecDepth 100000 in
theorem mul_any (x y : Nat) (hx : x < 18446744073709551616) (hy : y < 18446744073709551616) (w : World) :
    Calls Try.prog 29 #[.int .u64 x, .int .u64 y] w fun e w' => e = .returned (.tuple #[.int .u64 ((x * y / 18446744073709551616 : Nat) : Int), .int .u64 ((x * y % 18446744073709551616 : Nat) : Int)]) ∧ w = w' := by
  have HM := Lib.hid (mul64_any x y hx hy w)
  go_enter Try.func29, Try.ntmps29
  go_wp2_with fail
  refine HM.out.mono ?_
  rintro e w' ⟨rfl, rfl⟩
  go_wp2_with fail
  go_ret2
  exact ⟨rfl, rfl⟩
theorem mul_one (y : Nat) (hy : y < 18446744073709551616) (w : World) :
    Calls Try.prog 29 #[.int .u64 1, .int .u64 y] w fun e w' => e = .returned (.tuple #[.int .u64 0, .int .u64 (y : Int)]) ∧ w = w' := by
  have h := mul_any 1 y (by omega) hy w
  rw [Nat.one_mul, Nat.div_eq_of_lt hy, Nat.mod_eq_of_lt hy] at h
  exact h
theorem sz_int : (Try.prog.info? 3).map (·.size) = some 1 := by kernel_rfl
def rowR (n k : Nat) : List Value := List.replicate k (iv (-1)) ++ List.replicate (n - k) (iv 0)
theorem rowR_splice {n k c : Nat} (hk : k + c ≤ n) : splice (rowR n k) k (List.replicate c (iv (-1))) = rowR n (k + c) := by
  unfold splice rowR
  rw [List.take_append_of_le_length (by simp), List.take_of_length_le (by simp), List.drop_append, List.drop_of_length_le (by simp), List.nil_append, List.length_replicate, List.length_replicate, List.drop_replicate, ← List.append_assoc, List.replicate_append_replicate]
  congr 2
  omega
def RepRel (w : World) (n : Nat) (g : Nat) (i : Value) (wr : World) : Prop := ∃ k : Nat, i = .int .i64 (k : Int) ∧ k + g = n ∧ 1 ≤ k ∧ wr.heap[w.heap.size]? = some (.cells (rowR n k).toArray 3 (0, 0)) ∧ Below w.heap.size w wr
def RepPost (w : World) (n : Nat) (e : Ending) (w' : World) : Prop := e = .returned (.slice (some ⟨w.heap.size, 0, none⟩) n n) ∧ Blk w' w.heap.size 3 ((List.replicate n (-1 : Int)).map iv).toArray ∧ Below w.heap.size w w'
set_option maxRecDepth 100000 in
set_option maxHeartbeats 4000000 in
theorem repeat_one (w : World) (b n : Nat) (hc0 : w.cell? ⟨b, 0, none⟩ = some (iv (-1))) (hbl : b < w.heap.size) (hn : n ≤ 64) (h1 : 1 ≤ n) :
    Calls Try.prog 26 #[.slice (some ⟨b, 0, none⟩) 1 1, .int .i64 (n : Int)] w (RepPost w n) := by
  obtain ⟨i0, hi, hz0, hz1, hz2⟩ := info_parts info_int
  have hmk : ∀ W : World, (Instr.makeSlice 22 (.int .i64 (n : Int)) (.int .i64 (n : Int))).run Try.prog W = .ok (.slice (some ⟨W.heap.size, 0, none⟩) n n) (W.alloc (.cells (Array.replicate n (.int .i64 0)) 3)) := fun W => by
    have h := run_makeSlice (P := Try.prog) W 22 3 i0 (.int .i64 0) Try.underlying22 hi hz0 .i64 .i64 (n : Int) (n : Int) (by omega) (Int.le_refl _) (by rw [hz1]; omega) (by rw [hz2]; omega) (by omega)
    rw [Int.toNat_natCast, hz1, Nat.mul_one] at h
    rw [h]
    congr 3
    apply Array.ext
    · simp [madeCells]
    · intro j h1 h2
      simp [madeCells, Value.cells, Nat.mod_one]
  have HM := Lib.hid (mul_one n (by omega) w)
  have e1 : IntKind.u64.wrap (n : Int) = (n : Int) := MulN.wrapN n (by omega)
  have e2 : IntKind.i64.wrap (n : Int) = (n : Int) := IntWalk.i64_in _ (by omega)
  have q1 : ¬ (n : Int) < 0 := by omega
  have q2 : ¬ (9223372036854775807 : Int) < (n : Int) := by omega
  have hrow0 : Array.replicate n (Value.int .i64 0) = (rowR n 0).toArray := by simp [rowR, iv]
  have Hrow := Lib.hid hrow0
  have Hc0 := Lib.hid hc0
  clear hrow0
  go_enter Try.func26, Try.ntmps26
  go_wp2_with fail
  refine HM.out.mono ?_
  rintro e w' ⟨rfl, rfl⟩
  clear HM
  have hg0 : (w.alloc (.cells (Array.replicate n (.int .i64 0)) 3)).heap[w.heap.size]? = some (.cells (rowR n 0).toArray 3 (0, 0)) := by rw [← Hrow.out]; exact heap_alloc_new _ _
  have hb0 : Below w.heap.size w (w.alloc (.cells (Array.replicate n (.int .i64 0)) 3)) := (Below.refl _ _).alloc (Nat.le_refl _) _
  have hcc : (w.alloc (.cells (Array.replicate n (.int .i64 0)) 3)).cell? ⟨b, 0, none⟩ = some (iv (-1)) := (hb0.cell (p := ⟨b, 0, none⟩) hbl).trans Hc0.out
  have hn1 : [iv (-1)].length = Nat.min 1 n := by simp [Nat.min_eq_left h1]
  have hpos0 : ∀ j v, [iv (-1)][j]? = some v → (w.alloc (.cells (Array.replicate n (.int .i64 0)) 3)).cell? ((⟨b, 0, none⟩ : Addr).add j) = some v := by
    refine fun j v hv => ?_
    cases j with
    | zero => simp at hv; subst hv; rw [add_none]; exact hcc
    | succ j => simp at hv
  have hfit0 : 0 + [iv (-1)].length ≤ (rowR n 0).length := by simp [rowR]; exact h1
  have h10 : ∀ v ∈ [iv (-1)], v.oneCell' = true := by intro v hv; simp at hv; subst hv; rfl
  have hs10 : splice (rowR n 0) 0 [iv (-1)] = rowR n 1 := rowR_splice (n := n) (k := 0) (c := 1) (by omega)
  have Hg0 := Lib.hid hg0
  have Hn1 := Lib.hid hn1
  have Hpos0 := Lib.hid hpos0
  have Hfit0 := Lib.hid hfit0
  have H10 := Lib.hid h10
  have Hs10 := Lib.hid hs10
  clear hg0 hcc hn1 hpos0 hfit0 h10 hs10 hc0
  go_wp2_with (refine wpList_copy_splice rfl (.tmp 31) (.tmp 32) 22 22 rfl 3 Try.underlying22 (by kernel_rfl) (some ⟨w.heap.size, 0, none⟩) (some ⟨b, 0, none⟩) n n 1 1 rfl rfl w.heap.size 0 (rowR n 0) 3 Hg0.out [iv (-1)] Hn1.out (fun _ => ⟨rfl, _, rfl, Hpos0.out⟩) Hfit0.out H10.out w.heap.size w hb0 (Nat.le_refl _) ?_; intro w4 hg4 hb4)
  have hz4 := hb4.size
  have Hst := Lib.hid (show RepRel w n (n - 1) (.int .i64 1) w4 from ⟨1, rfl, by omega, by omega, by rw [← Hs10.out]; exact hg4.out, hb4⟩)
  clear hg4 hb4 Hg0 Hn1 Hpos0 Hfit0 H10 Hs10 hb0 e1 e2
  go_loopg [8] (n - 1) (fun g i wr => RepRel w n g i wr)
  case atStart => exact Hst.out
  case round =>
    obtain ⟨k, rfl, hkg, hk1, hB, hb⟩ := hrel
    have HB := Lib.hid hB
    have hbd : Below w.heap.size w wr.drew := ⟨hb.os, hb.tape, hb.output, hb.size, hb.block⟩
    have hzr := hb.size
    clear hB
    by_cases hlt : k < n
    · have hlt' : (k : Int) < (n : Int) := by omega
      obtain ⟨c, hc⟩ : ∃ c, c = min k (n - k) := ⟨_, rfl⟩
      have hc1 : 1 ≤ c := by omega
      have hck : k + c ≤ n := by omega
      have hcn : (List.replicate c (iv (-1))).length = Nat.min k (n - k) := by rw [List.length_replicate, hc]
      have hfit : k + (List.replicate c (iv (-1))).length ≤ (rowR n k).length := by simp [rowR]; omega
      have hsrc : ∀ j v, (List.replicate c (iv (-1)))[j]? = some v → wr.cell? ((⟨w.heap.size, 0, none⟩ : Addr).add j) = some v := by
        intro j v hv
        rw [add_none, Nat.zero_add]
        refine Blk.cell (show Blk wr w.heap.size 3 (rowR n k).toArray from HB.out) j v ?_
        have hj := (List.getElem?_eq_some_iff.1 hv).1
        rw [List.length_replicate] at hj
        rw [List.getElem?_replicate, if_pos hj] at hv
        have hjk : j < k := by omega
        simp only [List.getElem?_toArray, rowR]
        rw [List.getElem?_append_left (by rw [List.length_replicate]; exact hjk), List.getElem?_replicate, if_pos hjk]
        exact hv
      have h1c : ∀ v ∈ List.replicate c (iv (-1)), v.oneCell' = true := by
        intro v hv
        obtain ⟨_, rfl⟩ := List.mem_replicate.1 hv
        rfl
      have hsp : splice (rowR n k) k (List.replicate c (iv (-1))) = rowR n (k + c) := rowR_splice hck
      have Hcn := Lib.hid hcn
      have Hfit := Lib.hid hfit
      have Hsrc := Lib.hid hsrc
      have H1c := Lib.hid h1c
      have Hsp := Lib.hid hsp
      have Hc := Lib.hid hc
      have k1 : ¬ n = k := by omega
      have k2 : ¬ n = 0 := by omega
      have e3 : IntKind.i64.wrap ((k : Int) + (c : Int)) = ((k + c : Nat) : Int) := by rw [IntWalk.i64_in _ (by omega)]; omega
      have hw0 : (0 : Int) ≤ (k : Int) := by omega
      have hwn : (k : Int) ≤ (n : Int) := by omega
      have htn : (k : Int).toNat = k := by omega
      clear hc hcn hfit hsrc h1c hsp
      go_wp2_with fail
      go_region_law (refine step_copy_splice (by rfl) (.tmp 41) (.tmp 44) 22 22 (by rfl) 3 Try.underlying22 sz_int (some ⟨w.heap.size, k, none⟩) (some ⟨w.heap.size, 0, none⟩) (n - k) (n - k) k n (by go_simp) (by go_simp) w.heap.size k (rowR n k) 3 HB.out (List.replicate c (iv (-1))) Hcn.out (fun _ => ⟨rfl, _, rfl, Hsrc.out⟩) Hfit.out H1c.out w.heap.size w (by first | exact hb | exact hbd) (Nat.le_refl _) ?_; intro w5 hg5 hb5)
      go_wp2_with fail
      go_roundg (n - (k + c))
      case measure => omega
      case rel => exact ⟨k + c, by simp, by omega, by omega, by rw [← Hsp.out]; exact hg5.out, hb5⟩
    · obtain rfl : k = n := by omega
      have HP := Lib.hid (show RepPost w k (.returned (.slice (some ⟨w.heap.size, 0, none⟩) k k)) wr from ⟨rfl, by
        have : ((List.replicate k (-1 : Int)).map iv).toArray = (rowR k k).toArray := by simp [rowR]
        rw [this]; exact HB.out, hb⟩)
      go_wp2_with fail
      go_ret
      exact HP.out
end Go.Proofs.Ytgmjeanoohmdlaa
