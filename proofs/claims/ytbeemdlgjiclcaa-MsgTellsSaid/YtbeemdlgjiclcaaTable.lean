/- The second implementation's table and its CRC-32. Conditions: at most 2^45 bytes. -/
import Derived.Test.YtbeemdlgjiclcaaSum
import Derived.Laws.CopyOwn
namespace Go.Proofs.Ytbeemdlgjiclcaa
open Go.RowKit Go.Gy
set_option linter.unusedVariables false
/-- the table, as far as it is filled -/
def tabTo (k : Nat) : Array Value := (Array.range 256).map fun i => if i < k then Value.int .u32 (csteps 8 i : Nat) else Value.int .u32 0
theorem tab_size (k : Nat) : (tabTo k).size = 256 := by simp [tabTo]
theorem tab_zero : Try.zeroCells142 = tabTo 0 := by kernel_rfl
theorem tab_at (k i : Nat) : (tabTo k)[i]? = if i < 256 then some (if i < k then Value.int .u32 (csteps 8 i : Nat) else Value.int .u32 0) else none := by
  unfold tabTo
  rw [Array.getElem?_map, Array.getElem?_range]
  split <;> rfl
theorem tab_set (k : Nat) (h : k < 256) : (tabTo k).setIfInBounds k (.int .u32 (csteps 8 k : Nat)) = tabTo (k + 1) := by
  apply Array.ext_getElem?
  intro i
  rw [Array.getElem?_setIfInBounds, tab_at, tab_at, tab_size]
  by_cases e : k = i
  · subst e; simp [h]
  · simp only [e, if_false]
    by_cases h3 : i < k
    · rw [if_pos h3, if_pos (show i < k + 1 by omega)]
    · rw [if_neg h3, if_neg (show ¬ i < k + 1 by omega)]
theorem tab_get (k i : Nat) (h : i < 256) : ∃ v, (tabTo k)[i]? = some v := ⟨_, Array.getElem?_eq_getElem (by rw [tab_size]; exact h)⟩
theorem tab_one : (tabTo 256).all (·.oneCell') = true := by
  rw [Array.all_eq_true_iff_forall_mem]
  intro v hv
  unfold tabTo at hv
  simp only [Array.mem_map] at hv
  obtain ⟨i, _, rfl⟩ := hv
  split <;> rfl
set_option maxRecDepth 100000 in
theorem table_any (w : World)  :
    Calls Try.prog 85 #[] w fun e w' => e = .returned (.agg (tabTo 256)) ∧ Below w.heap.size w w' := by
  go_enter Try.func85, Try.ntmps85
  go_wp2
  rw [tab_zero]
  go_loopw [4] (fun i wr => ∃ k : Nat, k ≤ 256 ∧ i = .int .i64 k ∧ Blk wr (w.heap.size + 1) 142 (tabTo k) ∧ Blk wr w.heap.size 142 (tabTo 0) ∧ Below w.heap.size w wr) (fun i _ => 256 - (intOf i).toNat)
  case atStart => exact ⟨0, by omega, rfl, by simpa using Blk.new (w.alloc (.cells (tabTo 0) 142)) 142 (tabTo 0), (Blk.new w 142 _).alloc _, ((Below.refl _ _).alloc (Nat.le_refl _) _).alloc (by simp) _⟩
  case round =>
    obtain ⟨k, hk, rfl, hb1, hb0, hb⟩ := hrel
    by_cases hlt : k < 256
    · obtain ⟨v, hv⟩ := tab_get k k hlt
      have hc := hb1.cell k v hv
      have hf := hb1.free k
      have Hset := Lib.hid (hb1.set k (.int .u32 (csteps 8 k : Nat)))
      clear hv
      go_wp2
      go_loop [3, 9] (fun s i => ∃ j y : Nat, j ≤ 8 ∧ i = .int .i64 j ∧ s = .int .u32 y ∧ y = csteps j k) (fun _ i => 8 - (intOf i).toNat)
      case atStart => exact ⟨0, k, by omega, rfl, rfl, rfl⟩
      case round =>
        obtain ⟨j, y, hj, rfl, rfl, hy⟩ := hrel
        have y1 : y < 4294967296 := by rw [hy]; exact csteps_lt j (by omega)
        have Hy := Lib.hid hy
        clear hy
        by_cases hjt : j < 8
        · by_cases hodd : (y : Int) % 2 = 1
          · have Hst := Lib.hid (show bits .xor .u32 ((y : Int) / 2) 3988292384 = ((cstep y : Nat) : Int) by
              have h2 : (y : Int) / 2 = ((y / 2 : Nat) : Int) := by omega
              rw [h2]
              have := u32_xor_nat (y / 2) 3988292384 (by omega) (by omega)
              refine this.trans ?_
              unfold cstep poly
              rw [show y % 2 = 1 by omega])
            go_wp2
            go_round
            case rel => exact ⟨j + 1, cstep y, by omega, by go_num, by rw [Hst.out], by rw [Hy.out]; rfl⟩
            case measure => simp [intOf]; omega
          · have Hst := Lib.hid (show ((y : Int) / 2) = ((cstep y : Nat) : Int) by
              unfold cstep
              rw [show y % 2 = 0 by omega]; simp)
            have hob : ((y : Int) % 2 == 1) = false := by simpa using hodd
            go_wp2
            go_round
            case rel => exact ⟨j + 1, cstep y, by omega, by go_num, by rw [Hst.out], by rw [Hy.out]; rfl⟩
            case measure => simp [intOf]; omega
        · obtain rfl : j = 8 := by omega
          have HB1 := Lib.hid hb1
          go_wp2
          go_roundw
          case rel =>
            refine ⟨k + 1, by omega, by go_num, ?_, ?_, ?_⟩
            · have := Hset.out
              rw [← tab_set k hlt]
              rw [Hy.out]; exact this
            · exact hb0.far (by show w.heap.size ≠ w.heap.size + 1; omega) _
            · exact hb.setCell (by show w.heap.size ≤ w.heap.size + 1; omega) _
          case measure => simp [intOf]; omega
    · obtain rfl : k = 256 := by omega
      go_wp2_with (first
        | (refine wpList_load_row rfl 142 (.tmp 1) rfl (w.heap.size + 1) rfl 142 (tabTo 256) (0, 0) _ hb1 Try.underlying142 rfl (by rw [tab_size]; kernel_rfl) ?_)
        | (refine wpList_store_row rfl 142 (.tmp 0) (.tmp 24) rfl w.heap.size (tabTo 256) rfl rfl 142 (tabTo 0) hb0 (by rw [tab_size]; kernel_rfl) (by rw [tab_size, tab_size]) tab_one ?_))
      refine bodyPost_ret (results_cell_row Try.results85 _ _ w.heap.size 142 (tabTo 256) (0, 0) _ rfl ?_ Try.underlying142 rfl (by rw [tab_size]; kernel_rfl)) rfl ⟨rfl, ?_⟩
      · exact setRow_heap _ _ _ _ _ _ hb0
      · exact below_setRow hb (Nat.le_refl _) _

set_option maxRecDepth 100000 in
set_option maxHeartbeats 400000 in
theorem crc_any (w : World) (A : Option Addr) (n c : Nat) (l : List Nat) (hl : l.length = n) (hn : n ≤ 140737488355328) (hr : Rd w w.heap.size 1 A n (l.map bv)) (h8 : ∀ x ∈ l, x < 256) :
    Calls Try.prog 28 #[.slice A n c] w fun e w' => e = .returned (.int .u32 (crc l : Nat)) ∧ Below w.heap.size w w' := by
  have Hl := Lib.hid hl
  have H8 := Lib.hid h8
  clear hl h8
  go_enter Try.func28, Try.ntmps28
  go_wp2_with fail
  refine (table_any _).mono ?_
  rintro e w1 ⟨rfl, hb1⟩
  have hsz1 := hb1.size
  go_wp2_with (refine wpList_store_row rfl 142 (.tmp 3) (.tmp 7) rfl w1.heap.size (tabTo 256) rfl rfl 142 Try.zeroCells142 (Blk.new _ _ _) (by rw [tab_size]; kernel_rfl) (by rw [tab_zero, tab_size, tab_size]) tab_one ?_)
  have hB2 : Below w.heap.size w ((w1.alloc (.cells Try.zeroCells142 142)).setRow w1.heap.size (tabTo 256)) := below_setRow (hb1.alloc hsz1 _) hsz1 _
  have hT2 : Blk ((w1.alloc (.cells Try.zeroCells142 142)).setRow w1.heap.size (tabTo 256)) w1.heap.size 142 (tabTo 256) := setRow_heap _ _ _ _ _ _ (Blk.new _ _ _)
  generalize (w1.alloc (.cells Try.zeroCells142 142)).setRow w1.heap.size (tabTo 256) = w2 at hB2 hT2 ⊢
  have hr2 := hr.below hB2
  clear hr hb1
  go_loop [4, 10] (fun s i => ∃ k x : Nat, k ≤ n ∧ i = .int .i64 k ∧ s = .int .u32 x ∧ x = cfold 4294967295 (l.take k)) (fun _ i => n - (intOf i).toNat)
  case atStart => exact ⟨0, 4294967295, Nat.zero_le _, rfl, rfl, rfl⟩
  case round =>
    obtain ⟨k, x, hk, rfl, rfl, hx⟩ := hrel
    have x1 : x < 4294967296 := by rw [hx]; exact cfold_lt _ (fun y hy => H8.out y (List.mem_of_mem_take hy)) (by omega)
    have Hx := Lib.hid hx
    clear hx
    by_cases hlt : k < n
    · obtain ⟨b, o, z, rfl, hb, hz, hc⟩ := bv_at hr2 hlt
      have z1 := H8.out z (List.mem_of_getElem? hz)
      have Hs := Lib.hid (show cfold 4294967295 (l.take (k + 1)) = csteps 8 (x ^^^ z) by rw [List.take_add_one, hz, Hx.out]; exact cfold_snoc _ _ _)
      clear hz
      have hq : bits .xor .u8 ((x : Int) % 256) (z : Int) = (((x % 256) ^^^ z : Nat) : Int) := by
        have := u8_xor_nat (x % 256) z (by omega) z1
        rw [← this]; rfl
      have hq1 : (x % 256) ^^^ z < 256 := Nat.xor_lt_two_pow (n := 8) (by omega) z1
      have hb0 : 0 ≤ bits .xor .u8 ((x : Int) % 256) (z : Int) := by rw [hq]; omega
      have hb1 : bits .xor .u8 ((x : Int) % 256) (z : Int) < 256 := by rw [hq]; omega
      have hcell : w2.cell? ⟨w1.heap.size, (bits .xor .u8 ((x : Int) % 256) (z : Int)).toNat, none⟩ = some (.int .u32 (csteps 8 ((x % 256) ^^^ z) : Nat)) := by
        rw [hq]
        refine hT2.cell _ _ ?_
        rw [show (((x % 256 ^^^ z : Nat)) : Int).toNat = x % 256 ^^^ z from by omega, tab_at, if_pos hq1, if_pos hq1]
      have Hend := Lib.hid (show bits .xor .u32 (csteps 8 ((x % 256) ^^^ z) : Nat) ((x : Int) / 256) = (csteps 8 (x ^^^ z) : Nat) by
        rw [csteps_table x z]
        have := u32_xor_nat (csteps 8 ((x % 256) ^^^ z)) (x / 256) (csteps_lt 8 (by omega)) (by omega)
        rw [← this]; rfl)
      clear hq hq1
      go_wp2
      go_round
      case rel => exact ⟨k + 1, csteps 8 (x ^^^ z), by omega, by go_num, by rw [Hend.out], Hs.out.symm⟩
      case measure => simp [intOf]; omega
    · obtain rfl : k = n := by omega
      go_wp2
      go_ret
      refine ⟨ret_int ?_, hB2⟩
      show bits .xor .u32 (x : Int) 4294967295 = _
      have h1 := u32_xor_nat x 4294967295 x1 (by omega)
      have h3 := Hx.out
      rw [List.take_of_length_le (by rw [Hl.out]; omega)] at h3
      refine h1.trans ?_
      rw [h3]; rfl
end Go.Proofs.Ytbeemdlgjiclcaa
