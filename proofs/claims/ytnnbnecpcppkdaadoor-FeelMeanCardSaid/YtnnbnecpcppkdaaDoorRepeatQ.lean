/- slices.Repeat of one number. Conditions: those typed. -/
import Derived.Test.YtnnbnecpcppkdaaDoorCopyS
import Derived.Test.YtnnbnecpcppkdaaDoorShelf
import Derived.Test.YtnnbnecpcppkdaaDoorStopB
import Derived.Outline
import Derived.Laws.MakeOwn
namespace Go.Proofs.YtnnbnecpcppkdaaDoor
open Go.RowKit Go.Gy
set_option linter.unusedVariables false
theorem sz_rat : (Tryd.prog.info? 25).map (·.size) = some 3 := by kernel_rfl
set_option maxRecDepth 100000 in
theorem info_ratR : (Tryd.prog.info? 25).map (fun i => (i.zero, i.size, i.bytes)) = some (some (.agg #[.bool false, .string { data := #[] }, .string { data := #[] }]), 3, 40) := by kernel_rfl
def repL (x : Q3) (c : Nat) : List Value := (List.replicate c x).flatMap encQ
theorem repL_len (x : Q3) (c : Nat) : (repL x c).length = c * 3 := by unfold repL; rw [flatQ_length, List.length_replicate]
theorem repL_add (x : Q3) (a b : Nat) : repL x (a + b) = repL x a ++ repL x b := by unfold repL; rw [← List.replicate_append_replicate, List.flatMap_append]
def rowQ5 (x : Q3) (n k : Nat) : List Value := repL x k ++ repL nilQ3 (n - k)
theorem rowQ5_splice {x : Q3} {n k c : Nat} (hk : k + c ≤ n) : splice (rowQ5 x n k) (k * 3) (repL x c) = rowQ5 x n (k + c) := by
  unfold splice rowQ5
  rw [List.take_append_of_le_length (by rw [repL_len]; exact Nat.le_refl _), List.take_of_length_le (by rw [repL_len]; exact Nat.le_refl _), List.drop_append, List.drop_of_length_le (by rw [repL_len]; omega), List.nil_append, repL_len, repL_len, show n - k = c + (n - (k + c)) by omega, repL_add nilQ3 c, show k * 3 + c * 3 - k * 3 = c * 3 by omega,
    List.drop_append, List.drop_of_length_le (by rw [repL_len]; exact Nat.le_refl _), List.nil_append, repL_len, Nat.sub_self, List.drop_zero, repL_add x k c, List.append_assoc]
theorem repL_one (x : Q3) (c : Nat) : ∀ v ∈ repL x c, v.oneCell' = true := by
  intro u hu
  obtain ⟨y, _, hx⟩ := List.mem_flatMap.1 hu
  simp only [encQ, List.mem_cons, List.not_mem_nil, or_false] at hx
  rcases hx with rfl | rfl | rfl <;> rfl
theorem repL_get (y : Q3) : ∀ c j : Nat, j < c * 3 → (repL y c)[j]? = (encQ y)[j % 3]?
  | 0, j, h => by omega
  | c + 1, j, h => by
    rw [show c + 1 = 1 + c by omega, repL_add]
    by_cases hj : j < 3
    · rw [List.getElem?_append_left (by rw [repL_len]; omega), Nat.mod_eq_of_lt hj]
      simp [repL]
    · rw [List.getElem?_append_right (by rw [repL_len]; omega), repL_len, repL_get y c _ (by omega)]
      congr 1
      omega
theorem made_rat (x : Q3) (n : Nat) : madeCells (Value.agg #[.bool false, .string { data := #[] }, .string { data := #[] }]).cells (n * 3) = (rowQ5 x n 0).toArray := by
  have hr : rowQ5 x n 0 = repL nilQ3 n := by simp [rowQ5, repL]
  rw [hr]
  apply Array.ext
  · simp [madeCells, repL_len]
  · intro j h1 h2
    apply Option.some.inj
    rw [← Array.getElem?_eq_getElem h1, ← Array.getElem?_eq_getElem h2, show (repL nilQ3 n).toArray[j]? = (repL nilQ3 n)[j]? by simp]
    have hj : j < n * 3 := by simpa [madeCells] using h1
    rw [repL_get nilQ3 n j hj]
    have hm : j % 3 = 0 ∨ j % 3 = 1 ∨ j % 3 = 2 := by omega
    rcases hm with hm | hm | hm <;> simp [madeCells, Value.cells, hj, hm, encQ, nilQ3]
theorem rowQ5_sl {w : World} {x : Q3} {g n : Nat} (h : Blk w g 25 (rowQ5 x n n).toArray) : SlQ w w.heap.size (.slice (some ⟨g, 0, none⟩) n n) (List.replicate n x) := by
  have hr : rowQ5 x n n = (List.replicate n x).flatMap encQ := by simp [rowQ5, repL]
  rw [hr] at h
  exact ⟨_, n, n, rfl, by simp, Nat.le_refl _, (fun h => by cases h), by rw [flatQ_length, List.length_replicate], fun _ => ⟨g, 0, rfl, h.lt, fun j u hu => by rw [Nat.zero_add]; exact h.cell j u (by simpa using hu)⟩⟩
def RepRelQ (w : World) (x : Q3) (n : Nat) (g : Nat) (i : Value) (wr : World) : Prop := ∃ k : Nat, i = .int .i64 (k : Int) ∧ k + g = n ∧ 1 ≤ k ∧ wr.heap[w.heap.size]? = some (.cells (rowQ5 x n k).toArray 25 (0, 0)) ∧ Below w.heap.size w wr
def RepPostQ (w : World) (x : Q3) (n : Nat) (e : Ending) (w' : World) : Prop := e = .returned (.slice (some ⟨w.heap.size, 0, none⟩) n n) ∧ SlQ w' w'.heap.size (.slice (some ⟨w.heap.size, 0, none⟩) n n) (List.replicate n x) ∧ Below w.heap.size w w'
set_option maxRecDepth 100000 in
set_option maxHeartbeats 4000000 in
theorem repeat_oneQ (w : World) (x : Q3) (b n : Nat) (hc0 : w.cell? ⟨b, 0, none⟩ = some (.bool x.neg)) (hc1 : w.cell? ⟨b, 1, none⟩ = some (.string x.num)) (hc2 : w.cell? ⟨b, 2, none⟩ = some (.string x.den)) (hbl : b < w.heap.size) (hn : n ≤ 64) (h1 : 1 ≤ n) :
    Calls Tryd.prog 28 #[.slice (some ⟨b, 0, none⟩) 1 1, .int .i64 (n : Int)] w (RepPostQ w x n) := by
  obtain ⟨i0, hi, hi1⟩ := Option.map_eq_some_iff.1 info_ratR
  injection hi1 with hz0 hi1
  injection hi1 with hz1 hz2
  have hmk : ∀ W : World, (Instr.makeSlice 48 (.int .i64 (n : Int)) (.int .i64 (n : Int))).run Tryd.prog W = .ok (.slice (some ⟨W.heap.size, 0, none⟩) n n) (W.alloc (.cells (rowQ5 x n 0).toArray 25)) := fun W => by
    have h := run_makeSlice (P := Tryd.prog) W 48 25 i0 (.agg #[.bool false, .string { data := #[] }, .string { data := #[] }]) Tryd.underlying48 hi hz0 .i64 .i64 (n : Int) (n : Int) (by omega) (Int.le_refl _) (by rw [hz1]; omega) (by rw [hz2]; omega) (by omega)
    rw [Int.toNat_natCast, hz1] at h
    rw [h]
    rw [made_rat x n]
  have Hc0 := Lib.hid hc0
  have Hc1 := Lib.hid hc1
  have Hc2 := Lib.hid hc2
  clear hc0 hc1 hc2
  have HM := Lib.hid (Tryd.bits_Mul 1 n (by omega) (by omega) w)
  rw [Nat.one_mul, Nat.div_eq_of_lt (by omega), Nat.mod_eq_of_lt (by omega)] at HM
  have e1 : IntKind.u64.wrap (n : Int) = (n : Int) := by rw [IntKind.wrap_u64]; omega
  have e2 : IntKind.i64.wrap (n : Int) = (n : Int) := by rw [IntKind.wrap_i64]; omega
  have q1 : ¬ (n : Int) < 0 := by omega
  have q2 : ¬ (9223372036854775807 : Int) < (n : Int) := by omega
  go_enter Tryd.func28, Tryd.ntmps28
  go_wp2_with fail
  refine HM.out.mono ?_
  rintro e w' ⟨rfl, hw⟩
  subst w'
  clear HM
  have hg0 : (w.alloc (.cells (rowQ5 x n 0).toArray 25)).heap[w.heap.size]? = some (.cells (rowQ5 x n 0).toArray 25 (0, 0)) := heap_alloc_new _ _
  have hb0 : Below w.heap.size w (w.alloc (.cells (rowQ5 x n 0).toArray 25)) := (Below.refl _ _).alloc (Nat.le_refl _) _
  have hn1 : (repL x 1).length = Nat.min 1 n * 3 := by rw [repL_len, show Nat.min 1 n = 1 from Nat.min_eq_left h1]
  have hpos0 : ∀ j v, (repL x 1)[j]? = some v → (w.alloc (.cells (rowQ5 x n 0).toArray 25)).cell? ((⟨b, 0, none⟩ : Addr).add j) = some v := by
    intro j v hv
    rw [add_none, Nat.zero_add, hb0.cell (p := ⟨b, j, none⟩) hbl]
    match j, hv with
    | 0, hv => simp [repL, encQ] at hv; subst hv; exact Hc0.out
    | 1, hv => simp [repL, encQ] at hv; subst hv; exact Hc1.out
    | 2, hv => simp [repL, encQ] at hv; subst hv; exact Hc2.out
    | j + 3, hv => simp [repL, encQ] at hv
  have hfit0 : 0 + (repL x 1).length ≤ (rowQ5 x n 0).length := by simp only [rowQ5, List.length_append, repL_len]; omega
  have hs10 : splice (rowQ5 x n 0) 0 (repL x 1) = rowQ5 x n 1 := by have := rowQ5_splice (x := x) (n := n) (k := 0) (c := 1) (by omega); simpa using this
  have Hg0 := Lib.hid hg0
  have Hn1 := Lib.hid hn1
  have Hpos0 := Lib.hid hpos0
  have Hfit0 := Lib.hid hfit0
  have H10 := Lib.hid (repL_one x 1)
  have Hs10 := Lib.hid hs10
  clear hg0 hn1 hpos0 hfit0 hs10
  go_wp2_with (refine wpList_copyS rfl (.tmp 31) (.tmp 32) 48 48 rfl 25 3 Tryd.underlying48 sz_rat ⟨b, 0, none⟩ n n 1 1 w.heap.size 0 rfl rfl (rowQ5 x n 0) 25 Hg0.out (repL x 1) Hn1.out Hpos0.out Hfit0.out H10.out w.heap.size w hb0 (Nat.le_refl _) ?_; intro w4 hg4 hb4)
  have hz4 := hb4.size
  have Hst := Lib.hid (show RepRelQ w x n (n - 1) (.int .i64 1) w4 from ⟨1, rfl, by omega, by omega, by rw [← Hs10.out]; exact hg4.out, hb4⟩)
  clear hg4 hb4 Hg0 Hn1 Hpos0 Hfit0 H10 Hs10 hb0 e1 e2
  go_loopg [8] (n - 1) (fun g i wr => RepRelQ w x n g i wr)
  case atStart => exact Hst.out
  case round =>
    obtain ⟨k, rfl, hkg, hk1, hB, hb⟩ := hrel
    have HB := Lib.hid hB
    have hbd : Below w.heap.size w wr.drew := ⟨hb.os, hb.tape, hb.output, hb.size, hb.block⟩
    have hzr := hb.size
    clear hB
    by_cases hlt : k < n
    · have hlt' : (k : Int) < (n : Int) := by omega
      obtain ⟨c, hc⟩ : ∃ c, c = Nat.min k (n - k) := ⟨_, rfl⟩
      have hc1 : 1 ≤ c := by rw [hc]; exact Nat.le_min.2 ⟨hk1, by omega⟩
      have hck' : c ≤ k := by rw [hc]; exact Nat.min_le_left _ _
      have hck : k + c ≤ n := by have : c ≤ n - k := by rw [hc]; exact Nat.min_le_right _ _
                                 omega
      have hcn : (repL x c).length = Nat.min k (n - k) * 3 := by rw [repL_len, hc]
      have hfit : k * 3 + (repL x c).length ≤ (rowQ5 x n k).length := by simp only [rowQ5, List.length_append, repL_len]; omega
      have hsrc : ∀ j v, (repL x c)[j]? = some v → wr.cell? ((⟨w.heap.size, 0, none⟩ : Addr).add j) = some v := by
        intro j v hv
        rw [add_none, Nat.zero_add]
        refine Blk.cell (show Blk wr w.heap.size 25 (rowQ5 x n k).toArray from HB.out) j v ?_
        have hj := (List.getElem?_eq_some_iff.1 hv).1
        rw [repL_len] at hj
        rw [List.getElem?_toArray]
        unfold rowQ5
        rw [List.getElem?_append_left (by rw [repL_len]; omega), show k = c + (k - c) by omega, repL_add, List.getElem?_append_left (by rw [repL_len]; omega)]
        exact hv
      have hsp : splice (rowQ5 x n k) (k * 3) (repL x c) = rowQ5 x n (k + c) := rowQ5_splice hck
      have Hcn := Lib.hid hcn
      have Hfit := Lib.hid hfit
      have Hsrc := Lib.hid hsrc
      have H1c := Lib.hid (repL_one x c)
      have Hsp := Lib.hid hsp
      have Hc := Lib.hid hc
      have k1 : ¬ n = k := by omega
      have k2 : ¬ n = 0 := by omega
      have e3 : IntKind.i64.wrap ((k : Int) + ((Nat.min k (n - k) : Nat) : Int)) = ((k + c : Nat) : Int) := by rw [← hc, IntKind.wrap_i64]; omega
      have hw0 : (0 : Int) ≤ (k : Int) := by omega
      have hwn : (k : Int) ≤ (n : Int) := by omega
      have htn : (k : Int).toNat = k := by omega
      clear hc hcn hfit hsrc hsp
      go_wp2_with fail
      go_region_law (refine step_copyS (by rfl) (.tmp 41) (.tmp 44) 48 48 (by rfl) 25 3 Tryd.underlying48 sz_rat ⟨w.heap.size, 0, none⟩ (n - k) (n - k) k n w.heap.size (k * 3) (by go_simp) (by go_simp) (rowQ5 x n k) 25 HB.out (repL x c) Hcn.out Hsrc.out Hfit.out H1c.out w.heap.size w (by first | exact hb | exact hbd) (Nat.le_refl _) ?_; intro w5 hg5 hb5)
      go_wp2_with fail
      go_roundg (n - (k + c))
      case measure => omega
      case rel => exact ⟨k + c, by first | exact congrArg _ e3 | simp, by omega, by omega, by rw [← Hsp.out]; exact hg5.out, hb5⟩
    · obtain rfl : k = n := by omega
      have HP := Lib.hid (show RepPostQ w x k (.returned (.slice (some ⟨w.heap.size, 0, none⟩) k k)) wr from ⟨rfl, rowQ5_sl (show Blk wr w.heap.size 25 (rowQ5 x k k).toArray from HB.out), hb⟩)
      go_wp2_with fail
      go_ret
      exact HP.out
end Go.Proofs.YtnnbnecpcppkdaaDoor
