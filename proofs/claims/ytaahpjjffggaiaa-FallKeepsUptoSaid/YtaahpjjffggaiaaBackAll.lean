/- The second implementation's table and its CRC-32. gantref5.Book. gantref5.Records. fall.Keep and fall.Back. gantlaw5.backs returns true. An event as an argument. A slice of events as an argument. Conditions: those typed. -/
import Derived.Test.YtaahpjjffggaiaaSum
import Derived.Laws.CopyOwn
import Derived.Test.YtaahpjjffggaiaaRefBytes
import Derived.Test.YtaahpjjffggaiaaSliceTo
import Derived.Laws.BytesArg
import Derived.Test.YtaahpjjffggaiaaEvents
import Derived.Test.YtaahpjjffggaiaaFallW
import Derived.Test.YtaahpjjffggaiaaFallR
import Derived.Test.YtaahpjjffggaiaaAdd
import Derived.Test.YtaahpjjffggaiaaSlSs
import Derived.Test.YtaahpjjffggaiaaFallRefs
import Derived.Deep.CutBlock
import Derived.Deep.DeepCutAuto
import Derived.Test.YtaahpjjffggaiaaMemOpen
namespace Go.Proofs.Ytaahpjjffggaiaa
open Go.RowKit Go.Gy
set_option linter.unusedVariables false
/-- the table, as far as it is filled -/
def tabTo (k : Nat) : Array Value := (Array.range 256).map fun i => if i < k then Value.int .u32 (csteps 8 i : Nat) else Value.int .u32 0
theorem tab_size (k : Nat) : (tabTo k).size = 256 := by simp [tabTo]
theorem tab_zero : Try.zeroCells124 = tabTo 0 := by kernel_rfl
theorem tab_at (k i : Nat) : (tabTo k)[i]? = if i < 256 then some (if i < k then Value.int .u32 (csteps 8 i : Nat) else Value.int .u32 0) else none := by
  unfold tabTo
  rw [Array.getElem?_map, Array.getElem?_range]
  split <;> rfl
theorem tab_set (k : Nat) (h : k < 256) : (tabTo k).setIfInBounds k (.int .u32 (csteps 8 k : Nat)) = tabTo (k + 1) := by
  apply Array.ext_getElem?
  intro i
  rw [Array.getElem?_setIfInBounds, tab_at, tab_at, tab_size]
  by_cases e : k = i
  · subst e; simp [h]
  · simp only [e, if_false]
    by_cases h3 : i < k
    · rw [if_pos h3, if_pos (show i < k + 1 by omega)]
    · rw [if_neg h3, if_neg (show ¬ i < k + 1 by omega)]
theorem tab_get (k i : Nat) (h : i < 256) : ∃ v, (tabTo k)[i]? = some v := ⟨_, Array.getElem?_eq_getElem (by rw [tab_size]; exact h)⟩
theorem tab_one : (tabTo 256).all (·.oneCell') = true := by
  rw [Array.all_eq_true_iff_forall_mem]
  intro v hv
  unfold tabTo at hv
  simp only [Array.mem_map] at hv
  obtain ⟨i, _, rfl⟩ := hv
  split <;> rfl
set_option maxRecDepth 100000 in
theorem table_any (w : World)  :
    Calls Try.prog 83 #[] w fun e w' => e = .returned (.agg (tabTo 256)) ∧ Below w.heap.size w w' := by
  go_enter Try.func83, Try.ntmps83
  go_wp2
  rw [tab_zero]
  go_loopw [4] (fun i wr => ∃ k : Nat, k ≤ 256 ∧ i = .int .i64 k ∧ Blk wr (w.heap.size + 1) 124 (tabTo k) ∧ Blk wr w.heap.size 124 (tabTo 0) ∧ Below w.heap.size w wr) (fun i _ => 256 - (intOf i).toNat)
  case atStart => exact ⟨0, by omega, rfl, by simpa using Blk.new (w.alloc (.cells (tabTo 0) 124)) 124 (tabTo 0), (Blk.new w 124 _).alloc _, ((Below.refl _ _).alloc (Nat.le_refl _) _).alloc (by simp) _⟩
  case round =>
    obtain ⟨k, hk, rfl, hb1, hb0, hb⟩ := hrel
    by_cases hlt : k < 256
    · obtain ⟨v, hv⟩ := tab_get k k hlt
      have hc := hb1.cell k v hv
      have hf := hb1.free k
      have Hset := Lib.hid (hb1.set k (.int .u32 (csteps 8 k : Nat)))
      clear hv
      go_wp2
      go_loop [3, 9] (fun s i => ∃ j y : Nat, j ≤ 8 ∧ i = .int .i64 j ∧ s = .int .u32 y ∧ y = csteps j k) (fun _ i => 8 - (intOf i).toNat)
      case atStart => exact ⟨0, k, by omega, rfl, rfl, rfl⟩
      case round =>
        obtain ⟨j, y, hj, rfl, rfl, hy⟩ := hrel
        have y1 : y < 4294967296 := by rw [hy]; exact csteps_lt j (by omega)
        have Hy := Lib.hid hy
        clear hy
        by_cases hjt : j < 8
        · by_cases hodd : (y : Int) % 2 = 1
          · have Hst := Lib.hid (show bits .xor .u32 ((y : Int) / 2) 3988292384 = ((cstep y : Nat) : Int) by
              have h2 : (y : Int) / 2 = ((y / 2 : Nat) : Int) := by omega
              rw [h2]
              have := u32_xor_nat (y / 2) 3988292384 (by omega) (by omega)
              refine this.trans ?_
              unfold cstep poly
              rw [show y % 2 = 1 by omega])
            go_wp2
            go_round
            case rel => exact ⟨j + 1, cstep y, by omega, by go_num, by rw [Hst.out], by rw [Hy.out]; rfl⟩
            case measure => simp [intOf]; omega
          · have Hst := Lib.hid (show ((y : Int) / 2) = ((cstep y : Nat) : Int) by
              unfold cstep
              rw [show y % 2 = 0 by omega]; simp)
            have hob : ((y : Int) % 2 == 1) = false := by simpa using hodd
            go_wp2
            go_round
            case rel => exact ⟨j + 1, cstep y, by omega, by go_num, by rw [Hst.out], by rw [Hy.out]; rfl⟩
            case measure => simp [intOf]; omega
        · obtain rfl : j = 8 := by omega
          have HB1 := Lib.hid hb1
          go_wp2
          go_roundw
          case rel =>
            refine ⟨k + 1, by omega, by go_num, ?_, ?_, ?_⟩
            · have := Hset.out
              rw [← tab_set k hlt]
              rw [Hy.out]; exact this
            · exact hb0.far (by show w.heap.size ≠ w.heap.size + 1; omega) _
            · exact hb.setCell (by show w.heap.size ≤ w.heap.size + 1; omega) _
          case measure => simp [intOf]; omega
    · obtain rfl : k = 256 := by omega
      go_wp2_with (first
        | (refine wpList_load_row rfl 124 (.tmp 1) rfl (w.heap.size + 1) rfl 124 (tabTo 256) (0, 0) _ hb1 Try.underlying124 rfl (by rw [tab_size]; kernel_rfl) ?_)
        | (refine wpList_store_row rfl 124 (.tmp 0) (.tmp 24) rfl w.heap.size (tabTo 256) rfl rfl 124 (tabTo 0) hb0 (by rw [tab_size]; kernel_rfl) (by rw [tab_size, tab_size]) tab_one ?_))
      refine bodyPost_ret (results_cell_row Try.results83 _ _ w.heap.size 124 (tabTo 256) (0, 0) _ rfl ?_ Try.underlying124 rfl (by rw [tab_size]; kernel_rfl)) rfl ⟨rfl, ?_⟩
      · exact setRow_heap _ _ _ _ _ _ hb0
      · exact below_setRow hb (Nat.le_refl _) _

set_option maxRecDepth 100000 in
set_option maxHeartbeats 400000 in
theorem crc_any (w : World) (A : Option Addr) (n c : Nat) (l : List Nat) (hl : l.length = n) (hn : n ≤ 140737488355328) (hr : Rd w w.heap.size 1 A n (l.map bv)) (h8 : ∀ x ∈ l, x < 256) :
    Calls Try.prog 66 #[.slice A n c] w fun e w' => e = .returned (.int .u32 (crc l : Nat)) ∧ Below w.heap.size w w' := by
  have Hl := Lib.hid hl
  have H8 := Lib.hid h8
  clear hl h8
  go_enter Try.func66, Try.ntmps66
  go_wp2_with fail
  refine (table_any _).mono ?_
  rintro e w1 ⟨rfl, hb1⟩
  have hsz1 := hb1.size
  go_wp2_with (refine wpList_store_row rfl 124 (.tmp 3) (.tmp 7) rfl w1.heap.size (tabTo 256) rfl rfl 124 Try.zeroCells124 (Blk.new _ _ _) (by rw [tab_size]; kernel_rfl) (by rw [tab_zero, tab_size, tab_size]) tab_one ?_)
  have hB2 : Below w.heap.size w ((w1.alloc (.cells Try.zeroCells124 124)).setRow w1.heap.size (tabTo 256)) := below_setRow (hb1.alloc hsz1 _) hsz1 _
  have hT2 : Blk ((w1.alloc (.cells Try.zeroCells124 124)).setRow w1.heap.size (tabTo 256)) w1.heap.size 124 (tabTo 256) := setRow_heap _ _ _ _ _ _ (Blk.new _ _ _)
  generalize (w1.alloc (.cells Try.zeroCells124 124)).setRow w1.heap.size (tabTo 256) = w2 at hB2 hT2 ⊢
  have hr2 := hr.below hB2
  clear hr hb1
  go_loop [4, 10] (fun s i => ∃ k x : Nat, k ≤ n ∧ i = .int .i64 k ∧ s = .int .u32 x ∧ x = cfold 4294967295 (l.take k)) (fun _ i => n - (intOf i).toNat)
  case atStart => exact ⟨0, 4294967295, Nat.zero_le _, rfl, rfl, rfl⟩
  case round =>
    obtain ⟨k, x, hk, rfl, rfl, hx⟩ := hrel
    have x1 : x < 4294967296 := by rw [hx]; exact cfold_lt _ (fun y hy => H8.out y (List.mem_of_mem_take hy)) (by omega)
    have Hx := Lib.hid hx
    clear hx
    by_cases hlt : k < n
    · obtain ⟨b, o, z, rfl, hb, hz, hc⟩ := bv_at hr2 hlt
      have z1 := H8.out z (List.mem_of_getElem? hz)
      have Hs := Lib.hid (show cfold 4294967295 (l.take (k + 1)) = csteps 8 (x ^^^ z) by rw [List.take_add_one, hz, Hx.out]; exact cfold_snoc _ _ _)
      clear hz
      have hq : bits .xor .u8 ((x : Int) % 256) (z : Int) = (((x % 256) ^^^ z : Nat) : Int) := by
        have := u8_xor_nat (x % 256) z (by omega) z1
        rw [← this]; rfl
      have hq1 : (x % 256) ^^^ z < 256 := Nat.xor_lt_two_pow (n := 8) (by omega) z1
      have hb0 : 0 ≤ bits .xor .u8 ((x : Int) % 256) (z : Int) := by rw [hq]; omega
      have hb1 : bits .xor .u8 ((x : Int) % 256) (z : Int) < 256 := by rw [hq]; omega
      have hcell : w2.cell? ⟨w1.heap.size, (bits .xor .u8 ((x : Int) % 256) (z : Int)).toNat, none⟩ = some (.int .u32 (csteps 8 ((x % 256) ^^^ z) : Nat)) := by
        rw [hq]
        refine hT2.cell _ _ ?_
        rw [show (((x % 256 ^^^ z : Nat)) : Int).toNat = x % 256 ^^^ z from by omega, tab_at, if_pos hq1, if_pos hq1]
      have Hend := Lib.hid (show bits .xor .u32 (csteps 8 ((x % 256) ^^^ z) : Nat) ((x : Int) / 256) = (csteps 8 (x ^^^ z) : Nat) by
        rw [csteps_table x z]
        have := u32_xor_nat (csteps 8 ((x % 256) ^^^ z)) (x / 256) (csteps_lt 8 (by omega)) (by omega)
        rw [← this]; rfl)
      clear hq hq1
      go_wp2
      go_round
      case rel => exact ⟨k + 1, csteps 8 (x ^^^ z), by omega, by go_num, by rw [Hend.out], Hs.out.symm⟩
      case measure => simp [intOf]; omega
    · obtain rfl : k = n := by omega
      go_wp2
      go_ret
      refine ⟨ret_int ?_, hB2⟩
      show bits .xor .u32 (x : Int) 4294967295 = _
      have h1 := u32_xor_nat x 4294967295 x1 (by omega)
      have h3 := Hx.out
      rw [List.take_of_length_le (by rw [Hl.out]; omega)] at h3
      refine h1.trans ?_
      rw [h3]; rfl
end Go.Proofs.Ytaahpjjffggaiaa
namespace Go.Proofs.Ytaahpjjffggaiaa
open Go.RowKit Go.Gy
set_option linter.unusedVariables false

def CatPost (w : World) (l : List Nat) (e : Ending) (w' : World) : Prop := ∃ v, e = .returned v ∧ SlB w' w'.heap.size v l ∧ Below w.heap.size w w'
theorem concat2 (w : World) (u1 u2 : Value) (r1 r2 : List Nat) (h1 : SlB w w.heap.size u1 r1) (h2 : SlB w w.heap.size u2 r2) (hb : r1.length + r2.length ≤ 1000000000) :
    Calls Try.prog 21 #[.slice (some ⟨w.heap.size, 0, none⟩) 2 2] (w.alloc (.cells #[u1, u2] 33)) (CatPost w (r1 ++ r2)) := by
  have ha : Below w.heap.size w (w.alloc (.cells #[u1, u2] 33)) := (Below.refl _ _).alloc (Nat.le_refl _) _
  have hs := ha.size
  refine (concat_bytes _ _ 2 2 [u1, u2] [r1, r2] rfl (by omega) ?_ ?_ ?_).mono ?_
  · have h := Rd.lit w 33 [u1, u2] 1 2 rfl
    simpa using h
  · exact SlsB.cons ((h1.below ha).more hs) (SlsB.cons ((h2.below ha).more hs) (SlsB.nil _ _))
  · simp; omega
  · rintro e w' ⟨v, rfl, ho, hb'⟩
    refine ⟨v, rfl, ?_, ha.trans (hb'.mono hs)⟩
    have := SlB.own (r := [r1, r2].flatten) ho
    simpa using this
theorem concat3 (w : World) (u1 u2 u3 : Value) (r1 r2 r3 : List Nat) (h1 : SlB w w.heap.size u1 r1) (h2 : SlB w w.heap.size u2 r2) (h3 : SlB w w.heap.size u3 r3) (hb : r1.length + r2.length + r3.length ≤ 1000000000) :
    Calls Try.prog 21 #[.slice (some ⟨w.heap.size, 0, none⟩) 3 3] (w.alloc (.cells #[u1, u2, u3] 33)) (CatPost w (r1 ++ (r2 ++ r3))) := by
  have ha : Below w.heap.size w (w.alloc (.cells #[u1, u2, u3] 33)) := (Below.refl _ _).alloc (Nat.le_refl _) _
  have hs := ha.size
  refine (concat_bytes _ _ 3 3 [u1, u2, u3] [r1, r2, r3] rfl (by omega) ?_ ?_ ?_).mono ?_
  · have h := Rd.lit w 33 [u1, u2, u3] 1 3 rfl
    simpa using h
  · exact SlsB.cons ((h1.below ha).more hs) (SlsB.cons ((h2.below ha).more hs) (SlsB.cons ((h3.below ha).more hs) (SlsB.nil _ _)))
  · simp; omega
  · rintro e w' ⟨v, rfl, ho, hb'⟩
    refine ⟨v, rfl, ?_, ha.trans (hb'.mono hs)⟩
    have := SlB.own (r := [r1, r2, r3].flatten) ho
    simpa using this
theorem crc_slice (w : World) (v : Value) (l : List Nat) (h : SlB w w.heap.size v l) (hn : l.length ≤ 1000000000) (h8 : ∀ x ∈ l, x < 256) :
    Calls Try.prog 66 #[v] w fun e w' => e = .returned (.int .u32 (crc l : Nat)) ∧ Below w.heap.size w w' := by
  obtain ⟨A, n, c, rfl, h1, h2, h3, h4⟩ := h
  exact crc_any w A n c l h1 (by omega) h4 h8

def BookRel (w : World) (rs : List (List Nat)) (o l i : Value) (wr : World) : Prop := ∃ k : Nat, k ≤ rs.length ∧ i = .int .i64 k ∧ SlB wr wr.heap.size o (bookF 0 (rs.take k)) ∧ SlB wr wr.heap.size l (be4 (lastF 0 (rs.take k))) ∧ Below w.heap.size w wr
set_option maxRecDepth 100000 in
set_option maxHeartbeats 4000000 in
theorem book_any (w : World) (v : Value) (rs : List (List Nat)) (hv : SlSs w w.heap.size v rs) (hn : rs.length ≤ 20000) (h8 : ∀ r ∈ rs, r.length ≤ 2000 ∧ ∀ x ∈ r, x < 256) :
    Calls Try.prog 39 #[v] w (CatPost w (bookF 0 rs)) := by
  obtain ⟨A, n, c, vs, rfl, hxl, hnc, hA, hr, hs⟩ := hv
  have Hxl := Lib.hid hxl
  have Hs := Lib.hid hs
  have H8 := Lib.hid h8
  have HA := Lib.hid hA
  rw [hxl] at hn
  clear hxl hs h8 hA
  go_enter Try.func39, Try.ntmps39
  go_wp2
  go_loopw [3, 4, 11] (fun o l i wr => BookRel w rs o l i wr) (fun _ _ i _ => n - (intOf i).toNat)
  case atStart =>
    refine ⟨0, Nat.zero_le _, rfl, ⟨none, 0, 0, rfl, rfl, Nat.le_refl _, fun _ => rfl, ⟨rfl, fun h => by omega⟩⟩, ⟨_, 4, 4, rfl, rfl, Nat.le_refl _, (fun h => by cases h), ?_⟩, (Below.refl _ _).alloc (Nat.le_refl _) _⟩
    have h1 := Rd.lit w 5 [.int .u8 0, .int .u8 0, .int .u8 0, .int .u8 0] 1 4 rfl
    simpa [bv, be4, lastF] using h1
  case round =>
    obtain ⟨k, hk, rfl, ho, hl, hbw⟩ := hrel
    rw [Hxl.out] at hk
    have hzr := hbw.size
    by_cases hlt : k < n
    · obtain ⟨g, o, u, rfl, hg, hu, hc⟩ := (hr.below hbw).at_ hlt
      have hrk : rs[k]? = some (rs[k]'(by have := Hxl.out; omega)) := List.getElem?_eq_getElem _
      obtain ⟨r, hr0⟩ : ∃ r, r = rs[k]'(by have := Hxl.out; omega) := ⟨_, rfl⟩
      rw [← hr0] at hrk
      have hsl := ((Hs.out.below hbw).2 k u r hu hrk).more hzr
      obtain ⟨A', m, c', rfl, hrm, _, _, _⟩ := id hsl
      have hr8 := H8.out r (List.mem_of_getElem? hrk)
      have hm : m ≤ 2000 := by rw [← hrm]; exact hr8.1
      have Hrk := Lib.hid hrk
      have Hsl := Lib.hid hsl
      have Hr8 := Lib.hid hr8
      have Hrm := Lib.hid hrm
      have Ho := Lib.hid ho
      have Hl := Lib.hid hl
      clear hr0 hrk hu hsl hr8 hrm ho hl
      obtain ⟨B0, hB0⟩ : ∃ B0, B0 = bookF 0 (rs.take k) := ⟨_, rfl⟩
      obtain ⟨L0, hL0⟩ : ∃ L0, L0 = lastF 0 (rs.take k) := ⟨_, rfl⟩
      have hbook : bookF 0 (rs.take (k + 1)) = B0 ++ ((be2 m ++ r) ++ be4 (rsum L0 r)) := by
        rw [List.take_add_one, Hrk.out, Option.toList_some, bookF_append, ← hB0, ← hL0]
        simp [bookF, enc1, Hrm.out]
      have hlast : lastF 0 (rs.take (k + 1)) = rsum L0 r := by
        rw [List.take_add_one, Hrk.out, Option.toList_some, lastF_append, ← hL0]
        rfl
      have hBl : B0.length ≤ 40120000 := by
        have h1 := book_len 0 (rs.take k) fun q hq => (H8.out q (List.mem_of_mem_take hq)).1
        rw [← hB0, List.length_take, Hxl.out] at h1
        omega
      have hrs := rsum_lt L0 r Hr8.out.2
      have hcrc : crc (be4 L0 ++ (be2 m ++ r)) = rsum L0 r := by unfold rsum; rw [Hrm.out]
      rw [← hB0] at Ho
      rw [← hL0] at Hl
      have Hbook := Lib.hid hbook
      have Hlast := Lib.hid hlast
      have HBl := Lib.hid hBl
      have Hcrc := Lib.hid hcrc
      clear hB0 hL0 hbook hlast hBl hcrc
      obtain ⟨Ao, no, co, rfl, _⟩ := id Ho.out
      obtain ⟨Al, nl, cl, rfl, _⟩ := id Hl.out
      go_wp2_with fail
      refine (rbytes2 wr m (by omega)).mono ?_
      rintro e w1 ⟨v1, rfl, hown1, hb1⟩
      have S1 := Lib.hid (SlB.own (r := be2 m) hown1)
      obtain ⟨A1, n1, c1, rfl, _⟩ := id S1.out
      have Ho1 := Lib.hid ((Ho.out.below hb1).more hb1.size)
      have Hl1 := Lib.hid ((Hl.out.below hb1).more hb1.size)
      have Hs1 := Lib.hid ((Hsl.out.below hb1).more hb1.size)
      have hbw1 := hbw.trans (hb1.mono hzr)
      clear hown1 hb1
      go_wp2_with fail
      refine (concat2 w1 _ _ (be2 m) r S1.out Hs1.out (by rw [Hrm.out]; simp [be2]; omega)).mono ?_
      rintro e w2 ⟨v2, rfl, S2, hb2⟩
      have S2 := Lib.hid S2
      obtain ⟨A2, n2, c2, rfl, _⟩ := id S2.out
      have Ho2 := Lib.hid ((Ho1.out.below hb2).more hb2.size)
      have Hl2 := Lib.hid ((Hl1.out.below hb2).more hb2.size)
      have hbw2 := hbw1.trans (hb2.mono hbw1.size)
      clear hb2
      go_wp2_with fail
      refine (concat2 w2 _ _ (be4 L0) (be2 m ++ r) Hl2.out S2.out (by simp [be4, be2, Hrm.out]; omega)).mono ?_
      rintro e w3 ⟨v3, rfl, S3, hb3⟩
      have Ho3 := Lib.hid ((Ho2.out.below hb3).more hb3.size)
      have S23 := Lib.hid ((S2.out.below hb3).more hb3.size)
      have hbw3 := hbw2.trans (hb3.mono hbw2.size)
      have HK := Lib.hid (crc_slice w3 v3 _ S3 (by simp [be4, be2, Hrm.out]; omega) (by
        intro x hx
        simp only [List.mem_append] at hx
        rcases hx with hx | hx | hx
        · exact be4_lt _ x hx
        · exact be2_lt _ x hx
        · exact Hr8.out.2 x hx))
      obtain ⟨A3, n3, c3, rfl, _⟩ := id S3
      clear hb3 S3
      go_wp2_with fail
      refine HK.out.mono ?_
      rintro e w4 ⟨rfl, hb4⟩
      rw [Hcrc.out]
      have Ho4 := Lib.hid ((Ho3.out.below hb4).more hb4.size)
      have S24 := Lib.hid ((S23.out.below hb4).more hb4.size)
      have hbw4 := hbw3.trans (hb4.mono hbw3.size)
      clear hb4 HK
      go_wp2_with fail
      refine (rbytes4 w4 (rsum L0 r) hrs).mono ?_
      rintro e w5 ⟨v5, rfl, hown5, hb5⟩
      have S5 := Lib.hid (SlB.own (r := be4 (rsum L0 r)) hown5)
      obtain ⟨A5, n5, c5, rfl, _⟩ := id S5.out
      have Ho5 := Lib.hid ((Ho4.out.below hb5).more hb5.size)
      have S25 := Lib.hid ((S24.out.below hb5).more hb5.size)
      have hbw5 := hbw4.trans (hb5.mono hbw4.size)
      clear hown5 hb5
      go_wp2_with fail
      refine (concat3 w5 _ _ _ B0 (be2 m ++ r) (be4 (rsum L0 r)) Ho5.out S25.out S5.out (by simp [be4, be2, Hrm.out]; have := HBl.out; omega)).mono ?_
      rintro e w6 ⟨v6, rfl, S6, hb6⟩
      have S56 := Lib.hid ((S5.out.below hb6).more hb6.size)
      have S66 := Lib.hid S6
      have hbw6 := hbw5.trans (hb6.mono hbw5.size)
      clear hb6 S6
      go_wp2_with fail
      go_roundw
      case rel => exact ⟨k + 1, by rw [Hxl.out]; omega, by go_num, by rw [Hbook.out]; exact S66.out, by rw [Hlast.out]; exact S56.out, hbw6⟩
      case measure => simp [intOf]; omega
    · obtain rfl : k = n := by omega
      have ho' := ho
      rw [List.take_of_length_le (by rw [Hxl.out]; exact Nat.le_refl _)] at ho'
      have HO := Lib.hid ho'
      clear ho hl ho'
      go_wp2_with fail
      go_ret
      exact ⟨_, rfl, HO.out, hbw⟩
end Go.Proofs.Ytaahpjjffggaiaa
namespace Go.Proofs.Ytaahpjjffggaiaa
open Go.RowKit Go.Gy
set_option linter.unusedVariables false

theorem SlsB.snoc {w : World} {B : Nat} {vs : List Value} {rs : List (List Nat)} {v : Value} {r : List Nat} (h : SlsB w B vs rs) (ho : SlB w B v r) : SlsB w B (vs ++ [v]) (rs ++ [r]) := by
  refine ⟨by simp [h.1], fun i u q h1 h2 => ?_⟩
  by_cases hi : i < vs.length
  · rw [List.getElem?_append_left hi] at h1
    rw [List.getElem?_append_left (by rw [← h.1]; exact hi)] at h2
    exact h.2 i u q h1 h2
  · rw [List.getElem?_append_right (by omega)] at h1
    rw [List.getElem?_append_right (by rw [← h.1]; omega)] at h2
    have h0 : i - vs.length = 0 := by
      rcases Nat.eq_zero_or_pos (i - vs.length) with h0 | h0
      · exact h0
      · rw [List.getElem?_eq_none (by simp; omega)] at h1; cases h1
    rw [h0] at h1
    rw [← h.1, h0] at h2
    simp at h1 h2
    subst h1 h2
    exact ho

def strB (l : List Nat) : ByteArray := strOfNums (l.map fun x => ((x : Nat) : Int))
theorem strB_inj {l m : List Nat} (hl : ∀ x ∈ l, x < 256) (hm : ∀ x ∈ m, x < 256) (h : strB l = strB m) : l = m := by
  have h1 := congrArg (fun s => s.data.toList) h
  simp only [strB, strOfNums_data, List.map_map] at h1
  have key : ∀ (l m : List Nat), (∀ x ∈ l, x < 256) → (∀ x ∈ m, x < 256) → l.map (fun x => UInt8.ofNat x) = m.map (fun x => UInt8.ofNat x) → l = m := by
    intro l
    induction l with
    | nil => intro m _ _ h; cases m with
      | nil => rfl
      | cons y m => simp at h
    | cons x l ih =>
      intro m hl hm h
      cases m with
      | nil => simp at h
      | cons y m =>
        simp only [List.map_cons, List.cons.injEq] at h
        have hx := hl x (by simp)
        have hy := hm y (by simp)
        have e : x = y := by
          have := congrArg UInt8.toNat h.1
          simp only [UInt8.toNat_ofNat'] at this
          omega
        rw [e, ih m (fun z hz => hl z (by simp [hz])) (fun z hz => hm z (by simp [hz])) h.2]
  exact key l m hl hm h1
set_option maxRecDepth 100000 in
theorem conv_bytes {w : World} {B g o n c : Nat} {l : List Nat} (h : SlB w B (.slice (some ⟨g, o, none⟩) n c) l) (w' : World) (hw : ∀ a, w'.cell? a = w.cell? a) : (convert 33 9 (.slice (some ⟨g, o, none⟩) n c)).run Try.prog w' = .ok (.string (strB l)) w' := by
  obtain ⟨A, n', c', he, hl, _, _, h1, h2⟩ := h
  injection he with e1 e2 e3
  subst e1 e2 e3
  refine run_convert_bytes_arg w' 33 5 Try.underlying33 Try.underlying5 g o n c _ (by simpa using hl) (fun i hi => ?_) 9 Try.underlying9
  obtain ⟨b', o', e, _, h3⟩ := h2 (by omega)
  injection e with e
  injection e with e1 e2
  subst e1 e2
  rw [hw]
  have hx : l[i]? = some (l[i]'(by omega)) := List.getElem?_eq_getElem _
  have h4 := h3 i (bv (l[i]'(by omega))) (by rw [List.getElem?_map, hx]; rfl)
  rw [h4, List.getD_eq_getElem?_getD, List.getElem?_map, hx]
  rfl

def RecPost (w : World) (b : List Nat) (e : Ending) (w' : World) : Prop := ∃ (v' : Value) (vs : List Value), e = .returned (.tuple #[v', .int .i64 ((scanL b).2.1 : Nat)]) ∧ w'.ownsRow w.heap.size 33 1 v' vs.length vs ∧ SlsB w' w'.heap.size vs (scanL b).1 ∧ Below w.heap.size w w'
theorem RecPost.of {w w' : World} {b : List Nat} {f : Nat} {pre : List (List Nat)} {k last : Nat} {v : Value} {vs : List Value} (h : ScanRel b (f + 1) pre k last) (hn : oneRec last (b.drop k) = none) (ho : w'.ownsRow w.heap.size 33 1 v vs.length vs) (hob : SlsB w' w.heap.size vs pre) (hb : Below w.heap.size w w') :
    RecPost w b (.returned (.tuple #[v, .int .i64 (k : Nat)])) w' := by
  have e := h.done hn
  refine ⟨v, vs, ?_, ho, ?_, hb⟩
  · rw [e]
  · rw [e]; exact hob.more hb.size
def RecRel (w : World) (b : List Nat) (g : Nat) (v s l : Value) (wr : World) : Prop := ∃ (vs : List Value) (pre : List (List Nat)) (k last : Nat), s = .int .i64 k ∧ ScanRel b g pre k last ∧ wr.ownsRow w.heap.size 33 1 v vs.length vs ∧ SlsB wr w.heap.size vs pre ∧ wr.ownsRow w.heap.size 5 1 l 4 ((be4 last).map bv) ∧ Below w.heap.size w wr
set_option maxRecDepth 100000 in
set_option maxHeartbeats 4000000 in
theorem records_any (w : World) (v : Value) (b : List Nat) (hv : SlB w w.heap.size v b) (hn : b.length ≤ 1048576) (h8 : ∀ x ∈ b, x < 256) :
    Calls Try.prog 42 #[v] w (RecPost w b) := by
  obtain ⟨A, n, c, rfl, hbl, hnc, hA, hr⟩ := hv
  obtain ⟨j0, hj, hy0, hy1, hy2⟩ := info_parts info_bytes
  have Hbl := Lib.hid hbl
  have H8 := Lib.hid h8
  have HA := Lib.hid hA
  rw [hbl] at hn
  have Hst := Lib.hid (hbl ▸ ScanRel.start b)
  clear hbl h8 hA
  go_enter Try.func42, Try.ntmps42
  go_wp2
  go_loopg [4, 5, 6] (n + 1) (fun g v s l wr => RecRel w b g v s l wr)
  case atStart =>
    have h1 := World.ownsRow_lit (e := 5) (size := 1) (base := w.heap.size) w #[.int .u8 0, .int .u8 0, .int .u8 0, .int .u8 0] 4 (Nat.le_refl _) (by decide) rfl
    exact ⟨[], [], 0, 0, rfl, Hst.out, World.ownsRow_nil _ _ _ _, SlsB.nil _ _, h1, (Below.refl _ _).alloc (Nat.le_refl _) _⟩
  case round =>
    obtain ⟨vs, pre, k, last, rfl, HR, hown, hob, hls, hb⟩ := hrel
    have HR := Lib.hid HR
    have hk : k ≤ n := by have := HR.out.1; rw [Hbl.out] at this; exact this
    have hlast : last < 4294967296 := HR.out.2.1
    have hzr := hb.size
    have hvs : vs.length * 6 ≤ n := by have h1 := HR.out.2.2.2.1; have h2 := hob.1; omega
    obtain ⟨f, rfl⟩ : ∃ f, gk = f + 1 := ⟨gk - 1, by have h := HR.out.2.2.1; omega⟩
    have hrb := hr.below hb
    have Hob := Lib.hid hob
    have Hlo := Lib.hid hls
    have Hls := Lib.hid (SlB.own (r := be4 last) hls)
    clear hob hls
    by_cases h2 : n - k < 2
    · have hnone := Lib.hid (oneRec_short (last := last) (rest := b.drop k) (by rw [List.length_drop, Hbl.out]; omega))
      have h2' : (n : Int) - (k : Int) < 2 := by omega
      go_wp2_with fail
      all_goals
        go_ret2
        exact RecPost.of HR.out hnone.out hown Hob.out hb
    · have h2' : ¬ (n : Int) - (k : Int) < 2 := by omega
      have hck : ¬ c = k := by omega
      obtain ⟨g, o, x0, rfl, hg, hx0, hc0⟩ := bv_at hrb (show k < n by omega)
      obtain ⟨g', o', x1, he, _, hx1, hc1⟩ := bv_at hrb (show k + 1 < n by omega)
      clear he
      have hx0' := H8.out x0 (List.mem_of_getElem? hx0)
      have hx1' := H8.out x1 (List.mem_of_getElem? hx1)
      obtain ⟨m, hm⟩ : ∃ m, m = x0 * 256 + x1 := ⟨_, rfl⟩
      have Hm := Lib.hid hm
      have h01 : (b.drop k).take 2 = [x0, x1] := by
        have e0 := List.getElem?_eq_some_iff.1 hx0
        have e1 := List.getElem?_eq_some_iff.1 hx1
        rw [List.drop_eq_getElem_cons e0.1, List.drop_eq_getElem_cons e1.1, e0.2, e1.2]
        rfl
      have htwo : SlB wr w.heap.size (.slice (some ⟨g, o + k, none⟩) 2 (c - k)) [x0, x1] := by
        refine ⟨_, _, _, rfl, rfl, by omega, (fun h => by cases h), ?_⟩
        have h1 := (hrb.cut (k := k) (cap := c) hk hnc).take (k := 2) (by omega)
        simp only [hck, if_false, Option.map_some, add_none, Nat.mul_one, ← List.map_drop, ← List.map_take] at h1
        rw [h01] at h1
        exact h1
      have hval : valN [x0, x1] = m := by rw [hm]; simp [valN]; omega
      have HV := Lib.hid (value_any wr _ _ [x0, x1] htwo (by simp) (by simp; omega))
      have Hx0 := Lib.hid hx0
      have Hx1 := Lib.hid hx1
      have Hval := Lib.hid hval
      clear hx0 hx1 hm h01 htwo hval hc0 hc1
      go_wp2_with fail
      refine HV.out.mono ?_
      rintro e w1 ⟨rfl, rfl⟩
      rw [Hval.out]
      clear HV Hval
      by_cases hbig : 2000 < m
      · have hnone := Lib.hid (oneRec_big (last := last) Hm.out Hx0.out Hx1.out (.inl hbig))
        have hbig' : (2000 : Int) < (m : Int) := by omega
        go_wp2_with fail
        go_ret2
        exact RecPost.of HR.out hnone.out hown Hob.out hb
      · have hbig' : ¬ (2000 : Int) < (m : Int) := by omega
        by_cases hfit : n - k < m + 6
        · have hnone := Lib.hid (oneRec_big (last := last) Hm.out Hx0.out Hx1.out (.inr (by rw [Hbl.out]; omega)))
          have hfit' : ((n - k : Nat) : Int) < (m : Int) + 6 := by omega
          go_wp2_with fail
          go_ret2
          exact RecPost.of HR.out hnone.out hown Hob.out hb
        · have hfit' : ¬ ((n - k : Nat) : Int) < (m : Int) + 6 := by omega
          have hone := Lib.hid (oneRec_fits (last := last) Hm.out (by rw [Hbl.out]; omega) Hx0.out Hx1.out (by rw [Hbl.out]; omega))
          obtain ⟨r, hr0⟩ : ∃ r, r = ((b.drop k).drop 2).take m := ⟨_, rfl⟩
          obtain ⟨t, ht0⟩ : ∃ t, t = ((b.drop k).drop (2 + m)).take 4 := ⟨_, rfl⟩
          have hone2 : oneRec last (b.drop k) = if t = be4 (rsum last r) then some r else none := by rw [hr0, ht0]; exact hone.out
          have hrlen : r.length = m := by rw [hr0, List.length_take, List.length_drop, List.length_drop, Hbl.out]; omega
          have hr8 : ∀ x ∈ r, x < 256 := fun x hx => by rw [hr0] at hx; exact H8.out x (List.mem_of_mem_drop (List.mem_of_mem_drop (List.mem_of_mem_take hx)))
          have ht8 : ∀ x ∈ t, x < 256 := fun x hx => by rw [ht0] at hx; exact H8.out x (List.mem_of_mem_drop (List.mem_of_mem_drop (List.mem_of_mem_take hx)))
          have h01 : (b.drop k).take 2 = be2 m := by
            have e0 := List.getElem?_eq_some_iff.1 Hx0.out
            have e1 := List.getElem?_eq_some_iff.1 Hx1.out
            rw [List.drop_eq_getElem_cons e0.1, List.drop_eq_getElem_cons e1.1, e0.2, e1.2, Hm.out]
            simp [be2]; omega
          have hhd : (b.drop k).take (2 + m) = be2 m ++ r := by rw [List.take_add, h01, hr0]
          have hrd : SlB wr w.heap.size (.slice (some ⟨g, o + k + 2, none⟩) m (c - k - 2)) r := by
            refine ⟨_, _, _, rfl, hrlen, by omega, (fun h => by cases h), ?_⟩
            have h1 := ((hrb.cut (k := k) (cap := c) hk hnc).cut (k := 2) (cap := c - k) (by omega) (by omega)).take (k := m) (by omega)
            simp only [hck, if_false, Option.map_some, add_none, Nat.mul_one, ← List.map_drop, ← List.map_take, show ¬ c - k = 2 by omega] at h1
            rw [hr0]; exact h1
          have htd : SlB wr w.heap.size (.slice (some ⟨g, o + k + (2 + m), none⟩) 4 (c - k - (2 + m))) t := by
            refine ⟨_, _, _, rfl, by rw [ht0, List.length_take, List.length_drop, List.length_drop, Hbl.out]; omega, by omega, (fun h => by cases h), ?_⟩
            have h1 := ((hrb.cut (k := k) (cap := c) hk hnc).cut (k := 2 + m) (cap := c - k) (by omega) (by omega)).take (k := 4) (by omega)
            simp only [hck, if_false, Option.map_some, add_none, Nat.mul_one, ← List.map_drop, ← List.map_take, show ¬ c - k = 2 + m by omega] at h1
            rw [ht0]; exact h1
          have hhs : SlB wr w.heap.size (.slice (some ⟨g, o + k, none⟩) (2 + m) (c - k)) (be2 m ++ r) := by
            refine ⟨_, _, _, rfl, by simp [be2, hrlen]; omega, by omega, (fun h => by cases h), ?_⟩
            have h1 := (hrb.cut (k := k) (cap := c) hk hnc).take (k := 2 + m) (by omega)
            simp only [hck, if_false, Option.map_some, add_none, Nat.mul_one, ← List.map_drop, ← List.map_take] at h1
            rw [hhd] at h1; exact h1
          have Hone := Lib.hid hone2
          have Hrl := Lib.hid hrlen
          have Hr8 := Lib.hid hr8
          have Ht8 := Lib.hid ht8
          have Hrd := Lib.hid hrd
          have Htd := Lib.hid htd
          have Hhs := Lib.hid hhs
          have hrs := rsum_lt last r hr8
          have Hcrc := Lib.hid (show crc (be4 last ++ (be2 m ++ r)) = rsum last r by unfold rsum; rw [hrlen])
          obtain ⟨Al, nl, cl, rfl, _⟩ := id Hls.out
          clear hr0 ht0 hone hone2 hrlen hr8 ht8 h01 hhd hrd htd hhs
          go_wp2_with fail
          refine (concat2 wr _ _ (be4 last) (be2 m ++ r) Hls.out (Hhs.out.more hzr) (by simp [be4, be2, Hrl.out]; omega)).mono ?_
          rintro e w2 ⟨v2, rfl, S2, hb2⟩
          have HK := Lib.hid (crc_slice w2 v2 _ S2 (by simp [be4, be2, Hrl.out]; omega) (by
            intro x hx
            simp only [List.mem_append] at hx
            rcases hx with hx | hx | hx
            · exact be4_lt _ x hx
            · exact be2_lt _ x hx
            · exact Hr8.out x hx))
          obtain ⟨A2, n2, c2, rfl, _⟩ := id S2
          clear S2
          go_wp2_with fail
          refine HK.out.mono ?_
          rintro e w3 ⟨rfl, hb3⟩
          rw [Hcrc.out]
          clear HK
          go_wp2_with fail
          refine (rbytes4 w3 (rsum last r) hrs).mono ?_
          rintro e w4 ⟨v4, rfl, hown4, hb4⟩
          have hown4 : w4.ownsRow w3.heap.size 5 1 v4 4 ((be4 (rsum last r)).map bv) := hown4
          have hq4 : Below wr.heap.size wr w4 := hb2.trans ((hb3.mono hb2.size).trans (hb4.mono (Nat.le_trans hb2.size hb3.size)))
          have S4 := SlB.own (r := be4 (rsum last r)) hown4
          obtain ⟨_, ⟨_, h0⟩ | ⟨g4, c4, cur4, rfl, _, _, _, _, _, _⟩⟩ := id hown4
          · omega
          have S4 : SlB w4 w4.heap.size (.slice (some ⟨g4, 0, none⟩) 4 c4) (be4 (rsum last r)) := S4
          have hcv1 : ∀ q, (convert 33 9 (.slice (some ⟨g4, 0, none⟩) 4 c4)).run Try.prog (w4.drewN q) = .ok (.string (strB (be4 (rsum last r)))) (w4.drewN q) := fun q => conv_bytes S4 _ fun _ => rfl
          have hcv2 : ∀ q, (convert 33 9 (.slice (some ⟨g, o + k + (2 + m), none⟩) 4 (c - k - (2 + m)))).run Try.prog (w4.drewN q) = .ok (.string (strB t)) (w4.drewN q) := fun q => conv_bytes (Htd.out.below (hq4.mono hzr)) _ fun _ => rfl
          have Hlo4 := Lib.hid hown4
          have hz3 : w.heap.size ≤ w3.heap.size := Nat.le_trans hzr (Nat.le_trans hb2.size hb3.size)
          clear S4 hown4 hb2 hb3 hb4
          have f1 : (0 : Int) ≤ 2 + (m : Int) := by omega
          have f2 : (2 : Int) + (m : Int) ≤ 6 + (m : Int) := by omega
          have f3 : (6 : Int) + (m : Int) ≤ ((c - k : Nat) : Int) := by omega
          have f4 : ((2 : Int) + (m : Int)).toNat = 2 + m := by omega
          have f5 : ((6 : Int) + (m : Int)).toNat = 6 + m := by omega
          have f6 : 6 + m - (2 + m) = 4 := by omega
          have f7 : ¬ c - k = 2 + m := by omega
          have f8 : IntKind.i64.wrap (2 + (m : Int)) = 2 + (m : Int) := by rw [IntKind.wrap_i64]; omega
          have f9 : IntKind.i64.wrap (6 + (m : Int)) = 6 + (m : Int) := by rw [IntKind.wrap_i64]; omega
          obtain ⟨s1, hs1⟩ : ∃ s, s = strB (be4 (rsum last r)) := ⟨_, rfl⟩
          obtain ⟨s2, hs2⟩ : ∃ s, s = strB t := ⟨_, rfl⟩
          rw [← hs1] at hcv1
          rw [← hs2] at hcv2
          by_cases htb : t = be4 (rsum last r)
          · have hsome := Lib.hid (Hone.out.trans (if_pos htb))
            have hss : s1 = s2 := by rw [hs1, hs2, htb]
            subst hss
            clear hs1 hs2 htb
            go_wp2_with fail
            go_quiet (fail)
            have hq5 := below_drewN hq4 nq
            have Hown5 := Lib.hid (own_below hown hq5 (Nat.le_refl _))
            have Hob5 := Lib.hid (Hob.out.below (hq5.mono hzr))
            have Hrd5 := Lib.hid (Hrd.out.below (hq5.mono hzr))
            have HS5 := Lib.hid (own_mono (own_below Hlo4.out (below_drewN (Below.refl w4.heap.size w4) nq) (Nat.le_refl _)) hz3)
            have hb5 := hb.trans (hq5.mono hzr)
            obtain ⟨w5, hw5⟩ : ∃ w5, w5 = w4.drewN nq := ⟨_, rfl⟩
            rw [← hw5] at hq5 Hown5 Hob5 Hrd5 HS5 hb5 ⊢
            have Hnext := Lib.hid (HR.out.next H8.out hsome.out)
            have hk9 : (k : Int) + ((m : Int) + 6) = ((k + (6 + r.length) : Nat) : Int) := by rw [Hrl.out]; omega
            have hz5 := hb5.size
            clear hw5 hcv1 hcv2 hown hrb hr hsome
            go_wp2_with (at_builtin; refine wpList_pushG rfl (.tmp 55) (.tmp 60) 77 rfl w.heap.size 33 j0 (.slice none 0 0) 1 24 Try.underlying77 hj hy0 hy1 hy2 rfl (by omega) _ _ _ rfl Hown5.out [_] rfl rfl (by simp [Value.oneCell']) (by unfold maxLen; omega) (by omega) hz5 ?_; intro v6 w6 hn6 hb6 hg6 _)
            have hg6' : w5.grownBy w6 u4.ownBlock := hg6
            have hl6 := HS5.out.kept hg6' (own_apart HS5.out Hown5.out (by decide))
            have hob6 := (Hob5.out.below hb6).snoc (Hrd5.out.below hb6)
            clear hg6
            go_roundg f
            case measure => omega
            case rel =>
              exact ⟨vs ++ [_], pre ++ [r], k + (6 + r.length), rsum last r, (by first | (rw [← hk9]; done) | (rw [← hk9]; congr 1; omega) | (congr 1; omega) | (rw [Hrl.out]; congr 1; omega) | (rw [Hrl.out]; go_num)), Hnext.out, by rw [List.length_append]; simpa using hn6, hob6, hl6, hb5.trans hb6⟩
          · have hnone := Lib.hid (Hone.out.trans (if_neg htb))
            have hss : ¬ s1 = s2 := fun h => htb (strB_inj Ht8.out (be4_lt _) (by rw [← hs1, ← hs2, h]))
            have hss' : (s1.toList == s2.toList) = false := beq_false_of_ne fun h => hss (Go.WideShapes.bytes_inj (by rw [← ByteArray.toList_eq, ← ByteArray.toList_eq, h]))
            clear hs1 hs2 htb
            go_wp2_with fail
            go_quiet (fail)
            have hq5 := below_drewN hq4 nq
            go_wp2_with fail
            go_ret2
            exact RecPost.of HR.out hnone.out (own_below hown hq5 (Nat.le_refl _)) (Hob.out.below (hq5.mono hzr)) (hb.trans (hq5.mono hzr))
end Go.Proofs.Ytaahpjjffggaiaa
namespace Go.Proofs.Ytaahpjjffggaiaa
open Go.RowKit Go.Gy
set_option linter.unusedVariables false
/-- what Keep returns: error, memory, log -/
def keepF (m : GMem) (b : List Nat) (e : GEv) : Nat × GMem × List Nat :=
  if (doF m e).1 ≠ 0 then ((doF m e).1, zeroMem, []) else if addE b (evB e) ≠ 0 then (addE b (evB e), zeroMem, []) else (0, (doF m e).2, addB b (evB e))
def KeepPost (r : Nat × GMem × List Nat) (w : World) (e : Ending) (w' : World) : Prop := ∃ v vb n, e = .returned (.tuple #[v, vb, .int .i64 ((r.1 : Nat) : Int)]) ∧ MemOwn w' w.heap.size r.2.1 v ∧ w'.ownsRow w.heap.size 5 1 vb n (r.2.2.map bv) ∧ Below w.heap.size w w'
theorem results_cell_three {P : Program} {fn : Func} {p q s : Tmp} {ty : TypeId} (h : fn.results = #[.cell p ty, .tmp q, .tmp s]) (tmps : Array Value) (w : World) (g : Nat) (t : TypeId) (cs : Array Value) (fr : Nat × Nat) (d : TypeDesc) (u x : Value)
    (hp : tmps.getD p undef = .pointer (some ⟨g, 0, none⟩)) (hq : tmps.getD q undef = u) (hs : tmps.getD s undef = x) (hg : w.heap[g]? = some (.cells cs t fr))
    (hu : P.underlying ty = some d) (hd : (match d with | .struct _ | .array _ _ => true | _ => false) = true) (hi : (P.info? ty).map (·.size) = some cs.size) :
    (results fn tmps).run P w = .ok (.tuple #[.agg cs, u, x]) w := by
  have hp' : tmps[p]?.getD undef = .pointer (some ⟨g, 0, none⟩) := by simpa using hp
  have hq' : tmps[q]?.getD undef = u := by simpa using hq
  have hs' : tmps[s]?.getD undef = x := by simpa using hs
  simp [results, h, hp', hq', hs', asAddr, run_loadVar_row w g t ty cs fr d hg hu hd hi]
theorem KeepPost.bad {r : Nat × GMem × List Nat} {x : Nat} {w w' : World} (h : r = (x, zeroMem, [])) (hb : Below w.heap.size w w') : KeepPost r w (.returned (.tuple #[.agg zeroMv, .slice none 0 0, .int .i64 (x : Int)])) w' := by
  subst h
  exact ⟨_, _, 0, rfl, MemOwn.zero _ _, World.ownsRow_nil _ _ _ _, hb⟩
set_option maxRecDepth 100000 in
set_option maxHeartbeats 4000000 in
theorem keep_any (w : World) (m : GMem) (e : GEv) (A : Option Addr) (n c : Nat) (A' : Option Addr) (n' c' : Nat) (D : Option Addr) (p d : Nat) (vb : Value) (b : List Nat)
    (ha : SlC w w.heap.size (.slice A n c) m.asked) (hh : SlC w w.heap.size (.slice A' n' c') m.has) (he : SlC w w.heap.size (.slice D p d) e.cells) (hv : SlB w w.heap.size vb b) (hn : b.length ≤ 1048576) (h8 : ∀ x ∈ b, x < 256) :
    Calls Try.prog 41 #[memV m A n c A' n' c', vb, evV e D p d] w (KeepPost (keepF m b e) w) := by
  have HD := Lib.hid (show ∀ w', Below w.heap.size w w' → Calls Try.prog 22 #[memV m A n c A' n' c', evV e D p d] w' (DoPost (doF m e) w') from fun w' hb => do_any w' m e A n c A' n' c' D p d ((ha.below hb).more hb.size) ((hh.below hb).more hb.size) ((he.below hb).more hb.size))
  have HW := Lib.hid (show ∀ w', Below w.heap.size w w' → Calls Try.prog 25 #[evV e D p d] w' (FWPost w' e) from fun w' hb => fwrite_any w' e D p d ((he.below hb).more hb.size))
  have HA := Lib.hid (show ∀ w' v r, Below w.heap.size w w' → SlB w' w'.heap.size v r → (∀ x ∈ r, x < 256) → Calls Try.prog 50 #[vb, v] w' (AddPost w' b r) from fun w' v r hb hr hr8 => add_any w' vb v b r ((hv.below hb).more hb.size) hr hn h8 hr8)
  obtain ⟨B, N, C, rfl, _⟩ := hv
  obtain ⟨X, M', hX⟩ : ∃ X M', doF m e = (X, M') := ⟨_, _, rfl⟩
  have HX := Lib.hid hX
  rw [hX] at HD
  have HK := Lib.hid (show ∀ r, r = keepF m b e → KeepPost (keepF m b e) = KeepPost r from fun r h => by rw [h])
  obtain ⟨g, t, l, l', f⟩ := m
  obtain ⟨k, v, ec⟩ := e
  clear ha hh he hX
  have hb3 : ∀ X Y Z, Below w.heap.size w (((w.alloc X).alloc Y).alloc Z) := fun X Y Z => (((Below.refl _ _).alloc (Nat.le_refl _) _).alloc (by simp) _).alloc (by simp; omega) _
  have Hb3 := Lib.hid hb3
  have HE3 := Lib.hid (show ∀ X Z, Blk (((w.alloc X).alloc (.cells #[.int .i64 k, .int .i64 v, .slice D p d] 48)).alloc Z) (w.heap.size + 1) 48 #[.int .i64 k, .int .i64 v, .slice D p d] from fun X Z => by
    have := Blk.new (w.alloc X) 48 #[.int .i64 k, .int .i64 v, .slice D p d]
    rw [World.size_alloc] at this
    exact this.alloc _)
  have HR3 := Lib.hid (show ∀ X Y, Blk (((w.alloc X).alloc Y).alloc (.cells zeroMv 46)) (w.heap.size + 1 + 1) 46 zeroMv from fun X Y => by
    have := Blk.new ((w.alloc X).alloc Y) 46 zeroMv
    simp only [World.size_alloc] at this
    exact this)
  clear hb3
  go_enter Try.func41, Try.ntmps41
  go_wp2_with fail
  refine (HD.out _ (Hb3.out _ _ _)).mono ?_
  rintro e w4 ⟨v4, rfl, ⟨A5, n5, c5, A6, n6, c6, rfl, ho5, ho6, h5, h6⟩, hb4⟩
  obtain ⟨g', t', l1, l2, f'⟩ := M'
  have hz4 := hb4.size
  simp only [World.size_alloc] at hz4 ho5 ho6
  have hE4 := (HE3.out _ _).below hb4 (by simp)
  have hR4 := (HR3.out _ _).below hb4 (by simp)
  have hbw4 := (Hb3.out _ _ _).trans (hb4.mono (by simp; omega))
  have HE4 := Lib.hid hE4
  have HR4 := Lib.hid hR4
  have HBw4 := Lib.hid hbw4
  have Ho5 := Lib.hid ho5
  have Ho6 := Lib.hid ho6
  clear hE4 hR4 hbw4 hb4 HE3 HR3 Hb3 ho5 ho6
  go_upto_if 21 with (fail)
  have hN := Blk.new w4 46 (memRow ⟨g', t', l1, l2, f'⟩ A5 n5 c5 A6 n6 c6)
  have hb45 : Below w4.heap.size w4 (w4.alloc (.cells (memRow ⟨g', t', l1, l2, f'⟩ A5 n5 c5 A6 n6 c6) 46)) := (Below.refl _ _).alloc (Nat.le_refl _) _
  change Code.wp _ _ _ _ (w4.alloc (.cells (memRow ⟨g', t', l1, l2, f'⟩ A5 n5 c5 A6 n6 c6) 46))
  generalize w4.alloc (.cells (memRow ⟨g', t', l1, l2, f'⟩ A5 n5 c5 A6 n6 c6) 46) = w5 at hN hb45 ⊢
  have hz5 := hN.lt
  have hR5 := HR4.out.below hb45 (by omega)
  have hE5 := HE4.out.below hb45 (by omega)
  have HBw5 := Lib.hid (HBw4.out.trans (hb45.mono (by omega)))
  have Ho5 := Lib.hid (own_below Ho5.out hb45 (Nat.le_refl _))
  have Ho6 := Lib.hid (own_below Ho6.out hb45 (Nat.le_refl _))
  by_cases hX0 : X = 0
  · subst hX0
    have hcz := doF_check HX.out
    have e0 := hE5.cell 0 _ rfl
    have e1 := hE5.cell 1 _ rfl
    have e2 := hE5.cell 2 _ rfl
    have HW5 := HW.out w5 HBw5.out
    unfold FWPost at HW5
    rw [hcz] at HW5
    have HW5 := Lib.hid HW5
    have HR5 := Lib.hid hR5
    have HN := Lib.hid hN
    have hl8 := Lib.hid (evB_lt hcz)
    clear hcz hN hb45 hR5 hE5 HD
    go_wp2_with fail
    refine HW5.out.mono ?_
    rintro e w6 ⟨v6, n6', rfl, ho7, hb6⟩
    simp only [if_true] at ho7
    obtain ⟨A7, c7, rfl, _, _, _⟩ := own_rd ho7
    have HBw6 := Lib.hid (HBw5.out.trans (hb6.mono HBw5.out.size))
    have HA6 := HA.out w6 (.slice A7 n6' c7) (evB ⟨k, v, ec⟩) HBw6.out (SlB.own ho7) hl8.out
    have HA6 := Lib.hid HA6
    have Ho5 := Lib.hid (own_below Ho5.out hb6 (Nat.le_refl _))
    have Ho6 := Lib.hid (own_below Ho6.out hb6 (Nat.le_refl _))
    have HR6 := Lib.hid (HR5.out.below hb6 (by omega))
    have HN6 := Lib.hid (HN.out.below hb6 HN.out.lt)
    have hz6 := hb6.size
    clear HW5 ho7 hb6 e0 e1 e2 HR5 HN HA HW
    go_wp2_with fail
    refine HA6.out.mono ?_
    rintro e w8 ⟨v8, n8, rfl, ho8, hb8⟩
    obtain ⟨A8, c8, rfl, _, _, _⟩ := own_rd ho8
    have HBw8 := Lib.hid (HBw6.out.trans (hb8.mono HBw6.out.size))
    have Ho5 := Lib.hid (own_below Ho5.out hb8 (Nat.le_refl _))
    have Ho6 := Lib.hid (own_below Ho6.out hb8 (Nat.le_refl _))
    have hR8 := HR6.out.below hb8 (by omega)
    have hN8 := HN6.out.below hb8 (by omega)
    have hz8 := hb8.size
    obtain ⟨Y, hY⟩ : ∃ Y, Y = addE b (evB ⟨k, v, ec⟩) := ⟨_, rfl⟩
    rw [← hY]
    have HY := Lib.hid hY
    have HO8 := Lib.hid ho8
    have HR8 := Lib.hid hR8
    have r0 := hR8.cell 0 _ rfl
    have r1 := hR8.cell 1 _ rfl
    have r2 := hR8.cell 2 _ rfl
    have r3 := hR8.cell 3 _ rfl
    have r4 := hR8.cell 4 _ rfl
    have f0 := hR8.free 0
    have f1 := hR8.free 1
    have f2 := hR8.free 2
    have f3 := hR8.free 3
    have f4 := hR8.free 4
    have n0 := hN8.cell 0 _ rfl
    have n1 := hN8.cell 1 _ rfl
    have n2 := hN8.cell 2 _ rfl
    have n3 := hN8.cell 3 _ rfl
    have n4 := hN8.cell 4 _ rfl
    clear hY ho8 hb8 hR8 hN8 HA6 HR6 HN6
    by_cases hY0 : Y = 0
    · subst hY0
      have HP := Lib.hid (show keepF ⟨g, t, l, l', f⟩ b ⟨k, v, ec⟩ = (0, ⟨g', t', l1, l2, f'⟩, addB b (evB ⟨k, v, ec⟩)) by unfold keepF; rw [HX.out, if_neg (by simp), if_neg (by rw [← HY.out]; simp)])
      go_wp2_with fail
      have hg := blk_set5 HR8.out (.int .i64 g') (.int .i64 t') (.slice A5 n5 c5) (.slice A6 n6 c6) (.int .i64 f')
      have ho7 := own_set5 (g := w.heap.size + 1 + 1) Ho5.out (by omega) (.int .i64 g') (.int .i64 t') (.slice A5 n5 c5) (.slice A6 n6 c6) (.int .i64 f')
      have hp7 := own_set5 (g := w.heap.size + 1 + 1) Ho6.out (by omega) (.int .i64 g') (.int .i64 t') (.slice A5 n5 c5) (.slice A6 n6 c6) (.int .i64 f')
      have hq7 := own_set5 (g := w.heap.size + 1 + 1) HO8.out (by omega) (.int .i64 g') (.int .i64 t') (.slice A5 n5 c5) (.slice A6 n6 c6) (.int .i64 f')
      have hb7 := below_set5 (g := w.heap.size + 1 + 1) HBw8.out (by omega) (.int .i64 g') (.int .i64 t') (.slice A5 n5 c5) (.slice A6 n6 c6) (.int .i64 f')
      generalize (((((w8.setCell ⟨w.heap.size + 1 + 1, 0, none⟩ (.int .i64 g')).setCell ⟨w.heap.size + 1 + 1, 1, none⟩ (.int .i64 t')).setCell ⟨w.heap.size + 1 + 1, 2, none⟩ (.slice A5 n5 c5)).setCell ⟨w.heap.size + 1 + 1, 3, none⟩ (.slice A6 n6 c6)).setCell ⟨w.heap.size + 1 + 1, 4, none⟩ (.int .i64 f')) = w9 at hg ho7 hp7 hq7 hb7 ⊢
      have hr := fun tm h1 h2 h3 => results_cell_three Try.results41 tm w9 (w.heap.size + 1 + 1) 46 (memRow ⟨g', t', l1, l2, f'⟩ A5 n5 c5 A6 n6 c6) (0, 0) _ (.slice A8 n8 c8) (.int .i64 0) h1 h2 h3 hg Try.underlying46 rfl (by kernel_rfl)
      refine bodyPost_ret (hr _ ?_ ?_ ?_) rfl ?_
      · rfl
      · rfl
      · rfl
      rw [HP.out]
      exact ⟨_, _, n8, rfl, ⟨A5, n5, c5, A6, n6, c6, rfl, own_mono ho7 (by omega), own_mono hp7 (by omega), h5, h6⟩, own_mono hq7 (by omega), hb7⟩
    · have hYb : ((Y : Int) != 0) = true := by simp; omega
      have HP := Lib.hid (show keepF ⟨g, t, l, l', f⟩ b ⟨k, v, ec⟩ = (Y, zeroMem, []) by unfold keepF; rw [HX.out, if_neg (by simp), ← HY.out, if_pos hY0])
      clear hY0
      go_wp2_with fail
      refine bodyPost_ret (results_cell_three Try.results41 _ _ (w.heap.size + 1 + 1) 46 zeroMv (0, 0) _ (.slice none 0 0) (.int .i64 (Y : Int)) rfl rfl rfl (blk_set5 HR8.out _ _ _ _ _) Try.underlying46 rfl (by kernel_rfl)) rfl ?_
      exact KeepPost.bad HP.out (below_set5 HBw8.out (by omega) _ _ _ _ _)
  · have hXb : ((X : Int) != 0) = true := by simp; omega
    have HP := Lib.hid (show keepF ⟨g, t, l, l', f⟩ b ⟨k, v, ec⟩ = (X, zeroMem, []) by unfold keepF; rw [HX.out, if_pos hX0])
    have r0 := hR5.cell 0 _ rfl
    have r1 := hR5.cell 1 _ rfl
    have r2 := hR5.cell 2 _ rfl
    have r3 := hR5.cell 3 _ rfl
    have r4 := hR5.cell 4 _ rfl
    have f0 := hR5.free 0
    have f1 := hR5.free 1
    have f2 := hR5.free 2
    have f3 := hR5.free 3
    have f4 := hR5.free 4
    have HR5 := Lib.hid hR5
    clear hN hb45 hR5 hE5 hX0
    go_wp2_with fail
    refine bodyPost_ret (results_cell_three Try.results41 _ _ (w.heap.size + 1 + 1) 46 zeroMv (0, 0) _ (.slice none 0 0) (.int .i64 (X : Int)) rfl rfl rfl (blk_set5 HR5.out _ _ _ _ _) Try.underlying46 rfl (by kernel_rfl)) rfl ?_
    exact KeepPost.bad HP.out (below_set5 HBw5.out (by omega) _ _ _ _ _)
theorem book_ge : ∀ (last : Nat) (rs : List (List Nat)), rs.length ≤ (bookF last rs).length
  | _, [] => by simp
  | last, r :: rs => by have := book_ge (rsum last r) rs; simp only [bookF, List.length_cons, List.length_append, enc1_len]; omega
theorem scan_few {b : List Nat} (h8 : ∀ x ∈ b, x < 256) : (scanL b).1.length ≤ b.length := by
  obtain ⟨_, h2, h3, _, _⟩ := scanL_spec h8
  have := book_ge 0 (scanL b).1
  omega
/-- what Back makes of records: memory, how many, error -/
def backL : GMem → Nat → List (List Nat) → GMem × Nat × Nat
  | m, i, [] => (m, i, 0)
  | m, i, r :: rs => if readFE r ≠ 0 then (zeroMem, i, readFE r) else if (doF m (readF r)).1 ≠ 0 then (zeroMem, i, (doF m (readF r)).1) else backL (doF m (readF r)).2 (i + 1) rs
def backF (b : List Nat) : GMem × Nat × Nat := backL zeroMem 0 (scanL b).1
def BackPost (r : GMem × Nat × Nat) (w : World) (e : Ending) (w' : World) : Prop := ∃ v, e = .returned (.tuple #[v, .int .i64 ((r.2.1 : Nat) : Int), .int .i64 ((r.2.2 : Nat) : Int)]) ∧ MemOwn w' w.heap.size r.1 v ∧ Below w.heap.size w w'
theorem BackPost.bad {r : GMem × Nat × Nat} {i x : Nat} {w w' : World} (h : r = (zeroMem, i, x)) (hb : Below w.heap.size w w') : BackPost r w (.returned (.tuple #[.agg zeroMv, .int .i64 (i : Int), .int .i64 (x : Int)])) w' := by
  subst h
  exact ⟨_, rfl, MemOwn.zero _ _, hb⟩
def BkRel (w w1 : World) (b : List Nat) (vs : List Value) (rs : List (List Nat)) (N : Nat) (i : Value) (wr : World) : Prop := ∃ (k : Nat) (m : GMem), k ≤ N ∧ i = .int .i64 (k : Int) ∧ backF b = backL m k (rs.drop k) ∧ MemBlk wr w1.heap.size (w1.heap.size + 1) m ∧ Blk wr w.heap.size 46 zeroMv ∧ Below w1.heap.size w1 wr ∧ w1.heap.size < wr.heap.size
set_option maxRecDepth 100000 in
set_option maxHeartbeats 4000000 in
theorem back_any (w : World) (vb : Value) (b : List Nat) (hv : SlB w w.heap.size vb b) (hn : b.length ≤ 1048576) (h8 : ∀ x ∈ b, x < 256) :
    Calls Try.prog 37 #[vb] w (BackPost (backF b) w) := by
  have hb0 : ∀ X, Below w.heap.size w (w.alloc X) := fun X => (Below.refl _ _).alloc (Nat.le_refl _) _
  have HR := Lib.hid (fun X => read_any (w.alloc X) vb b ((hv.below (hb0 X)).more (by simp)) hn h8)
  have Hb0 := Lib.hid hb0
  have hl8 := (scanL_spec h8).2.2.2.2
  have hfew := scan_few h8
  obtain ⟨B, N, C, rfl, _⟩ := hv
  have HK0 := Lib.hid (Blk.new w 46 zeroMv)
  obtain ⟨rs, hrs⟩ : ∃ rs, rs = (scanL b).1 := ⟨_, rfl⟩
  have Hrs := Lib.hid hrs
  rw [← hrs] at hl8 hfew
  have Hl8 := Lib.hid hl8
  have hfew' := Nat.le_trans hfew hn
  clear hl8 hb0 hrs h8 hfew
  go_enter Try.func37, Try.ntmps37
  go_wp2_with fail
  refine (HR.out _).mono ?_
  rintro e w1 ⟨v1, vs, rfl, hown1, hob1, hb1⟩
  rw [← Hrs.out] at hob1
  obtain ⟨s, hs⟩ : ∃ s, s = (scanL b).2.1 := ⟨_, rfl⟩
  rw [← hs]
  clear hs
  have hvl := hob1.1
  obtain ⟨A1, c1, rfl, hc1, _, hr1⟩ := own_rd hown1
  have hz1 := hb1.size
  simp only [World.size_alloc] at hz1
  have HBw1 := Lib.hid ((Hb0.out _).trans (hb1.mono (by simp)))
  have HK1 := Lib.hid (HK0.out.below hb1 (by simp))
  have Hob1 := Lib.hid hob1
  have Hr1 := Lib.hid hr1
  obtain ⟨n, hn⟩ : ∃ n, n = vs.length := ⟨_, rfl⟩
  rw [← hn] at Hr1 ⊢
  have Hn := Lib.hid hn
  have Hvl := Lib.hid hvl
  have hn48 : n ≤ 1048576 := by omega
  have hst := Lib.hid (show ∀ wr, wr = w1.alloc (.cells zeroMv 46) → BkRel w w1 b vs rs n (.int .i64 0) wr from fun wr h => by
    subst h
    exact ⟨0, zeroMem, Nat.zero_le _, rfl, by rw [List.drop_zero, Hrs.out]; rfl, ⟨none, 0, 0, none, 0, 0, Blk.new w1 _ _, World.ownsRow_nil _ _ _ _, World.ownsRow_nil _ _ _ _, by decide, by decide⟩, HK1.out.alloc _, (Below.refl _ _).alloc (Nat.le_refl _) _, by simp⟩)
  clear hown1 hob1 hb1 hr1 HK0 Hb0 HR hc1 hn hvl
  go_wp2_with fail
  go_loopw [19] (fun i wr => BkRel w w1 b vs rs n i wr) (fun i _ => n - (intOf i).toNat)
  case atStart => exact hst.out _ rfl
  case round =>
    obtain ⟨k, m, hk, rfl, hbk, ⟨A2, n2, c2, A3, n3, c3, hM, ho2, ho3, h2, h3⟩, hR, hb, hz⟩ := hrel
    have hzw := hb.size
    have Hbk := Lib.hid hbk
    have HM := Lib.hid hM
    have Ho2 := Lib.hid ho2
    have Ho3 := Lib.hid ho3
    have HR := Lib.hid hR
    have Hb := Lib.hid hb
    clear hbk hM ho2 ho3 hR hb
    by_cases hlt : k < n
    · obtain ⟨gb, go, u, hA, hgb, hu, hc⟩ := (Hr1.out.below Hb.out).at_ hlt
      subst hA
      have hlt' : (k : Int) < (n : Int) := by omega
      have hrk : rs[k]? = some (rs[k]'(by have := Hvl.out; have := Hn.out; omega)) := List.getElem?_eq_getElem _
      obtain ⟨r, hr⟩ : ∃ r, rs[k]? = some r := ⟨_, hrk⟩
      have hor := own_below (Hob1.out.2 k u r hu hr) Hb.out (Nat.le_refl _)
      obtain ⟨A4, c4, rfl, _, _, _⟩ := own_rd hor
      have hrm := Hl8.out r (List.mem_of_getElem? hr)
      have hF := fread_any wr _ r (SlB.own hor) hrm.2 (by omega)
      obtain ⟨F, hFe⟩ : ∃ F, F = readFE r := ⟨_, rfl⟩
      unfold ReadFPost at hF
      rw [← hFe] at hF
      have HF := Lib.hid hF
      have HFe := Lib.hid hFe
      have hdr : rs.drop k = r :: rs.drop (k + 1) := by
        rw [List.drop_eq_getElem_cons (by have := Hvl.out; have := Hn.out; omega)]
        congr 1
        rw [hrk] at hr
        injection hr
      have Hdr := Lib.hid hdr
      clear hu hr hrk hor hrm hF hFe hdr
      go_wp2_with fail
      refine HF.out.mono ?_
      rintro e w5 ⟨A5, n5, c5, rfl, hs5, hn5, hb5⟩
      obtain ⟨ev, hev⟩ : ∃ ev, ev = readF r := ⟨_, rfl⟩
      rw [← hev] at hs5 ⊢
      have Hev := Lib.hid hev
      obtain ⟨ek, en, ec⟩ := ev
      have hbr5 := Hb.out.trans (hb5.mono hzw)
      have hz5 := hb5.size
      have Hs5 := Lib.hid hs5
      have HM5 := Lib.hid (HM.out.below hb5 hz)
      have HR5 := Lib.hid (HR.out.below hb5 HR.out.lt)
      have Ho2 := Lib.hid (own_below Ho2.out hb5 (Nat.le_refl _))
      have Ho3 := Lib.hid (own_below Ho3.out hb5 (Nat.le_refl _))
      have Hbr5 := Lib.hid hbr5
      clear hs5 hev hb5 hbr5 HF
      go_upto_if 30 with (fail)
      have hN := Blk.new w5 48 #[.int .i64 ek, .int .i64 en, .slice A5 n5 c5]
      have hb56 : Below w5.heap.size w5 (w5.alloc (.cells #[.int .i64 ek, .int .i64 en, .slice A5 n5 c5] 48)) := (Below.refl _ _).alloc (Nat.le_refl _) _
      generalize w5.alloc (.cells #[.int .i64 ek, .int .i64 en, .slice A5 n5 c5] 48) = w6 at hN hb56 ⊢
      have hz6 := hN.lt
      have HM6 := Lib.hid (HM5.out.below hb56 (by omega))
      have HR6 := Lib.hid (HR5.out.below hb56 HR5.out.lt)
      have Ho2 := Lib.hid (own_below Ho2.out hb56 (Nat.le_refl _))
      have Ho3 := Lib.hid (own_below Ho3.out hb56 (Nat.le_refl _))
      have Hbr6 := Lib.hid (Hbr5.out.trans (hb56.mono Hbr5.out.size))
      have Hs6 := Lib.hid ((Hs5.out.below hb56).more hb56.size)
      have HN := Lib.hid hN
      clear hN hb56
      by_cases hF0 : F = 0
      · subst hF0
        have hD := do_any w6 m ⟨ek, en, ec⟩ A2 n2 c2 A3 n3 c3 A5 n5 c5 (SlC.own Ho2.out) (SlC.own Ho3.out) Hs6.out
        obtain ⟨X, M', hX⟩ : ∃ X M', doF m ⟨ek, en, ec⟩ = (X, M') := ⟨_, _, rfl⟩
        rw [hX] at hD
        have HD := Lib.hid hD
        have HX := Lib.hid hX
        obtain ⟨g', t', l1, l2, f'⟩ := M'
        have m0 := HM6.out.cell 0 _ rfl
        have m1 := HM6.out.cell 1 _ rfl
        have m2 := HM6.out.cell 2 _ rfl
        have m3 := HM6.out.cell 3 _ rfl
        have m4 := HM6.out.cell 4 _ rfl
        have e0 := HN.out.cell 0 _ rfl
        have e1 := HN.out.cell 1 _ rfl
        have e2 := HN.out.cell 2 _ rfl
        clear hD hX
        go_wp2_with fail
        refine HD.out.mono ?_
        rintro e w7 ⟨v7, rfl, ⟨A7, n7, c7, A8, n8, c8, rfl, ho7, ho8, h7, h8⟩, hb7⟩
        have HM7 := Lib.hid (HM6.out.below hb7 (by omega))
        have HR7 := Lib.hid (HR6.out.below hb7 HR6.out.lt)
        have Hbr7 := Lib.hid (Hbr6.out.trans (hb7.mono Hbr6.out.size))
        have Ho7 := Lib.hid ho7
        have Ho8 := Lib.hid ho8
        have hz7 := hb7.size
        clear ho7 ho8 hb7 HD m0 m1 m2 m3 m4 e0 e1 e2 HM6 HR6 Hbr6 Ho2 Ho3
        have f0 := HM7.out.free 0
        have f1 := HM7.out.free 1
        have f2 := HM7.out.free 2
        have f3 := HM7.out.free 3
        have f4 := HM7.out.free 4
        have m0 := HM7.out.cell 0 _ rfl
        have m1 := HM7.out.cell 1 _ rfl
        have m2 := HM7.out.cell 2 _ rfl
        have m3 := HM7.out.cell 3 _ rfl
        have m4 := HM7.out.cell 4 _ rfl
        go_upto_if 41 with (fail)
        have hM8 := blk_set5 HM7.out (.int .i64 g') (.int .i64 t') (.slice A7 n7 c7) (.slice A8 n8 c8) (.int .i64 f')
        have hR8 := blk_far5 (g := w1.heap.size) HR7.out (by omega) (.int .i64 g') (.int .i64 t') (.slice A7 n7 c7) (.slice A8 n8 c8) (.int .i64 f')
        have ho7 := own_set5 (g := w1.heap.size) (own_mono Ho7.out (show w1.heap.size + 1 ≤ w6.heap.size by omega)) (by omega) (.int .i64 g') (.int .i64 t') (.slice A7 n7 c7) (.slice A8 n8 c8) (.int .i64 f')
        have ho8 := own_set5 (g := w1.heap.size) (own_mono Ho8.out (show w1.heap.size + 1 ≤ w6.heap.size by omega)) (by omega) (.int .i64 g') (.int .i64 t') (.slice A7 n7 c7) (.slice A8 n8 c8) (.int .i64 f')
        have hb8 := below_set5 (g := w1.heap.size) Hbr7.out (Nat.le_refl _) (.int .i64 g') (.int .i64 t') (.slice A7 n7 c7) (.slice A8 n8 c8) (.int .i64 f')
        have hz8 := size_set5 w7 w1.heap.size (.int .i64 g') (.int .i64 t') (.slice A7 n7 c7) (.slice A8 n8 c8) (.int .i64 f')
        generalize (((((w7.setCell ⟨w1.heap.size, 0, none⟩ (.int .i64 g')).setCell ⟨w1.heap.size, 1, none⟩ (.int .i64 t')).setCell ⟨w1.heap.size, 2, none⟩ (.slice A7 n7 c7)).setCell ⟨w1.heap.size, 3, none⟩ (.slice A8 n8 c8)).setCell ⟨w1.heap.size, 4, none⟩ (.int .i64 f')) = w8 at hM8 hR8 ho7 ho8 hb8 hz8 ⊢
        have HM8 := Lib.hid hM8
        have HR8 := Lib.hid hR8
        have Ho7 := Lib.hid ho7
        have Ho8 := Lib.hid ho8
        have Hb8 := Lib.hid hb8
        clear f0 f1 f2 f3 f4 m0 m1 m2 m3 m4 hM8 hR8 ho7 ho8 hb8
        by_cases hX0 : X = 0
        · subst hX0
          have Hnx := Lib.hid (show BkRel w w1 b vs rs n (.int .i64 ((k : Int) + 1)) w8 from ⟨k + 1, ⟨g', t', l1, l2, f'⟩, by omega, by go_num, by
            rw [Hbk.out, Hdr.out]
            conv => lhs; unfold backL
            rw [← HFe.out, if_neg (by simp), ← Hev.out, HX.out, if_neg (by simp)], ⟨A7, n7, c7, A8, n8, c8, HM8.out, Ho7.out, Ho8.out, h7, h8⟩, HR8.out, Hb8.out, by omega⟩)
          go_wp2_with fail
          go_roundw
          case rel => exact Hnx.out
          case measure => simp [intOf]; omega
        · have hXb : ((X : Int) != 0) = true := by simp; omega
          have HP := Lib.hid (show backF b = (zeroMem, k, X) by rw [Hbk.out, Hdr.out]; unfold backL; rw [← HFe.out, if_neg (by simp), ← Hev.out, HX.out, if_pos hX0])
          have r0 := HR8.out.cell 0 _ rfl
          have r1 := HR8.out.cell 1 _ rfl
          have r2 := HR8.out.cell 2 _ rfl
          have r3 := HR8.out.cell 3 _ rfl
          have r4 := HR8.out.cell 4 _ rfl
          have f0 := HR8.out.free 0
          have f1 := HR8.out.free 1
          have f2 := HR8.out.free 2
          have f3 := HR8.out.free 3
          have f4 := HR8.out.free 4
          clear hX0
          go_wp2_with fail
          refine bodyPost_ret (results_cell_three Try.results37 _ _ w.heap.size 46 zeroMv (0, 0) _ (.int .i64 (k : Int)) (.int .i64 (X : Int)) rfl rfl rfl (blk_set5 HR8.out _ _ _ _ _) Try.underlying46 rfl (by kernel_rfl)) rfl ?_
          exact BackPost.bad HP.out (below_set5 (HBw1.out.trans (Hb8.out.mono (by omega))) (by omega) _ _ _ _ _)
      · have hFb : ((F : Int) != 0) = true := by simp; omega
        have HP := Lib.hid (show backF b = (zeroMem, k, F) by rw [Hbk.out, Hdr.out]; unfold backL; rw [← HFe.out, if_pos hF0])
        have r0 := HR6.out.cell 0 _ rfl
        have r1 := HR6.out.cell 1 _ rfl
        have r2 := HR6.out.cell 2 _ rfl
        have r3 := HR6.out.cell 3 _ rfl
        have r4 := HR6.out.cell 4 _ rfl
        have f0 := HR6.out.free 0
        have f1 := HR6.out.free 1
        have f2 := HR6.out.free 2
        have f3 := HR6.out.free 3
        have f4 := HR6.out.free 4
        clear hF0
        go_wp2_with fail
        refine bodyPost_ret (results_cell_three Try.results37 _ _ w.heap.size 46 zeroMv (0, 0) _ (.int .i64 (k : Int)) (.int .i64 (F : Int)) rfl rfl rfl (blk_set5 HR6.out _ _ _ _ _) Try.underlying46 rfl (by kernel_rfl)) rfl ?_
        exact BackPost.bad HP.out (below_set5 (HBw1.out.trans (Hbr6.out.mono (by omega))) (by omega) _ _ _ _ _)
    · obtain rfl : k = n := by omega
      have HP := Lib.hid (show backF b = (m, k, 0) by rw [Hbk.out, List.drop_of_length_le (by have := Hvl.out; have := Hn.out; omega)]; rfl)
      obtain ⟨g', t', l1, l2, f'⟩ := m
      have m0 := HM.out.cell 0 _ rfl
      have m1 := HM.out.cell 1 _ rfl
      have m2 := HM.out.cell 2 _ rfl
      have m3 := HM.out.cell 3 _ rfl
      have m4 := HM.out.cell 4 _ rfl
      have r0 := HR.out.cell 0 _ rfl
      have r1 := HR.out.cell 1 _ rfl
      have r2 := HR.out.cell 2 _ rfl
      have r3 := HR.out.cell 3 _ rfl
      have r4 := HR.out.cell 4 _ rfl
      have f0 := HR.out.free 0
      have f1 := HR.out.free 1
      have f2 := HR.out.free 2
      have f3 := HR.out.free 3
      have f4 := HR.out.free 4
      go_wp2_with fail
      have hg := blk_set5 HR.out (.int .i64 g') (.int .i64 t') (.slice A2 n2 c2) (.slice A3 n3 c3) (.int .i64 f')
      have hp7 := own_set5 (g := w.heap.size) (own_mono Ho2.out (show w.heap.size + 1 ≤ w1.heap.size + 1 by omega)) (by omega) (.int .i64 g') (.int .i64 t') (.slice A2 n2 c2) (.slice A3 n3 c3) (.int .i64 f')
      have hq7 := own_set5 (g := w.heap.size) (own_mono Ho3.out (show w.heap.size + 1 ≤ w1.heap.size + 1 by omega)) (by omega) (.int .i64 g') (.int .i64 t') (.slice A2 n2 c2) (.slice A3 n3 c3) (.int .i64 f')
      have hb7 := below_set5 (g := w.heap.size) (HBw1.out.trans (Hb.out.mono (by omega))) (Nat.le_refl _) (.int .i64 g') (.int .i64 t') (.slice A2 n2 c2) (.slice A3 n3 c3) (.int .i64 f')
      generalize (((((wr.setCell ⟨w.heap.size, 0, none⟩ (.int .i64 g')).setCell ⟨w.heap.size, 1, none⟩ (.int .i64 t')).setCell ⟨w.heap.size, 2, none⟩ (.slice A2 n2 c2)).setCell ⟨w.heap.size, 3, none⟩ (.slice A3 n3 c3)).setCell ⟨w.heap.size, 4, none⟩ (.int .i64 f')) = w9 at hg hp7 hq7 hb7 ⊢
      have hr := fun tm h1 h2 h3 => results_cell_three Try.results37 tm w9 w.heap.size 46 (memRow ⟨g', t', l1, l2, f'⟩ A2 n2 c2 A3 n3 c3) (0, 0) _ (.int .i64 (k : Int)) (.int .i64 0) h1 h2 h3 hg Try.underlying46 rfl (by kernel_rfl)
      refine bodyPost_ret (hr _ ?_ ?_ ?_) rfl ?_
      · rfl
      · rfl
      · rfl
      rw [HP.out]
      exact ⟨_, rfl, ⟨A2, n2, c2, A3, n3, c3, rfl, own_mono hp7 (by omega), own_mono hq7 (by omega), h2, h3⟩, hb7⟩
end Go.Proofs.Ytaahpjjffggaiaa
namespace Go.Proofs.Ytaahpjjffggaiaa
open Go.RowKit Go.Gy
set_option linter.unusedVariables false
theorem backL_err : ∀ (rs : List (List Nat)) (m : GMem) (k : Nat), (backL m k rs).2.2 ≠ 0 → (backL m k rs).1 = zeroMem
  | [], m, k, h => absurd rfl h
  | r :: rs, m, k, h => by
    unfold backL at h ⊢
    split
    · rfl
    · rename_i h1
      rw [if_neg h1] at h
      split
      · rfl
      · rename_i h2
        rw [if_neg h2] at h
        exact backL_err rs _ _ h
/-- the law's memory, in block G, with lists of its own -/
def MR (wx : World) (G : Nat) (m : GMem) : Prop := ∃ A n c A' n' c', Blk wx G 60 #[.int .i64 m.goal, .int .i64 m.ticks, .int .i64 m.falls, .slice A n c, .slice A' n' c'] ∧ (∃ j, wx.ownsRow (G + 1) 24 2 (.slice A n c) j (m.asked.flatMap encC)) ∧ (∃ j, wx.ownsRow (G + 1) 24 2 (.slice A' n' c') j (m.has.flatMap encC)) ∧ n ≤ 1000 ∧ n' ≤ 1000
theorem MR.below {wx wy : World} {G : Nat} {m : GMem} (h : MR wx G m) (hb : Below wx.heap.size wx wy) (hG : G < wx.heap.size) : MR wy G m := by
  obtain ⟨A, n, c, A', n', c', h1, ⟨j, h2⟩, ⟨j', h3⟩, h4, h5⟩ := h
  exact ⟨A, n, c, A', n', c', h1.below hb hG, ⟨j, own_below h2 hb (Nat.le_refl _)⟩, ⟨j', own_below h3 hb (Nat.le_refl _)⟩, h4, h5⟩
def BsRel (w1 : World) (b : List Nat) (rs : List (List Nat)) (N : Nat) (q f i : Value) (wr : World) : Prop := ∃ (k : Nat) (m : GMem), k ≤ N ∧ i = .int .i64 (k : Int) ∧ q = .int .i64 (k : Int) ∧ f = .int .i64 0 ∧ backF b = backL m k (rs.drop k) ∧ MR wr w1.heap.size m ∧ Below w1.heap.size w1 wr ∧ w1.heap.size + 1 ≤ wr.heap.size
def BsCut (w1 : World) (b : List Nat) (q f : Value) (wx : World) : Prop := ∃ (m : GMem) (many fault : Nat), q = .int .i64 (many : Int) ∧ f = .int .i64 (fault : Int) ∧ (backF b).2.1 = many ∧ (backF b).2.2 = fault ∧ (fault = 0 → (backF b).1 = m) ∧ MR wx w1.heap.size m ∧ Below w1.heap.size w1 wx ∧ w1.heap.size + 1 ≤ wx.heap.size
def BsEnd (G H : Nat) (m : GMem) (A : Option Addr) (n c : Nat) (A' : Option Addr) (n' c' : Nat) (wx : World) : Prop := MR wx G m ∧ Blk wx H 46 (memRow m A n c A' n' c') ∧ SlC wx wx.heap.size (.slice A n c) m.asked ∧ SlC wx wx.heap.size (.slice A' n' c') m.has
set_option maxRecDepth 100000 in
set_option maxHeartbeats 8000000 in
theorem backs_any (w : World) (vb : Value) (b : List Nat) (hv : SlB w w.heap.size vb b) (hn : b.length ≤ 1048576) (h8 : ∀ x ∈ b, x < 256) :
    Calls Try.prog 38 #[vb] w (BoolPost true w) := by
  have HRc := Lib.hid (records_any w vb b hv hn h8)
  have Hv := Lib.hid hv
  have H8 := Lib.hid h8
  have hl8 := (scanL_spec h8).2.2.2.2
  have hfew := scan_few h8
  obtain ⟨B, NB, C, rfl, _⟩ := hv
  obtain ⟨rs, hrs⟩ : ∃ rs, rs = (scanL b).1 := ⟨_, rfl⟩
  have Hrs := Lib.hid hrs
  rw [← hrs] at hl8 hfew
  have Hl8 := Lib.hid hl8
  have hfew' := Nat.le_trans hfew hn
  clear hl8 hrs h8 hfew
  go_enter Try.func38, Try.ntmps38
  go_wp2_with fail
  refine HRc.out.mono ?_
  rintro e w1 ⟨v1, vs, rfl, hown1, hob1, hb1⟩
  rw [← Hrs.out] at hob1
  obtain ⟨s, hs⟩ : ∃ s, s = (scanL b).2.1 := ⟨_, rfl⟩
  rw [← hs]
  clear hs
  have hvl := hob1.1
  obtain ⟨A1, c1, rfl, hc1, _, hr1⟩ := own_rd hown1
  have hz1 := hb1.size
  have HBw1 := Lib.hid hb1
  have Hob1 := Lib.hid hob1
  have Hr1 := Lib.hid hr1
  obtain ⟨n, hn⟩ : ∃ n, n = vs.length := ⟨_, rfl⟩
  rw [← hn] at Hr1 ⊢
  have Hn := Lib.hid hn
  have Hvl := Lib.hid hvl
  have hn48 : n ≤ 1048576 := by omega
  have hst := Lib.hid (show ∀ wr, wr = w1.alloc (.cells zeroRv 60) → BsRel w1 b rs n (.int .i64 0) (.int .i64 0) (.int .i64 0) wr from fun wr h => by
    subst h
    exact ⟨0, zeroMem, Nat.zero_le _, rfl, rfl, rfl, by rw [List.drop_zero, Hrs.out]; rfl, ⟨none, 0, 0, none, 0, 0, Blk.new w1 _ _, ⟨0, World.ownsRow_nil _ _ _ _⟩, ⟨0, World.ownsRow_nil _ _ _ _⟩, by omega, by omega⟩, (Below.refl _ _).alloc (Nat.le_refl _) _, by simp⟩)
  clear hown1 hob1 hb1 hr1 HRc hc1 hn hvl
  go_upto_block 0 with (fail)
  go_cut [6, 7] (fun q f wx => BsCut w1 b q f wx)
  case first =>
    go_wp2_with fail
    go_loopw [6, 7, 25] (fun q f i wr => BsRel w1 b rs n q f i wr) (fun _ _ i _ => n - (intOf i).toNat)
    case atStart => exact hst.out _ rfl
    case round =>
      obtain ⟨k, m, hk, rfl, rfl, rfl, hbk, hMR, hb, hz⟩ := hrel
      have hzw := hb.size
      have Hbk := Lib.hid hbk
      have HMR := Lib.hid hMR
      have Hb := Lib.hid hb
      clear hbk hMR hb
      by_cases hlt : k < n
      · obtain ⟨gb, go, u, hA, hgb, hu, hc⟩ := (Hr1.out.below Hb.out).at_ hlt
        subst hA
        have hlt' : (k : Int) < (n : Int) := by omega
        have hrk : rs[k]? = some (rs[k]'(by have := Hvl.out; have := Hn.out; omega)) := List.getElem?_eq_getElem _
        obtain ⟨r, hr⟩ : ∃ r, rs[k]? = some r := ⟨_, hrk⟩
        have hor := ((Hob1.out.2 k u r hu hr).below Hb.out).more hzw
        obtain ⟨A4, n4, c4, rfl, _⟩ := id hor
        have hrm := Hl8.out r (List.mem_of_getElem? hr)
        have hE := eventof_any wr _ r hor hrm.2 (by omega)
        have hRead := read_of r
        have hRF : readFE r = 0 → evOfE r = 0 → readF r = evOfF r := fun h1 h2 => by unfold readF evOfF; rw [if_pos h1, if_pos h2]
        have hRG : evOfE r = 0 → readF0 r = evOfF r := fun h2 => by unfold evOfF; rw [if_pos h2]
        obtain ⟨F, hFe⟩ : ∃ F, F = evOfE r := ⟨_, rfl⟩
        obtain ⟨ev, hev⟩ : ∃ ev, ev = evOfF r := ⟨_, rfl⟩
        unfold OfPost at hE
        rw [← hFe, ← hev] at hE hRF
        rw [← hFe, ← hev] at hRG
        rw [← hFe] at hRead
        have HR1 := Lib.hid (show ¬ F = 0 → readFE r = F from fun h => by rw [hRead, if_pos h])
        have hR2 : F = 0 → readFE r = checkF ev := fun h => by rw [hRead, if_neg (by simpa using h), hRG h]
        have HR3 := Lib.hid (show F = 0 → checkF ev = 0 → readF r = ev from fun h h1 => hRF (by rw [hR2 h, h1]) h)
        have HR2 := Lib.hid hR2
        obtain ⟨ek, en, ec⟩ := ev
        have HE := Lib.hid hE
        have hdr : rs.drop k = r :: rs.drop (k + 1) := by
          rw [List.drop_eq_getElem_cons (by have := Hvl.out; have := Hn.out; omega)]
          congr 1
          rw [hrk] at hr
          injection hr
        have Hdr := Lib.hid hdr
        clear hu hr hrk hor hrm hE hFe hdr hev hRead hRF hRG hR2
        go_wp2_with fail
        refine HE.out.mono ?_
        rintro e w5 ⟨A5, n5, c5, rfl, hs5, hn5, hb5⟩
        have hz5 := hb5.size
        have Hs5 := Lib.hid hs5
        have Hb5 := Lib.hid hb5
        have Hb15 := Lib.hid (Hb.out.trans (hb5.mono hzw))
        have HM5 := Lib.hid (HMR.out.below hb5 hz)
        clear hs5 hb5 HE
        by_cases hF0 : F = 0
        · have HR4 := Lib.hid (HR2.out hF0)
          have HR5 := Lib.hid (HR3.out hF0)
          clear HR1 HR2 HR3
          subst hF0
          have hG := eventfault_any w5 ek en ec A5 n5 c5 Hs5.out
          obtain ⟨X, hXe⟩ : ∃ X, X = checkF ⟨ek, en, ec⟩ := ⟨_, rfl⟩
          rw [← hXe] at hG
          have HG := Lib.hid hG
          have HX := Lib.hid hXe
          clear hG hXe
          go_wp2_with fail
          refine HG.out.mono ?_
          rintro e w6 ⟨rfl, hb6⟩
          have hz6 := hb6.size
          have HM6 := Lib.hid (HM5.out.below hb6 (by omega))
          have Hs6 := Lib.hid ((Hs5.out.below hb6).more hb6.size)
          have Hb16 := Lib.hid (Hb15.out.trans (hb6.mono (by omega)))
          clear hb6 HG
          go_upto_if 44 with (fail)
          have hN := Blk.new w6 60 zeroRv
          have hb67 : Below w6.heap.size w6 (w6.alloc (.cells zeroRv 60)) := (Below.refl _ _).alloc (Nat.le_refl _) _
          change Code.wp _ _ _ _ (w6.alloc (.cells zeroRv 60))
          generalize w6.alloc (.cells zeroRv 60) = w7 at hN hb67 ⊢
          have hz7 := hN.lt
          have HM7 := Lib.hid (HM6.out.below hb67 (by omega))
          have Hs7 := Lib.hid ((Hs6.out.below hb67).more hb67.size)
          have Hb17 := Lib.hid (Hb16.out.trans (hb67.mono (by omega)))
          have Hb67 := Lib.hid hb67
          have HN := Lib.hid hN
          clear hN hb67 Hs6
          by_cases hX0 : X = 0
          · subst hX0
            obtain ⟨A2, n2, c2, A3, n3, c3, hM6, ⟨j2, ho26⟩, ⟨j3, ho36⟩, h2, h3⟩ := HM6.out
            have hM := hM6.below Hb67.out (by omega)
            have ho2 := own_below ho26 Hb67.out (Nat.le_refl _)
            have ho3 := own_below ho36 Hb67.out (Nat.le_refl _)
            have HMB := Lib.hid hM6
            have hD := happens_own w7 m ek en ec A2 n2 c2 A3 n3 c3 A5 n5 c5 (SlC.own ho2) (SlC.own ho3) Hs7.out HX.out.symm
            obtain ⟨Y, M', hY⟩ : ∃ Y M', hapF m ⟨ek, en, ec⟩ = (Y, M') := ⟨_, _, rfl⟩
            rw [hY] at hD
            have HD := Lib.hid hD
            have HY := Lib.hid hY
            have Ho2 := Lib.hid ho26
            have Ho3 := Lib.hid ho36
            obtain ⟨g', t', l1, l2, f'⟩ := M'
            have m0 := hM.cell 0 _ rfl
            have m1 := hM.cell 1 _ rfl
            have m2 := hM.cell 2 _ rfl
            have m3 := hM.cell 3 _ rfl
            have m4 := hM.cell 4 _ rfl
            clear hD hY hM ho2 ho3 hM6 ho26 ho36
            go_wp2_with fail
            refine HD.out.mono ?_
            rintro e w8 ⟨A7, n7, c7, A8, n8, c8, rfl, hL7, hL8, h7, h8, hb8⟩
            have hz8 := hb8.size
            have hM8 := (HM7.out).below hb8 (by omega)
            have hb68 := Hb67.out.trans (hb8.mono (by omega))
            have hN8 := HN.out.below hb8 hz7
            clear m0 m1 m2 m3 m4 HD
            have f0 := hN8.free 0
            have f1 := hN8.free 1
            have f2 := hN8.free 2
            have f3 := hN8.free 3
            have f4 := hN8.free 4
            have n0 := hN8.cell 0 _ rfl
            have n1 := hN8.cell 1 _ rfl
            have n2 := hN8.cell 2 _ rfl
            have n3 := hN8.cell 3 _ rfl
            have n4 := hN8.cell 4 _ rfl
            have HL7 := Lib.hid hL7
            have HL8 := Lib.hid hL8
            have HN8 := Lib.hid hN8
            have Hb8 := Lib.hid hb8
            have Hb68 := Lib.hid hb68
            clear hM8 hN8 hb68 hb8 hL7 hL8
            go_upto_if 54 with (fail)
            have hN9 := blk5 HN8.out (.int .i64 g') (.int .i64 t') (.int .i64 f') (.slice A7 n7 c7) (.slice A8 n8 c8)
            have hb69 := below_set5 (g := w6.heap.size) Hb68.out (Nat.le_refl _) (.int .i64 g') (.int .i64 t') (.int .i64 f') (.slice A7 n7 c7) (.slice A8 n8 c8)
            have hz9 := size_set5 w8 w6.heap.size (.int .i64 g') (.int .i64 t') (.int .i64 f') (.slice A7 n7 c7) (.slice A8 n8 c8)
            have ho7 : (∃ j, (((((w8.setCell ⟨w6.heap.size, 0, none⟩ (.int .i64 g')).setCell ⟨w6.heap.size, 1, none⟩ (.int .i64 t')).setCell ⟨w6.heap.size, 2, none⟩ (.int .i64 f')).setCell ⟨w6.heap.size, 3, none⟩ (.slice A7 n7 c7)).setCell ⟨w6.heap.size, 4, none⟩ (.slice A8 n8 c8)).ownsRow (w1.heap.size + 1) 24 2 (.slice A7 n7 c7) j (l1.flatMap encC)) := by
              rcases HL7.out with ⟨e1, e2⟩ | ⟨j, h⟩
              · have := own_below Ho2.out hb69 (Nat.le_refl _)
                rw [← e1, ← e2] at this
                exact ⟨_, this⟩
              · exact ⟨j, own_mono (own_set5 (g := w6.heap.size) h (by omega) _ _ _ _ _) (by omega)⟩
            have ho8 : (∃ j, (((((w8.setCell ⟨w6.heap.size, 0, none⟩ (.int .i64 g')).setCell ⟨w6.heap.size, 1, none⟩ (.int .i64 t')).setCell ⟨w6.heap.size, 2, none⟩ (.int .i64 f')).setCell ⟨w6.heap.size, 3, none⟩ (.slice A7 n7 c7)).setCell ⟨w6.heap.size, 4, none⟩ (.slice A8 n8 c8)).ownsRow (w1.heap.size + 1) 24 2 (.slice A8 n8 c8) j (l2.flatMap encC)) := by
              rcases HL8.out with ⟨e1, e2⟩ | ⟨j, h⟩
              · have := own_below Ho3.out hb69 (Nat.le_refl _)
                rw [← e1, ← e2] at this
                exact ⟨_, this⟩
              · exact ⟨j, own_mono (own_set5 (g := w6.heap.size) h (by omega) _ _ _ _ _) (by omega)⟩
            generalize (((((w8.setCell ⟨w6.heap.size, 0, none⟩ (.int .i64 g')).setCell ⟨w6.heap.size, 1, none⟩ (.int .i64 t')).setCell ⟨w6.heap.size, 2, none⟩ (.int .i64 f')).setCell ⟨w6.heap.size, 3, none⟩ (.slice A7 n7 c7)).setCell ⟨w6.heap.size, 4, none⟩ (.slice A8 n8 c8)) = w9 at hN9 hb69 hz9 ho7 ho8 ⊢
            have HM9 := Lib.hid (HM6.out.below hb69 (by omega))
            have hG9 := HMB.out.below hb69 (by omega)
            have Hb19 := Lib.hid (Hb16.out.trans (hb69.mono (by omega)))
            have Ho7 := Lib.hid ho7
            have Ho8 := Lib.hid ho8
            have HG9 := Lib.hid hG9
            clear f0 f1 f2 f3 f4 n0 n1 n2 n3 n4 ho7 ho8 hb69 HN8 HL7 HL8
            by_cases hY0 : Y = 0
            · subst hY0
              have f0 := hG9.free 0
              have f1 := hG9.free 1
              have f2 := hG9.free 2
              have f3 := hG9.free 3
              have f4 := hG9.free 4
              have q0 := hG9.cell 0 _ rfl
              have q1 := hG9.cell 1 _ rfl
              have q2 := hG9.cell 2 _ rfl
              have q3 := hG9.cell 3 _ rfl
              have q4 := hG9.cell 4 _ rfl
              have n0 := hN9.cell 0 _ rfl
              have n1 := hN9.cell 1 _ rfl
              have n2 := hN9.cell 2 _ rfl
              have n3 := hN9.cell 3 _ rfl
              have n4 := hN9.cell 4 _ rfl
              clear hN9 hG9
              go_upto_region 17 with (fail)
              have hGx := blk5 HG9.out (.int .i64 g') (.int .i64 t') (.int .i64 f') (.slice A7 n7 c7) (.slice A8 n8 c8)
              have hbx := below_set5 (g := w1.heap.size) Hb19.out (Nat.le_refl _) (.int .i64 g') (.int .i64 t') (.int .i64 f') (.slice A7 n7 c7) (.slice A8 n8 c8)
              have hzx := size_set5 w9 w1.heap.size (.int .i64 g') (.int .i64 t') (.int .i64 f') (.slice A7 n7 c7) (.slice A8 n8 c8)
              obtain ⟨j7, ho7⟩ := Ho7.out
              obtain ⟨j8, ho8⟩ := Ho8.out
              have hp7 := own_set5 (g := w1.heap.size) ho7 (by omega) (.int .i64 g') (.int .i64 t') (.int .i64 f') (.slice A7 n7 c7) (.slice A8 n8 c8)
              have hp8 := own_set5 (g := w1.heap.size) ho8 (by omega) (.int .i64 g') (.int .i64 t') (.int .i64 f') (.slice A7 n7 c7) (.slice A8 n8 c8)
              generalize (((((w9.setCell ⟨w1.heap.size, 0, none⟩ (.int .i64 g')).setCell ⟨w1.heap.size, 1, none⟩ (.int .i64 t')).setCell ⟨w1.heap.size, 2, none⟩ (.int .i64 f')).setCell ⟨w1.heap.size, 3, none⟩ (.slice A7 n7 c7)).setCell ⟨w1.heap.size, 4, none⟩ (.slice A8 n8 c8)) = wy at hGx hbx hzx hp7 hp8 ⊢
              have Hnx := Lib.hid (show BsRel w1 b rs n (.int .i64 ((k : Int) + 1)) (.int .i64 0) (.int .i64 ((k : Int) + 1)) wy from ⟨k + 1, ⟨g', t', l1, l2, f'⟩, by omega, by go_num, by go_num, rfl, by
                rw [Hbk.out, Hdr.out]
                conv => lhs; unfold backL
                rw [HR4.out, ← HX.out, if_neg (by simp), HR5.out HX.out.symm, doF_hap HX.out.symm, HY.out, if_neg (by simp)], ⟨A7, n7, c7, A8, n8, c8, hGx, ⟨j7, hp7⟩, ⟨j8, hp8⟩, h7, h8⟩, hbx, by omega⟩)
              clear f0 f1 f2 f3 f4 n0 n1 n2 n3 n4 q0 q1 q2 q3 q4 hGx hbx hp7 hp8 ho7 ho8
              go_wp2_with fail
              go_roundw
              case rel => exact Hnx.out
              case measure => simp [intOf]; omega
            · have hYb : ((Y : Int) != 0) = true := by simp; omega
              have HP := Lib.hid (show backF b = (zeroMem, k, Y) by
                rw [Hbk.out, Hdr.out]
                unfold backL
                rw [HR4.out, ← HX.out, if_neg (by simp), HR5.out HX.out.symm, doF_hap HX.out.symm, HY.out, if_pos hY0])
              clear hN9 hG9
              go_wp2_with fail
              go_meet
              exact ⟨m, k, Y, rfl, rfl, by rw [HP.out], by rw [HP.out], fun h => absurd h hY0, HM9.out, Hb19.out, by omega⟩
          · have hXb : ((X : Int) == 0) = false := by simp; omega
            have HP := Lib.hid (show backF b = (zeroMem, k, X) by
              rw [Hbk.out, Hdr.out]
              unfold backL
              rw [HR4.out, ← HX.out, if_pos hX0])
            go_wp2_with fail
            go_meet
            exact ⟨m, k, X, rfl, rfl, by rw [HP.out], by rw [HP.out], fun h => absurd h hX0, HM7.out, Hb17.out, by omega⟩
        · have hFb : ((F : Int) == 0) = false := by simp; omega
          have HP := Lib.hid (show backF b = (zeroMem, k, F) by
            rw [Hbk.out, Hdr.out]
            unfold backL
            rw [HR1.out hF0, if_pos hF0])
          go_upto_if 44 with (fail)
          have hb67 : Below w5.heap.size w5 (w5.alloc (.cells zeroRv 60)) := (Below.refl _ _).alloc (Nat.le_refl _) _
          change Code.wp _ _ _ _ (w5.alloc (.cells zeroRv 60))
          generalize w5.alloc (.cells zeroRv 60) = w7 at hb67 ⊢
          have HM7 := Lib.hid (HM5.out.below hb67 (by omega))
          have hz7 := hb67.size
          have Hb17 := Lib.hid (Hb15.out.trans (hb67.mono (by omega)))
          clear hb67
          go_wp2_with fail
          go_meet
          exact ⟨m, k, F, rfl, rfl, by rw [HP.out], by rw [HP.out], fun h => absurd h hF0, HM7.out, Hb17.out, by omega⟩
      · obtain rfl : k = n := by omega
        have HP := Lib.hid (show backF b = (m, k, 0) by rw [Hbk.out, List.drop_of_length_le (by have := Hvl.out; have := Hn.out; omega)]; rfl)
        go_wp2_with fail
        go_meet
        exact ⟨m, k, 0, rfl, rfl, by rw [HP.out], by rw [HP.out], fun _ => by rw [HP.out], HMR.out, Hb.out, hz⟩
  case rest =>
    obtain ⟨m, many, fault, rfl, rfl, h1, h2, h3, hMR, hb, hz⟩ := hcut
    have Hb := Lib.hid hb
    have Hm := Lib.hid hMR
    have hB := back_any wc _ b ((Hv.out.below (HBw1.out.trans (hb.mono hz1))).more (by omega)) hn H8.out
    obtain ⟨r, hr⟩ : ∃ r, r = backF b := ⟨_, rfl⟩
    rw [← hr] at hB h1 h2 h3
    obtain ⟨bm, bn, bf⟩ := r
    have HE := Lib.hid (show fault ≠ 0 → bm = zeroMem from fun h => by
      have := backL_err (scanL b).1 zeroMem 0 (by show (backF b).2.2 ≠ 0; rw [← hr]; rw [← h2] at h; exact h)
      have h4 : bm = (backF b).1 := by rw [← hr]
      rw [h4]
      exact this)
    simp only at h1 h2 h3
    subst h1 h2
    have HB := Lib.hid hB
    have H3 := Lib.hid h3
    clear hB h3 hr hb hMR
    go_wp2_with fail
    refine HB.out.mono ?_
    rintro e w9 ⟨v9, rfl, ⟨A5, n5, c5, A6, n6, c6, rfl, ho5, ho6, h5, h6⟩, hb9⟩
    obtain ⟨g', t', l1, l2, f'⟩ := bm
    have hz9 := hb9.size
    have Hm9 := Lib.hid (Hm.out.below hb9 (by omega))
    have Hb19 := Lib.hid (Hb.out.trans (hb9.mono (by omega)))
    have Ho5 := Lib.hid ho5
    have Ho6 := Lib.hid ho6
    have e1 : ((bn : Int) != (bn : Int)) = false := by simp
    have e2 : ((bf : Int) != (bf : Int)) = false := by simp
    clear ho5 ho6 hb9 HB
    go_upto_if 73 with (fail)
    have hN := Blk.new w9 46 (memRow ⟨g', t', l1, l2, f'⟩ A5 n5 c5 A6 n6 c6)
    have hb910 : Below w9.heap.size w9 (w9.alloc (.cells (memRow ⟨g', t', l1, l2, f'⟩ A5 n5 c5 A6 n6 c6) 46)) := (Below.refl _ _).alloc (Nat.le_refl _) _
    change Code.wp _ _ _ _ (w9.alloc (.cells (memRow ⟨g', t', l1, l2, f'⟩ A5 n5 c5 A6 n6 c6) 46))
    generalize w9.alloc (.cells (memRow ⟨g', t', l1, l2, f'⟩ A5 n5 c5 A6 n6 c6) 46) = w10 at hN hb910 ⊢
    have hz10 := hN.lt
    have Hm10 := Lib.hid (Hm9.out.below hb910 (by omega))
    have Hb110 := Lib.hid (Hb19.out.trans (hb910.mono (by omega)))
    have Ho5 := Lib.hid (own_below Ho5.out hb910 (Nat.le_refl _))
    have Ho6 := Lib.hid (own_below Ho6.out hb910 (Nat.le_refl _))
    have HN := Lib.hid hN
    clear hN hb910 Hm9 Hb19
    go_upto_if 75 with (fail)
    go_cut [] (fun wx => BsEnd w1.heap.size w9.heap.size ⟨g', t', l1, l2, f'⟩ A5 n5 c5 A6 n6 c6 wx ∧ Below w1.heap.size w1 wx)
    case first =>
      by_cases hf0 : bf = 0
      · subst hf0
        go_wp2_with fail
        go_meet
        exact ⟨⟨by have := Hm10.out; rw [H3.out trivial]; exact this, HN.out, SlC.own Ho5.out, SlC.own Ho6.out⟩, Hb110.out⟩
      · have hfb : ((bf : Int) != 0) = true := by simp; omega
        obtain ⟨A2, n2, c2, A3, n3, c3, hM, _, _, _, _⟩ := Hm10.out
        have HM := Lib.hid hM
        have f0 := hM.free 0
        have f1 := hM.free 1
        have f2 := hM.free 2
        have f3 := hM.free 3
        have f4 := hM.free 4
        have q0 := hM.cell 0 _ rfl
        have q1 := hM.cell 1 _ rfl
        have q2 := hM.cell 2 _ rfl
        have q3 := hM.cell 3 _ rfl
        have q4 := hM.cell 4 _ rfl
        have hz := HE.out hf0
        clear hM
        go_wp2_with fail
        go_meet
        refine ⟨⟨⟨none, 0, 0, none, 0, 0, ?_, ?_, ?_, by omega, by omega⟩, blk_far5 HN.out (by omega) _ _ _ _ _, SlC.own (own_set5 Ho5.out (by omega) _ _ _ _ _), SlC.own (own_set5 Ho6.out (by omega) _ _ _ _ _)⟩, below_set5 Hb110.out (Nat.le_refl _) _ _ _ _ _⟩
        · rw [hz]
          exact blk5 HM.out _ _ _ _ _
        · rw [hz]
          exact ⟨0, World.ownsRow_nil _ _ _ _⟩
        · rw [hz]
          exact ⟨0, World.ownsRow_nil _ _ _ _⟩
    case rest =>
      obtain ⟨⟨hm, hN, s5, s6⟩, hb⟩ := hcut
      obtain ⟨A2, n2, c2, A3, n3, c3, hM, ⟨j2, ho2⟩, ⟨j3, ho3⟩, h2, h3⟩ := hm
      have p2 := (SlC.own ho2).parts
      have p3 := (SlC.own ho3).parts
      have p5 := s5.parts
      have p6 := s6.parts
      have hQ := equal_cells wc A5 A2 n5 n2 c5 c2 _ l1 l1 p5.1 p2.1 (by omega) (by omega) p5.2.2.2 p2.2.2.2
      rw [decide_eq_true (rfl : l1 = l1)] at hQ
      have HQ := Lib.hid hQ
      have HQ2 := Lib.hid (show ∀ nq, Calls Try.prog 32 #[.slice A6 n6 c6, .slice A3 n3 c3] (wc.drewN nq) (fun e w' => e = .returned (.bool true) ∧ Below wc.heap.size wc w') from fun nq => by
        have hd := below_drewN (Below.refl wc.heap.size wc) nq
        have h := equal_cells (wc.drewN nq) A6 A3 n6 n3 c6 c3 _ l2 l2 p6.1 p3.1 (by omega) (by omega) (p6.2.2.2.below hd) (p3.2.2.2.below hd)
        rw [decide_eq_true (rfl : l2 = l2)] at h
        refine h.mono ?_
        rintro e w' ⟨rfl, m, rfl⟩
        exact ⟨rfl, below_drewN hd m⟩)
      have HP := Lib.hid (HBw1.out.trans (hb.mono hz1))
      have m0 := hM.cell 0 _ rfl
      have m1 := hM.cell 1 _ rfl
      have m2 := hM.cell 2 _ rfl
      have m3 := hM.cell 3 _ rfl
      have m4 := hM.cell 4 _ rfl
      have n0 := hN.cell 0 _ rfl
      have n1 := hN.cell 1 _ rfl
      have n2 := hN.cell 2 _ rfl
      have n3 := hN.cell 3 _ rfl
      have n4 := hN.cell 4 _ rfl
      clear hQ hM hN s5 s6 p2 p3 p5 p6 ho2 ho3 hb
      go_wp2_with fail
      refine HQ.out.mono ?_
      rintro e w11 ⟨rfl, nq, rfl⟩
      go_wp2_with fail
      refine (HQ2.out nq).mono ?_
      rintro e w12 ⟨rfl, hb12⟩
      have HP := Lib.hid (HP.out.trans (hb12.mono HP.out.size))
      clear HQ HQ2 hb12 m0 m1 m2 m3 m4 n0 n1 n2 n3 n4
      go_wp2_with fail
      go_ret
      exact ⟨rfl, HP.out⟩
end Go.Proofs.Ytaahpjjffggaiaa
namespace Go.Proofs.Ytaahpjjffggaiaa
open Go.RowKit Go.Gy Go.WideShapes
set_option linter.unusedVariables false
def EvArg (W : World) (v : Value) (b : Nat) : Prop := ∃ (e : GEv) (A : Option Addr) (n c : Nat), v = evV e A n c ∧ SlC W W.heap.size (.slice A n c) e.cells ∧ n ≤ 8796093022207 ∧ (∀ x ∈ e.cells, wfC x) ∧ wfI .i64 e.kind ∧ wfI .i64 e.n ∧ n < b
theorem opens_ev (W : World) : Opens Try.prog W 48 fun cs b => ∃ v, cs = [] ++ v.cells.toList ∧ EvArg W v b := by
  refine (opens_fields Try.underlying48 (by kernel_rfl) (by kernel_rfl) (fun i v b => if i = 2 then SliceOf W 2 16 (fun cs _ => ∃ c : Cell, cs = encC c ∧ wfC c) [v] b else ∃ n, v = .int .i64 n ∧ wfI .i64 n) ?_).mono ?_
  · intro i f hi
    match i, hi with
    | 0, hi => simp at hi; subst hi; exact field_int Try.underlying3
    | 1, hi => simp at hi; subst hi; exact field_int Try.underlying3
    | 2, hi => simp at hi; subst hi; exact field_slice Try.underlying25 (by kernel_rfl) (by omega) (by kernel_rfl) (opens_cell W)
    | i + 3, hi => simp at hi
  · rintro cs b ⟨hl, h⟩
    obtain ⟨v0, _, e0, h0, _⟩ := h 0 (by decide)
    obtain ⟨v1, _, e1, h1, _⟩ := h 1 (by decide)
    obtain ⟨v2, m2, e2, h2, hm2⟩ := h 2 (by decide)
    obtain ⟨n0, rfl, w0⟩ : ∃ n, v0 = .int .i64 n ∧ wfI .i64 n := h0
    obtain ⟨n1, rfl, w1⟩ : ∃ n, v1 = .int .i64 n ∧ wfI .i64 n := h1
    obtain ⟨A, n, c, xs, rfl, s2, b2, d2, q2⟩ := cellsSl_of (show SliceOf W 2 16 (fun cs _ => ∃ c : Cell, cs = encC c ∧ wfC c) [v2] m2 from h2)
    match cs, hl with
    | [c0, c1, c2], _ =>
      simp at e0 e1 e2
      subst e0 e1 e2
      exact ⟨evV ⟨n0, n1, xs⟩ A n c, rfl, ⟨n0, n1, xs⟩, A, n, c, rfl, s2, b2, q2, w0, w1, by omega⟩
set_option maxRecDepth 100000 in
theorem arg_event {H : Type} {enc : TypeId × Value → H} {W : World} {v : Value} {d : DataW H} {p : List MemPlace} {r : Reach} {b0 : Nat} (hv : Value.okWide Try.prog W r b0 48 v) (h : DataW.Trod enc Try.prog W 0 (fun _ => true) true 48 v d p)
    (hw : ∀ m ∈ d.weights Try.prog 48, m ≤ reachBytes) : EvArg W v (bulk d) := by
  obtain ⟨cs, rfl, _⟩ := okWide_struct Try.underlying48 hv
  obtain ⟨v, he, h'⟩ := view (opens_ev W) h hw
  obtain ⟨e, A, n, c, rfl, h''⟩ := h'
  have he : cs.toList = [.int .i64 e.kind, .int .i64 e.n, .slice A n c] := he
  refine ⟨e, A, n, c, ?_, h''⟩
  have : cs = [.int .i64 e.kind, .int .i64 e.n, .slice A n c].toArray := by rw [← he]
  rw [this]
end Go.Proofs.Ytaahpjjffggaiaa
namespace Go.Proofs.Ytaahpjjffggaiaa
open Go.RowKit Go.Gy Go.WideShapes
set_option linter.unusedVariables false
def EvIn (W : World) (s : SEv) : Prop := SlC W W.heap.size (.slice s.A s.n s.c) s.e.cells ∧ s.n ≤ 8796093022207 ∧ (∀ x ∈ s.e.cells, wfC x) ∧ wfI .i64 s.e.kind ∧ wfI .i64 s.e.n
def EvsArg (W : World) (v : Value) (b : Nat) : Prop := ∃ (ss : List SEv) (A : Option Addr) (n c : Nat), v = .slice A n c ∧ ss.length = n ∧ n ≤ c ∧ c ≤ 4611686018427387903 ∧ (A = none → c = 0) ∧ Rd W W.heap.size 3 A n (ss.flatMap encE) ∧ ∀ s ∈ ss, EvIn W s
set_option maxRecDepth 100000 in
theorem arg_events {H : Type} {enc : TypeId × Value → H} {W : World} {v : Value} {d : DataW H} {p : List MemPlace} {r : Reach} {b0 : Nat} (hv : Value.okWide Try.prog W r b0 70 v) (h : DataW.Trod enc Try.prog W 0 (fun _ => true) true 70 v d p)
    (hw : ∀ m ∈ d.weights Try.prog 70, m ≤ reachBytes) : EvsArg W v (bulk d) := by
  obtain ⟨a, n, c, rfl⟩ := okWide_slice Try.underlying70 hv
  obtain ⟨A, n, c, ss, e0, h1, h2, h3, h4, h5, h6, h7, h8⟩ := SliceOf.arg (α := SEv) (enc := encE) (Q := EvIn W) (size := 3) (bytes := 40) (v := .slice a n c) rfl (by omega) (view (opens_slice Try.underlying70 (by kernel_rfl) (by decide) (by kernel_rfl) (opens_ev W)) h hw) fun x m ⟨u, g1, e, A, n, c, g2, g3, g4, g5, g6, g7, g8⟩ => ⟨⟨e, A, n, c⟩, by subst g2; simpa [Value.cells, evV, encE] using g1, g3, g4, g5, g6, g7⟩
  exact ⟨ss, A, n, c, e0, h1, h2, by simp only [reachBytes] at h3 h4; simp only [maxLen] at h3; omega, h6, h7, h8⟩
end Go.Proofs.Ytaahpjjffggaiaa
