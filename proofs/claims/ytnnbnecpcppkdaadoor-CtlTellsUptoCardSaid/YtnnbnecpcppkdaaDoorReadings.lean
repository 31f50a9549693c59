/- gantkeep5.readings. Conditions: those typed. -/
import Derived.Test.YtnnbnecpcppkdaaDoorMakeQ
import Derived.Test.YtnnbnecpcppkdaaDoorArgQ
namespace Go.Proofs.YtnnbnecpcppkdaaDoor
open Go.RowKit Go.Gy
set_option linter.unusedVariables false
theorem info_rat : (Tryd.prog.info? 25).map (fun i => (i.zero, i.size, i.bytes)) = some (some (.agg #[.bool false, .string { data := #[] }, .string { data := #[] }]), 3, 40) := by kernel_rfl
/-- the readings that gantkeep5.readings makes -/
def readM (r : List Int) : List Rat := (r.take 40).map ratM
def rowQ (l : List Rat) : List Value := (l.map toQ3).flatMap encQ
theorem rowQ_snoc (l : List Rat) (q : Rat) : rowQ (l ++ [q]) = rowQ l ++ [.bool (qn q), .string (qs q), .string (qt q)] := by simp [rowQ, encQ, toQ3]
def ReRel (w : World) (r : List Int) (v i : Value) (wr : World) : Prop := ∃ k : Nat, k ≤ min r.length 40 ∧ i = .int .i64 k ∧ wr.ownsRow w.heap.size 25 3 v k (rowQ ((r.take k).map ratM)) ∧ Below w.heap.size w wr
set_option maxRecDepth 100000 in
set_option maxHeartbeats 4000000 in
theorem readings_any (w : World) (v : Value) (r : List Int) (hv : SlI w w.heap.size v r) (hr : ∀ x ∈ r, InI x) :
    Calls Tryd.prog 22 #[v] w fun e w' => ∃ v', e = .returned v' ∧ w'.ownsRow w.heap.size 25 3 v' (readM r).length (rowQ (readM r)) ∧ Below w.heap.size w w' := by
  obtain ⟨i0, hi, hz0, hz1, hz2⟩ := info_parts info_rat
  obtain ⟨A, n, c, rfl, hrn, hnc, hA, hrd⟩ := hv
  obtain ⟨m, hm⟩ : ∃ m : Nat, m = min n 40 := ⟨_, rfl⟩
  have hmin : min (n : Int) 40 = m := by omega
  have hmc : m ≤ c := by omega
  have hto := fun w => ints_to A n c m hmc w
  have hst := Lib.hid (show ReRel w r (.slice none 0 0) (.int .i64 0) w from ⟨0, Nat.zero_le _, rfl, ⟨rfl, .inl ⟨rfl, rfl⟩⟩, Below.refl _ _⟩)
  have Hm := Lib.hid hm
  have hmn : m ≤ n ∧ m ≤ 40 ∧ (m = n ∨ m = 40) := by omega
  clear hm
  go_enter Tryd.func22, Tryd.ntmps22
  go_wp2_with (first
    | (refine wpList_min2 rfl (.tmp 8) (.const (.int .i64 40)) _ rfl n 40 rfl rfl m hmin ?_)
    | (refine wpList_slice_to rfl 22 (.tmp 6) (.tmp 9) rfl A n c m rfl rfl Tryd.underlying22 hto ?_))
  go_loopw [3, 12] (fun v i wr => ReRel w r v i wr) (fun _ i _ => m - (intOf i).toNat)
  case atStart => exact hst.out
  case round =>
    obtain ⟨k, hk, rfl, hown, hbw⟩ := hrel
    by_cases hkm : k < m
    · have h1 : (k : Int) < (m : Int) := by omega
      obtain ⟨b, o, z, rfl, hbB, hz, hcell⟩ := Rd.one (k := .i64) hrd (show k < n by omega)
      have hcw : wr.cell? ⟨b, o + k, none⟩ = some (.int .i64 z) := (hbw.cell (p := ⟨b, o + k, none⟩) hbB).trans hcell
      have HR := Lib.hid (fun W => ratM_any W z (hr z (List.mem_of_getElem? hz)))
      have hsnoc : (r.take (k + 1)).map ratM = (r.take k).map ratM ++ [ratM z] := by rw [List.take_add_one, hz, List.map_append]; rfl
      unfold QV at HR
      have Hown := Lib.hid hown
      have hsz := hbw.size
      have hbn : b < wr.heap.size := by omega
      have HN := Lib.hid (show ∀ v' w', w'.ownsRow w.heap.size 25 3 v' (k + 1) (rowQ ((r.take k).map ratM) ++ [.bool (qn (ratM z)), .string (qs (ratM z)), .string (qt (ratM z))]) → Below w.heap.size wr w' → ReRel w r v' (.int .i64 ((k : Int) + 1)) w' from fun v' w' ho hb => ⟨k + 1, by omega, by simp, by rw [hsnoc, rowQ_snoc]; exact ho, hbw.trans hb⟩)
      obtain ⟨nb, hnb⟩ : ∃ y, y = qn (ratM z) := ⟨_, rfl⟩
      obtain ⟨na, hna⟩ : ∃ y, y = qs (ratM z) := ⟨_, rfl⟩
      obtain ⟨nd, hnd⟩ : ∃ y, y = qt (ratM z) := ⟨_, rfl⟩
      rw [← hnb, ← hna, ← hnd] at HR HN
      have h2 : 0 ≤ (k : Int) ∧ (k : Int) < (m : Int) := by omega
      have hw1 : IntKind.i64.wrap ((k : Int) + 1) = (k : Int) + 1 := by rw [IntKind.wrap_i64]; omega
      have hm40 : m ≤ 40 := by omega
      clear hnb hna hnd hsnoc hown hrd hr hst hmin hmn hrn hnc hA hcell hz
      go_wp2_with fail
      refine (HR.out _).mono ?_
      rintro e w3 ⟨rfl, hb3⟩
      have Hown3 := Lib.hid (own_below Hown.out hb3 (Nat.le_refl _))
      have hsz3 := hb3.size
      clear hcw HR Hown
      go_wp2_with (at_builtin; refine wpList_push rfl (.tmp 16) (.tmp 19) 48 rfl w.heap.size 25 i0 (.agg #[.bool false, .string { data := #[] }, .string { data := #[] }]) 3 40 Tryd.underlying48 hi hz0 hz1 hz2 rfl (by omega) _ k _ rfl Hown3.out [.bool nb, .string na, .string nd] rfl rfl (by simp [Value.oneCell']) (by unfold maxLen; omega) (by omega) (by omega) ?_; intro v6 w6 hn6 hb6 _)
      have hrel := HN.out _ _ hn6 ((hb3.mono hsz).trans hb6)
      clear hn6 hb6 hb3
      go_roundw
      case rel => exact hrel
      case measure => simp [intOf]; omega
    · have hkm2 : k = m := by omega
      subst hkm2
      have h1 : ¬ (k : Int) < (k : Int) := by omega
      have hre : (r.take k).map ratM = readM r := by
        unfold readM
        rw [Hm.out, ← hrn]
        congr 1
        rcases Nat.lt_or_ge r.length 40 with h | h
        · rw [Nat.min_eq_left (by omega), List.take_of_length_le (Nat.le_refl _), List.take_of_length_le (by omega)]
        · rw [Nat.min_eq_right h]
      have hkl : (readM r).length = k := by unfold readM; rw [List.length_map, List.length_take]; omega
      rw [hre] at hown
      have Hown := Lib.hid hown
      have HL := Lib.hid hkl
      clear hown hre hst hkl hto hrd hmn hmin
      go_wp2
      go_ret
      exact ⟨_, rfl, by rw [HL.out]; exact Hown.out, hbw⟩
end Go.Proofs.YtnnbnecpcppkdaaDoor
