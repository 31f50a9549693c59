/- ring.steps. Conditions: those typed. -/
import Derived.Test.YtgmjeanoohmdlaaReachPlain
import Derived.Test.YtgmjeanoohmdlaaQueue
import Derived.Deep.RegionHeld
namespace Go.Proofs.Ytgmjeanoohmdlaa
open Go.RowKit Go.Gy
set_option linter.unusedVariables false
theorem info_bool : (Try.prog.info? 4).map (fun i => (i.zero, i.size, i.bytes)) = some (some (.bool false), 1, 1) := by kernel_rfl
theorem made_bools (n : Nat) : madeCells (Value.bool false).cells n = ((List.replicate n false).map Value.bool).toArray := by
  apply Array.ext
  · simp [madeCells]
  · intro j h1 h2
    simp [madeCells, Value.cells, Nat.mod_one]
def bools (sl : List Bool) : Array Value := (sl.map Value.bool).toArray
theorem bools_at {sl : List Bool} {k : Nat} {b : Bool} (h : sl[k]? = some b) : (bools sl)[k]? = some (.bool b) := by simp [bools, h]
theorem bools_set (sl : List Bool) (k : Nat) (b : Bool) : (bools sl).setIfInBounds k (.bool b) = bools (sl.set k b) := by simp [bools, List.map_set]
theorem size_int (w : World) : (sizeOf (Try.prog.elem 22)).run Try.prog w = .ok 1 w := by
  obtain ⟨i, hi, _⟩ := info_parts info_int
  exact (run_sizeOf (w := w) (show Try.prog.info? (Try.prog.elem 22) = some i from hi)).trans (congrArg (fun n => Result.ok n w) (by kernel_rfl))
def StepsPost (w : World) (rs : List (List Int)) (a : Nat) (e : Ending) (w' : World) : Prop := ∃ g sl, e = .returned (.slice (some ⟨g, 0, none⟩) rs.length rs.length) ∧ w.heap.size ≤ g ∧ Blk w' g 4 (bools sl) ∧ sl.length = rs.length ∧ (∀ k, sl[k]? = some true ↔ Reach rs a k) ∧ Below w.heap.size w w'
def StepRel (w : World) (rs : List (List Int)) (a G g : Nat) (t : Value) (wr : World) : Prop := ∃ sl td, StInv rs a sl td ∧ mu rs sl + td.length < g ∧ mu rs sl + td.length ≤ 2 * rs.flatten.length ∧ QRow wr (w.heap.size + 1) 1 t td.length (td.map iv) ∧ Blk wr G 4 (bools sl) ∧ Below w.heap.size w wr ∧ w.heap.size + 1 ≤ wr.heap.size
theorem flat_mem_le {rs : List (List Int)} {a : Nat} {r : List Int} (h : rs[a]? = some r) : r.length ≤ rs.flatten.length := by
  induction rs generalizing a with
  | nil => simp at h
  | cons x rs ih =>
    rw [List.flatten_cons, List.length_append]
    cases a with
    | zero => simp at h; subst h; omega
    | succ a => have := ih (by simpa using h); omega
set_option maxRecDepth 100000 in
set_option maxHeartbeats 2000000 in
theorem steps_any (w : World) (v : Value) (a : Nat) (rs : List (List Int)) (hv : RowsI w w.heap.size v rs) (ha : a < rs.length) (hn : rs.length ≤ 64) (hg : ∀ r ∈ rs, ∀ x ∈ r, 0 ≤ x ∧ x < (rs.length : Int)) (hS : rs.flatten.length ≤ 1000000000) :
    Calls Try.prog 21 #[v, .int .i64 (a : Int)] w (StepsPost w rs a) := by
  obtain ⟨A, n, c, vs, rfl, hN, _, _, hr, hs⟩ := hv
  obtain ⟨b, o, u, rfl, hbB, hu, hc⟩ := hr.at_ (show a < n by omega)
  have hra : rs[a]? = some (rs[a]) := List.getElem?_eq_getElem _
  obtain ⟨r, hr0⟩ : ∃ r, r = rs[a] := ⟨_, rfl⟩
  rw [← hr0] at hra
  have hsl := hs.2 a u r hu hra
  have han : (a : Int) < (n : Int) := by omega
  have hn64 : n ≤ 64 := by omega
  have HN := Lib.hid hN
  have Hs := Lib.hid hs
  have Hsl := Lib.hid hsl
  have Hra := Lib.hid hra
  obtain ⟨A', m, c', rfl, hm, hm2, hm3, hm4⟩ := id hsl
  subst hm
  clear hm2 hm3 hm4
  obtain ⟨i0, hi, hz0, hz1, hz2⟩ := info_parts info_bool
  have hmk : ∀ W : World, (Instr.makeSlice 35 (.int .i64 (n : Int)) (.int .i64 (n : Int))).run Try.prog W = .ok (.slice (some ⟨W.heap.size, 0, none⟩) n n) (W.alloc (.cells ((List.replicate n false).map Value.bool).toArray 4)) := fun W => by
    have h := run_makeSlice (P := Try.prog) W 35 4 i0 (.bool false) Try.underlying35 hi hz0 .i64 .i64 (n : Int) (n : Int) (by omega) (Int.le_refl _) (by rw [hz1]; omega) (by rw [hz2]; omega) (by omega)
    rw [Int.toNat_natCast, hz1, Nat.mul_one, made_bools] at h
    exact h
  have Hg := Lib.hid hg
  obtain ⟨j0, hj, hy0, hy1, hy2⟩ := info_parts info_int
  clear hN hs hsl hra hr0 hu hg
  go_enter Try.func21, Try.ntmps21
  go_wp2_with fail
  have hz0 : ∀ X, (w.alloc X).heap.size = w.heap.size + 1 := fun X => by simp
  refine (clone_ints _ _ r ((Hsl.out.below ((Below.refl _ _).alloc (Nat.le_refl _) _)).more (by simp)) (by have := flat_mem_le Hra.out; omega)).mono ?_
  rintro e w1 ⟨v1, rfl, hown1, hb1⟩
  have hbw1 : Below w.heap.size w w1 := ((Below.refl _ _).alloc (Nat.le_refl _) _).trans (hb1.mono (by simp))
  have hG : Blk w1 w.heap.size 4 (bools (List.replicate n false)) := by
    have := (Blk.new w 4 (bools (List.replicate n false)))
    refine Blk.below this ?_ (show w.heap.size < (w.alloc (.cells (bools (List.replicate n false)) 4)).heap.size by simp)
    have e : bools (List.replicate n false) = Array.replicate n (Value.bool false) := by simp [bools]
    rw [e]; exact hb1
  obtain ⟨A2, c2, rfl, _, _, _⟩ := own_rd hown1
  have hst := Lib.hid (show StepRel w rs a w.heap.size (rs.flatten.length + r.length + 1) (.slice A2 r.length c2) w1 from ⟨List.replicate n false, r, by rw [← HN.out]; exact StInv.start Hra.out (Hg.out r (List.mem_of_getElem? Hra.out)), by have := mu_le rs (List.replicate n false); omega, by have := mu_le rs (List.replicate n false); have := flat_mem_le Hra.out; omega, QRow.lower (QRow.of_own hown1) (by rw [hz0]; exact Nat.le_refl _), hG, hbw1, by have := hb1.size; rw [hz0] at this; exact this⟩)
  clear hown1 hb1 hG
  go_wp2_with fail
  go_loopg [6] (rs.flatten.length + r.length + 1) (fun g t wr => StepRel w rs a w.heap.size g t wr)
  case atStart => exact hst.out
  case round =>
    obtain ⟨sl, td, hI, hmu, hmv, hq, hB, hbw, hz⟩ := hrel
    obtain ⟨f, rfl⟩ : ∃ f, gk = f + 1 := ⟨gk - 1, by omega⟩
    have HI := Lib.hid hI
    have HB := Lib.hid hB
    have Hmu := Lib.hid hmu
    clear hI hB hmu
    cases td with
    | nil =>
      obtain ⟨A3, c3, rfl, hc3, _, hA3, hr3⟩ := hq.rd
      clear hq
      have hNn := HN.out
      have HP := Lib.hid (show StepsPost w rs a (.returned (.slice (some ⟨w.heap.size, 0, none⟩) n n)) wr from ⟨w.heap.size, sl, by rw [hNn], Nat.le_refl _, HB.out, HI.out.len, HI.out.done, hbw⟩)
      clear hNn hr3
      go_wp2
      go_ret
      exact HP.out
    | cons x td =>
      have hx := HI.out.todo x (by simp)
      obtain ⟨k, hk⟩ : ∃ k : Nat, (k : Int) = x := ⟨x.toNat, by omega⟩
      subst hk
      have hkn : k < n := by have := hx.2.1; rw [HN.out] at this; omega
      clear hx
      have hkn' : (k : Int) < (n : Int) := by omega
      obtain ⟨m, hm⟩ : ∃ m, m = td.length := ⟨_, rfl⟩
      have hl : (((k : Int) :: td).length) = m + 1 := by rw [hm]; rfl
      rw [hl] at hmv hq
      obtain ⟨A3, c3, rfl, hc3, _, hA3, hr3⟩ := hq.rd
      have Hq := Lib.hid hq
      clear hq
      obtain ⟨b3, o3, z, rfl, hb3, hz, hcz⟩ := hr3.one (show 0 < m + 1 by omega)
      obtain rfl : (k : Int) = z := by simpa using hz
      have Hl := Lib.hid hl
      have Hm := Lib.hid hm
      rw [Nat.add_zero] at hcz
      have hk3 : k < sl.length := by have := HI.out.len; have := HN.out; omega
      obtain ⟨bb, hbb⟩ : ∃ bb, sl[k]? = some bb := ⟨_, List.getElem?_eq_getElem hk3⟩
      have hcb := HB.out.cell k (.bool bb) (bools_at hbb)
      have Hbb := Lib.hid hbb
      clear hz hl hm hbb hA3 hk3
      cases bb with
      | true =>
        go_wp2_with (refine wpList_tail rfl 22 _ rfl 1 (by kernel_rfl) size_int (w.heap.size + 1) (.slice (some ⟨b3, o3, none⟩) (m + 1) c3) m _ rfl Hq.out ?_; intro v4 hq4)
        go_roundg f
        case measure => omega
        case rel => exact ⟨sl, td, HI.out.skip (by simpa using Hbb.out), by have h1 := Hmu.out; have h2 := Hl.out; have h3 := Hm.out; omega, by have h3 := Hm.out; omega, by rw [← Hm.out]; exact hq4, HB.out, hbw, hz⟩
      | false =>
        obtain ⟨bk, ok, uk, he, hbk, huk, hck⟩ := (hr.below hbw).at_ hkn
        injection he with he
        injection he with he1 he2
        subst he1 he2
        have hrk : rs[k]? = some (rs[k]'(by have := HN.out; omega)) := List.getElem?_eq_getElem _
        obtain ⟨r2, hr20⟩ : ∃ r2, r2 = rs[k]'(by have := HN.out; omega) := ⟨_, rfl⟩
        rw [← hr20] at hrk
        obtain ⟨A4, m2, c4, rfl, hm2, hnc2, hA4, hr4⟩ := Hs.out.2 k uk r2 huk hrk
        have hle := flat_mem_le hrk
        have hms := mu_set rs sl k r2 Hbb.out hrk
        have hbound : mu rs sl ≤ rs.flatten.length := mu_le rs sl
        have hmm : m + m2 ≤ 2000000001 := by omega
        have hbs : Below w.heap.size w (wr.setCell ⟨w.heap.size, k, none⟩ (.bool true)) := hbw.setCell (Nat.le_refl _) _
        have hck' : (wr.setCell ⟨w.heap.size, k, none⟩ (.bool true)).cell? ⟨b, o + k, none⟩ = some (.slice A4 m2 c4) := (World.cell?_setCell_far _ _ _ _ (by show w.heap.size ≠ b; omega)).trans hck
        have hsz : w.heap.size + 1 ≤ (wr.setCell ⟨w.heap.size, k, none⟩ (.bool true)).heap.size := by simpa using hz
        have hfr := HB.out.free k
        have e63 : m + m2 ≤ maxLen := by unfold maxLen; omega
        have eby : (m + m2) * 8 ≤ 140737488355328 := by omega
        have Hm2 := Lib.hid hm2
        have Hms := Lib.hid hms
        have Hrk := Lib.hid hrk
        have HA4 := Lib.hid hA4
        have Hr4 := Lib.hid (hr4.below hbs)
        have Hbs := Lib.hid hbs
        clear huk hr20 hrk hm2 hms hA4 hr4 hbs hle hbound hck
        go_wp2_with (first | (refine wpList_tail rfl 22 _ rfl 1 (by kernel_rfl) size_int (w.heap.size + 1) (.slice (some ⟨b3, o3, none⟩) (m + 1) c3) m _ rfl Hq.out ?_; intro v4 hq4) | (at_builtin; refine wpList_queue' rfl _ _ 22 rfl (w.heap.size + 1) 3 j0 (.int .i64 0) 1 8 Try.underlying22 hj hy0 hy1 hy2 rfl (by omega) v4 m _ rfl (hq4.far (p := ⟨w.heap.size, k, none⟩) (by show w.heap.size < _; omega) _) A4 m2 c4 w.heap.size (r2.map iv) rfl HA4.out Hr4.out (iv_one r2) _ rfl e63 eby hsz ?_; intro v5 w5 hq5 hb5))
        go_roundg f
        case measure => omega
        case rel => exact ⟨sl.set k true, td ++ r2, HI.out.take (by simpa using Hrk.out) (Hg.out r2 (List.mem_of_getElem? Hrk.out)), by have h1 := Hmu.out; have h2 := Hl.out; have h3 := Hm.out; have h4 := Hms.out; rw [List.length_append]; omega, by have h3 := Hm.out; have h4 := Hms.out; rw [List.length_append]; omega, by rw [List.length_append, ← Hm.out, Hm2.out, List.map_append]; exact hq5, by rw [← bools_set]; exact (HB.out.set k _).below hb5 (by omega), Hbs.out.trans (hb5.mono (by simp)), by have := hb5.size; omega⟩
end Go.Proofs.Ytgmjeanoohmdlaa
