/- lease.New; gantkeep5.leases. Conditions: those typed. -/
import Derived.Test.YtambngbkegnghaaTabCheck
namespace Go.Proofs.Ytambngbkegnghaa
open Go.RowKit Go.Gy
set_option linter.unusedVariables false
theorem info_cellrow : (Try.prog.info? 24).map (fun i => (i.zero, i.size, i.bytes)) = some (some (.slice none 0 0), 1, 24) := by kernel_rfl
def emptyT (n : Nat) : Tab := (List.replicate n [], [])
theorem emptyT_safe (n : Nat) (hn : n ≤ 4) : Safe (emptyT n) ∧ Must (emptyT n) := by
  have hg : ∀ i : Nat, (emptyT n).1.getD i [] = [] := fun i => by
    unfold emptyT
    rw [List.getD_eq_getElem?_getD, List.getElem?_replicate]
    split <;> rfl
  refine ⟨⟨⟨by simpa [emptyT] using hn, fun r hr => ?_, fun y hy => ?_, List.nodup_nil⟩, fun i j _ x hx => ?_, fun y hy => ?_, fun y hy => ?_, fun _ => 0, fun i y hy => ?_⟩, fun i y hy => ?_⟩
  · obtain ⟨_, rfl⟩ := List.mem_replicate.1 hr; rfl
  · simp [emptyT] at hy
  · rw [hg] at hx; simp at hx
  · simp [emptyT] at hy
  · simp [emptyT] at hy
  · simp [emptyT] at hy
  · simp [emptyT] at hy
def NewPost (n : Nat) (w : World) (e : Ending) (w' : World) : Prop := e = .returned (.tuple #[.pointer (some ⟨w.heap.size + 1, 0, none⟩), .int .i64 0]) ∧ TabAt w' w.heap.size (w.heap.size + 1) (emptyT n) [] ∧ Below w.heap.size w w'
set_option maxRecDepth 100000 in
theorem new_any (w : World) (n : Nat) (h1 : 1 ≤ n) (h4 : n ≤ 4) : Calls Try.prog 13 #[.int .i64 (n : Int)] w (NewPost n w) := by
  obtain ⟨i0, hii, hz0, hz1, hz2⟩ := info_parts info_cellrow
  have hmk : ∀ W : World, (Instr.makeSlice 45 (.int .i64 (n : Int)) (.int .i64 (n : Int))).run Try.prog W = .ok (.slice (some ⟨W.heap.size, 0, none⟩) n n) (W.alloc (.cells (Array.replicate n (.slice none 0 0)) 24)) := fun W => by
    have h := run_makeSlice (P := Try.prog) W 45 24 i0 (.slice none 0 0) Try.underlying45 hii hz0 .i64 .i64 (n : Int) (n : Int) (by omega) (Int.le_refl _) (by rw [hz1]; omega) (by rw [hz2]; omega) (by omega)
    rw [Int.toNat_natCast, hz1, Nat.mul_one] at h
    rw [h]
    congr 3
    apply Array.ext
    · simp [madeCells]
    · intro j h1 h2
      simp [madeCells, Value.cells, Nat.mod_one]
  have hP : ∀ W, W = (w.alloc (.cells (Array.replicate n (.slice none 0 0)) 24)).alloc (.cells #[.slice (some ⟨w.heap.size, 0, none⟩) n n, .slice none 0 0] 75) → NewPost n w (.returned (.tuple #[.pointer (some ⟨w.heap.size + 1, 0, none⟩), .int .i64 0])) W := by
    rintro W rfl
    have hb : Below w.heap.size w ((w.alloc (.cells (Array.replicate n (.slice none 0 0)) 24)).alloc (.cells #[.slice (some ⟨w.heap.size, 0, none⟩) n n, .slice none 0 0] 75)) := ((Below.refl _ _).alloc (Nat.le_refl _) _).alloc (by simp) _
    have e1 : (List.replicate n (Value.slice none 0 0)).length = n := List.length_replicate
    refine ⟨rfl, ⟨w.heap.size, List.replicate n (.slice none 0 0), .slice none 0 0, [], by omega, Nat.le_refl _, ?_, ?_, World.ownsRow_nil _ _ _ _, by simp [emptyT], fun i v r h1 h2 => ?_, rfl, fun i x y h1 => by simp at h1, fun x hx => by simp at hx⟩, hb⟩
    · have := Blk.new (w.alloc (.cells (Array.replicate n (.slice none 0 0)) 24)) 75 #[.slice (some ⟨w.heap.size, 0, none⟩) n n, .slice none 0 0]
      rw [World.size_alloc] at this
      rw [e1]
      exact this
    · have := (Blk.new w 24 (Array.replicate n (.slice none 0 0))).alloc (.cells #[.slice (some ⟨w.heap.size, 0, none⟩) n n, .slice none 0 0] 75)
      rw [List.toArray_replicate]
      exact this
    · simp only [emptyT] at h2
      rw [List.getElem?_replicate] at h1 h2
      split at h1
      · rename_i h3
        rw [if_pos h3] at h2
        injection h1 with h1
        injection h2 with h2
        subst h1 h2
        exact ⟨SlC.own (World.ownsRow_nil _ 0 _ _), fun h => absurd h (by decide)⟩
      · cases h1
  have HP := Lib.hid hP
  clear hP
  have g1 : ¬ (n : Int) < 1 := by omega
  have g4 : ¬ (4 : Int) < (n : Int) := by omega
  go_enter Try.func13, Try.ntmps13
  go_wp2_with fail
  go_ret2
  exact HP.out _ rfl
theorem lit_slc (w : World) (x y : Int) : SlC (w.alloc (.cells #[.int .i64 x, .int .i64 y] 39)) (w.alloc (.cells #[.int .i64 x, .int .i64 y] 39)).heap.size (.slice (some ⟨w.heap.size, 0, none⟩) 1 1) [(x, y)] :=
  ⟨some ⟨w.heap.size, 0, none⟩, 1, 1, rfl, rfl, Nat.le_refl _, (fun h => by cases h), (Rd.lit w 39 [.int .i64 x, .int .i64 y] 2 1 rfl).more (by simp)⟩
theorem ask_first : askF (emptyT 2) 0 [(0, 0)] = (0, ([[(0, 0)], []], [])) := by decide
/-- gantkeep5.leases finds that a lease works -/
theorem leases_any (w : World) : Calls Try.prog 11 #[] w (HasPost true w) := by
  have HN := Lib.hid (new_any w 2 (by decide) (by decide))
  go_enter Try.func11, Try.ntmps11
  go_wp2_with fail
  refine HN.out.mono ?_
  rintro e w1 ⟨rfl, hT1, hb1⟩
  have hal : ∀ X, Below w1.heap.size w1 (w1.alloc X) := fun X => (Below.refl _ _).alloc (Nat.le_refl _) _
  have HA := Lib.hid (ask_any _ w.heap.size (w.heap.size + 1) (emptyT 2) [] 0 _ _ (hT1.below (hal _)) (emptyT_safe 2 (by decide)).1.fit (lit_slc w1 0 0) (by decide))
  have Hb1 := Lib.hid (hb1.trans ((hal (.cells #[.int .i64 0, .int .i64 0] 39)).mono hb1.size))
  rw [ask_first] at HA
  clear hT1 hb1 HN hal
  go_wp2_with fail
  refine HA.out.mono ?_
  rintro e w2 ⟨rfl, hT2, hb2⟩
  have Hb2 := Lib.hid (Hb1.out.trans hb2)
  have hfit : Fit ([[(0, 0)], []], []) := by
    have := (emptyT_safe 2 (by decide)).1.fit.ask 0 [(0, 0)]
    rw [ask_first] at this
    exact this
  have HC := Lib.hid (cells_of w2 _ _ _ _ 0 hT2 hfit)
  clear hT2 hb2 HA hfit
  go_wp2_with fail
  refine HC.out.mono ?_
  rintro e w3 ⟨A3, n3, c3, rfl, hl3, hown3, hb3⟩
  obtain rfl : n3 = 1 := hl3.symm
  have Hb3 := Lib.hid (Hb2.out.trans (hb3.mono Hb2.out.size))
  clear hl3 hown3 hb3 HC
  go_wp2_with fail
  go_ret
  exact ⟨rfl, Hb3.out⟩
end Go.Proofs.Ytambngbkegnghaa
