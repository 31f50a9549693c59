/- LeaseLoop's walk: it returns true. Conditions: the reach. -/
import Derived.Test.YtambngbkegnghaaLeaseFirstWalk
namespace Go.Proofs.Ytambngbkegnghaa.leaseLoop
open Go.RowKit Go.Gy
set_option linter.unusedVariables false
structure LoopRun (A B : Cell) (s1 s2 s3 s4 s5 : Tab) : Prop where
  e1 : askF (emptyT 2) 0 [A] = (0, s1)
  e2 : askF s1 1 [B] = (0, s2)
  e3 : askF s2 0 [B] = (0, s3)
  e4 : askF s3 1 [A] = (11, s3)
  k1 : waitsT s3 1 = []
  k2 : waitsT s3 0 = [B]
  d5 : doneF s3 1 [B] = (0, s4)
  k3 : cellsT s4 0 = [A, B]
  e6 : askF s4 1 [A] = (0, s5)
  k4 : waitsT s5 1 = [A]
theorem loop_run {x y : Int} (hx : -64 ≤ x ∧ x < 64) (hy : -64 ≤ y ∧ y < 64) : LoopRun (x, 1) (y, 2) ([[(x, 1)], []], []) ([[(x, 1)], [(y, 2)]], []) ([[(x, 1)], [(y, 2)]], [(0, [(y, 2)])]) ([[(x, 1), (y, 2)], []], []) ([[(x, 1), (y, 2)], []], [(1, [(x, 1)])]) := by
  have o1 : onC (x, 1) := ⟨hx, by omega, by omega⟩
  have o2 : onC (y, 2) := ⟨hy, by omega, by omega⟩
  have hAB : SortC [(x, 1), (y, 2)] := by
    refine List.pairwise_cons.2 ⟨fun c hc => ?_, List.pairwise_singleton _ _⟩
    have hc := List.mem_singleton.1 hc
    subst hc
    exact .inl (show (1 : Int) < 2 by decide)
  have f3 : cellsF [(x, 1), (y, 2)] = 0 := (cellsF_sorted _).2 ⟨by simp, fun c hc => by
    rcases List.mem_cons.1 hc with rfl | hc
    · exact o1
    · have hc := List.mem_singleton.1 hc
      subst hc; exact o2, hAB⟩
  have f1 : cellsF [(x, 1)] = 0 := cells_one f3 (by simp)
  have f2 : cellsF [(y, 2)] = 0 := cells_one f3 (by simp)
  have m1 := minus_none f1
  have m2 := minus_none f2
  have j1 := join_none f1
  have j2 := join_none f2
  have m3 : minusC [(y, 2)] [(x, 1)] = [(y, 2)] := by
    show (sortC _).filter _ = _
    rw [cellsF_sort f2]; simp
  have m4 : minusC [(x, 1)] [(y, 2)] = [(x, 1)] := by
    show (sortC _).filter _ = _
    rw [cellsF_sort f1]; simp
  have j3 : joinC [(x, 1)] [(y, 2)] = [(x, 1), (y, 2)] := cellsF_sort f3
  have j4 : joinC [(y, 2)] [(x, 1)] = [(x, 1), (y, 2)] := sort_unique _ _ (sorted_sortC _) hAB fun z => by
    rw [mem_join]
    simp only [List.mem_cons, List.not_mem_nil, or_false]
    exact or_comm
  have e1 : meets [(x, 1)] [(x, 1)] = true := meets_iff.2 ⟨(x, 1), by simp, by simp⟩
  have e2 : meets [(y, 2)] [(y, 2)] = true := meets_iff.2 ⟨(y, 2), by simp, by simp⟩
  have e3 : meets [(x, 1)] [(y, 2)] = false := by
    rw [Bool.eq_false_iff]; intro h
    obtain ⟨z, h1, h2⟩ := meets_iff.1 h
    simp at h1 h2
    rw [h1] at h2
    simp at h2
  have e4 : meets [(y, 2)] [(x, 1)] = false := by
    rw [Bool.eq_false_iff]; intro h
    rw [meets_comm, e3] at h; cases h
  have e5 : meets [(x, 1), (y, 2)] [(x, 1)] = true := meets_iff.2 ⟨(x, 1), by simp, by simp⟩
  have n1 := meets_none [(x, 1)]
  have n2 := meets_none [(y, 2)]
  have d1 := minus_self [(y, 2)]
  have g1 := within_self [(y, 2)]
  constructor
  all_goals simp [askF, doneF, serveF, cellsT, waitsT, emptyT, f1, f2, f3, m1, m2, m3, m4, j1, j2, j3, j4, e1, e2, e3, e4, e5, n1, n2, d1, g1, atF, blockF, hasF, waitF, ringF, nextF, List.replicate, List.findIdx?_cons]
theorem lit_own (w : World) (x y : Int) : (w.alloc (.cells #[.int .i64 x, .int .i64 y] 39)).ownsRow w.heap.size 39 2 (.slice (some ⟨w.heap.size, 0, none⟩) 1 1) 1 ([(x, y)].flatMap encC) :=
  ⟨rfl, .inr ⟨w.heap.size, 1, #[.int .i64 x, .int .i64 y], rfl, Nat.le_refl _, heap_alloc_new _ _, Nat.le_refl _, by decide, rfl, rfl⟩⟩
theorem step_equal {w0 w : World} {p n : Nat} {st : Tab} {X : List (Value × List Cell)} {A A' : Option Addr} {m m' c c' : Nat} {l l' : List Cell} (h : St w0 p n st X w) (h1 : SlC w w.heap.size (.slice A m c) l) (h2 : SlC w w.heap.size (.slice A' m' c') l') (hl : l.length ≤ 400) (hl' : l'.length ≤ 400) (he : l = l') :
    Calls Try.prog 21 #[.slice A m c, .slice A' m' c'] w fun e w' => e = .returned (.bool true) ∧ St w0 p n st X w' := by
  obtain ⟨B1, n1, c1, e1, q1, _, _, r1⟩ := h1
  obtain ⟨B2, n2, c2, e2, q2, _, _, r2⟩ := h2
  injection e1 with a1 a2 a3
  injection e2 with b1 b2 b3
  subst a1 a2 a3 b1 b2 b3
  refine (equal_cells w A A' m m' c c' w.heap.size l l' q1 q2 (by omega) (by omega) r1 r2).mono ?_
  rintro e w' ⟨rfl, q, rfl⟩
  rw [decide_eq_true he]
  have hb := below_drewN (Below.refl w.heap.size w) q
  exact ⟨rfl, h.1.below hb, h.2.1, h.2.2.trans (hb.mono h.2.2.size)⟩
set_option maxRecDepth 100000 in
set_option maxHeartbeats 2000000 in
theorem walk (x y : Int) (w : World) (w0 : wfI .i64 x) (w1 : wfI .i64 y) :
    Calls Try.prog 5 #[.int .i64 x, .int .i64 y] w fun e w' => e = .returned (.bool true) ∧ Below w.heap.size w w' := by
  have HN := Lib.hid (new_any w 2 (by decide) (by decide))
  have HB := Lib.hid (fun x (w : World) => below_any x 100 w (by decide) (by decide))
  have Hrun := Lib.hid (loop_run (x := x % 100 - 60) (y := y % 100 - 60) (by omega) (by omega))
  clear w0 w1
  go_enter Try.func5, Try.ntmps5
  go_wp2_with fail
  refine HN.out.mono ?_
  rintro e w3 ⟨rfl, hT3, hb3⟩
  have HT3 := Lib.hid hT3
  have Hb3 := Lib.hid hb3
  clear hT3 hb3 HN
  go_wp2_with fail
  refine (HB.out _ _).mono ?_
  rintro e w' ⟨rfl, rfl⟩
  go_wp2_with fail
  refine (HB.out _ _).mono ?_
  rintro e w' ⟨rfl, rfl⟩
  have hal : ∀ (w : World) X, Below w.heap.size w (w.alloc X) := fun w X => (Below.refl _ _).alloc (Nat.le_refl _) _
  have hTA := (HT3.out.add (hal w3 _) (lit_own w3 (x % 100 - 60) 1)).add (hal _ _) (lit_own (w3.alloc (.cells #[.int .i64 (x % 100 - 60), .int .i64 1] 39)) (y % 100 - 60) 2)
  have hS : St w (w.heap.size + 1) 2 (emptyT 2) [(.slice (some ⟨w3.heap.size + 1, 0, none⟩) 1 1, [(y % 100 - 60, 2)]), (.slice (some ⟨w3.heap.size, 0, none⟩) 1 1, [(x % 100 - 60, 1)])] ((w3.alloc (.cells #[.int .i64 (x % 100 - 60), .int .i64 1] 39)).alloc (.cells #[.int .i64 (y % 100 - 60), .int .i64 2] 39)) := ⟨by rw [World.size_alloc] at hTA; exact hTA, ⟨(emptyT_safe 2 (by decide)).1, (emptyT_safe 2 (by decide)).2, rfl⟩, (Hb3.out.alloc Hb3.out.size _).alloc (by have := Hb3.out.size; simp; omega) _⟩
  clear hTA hal HB
  have HA := Lib.hid (step_ask hS (hS.slx (v := .slice (some ⟨w3.heap.size, 0, none⟩) 1 1) (cs := [(x % 100 - 60, 1)]) (by simp)) (by simp) Hrun.out.e1)
  clear hS
  go_wp2_with fail
  refine HA.out.mono ?_
  rintro e w4 ⟨rfl, hS⟩
  have HA := Lib.hid (step_ask hS (hS.slx (v := .slice (some ⟨w3.heap.size + 1, 0, none⟩) 1 1) (cs := [(y % 100 - 60, 2)]) (by simp)) (by simp) Hrun.out.e2)
  clear hS
  go_wp2_with fail
  refine HA.out.mono ?_
  rintro e w5 ⟨rfl, hS⟩
  have HA := Lib.hid (step_ask hS (hS.slx (v := .slice (some ⟨w3.heap.size + 1, 0, none⟩) 1 1) (cs := [(y % 100 - 60, 2)]) (by simp)) (by simp) Hrun.out.e3)
  clear hS
  go_wp2_with fail
  refine HA.out.mono ?_
  rintro e w6 ⟨rfl, hS⟩
  have HA := Lib.hid (step_ask hS (hS.slx (v := .slice (some ⟨w3.heap.size, 0, none⟩) 1 1) (cs := [(x % 100 - 60, 1)]) (by simp)) (by simp) Hrun.out.e4)
  clear hS
  go_wp2_with fail
  refine HA.out.mono ?_
  rintro e w7 ⟨rfl, hS⟩
  have HA := Lib.hid (step_waits hS Hrun.out.k1)
  clear hS
  go_wp2_with fail
  refine HA.out.mono ?_
  rintro e w8 ⟨A8, c8, rfl, hS, _⟩
  have HA := Lib.hid (step_waits hS Hrun.out.k2)
  clear hS
  go_wp2_with fail
  refine HA.out.mono ?_
  rintro e w9 ⟨A9, c9, rfl, hS, hq⟩
  have HA := Lib.hid (step_equal hS hq (hS.slx (v := .slice (some ⟨w3.heap.size + 1, 0, none⟩) 1 1) (cs := [(y % 100 - 60, 2)]) (by simp)) (by simp) (by simp) rfl)
  clear hS hq
  go_wp2_with fail
  refine HA.out.mono ?_
  rintro e w10 ⟨rfl, hS⟩
  have HA := Lib.hid (step_check hS)
  clear hS
  go_wp2_with fail
  refine HA.out.mono ?_
  rintro e w11 ⟨rfl, hS⟩
  have HA := Lib.hid (step_done hS (hS.slx (v := .slice (some ⟨w3.heap.size + 1, 0, none⟩) 1 1) (cs := [(y % 100 - 60, 2)]) (by simp)) (by simp) Hrun.out.d5)
  clear hS
  go_wp2_with fail
  refine HA.out.mono ?_
  rintro e w12 ⟨rfl, hS⟩
  have HA := Lib.hid (step_cells hS Hrun.out.k3)
  clear hS
  go_wp2_with fail
  refine HA.out.mono ?_
  rintro e w13 ⟨A13, c13, rfl, hS, _⟩
  have HA := Lib.hid (step_ask hS (hS.slx (v := .slice (some ⟨w3.heap.size, 0, none⟩) 1 1) (cs := [(x % 100 - 60, 1)]) (by simp)) (by simp) Hrun.out.e6)
  clear hS
  go_wp2_with fail
  refine HA.out.mono ?_
  rintro e w14 ⟨rfl, hS⟩
  have HA := Lib.hid (step_waits hS Hrun.out.k4)
  clear hS
  go_wp2_with fail
  refine HA.out.mono ?_
  rintro e w15 ⟨A15, c15, rfl, hS, hq⟩
  have HA := Lib.hid (step_equal hS hq (hS.slx (v := .slice (some ⟨w3.heap.size, 0, none⟩) 1 1) (cs := [(x % 100 - 60, 1)]) (by simp)) (by simp) (by simp) rfl)
  clear hS hq
  go_wp2_with fail
  refine HA.out.mono ?_
  rintro e w16 ⟨rfl, hS⟩
  have HP := Lib.hid hS.2.2
  clear hS
  go_wp2_with fail
  go_ret
  exact ⟨rfl, HP.out⟩
end Go.Proofs.Ytambngbkegnghaa.leaseLoop
