/- What LeaseFirst and LeaseLoop do with a table, as plain data. Conditions: those typed. -/
import Derived.Test.YtambngbkegnghaaTabMake
namespace Go.Proofs.Ytambngbkegnghaa
open Go.RowKit Go.Gy
set_option linter.unusedVariables false
structure Toy (cs : List Cell) (c : Cell) : Prop where
  ok : cellsF cs = 0
  ok1 : cellsF [c] = 0
  ne : cs ≠ []
  s : minusC cs [] = cs
  s1 : minusC [c] [] = [c]
  j : joinC [] cs = cs
  j1 : joinC [] [c] = [c]
  m1 : meets cs [c] = true
  m2 : meets [c] [c] = true
  m0 : meets [] [c] = false
  m3 : meets [] cs = false
  d : minusC cs cs = []
  d1 : minusC [c] [c] = []
  w : withinC cs cs = true
  w1 : withinC [c] [c] = true
theorem minus_none {cs : List Cell} (h : cellsF cs = 0) : minusC cs [] = cs := by
  show (sortC cs).filter _ = cs
  rw [cellsF_sort h, List.filter_eq_self]
  intro x hx; simp
theorem join_none {cs : List Cell} (h : cellsF cs = 0) : joinC [] cs = cs := by
  show sortC ([] ++ cs) = cs
  rw [List.nil_append, cellsF_sort h]
theorem meets_none (cs : List Cell) : meets [] cs = false := by
  rw [Bool.eq_false_iff]
  intro h
  obtain ⟨x, h1, _⟩ := meets_iff.1 h
  simp at h1
theorem cells_one {cs : List Cell} {c : Cell} (h : cellsF cs = 0) (hc : c ∈ cs) : cellsF [c] = 0 :=
  cellsF_less h (List.pairwise_singleton _ _) (by intro x hx; simp at hx; subst hx; exact hc)
theorem Toy.mk' {cs : List Cell} {c : Cell} (h : cellsF cs = 0) (hc : c ∈ cs) : Toy cs c := by
  have h1 := cells_one h hc
  exact ⟨h, h1, fun e => by rw [e] at hc; simp at hc, minus_none h, minus_none h1, join_none h, join_none h1, meets_iff.2 ⟨c, hc, by simp⟩, meets_iff.2 ⟨c, by simp, by simp⟩, meets_none _, meets_none _, minus_self _, minus_self _, within_self _, within_self _⟩
structure FirstRun (a b c : Int) (cs : List Cell) (c0 : Cell) (s1 s2 s3 s4 s5 : Tab) : Prop where
  e1 : askF (emptyT 3) a cs = (0, s1)
  e2 : askF s1 b [c0] = (0, s2)
  e3 : askF s2 c [c0] = (0, s3)
  e4 : askF s3 c [c0] = (0, s3)
  k1 : cellsT s3 b = []
  k2 : cellsT s3 c = []
  d4 : doneF s3 a cs = (0, s4)
  k3 : cellsT s4 b = [c0]
  k4 : waitsT s4 c = [c0]
  d5 : doneF s4 b [c0] = (0, s5)
  k5 : cellsT s5 c = [c0]
  k6 : waitsT s5 c = []
theorem first_run0 {cs : List Cell} {c : Cell} (h : Toy cs c) : FirstRun 0 1 2 cs c ([cs, [], []], []) ([cs, [], []], [(1, [c])]) ([cs, [], []], [(1, [c]), (2, [c])]) ([[], [c], []], [(2, [c])]) ([[], [], [c]], []) := by
  constructor
  all_goals simp [askF, doneF, serveF, cellsT, waitsT, emptyT, h.ok, h.ok1, h.s, h.s1, h.ne, h.j, h.j1, atF, blockF, hasF, waitF, ringF, nextF, h.m0, h.m1, h.m2, h.m3, h.d, h.d1, h.w, h.w1, List.replicate, List.findIdx?_cons]
theorem first_run1 {cs : List Cell} {c : Cell} (h : Toy cs c) : FirstRun 1 2 0 cs c ([[], cs, []], []) ([[], cs, []], [(2, [c])]) ([[], cs, []], [(2, [c]), (0, [c])]) ([[], [], [c]], [(0, [c])]) ([[c], [], []], []) := by
  constructor
  all_goals simp [askF, doneF, serveF, cellsT, waitsT, emptyT, h.ok, h.ok1, h.s, h.s1, h.ne, h.j, h.j1, atF, blockF, hasF, waitF, ringF, nextF, h.m0, h.m1, h.m2, h.m3, h.d, h.d1, h.w, h.w1, List.replicate, List.findIdx?_cons]
theorem first_run2 {cs : List Cell} {c : Cell} (h : Toy cs c) : FirstRun 2 0 1 cs c ([[], [], cs], []) ([[], [], cs], [(0, [c])]) ([[], [], cs], [(0, [c]), (1, [c])]) ([[c], [], []], [(1, [c])]) ([[], [c], []], []) := by
  constructor
  all_goals simp [askF, doneF, serveF, cellsT, waitsT, emptyT, h.ok, h.ok1, h.s, h.s1, h.ne, h.j, h.j1, atF, blockF, hasF, waitF, ringF, nextF, h.m0, h.m1, h.m2, h.m3, h.d, h.d1, h.w, h.w1, List.replicate, List.findIdx?_cons]
theorem first_run {cs : List Cell} {c0 : Cell} (h : Toy cs c0) (a : Int) (h0 : 0 ≤ a) (h3 : a < 3) : ∃ s1 s2 s3 s4 s5, FirstRun a ((a + 1).tmod 3) ((a + 2).tmod 3) cs c0 s1 s2 s3 s4 s5 := by
  obtain rfl | rfl | rfl : a = 0 ∨ a = 1 ∨ a = 2 := by omega
  · exact ⟨_, _, _, _, _, first_run0 h⟩
  · exact ⟨_, _, _, _, _, first_run1 h⟩
  · exact ⟨_, _, _, _, _, first_run2 h⟩
end Go.Proofs.Ytambngbkegnghaa
