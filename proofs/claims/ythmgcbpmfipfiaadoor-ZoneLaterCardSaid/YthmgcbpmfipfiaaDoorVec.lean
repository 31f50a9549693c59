/- gantmake.Vec. Conditions: those typed. -/
import Derived.Test.YthmgcbpmfipfiaaDoorMake
import Derived.Test.YthmgcbpmfipfiaaDoorMakeQ
import Derived.Test.YthmgcbpmfipfiaaDoorSeqIn
namespace Go.Proofs.YthmgcbpmfipfiaaDoor
open Go.RowKit Go.Gy
set_option linter.unusedVariables false
/-- a block apart from those known has changed -/
theorem In.next {w W W' : World} {l : List (Nat × TypeId × Array Value)} {b : Nat} (h : In w l W) (hg : W.grownBy W' (some b)) (hb : w.heap.size ≤ b) (hn : ∀ x ∈ l, x.1 ≠ b) : In w l W' := by
  obtain ⟨g1, g2, g3, g4, g5⟩ := hg
  have keep : ∀ k, k < W.heap.size → k ≠ b → W'.heap[k]? = W.heap[k]? := fun k hk hne => g5 k hk (fun e => hne (Option.some.inj e))
  exact ⟨h.bel.trans ⟨g1, g2, g3, g4, fun k hk => keep k (Nat.lt_of_lt_of_le hk h.bel.size) (by omega)⟩, fun x hx => (keep x.1 (h.blk x hx).lt (hn x hx)).trans (h.blk x hx), h.new, h.apart⟩
theorem StrAt.below {w w' : World} {B b : Nat} (h : StrAt w B b) (hb : Below w.heap.size w w') (hB : B ≤ w.heap.size) : StrAt w' B b := by
  obtain ⟨v, l, h1, h2, h3⟩ := h
  exact ⟨v, l, h1.below hb h1.lt, h2.below (hb.mono hB), h3⟩
def VecPost (w : World) (e : Ending) (w' : World) : Prop := ∃ p q : Q3, e = .returned (.agg #[.bool p.neg, .string p.num, .string p.den, .bool q.neg, .string q.num, .string q.den]) ∧ p.can ∧ q.can ∧ p.le 1 ∧ q.le 1 ∧ Below w.heap.size w w'
set_option maxRecDepth 100000 in
set_option maxHeartbeats 4000000 in
theorem vec_any (w : World) (v : Value) (l : List Int) (hv : SlI w w.heap.size v l) (hl : l.length ≤ 140737488355328) :
    Calls Tryd.prog 43 #[v] w (VecPost w) := by
  obtain ⟨A, m, c, rfl, hvr⟩ := id hv
  clear hvr
  have hJ := ((In.start w).alloc 58 #[.bool false, .string { data := #[] }, .string { data := #[] }, .bool false, .string { data := #[] }, .string { data := #[] }]).alloc 119 #[.slice A m c]
  rw [World.size_alloc] at hJ
  have hst : StrAt ((w.alloc (.cells #[.bool false, .string { data := #[] }, .string { data := #[] }, .bool false, .string { data := #[] }, .string { data := #[] }] 58)).alloc (.cells #[.slice A m c] 119)) w.heap.size (w.heap.size + 1) := ⟨_, l, hJ.blkAt (k := 0) rfl, hv.below hJ.bel, hl⟩
  have hI := hJ.tail
  have Hst := Lib.hid hst
  have hne : w.heap.size ≠ w.heap.size + 1 := by omega
  clear hv hl hst hJ
  go_enter Tryd.func43, Tryd.ntmps43
  go_wp2_with fail
  generalize World.alloc _ _ = W1 at hI Hst ⊢
  go_wp2_with fail
  refine (next_any _ w.heap.size (w.heap.size + 1) 1048576 Hst.out (by omega) (by decide) (by decide)).mono ?_
  rintro e wn ⟨r, rfl, hr0, hr1, hst2, hg, _⟩
  replace hI := hI.next hg (by omega) (fun x hx => by rcases List.mem_cons.1 hx with rfl | hx; exact hne; cases hx)
  replace Hst := Lib.hid hst2
  clear hst2 hg
  obtain ⟨p, _, cp, lp, Mp⟩ := ratMR wn r (by omega)
  go_wp2_with fail
  refine (Mp.out _).mono ?_
  rintro e wn ⟨rfl, hb⟩
  have hbs := hI.bel.size
  replace hI := hI.call hb
  replace Hst := Lib.hid (Hst.out.below hb hbs)
  clear hbs
  clear hb Mp hr0 hr1
  go_wp2_with fail
  refine (next_any _ w.heap.size (w.heap.size + 1) 1048576 Hst.out (by omega) (by decide) (by decide)).mono ?_
  rintro e wn ⟨r2, rfl, hr0, hr1, hst2, hg, _⟩
  replace hI := hI.next hg (by omega) (fun x hx => by rcases List.mem_cons.1 hx with rfl | hx; exact hne; cases hx)
  replace Hst := Lib.hid hst2
  clear hst2 hg
  obtain ⟨q, _, cq, lq, Mp⟩ := ratMR wn r2 (by omega)
  go_wp2_with fail
  refine (Mp.out _).mono ?_
  rintro e wn ⟨rfl, hb⟩
  have hbs := hI.bel.size
  replace hI := hI.call hb
  replace Hst := Lib.hid (Hst.out.below hb hbs)
  clear hbs
  clear hb Mp hr0 hr1
  have hS := hI
  clear hI
  have hS0 : In w ([(w.heap.size, 58, #[.bool false, .string { data := #[] }, .string { data := #[] }, .bool false, .string { data := #[] }, .string { data := #[] }])] ++ []) wn := hS
  have HK := Lib.hid (hS0.all6 (a := []) (.bool p.neg) (.string p.num) (.string p.den) (.bool q.neg) (.string q.num) (.string q.den))
  have hfx := hS.facts
  simp only [factsOf, cellsOf, Nat.zero_add, Nat.reduceAdd] at hfx
  have hfz := fun i => hS.free (k := 0) (i := i) rfl
  clear hS0 hS
  go_wp2_with fail
  clear hfx hfz
  have hK := HK.out
  clear HK
  generalize World.setCell _ _ _ = W9 at hK ⊢
  refine bodyPost_ret (results_cell_row Tryd.results43 _ _ w.heap.size 58 _ (0, 0) _ rfl (hK.blkAt (k := 0) rfl) Tryd.underlying58 rfl (by kernel_rfl)) rfl ?_
  exact ⟨p, q, rfl, cp, cq, lp, lq, hK.bel⟩
end Go.Proofs.YthmgcbpmfipfiaaDoor
