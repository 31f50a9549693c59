/- gantmake.at, gantmake.poly, gantmake.Poly. Conditions: those typed. -/
import Derived.Test.YtnnbnecpcppkdaaDoorVec
import Derived.Test.YtnnbnecpcppkdaaDoorPoly
namespace Go.Proofs.YtnnbnecpcppkdaaDoor
open Go.RowKit Go.Gy
set_option linter.unusedVariables false
/-- a point with coordinates in quarters -/
def PtIs (p : P2) (x y : Int) : Prop := p.x.q = mkRat x 4 ∧ p.y.q = mkRat y 4 ∧ p.can ∧ p.le 1
theorem quarter_qz (x : Int) (hx : -250 ≤ x ∧ x ≤ 250) : qz (mkRat x 4) ≤ 1 := by
  refine Nat.le_trans (qz_mk _ _) ?_
  have h1 := (natL_len_le x.natAbs 1).mpr (by omega)
  have h2 := (natL_len_le 4 1).mpr (by omega)
  omega
set_option maxRecDepth 100000 in
set_option maxHeartbeats 4000000 in
theorem atR (x y : Int) (hx : -250 ≤ x ∧ x ≤ 250) (hy : -250 ≤ y ∧ y ≤ 250) :
    ∃ p : P2, PtIs p x y ∧ Hid (∀ W, Calls Tryd.prog 97 #[.int .i64 x, .int .i64 y] W fun e w' => e = .returned (.agg #[.bool p.x.neg, .string p.x.num, .string p.x.den, .bool p.y.neg, .string p.y.num, .string p.y.den]) ∧ Below W.heap.size W w') := by
  obtain ⟨px, q1, c1, l1⟩ := tri (mkRat x 4) 1 (quarter_qz x hx)
  obtain ⟨py, q2, c2, l2⟩ := tri (mkRat y 4) 1 (quarter_qz y hy)
  refine ⟨⟨px, py⟩, ⟨q1, q2, ⟨c1, c2⟩, l1, l2⟩, Lib.hid fun W0 => ?_⟩
  have OX := Lib.hid (fun W (hW : Below W0.heap.size W0 W) => makeOf_any W x 4 (by decide) (by decide) (by omega))
  have OY := Lib.hid (fun W (hW : Below W0.heap.size W0 W) => makeOf_any W y 4 (by decide) (by decide) (by omega))
  rw [← q1, c1.qv] at OX
  rw [← q2, c2.qv] at OY
  have hI := (In.start W0).alloc 30 #[.bool false, .string { data := #[] }, .string { data := #[] }, .bool false, .string { data := #[] }, .string { data := #[] }]
  clear q1 c1 q2 c2
  go_enter Tryd.func97, Tryd.ntmps97
  go_upto_region 1 with (fail)
  generalize World.alloc _ _ = W1 at hI ⊢
  go_wp2_with fail
  refine (OX.out _ hI.bel).mono ?_
  rintro e wn ⟨rfl, hb⟩
  replace hI := hI.call hb
  clear hb
  go_wp2_with fail
  refine (OY.out _ hI.bel).mono ?_
  rintro e wn ⟨rfl, hb⟩
  replace hI := hI.call hb
  clear hb
  have hS0 := hI.take (a := [_])
  have HK := Lib.hid ((hI.all6 (a := []) (.bool px.neg) (.string px.num) (.string px.den) (.bool py.neg) (.string py.num) (.string py.den)))
  have hfx := hS0.facts
  simp only [factsOf, cellsOf, Nat.zero_add, Nat.reduceAdd] at hfx
  have hfz := fun i => hS0.free (k := 0) (i := i) rfl
  clear hS0 hI
  go_wp2_with fail
  clear hfx hfz
  have hK := HK.out
  clear HK
  generalize World.setCell _ _ _ = W9 at hK ⊢
  refine bodyPost_ret (results_cell_row Tryd.results97 _ _ (W0.heap.size ) 30 _ (0, 0) _ rfl (hK.blkAt (k := 0) rfl) Tryd.underlying30 rfl (by kernel_rfl)) rfl ?_
  exact ⟨rfl, hK.bel⟩
/-- from w on: the stream at b has been read from, and new memory was made -/
structure Str (w : World) (B b : Nat) (W : World) : Prop where
  st : StrAt W B b
  gr : w.grownBy W (some b)
theorem Str.start {w : World} {B b : Nat} (h : StrAt w B b) : Str w B b w := ⟨h, rfl, rfl, rfl, Nat.le_refl _, fun _ _ _ => rfl⟩
theorem Str.next {w W W' : World} {B b : Nat} (h : Str w B b W) (hs : StrAt W' B b) (hg : W.grownBy W' (some b)) : Str w B b W' := by
  obtain ⟨h0, a1, a2, a3, a4, a5⟩ := h
  obtain ⟨b1, b2, b3, b4, b5⟩ := hg
  exact ⟨hs, b1.trans a1, b2.trans a2, b3.trans a3, Nat.le_trans a4 b4, fun k hk hne => (b5 k (Nat.lt_of_lt_of_le hk a4) hne).trans (a5 k hk hne)⟩
theorem StrAt.lt {w : World} {B b : Nat} (h : StrAt w B b) : b < w.heap.size := by
  obtain ⟨v, l, h1, _⟩ := h
  exact h1.lt
theorem Str.call {w W W' : World} {B b : Nat} (h : Str w B b W) (hB : B ≤ b) (hb : Below W.heap.size W W') : Str w B b W' := by
  have hlt := h.st.lt
  have hs := h.st.below hb (by omega)
  obtain ⟨h0, a1, a2, a3, a4, a5⟩ := h
  exact ⟨hs, hb.os.trans a1, hb.tape.trans a2, hb.output.trans a3, Nat.le_trans a4 hb.size, fun k hk hne => (hb.block k (Nat.lt_of_lt_of_le hk a4)).trans (a5 k hk hne)⟩
def PtsOf : List P2 → List (Int × Int) → Prop
  | [], [] => True
  | p :: l, z :: zs => PtIs p z.1 z.2 ∧ PtsOf l zs
  | _, _ => False
/-- the corners that gantmake.poly makes, in quarters -/
def PolyZ (zs : List (Int × Int)) : Prop := ∃ a b s : Int, (1 ≤ a ∧ a ≤ 6) ∧ (1 ≤ b ∧ b ≤ 6) ∧ (0 ≤ s ∧ s ≤ 2 * a) ∧
  (zs = [(-a, -b), (a, -b), (a, b), (-a, b)] ∨ zs = [(-a, -b), (a, -b), (s - a, b)] ∨ zs = [(-a - 1, -b - 1), (a, -b - 1), (a + 1, -b), (a + 1, b), (-a - 1, b)] ∨ zs = [(-a, 0), (0, -b), (a, 0), (0, b)])
def PolyIs (l : List P2) : Prop := ∃ zs, PolyZ zs ∧ PtsOf l zs
def PolyPost (w : World) (B b : Nat) (e : Ending) (w' : World) : Prop := ∃ (v : Value) (l : List P2), e = .returned v ∧ PolyIs l ∧ SlP w' w'.heap.size v l ∧ Str w B b w'
theorem SlP.lit (W : World) (l : List P2) : SlP (W.alloc (.cells (l.flatMap encP).toArray 30)) (W.alloc (.cells (l.flatMap encP).toArray 30)).heap.size (.slice (some ⟨W.heap.size, 0, none⟩) l.length l.length) l :=
  ⟨_, _, _, rfl, rfl, Nat.le_refl _, (fun h => by cases h), by rw [World.size_alloc]; exact Rd.lit W _ _ 6 _ (flat_length encP_length l)⟩
end Go.Proofs.YtnnbnecpcppkdaaDoor
