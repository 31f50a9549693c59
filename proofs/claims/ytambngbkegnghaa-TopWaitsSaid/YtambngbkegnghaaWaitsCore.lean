/- Two rows of slices of cells and a list of rows of numbers, side by side in memory. Conditions: those typed. -/
import Derived.Test.YtambngbkegnghaaWaitsPlain
namespace Go.Proofs.Ytambngbkegnghaa
open Go.RowKit Go.Gy
set_option linter.unusedVariables false
/-- all blocks of wi but G are as they were -/
def Off (wi w : World) (G : Nat) : Prop := wi.heap.size ≤ w.heap.size ∧ ∀ b, b < wi.heap.size → b ≠ G → w.heap[b]? = wi.heap[b]?
theorem SlC.offG {wi w : World} {G : Nat} {v : Value} {r : List Cell} (h : SlC wi wi.heap.size v r) (ho : Off wi w G) (hn : 0 < r.length → v.ownBlock ≠ some G) : SlC w w.heap.size v r := by
  obtain ⟨A, n, c, rfl, h1, h2, h3, h4⟩ := h
  refine ⟨A, n, c, rfl, h1, h2, h3, h4.1, fun h0 => ?_⟩
  obtain ⟨b, o, rfl, hb, hc⟩ := h4.2 h0
  have hz := ho.1
  exact ⟨b, o, rfl, by omega, fun j u hu => (World.cell?_of_block (a := ⟨b, o + j, none⟩) (ho.2 b hb (fun e => hn (by omega) (by rw [← e]; rfl)))).trans (hc j u hu)⟩
theorem SlI.offG {wi w : World} {G : Nat} {v : Value} {r : List Int} (h : SlI wi wi.heap.size v r) (ho : Off wi w G) (hn : v.ownBlock ≠ some G) : SlI w w.heap.size v r := by
  obtain ⟨A, n, c, rfl, h1, h2, h3, h4⟩ := h
  refine ⟨A, n, c, rfl, h1, h2, h3, h4.1, fun h0 => ?_⟩
  obtain ⟨b, o, rfl, hb, hc⟩ := h4.2 h0
  have hz := ho.1
  exact ⟨b, o, rfl, by omega, fun j u hu => (World.cell?_of_block (a := ⟨b, o + j, none⟩) (ho.2 b hb (fun e => hn (by rw [← e]; rfl)))).trans (hc j u hu)⟩
theorem SlI.off {w w' : World} {v : Value} {r : List Int} {row : Option Nat} (h : SlI w w.heap.size v r) (hg : w.grownBy w' row) (hn : ∀ g, v.ownBlock = some g → row ≠ some g) : SlI w' w'.heap.size v r := by
  obtain ⟨A, n, c, rfl, h1, h2, h3, h4⟩ := h
  refine ⟨A, n, c, rfl, h1, h2, h3, h4.1, fun h0 => ?_⟩
  obtain ⟨b, o, rfl, hb, hc⟩ := h4.2 h0
  have hz := hg.size
  exact ⟨b, o, rfl, by omega, fun j u hu => (World.cell?_of_block (a := ⟨b, o + j, none⟩) (hg.block b hb (fun e => hn b rfl e.symm))).trans (hc j u hu)⟩
theorem own_offG {wi w : World} {G base e size n : Nat} {v : Value} {xs : List Value} (h : wi.ownsRow base e size v n xs) (ho : Off wi w G) (hn : v.ownBlock ≠ some G) : w.ownsRow base e size v n xs := by
  obtain ⟨h1, ⟨rfl, h2⟩ | ⟨g, cap, cur, rfl, h2, h3, h4⟩⟩ := h
  · exact ⟨h1, .inl ⟨rfl, h2⟩⟩
  · have hlt : g < wi.heap.size := (Array.getElem?_eq_some_iff.1 h3).1
    exact ⟨h1, .inr ⟨g, cap, cur, rfl, h2, (ho.2 g hlt (fun e => hn (by rw [← e]; rfl))).trans h3, h4⟩⟩
structure Core (wt : World) (G : Nat) (wr : World) (v : Value) (E : List ElC) (u : Value) (F : List ElC) (vs : List Value) (rows : Nat → List Int) : Prop where
  two : Two wt wr v E u F
  blk : Blk wr G 22 vs.toArray
  row : ∀ (j : Nat) a, vs[j]? = some a → SlI wr wr.heap.size a (rows j) ∧ ∀ g, a.ownBlock = some g → g < wr.heap.size ∧ g ≠ G ∧ v.ownBlock ≠ some g ∧ u.ownBlock ≠ some g
  vG : v.ownBlock ≠ some G
  uG : u.ownBlock ≠ some G
  elG : ∀ x : ElC, (x ∈ E ∨ x ∈ F) → 0 < x.2.length → x.1.ownBlock ≠ some G
  hG : wt.heap.size ≤ G
theorem Core.swap {wt wr : World} {G : Nat} {v u : Value} {E F : List ElC} {vs : List Value} {rows : Nat → List Int} (h : Core wt G wr v E u F vs rows) : Core wt G wr u F v E vs rows :=
  ⟨h.two.swap, h.blk, fun j a ha => ⟨(h.row j a ha).1, fun g hg => ⟨((h.row j a ha).2 g hg).1, ((h.row j a ha).2 g hg).2.1, ((h.row j a ha).2 g hg).2.2.2, ((h.row j a ha).2 g hg).2.2.1⟩⟩, h.uG, h.vG, fun x hx => h.elG x hx.symm, h.hG⟩
theorem Core.below {wt wr w' : World} {G : Nat} {v u : Value} {E F : List ElC} {vs : List Value} {rows : Nat → List Int} (h : Core wt G wr v E u F vs rows) (hb : Below wr.heap.size wr w') : Core wt G w' v E u F vs rows :=
  ⟨h.two.below hb, h.blk.below hb h.blk.lt, fun j a ha => ⟨((h.row j a ha).1.below hb).more hb.size, fun g hg => ⟨Nat.lt_of_lt_of_le ((h.row j a ha).2 g hg).1 hb.size, ((h.row j a ha).2 g hg).2⟩⟩, h.vG, h.uG, h.elG, h.hG⟩
/-- one more slice of cells onto the first row -/
theorem Core.push {wt w w' : World} {G : Nat} {v u v' : Value} {E F : List ElC} {x : ElC} {vs : List Value} {rows : Nat → List Int} (h : Core wt G w v E u F vs rows) (hx : SlC w w.heap.size x.1 x.2) (hxa : 0 < x.2.length → ∀ g, x.1.ownBlock = some g → v.ownBlock ≠ some g ∧ u.ownBlock ≠ some g)
    (hxG : 0 < x.2.length → x.1.ownBlock ≠ some G) (hg : w.grownBy w' v.ownBlock) (hn : Near w v v') (ho : w'.ownsRow wt.heap.size 24 1 v' (E.length + 1) (E.map Prod.fst ++ [x.1])) : Core wt G w' v' (E ++ [x]) u F vs rows := by
  have hlt := h.blk.lt
  refine ⟨h.two.push hx hxa hg hn ho, (hg.block G hlt (fun e => h.vG e.symm)).trans h.blk, fun j a ha => ?_, fun e => ?_, h.uG, fun y hy h0 => ?_, h.hG⟩
  · obtain ⟨h1, h2⟩ := h.row j a ha
    refine ⟨h1.off hg (fun g hga => (h2 g hga).2.2.1), fun g hga => ⟨Nat.lt_of_lt_of_le (h2 g hga).1 hg.size, (h2 g hga).2.1, fun e => ?_, (h2 g hga).2.2.2⟩⟩
    rcases hn g e with h5 | h5
    · exact (h2 g hga).2.2.1 h5
    · have := (h2 g hga).1; omega
  · rcases hn G e with h5 | h5
    · exact h.vG h5
    · omega
  · rcases hy with hy | hy
    · rcases List.mem_append.1 hy with hy | hy
      · exact h.elG y (.inl hy) h0
      · have hy := List.mem_singleton.1 hy
        subst hy
        exact hxG h0
    · exact h.elG y (.inr hy) h0
/-- one of the rows of numbers anew -/
theorem Core.turn {wt w w' : World} {G i : Nat} {v u a' : Value} {E F : List ElC} {vs : List Value} {rows rows' : Nat → List Int} (h : Core wt G w v E u F vs rows) (ho : Off w w' G) (hb : Below wt.heap.size wt w') (hblk : Blk w' G 22 (vs.set i a').toArray)
    (ha : SlI w' w'.heap.size a' (rows' i)) (han : ∀ g, a'.ownBlock = some g → w.heap.size ≤ g ∧ g < w'.heap.size) (hr : ∀ j, j ≠ i → rows' j = rows j) : Core wt G w' v E u F (vs.set i a') rows' := by
  have hG := h.blk.lt
  have hz := ho.1
  refine ⟨⟨own_offG h.two.1 ho h.vG, own_offG h.two.2.1 ho h.uG, h.two.2.2.1, fun x hx => ⟨(h.two.2.2.2.1 x hx).1.offG ho (h.elG x hx), (h.two.2.2.2.1 x hx).2⟩, hb⟩, hblk, fun j a hj => ?_, h.vG, h.uG, h.elG, h.hG⟩
  rw [List.getElem?_set] at hj
  split at hj
  · rename_i hij
    subst hij
    split at hj
    · injection hj with hj
      subst hj
      refine ⟨ha, fun g hg => ⟨(han g hg).2, by have := (han g hg).1; omega, fun e => ?_, fun e => ?_⟩⟩
      · have := (han g hg).1; have := (h.two.1.lt g e).2; omega
      · have := (han g hg).1; have := (h.two.2.1.lt g e).2; omega
    · cases hj
  · rename_i hij
    obtain ⟨h1, h2⟩ := h.row j a hj
    rw [hr j (fun e => hij e.symm)]
    refine ⟨h1.offG ho (fun e => ((h2 G e).2.1 rfl)), fun g hg => ⟨Nat.lt_of_lt_of_le (h2 g hg).1 hz, (h2 g hg).2⟩⟩
theorem Core.rowsI {wt w : World} {G : Nat} {v u : Value} {E F : List ElC} {vs : List Value} {rows : Nat → List Int} (h : Core wt G w v E u F vs rows) : RowsI w w.heap.size (.slice (some ⟨G, 0, none⟩) vs.length vs.length) ((List.range vs.length).map rows) := by
  refine ⟨_, vs.length, vs.length, vs, rfl, by simp, Nat.le_refl _, (fun e => by cases e), ⟨by simp, fun h0 => ⟨G, 0, rfl, h.blk.lt, fun j u hu => ?_⟩⟩, by simp, fun j a r hj hr => ?_⟩
  · rw [Nat.zero_add]
    exact h.blk.cell j u (by simpa using hu)
  · have hjl := (List.getElem?_eq_some_iff.1 hj).1
    rw [List.getElem?_map, List.getElem?_range hjl] at hr
    injection hr with hr
    subst hr
    exact (h.row j a hj).1
end Go.Proofs.Ytambngbkegnghaa
