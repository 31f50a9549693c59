/- Two rows of slices of cells that grow side by side; what ring.Safe's greedy order is. Conditions: those typed. -/
import Derived.Test.YtambngbkegnghaaSafe
import Derived.Test.YtambngbkegnghaaTabMake
namespace Go.Proofs.Ytambngbkegnghaa
open Go.RowKit Go.Gy
set_option linter.unusedVariables false
abbrev ElC := Value × List Cell
def Two (w0 w : World) (v : Value) (E : List ElC) (u : Value) (F : List ElC) : Prop :=
  w.ownsRow w0.heap.size 24 1 v E.length (E.map Prod.fst) ∧ w.ownsRow w0.heap.size 24 1 u F.length (F.map Prod.fst) ∧ ApartV v u ∧
    (∀ x : ElC, (x ∈ E ∨ x ∈ F) → SlC w w.heap.size x.1 x.2 ∧ (0 < x.2.length → ∀ g, x.1.ownBlock = some g → v.ownBlock ≠ some g ∧ u.ownBlock ≠ some g)) ∧ Below w0.heap.size w0 w
theorem Two.swap {w0 w : World} {v u : Value} {E F : List ElC} (h : Two w0 w v E u F) : Two w0 w u F v E :=
  ⟨h.2.1, h.1, h.2.2.1.symm, fun x hx => ⟨(h.2.2.2.1 x hx.symm).1, fun h0 g hg => ((h.2.2.2.1 x hx.symm).2 h0 g hg).symm⟩, h.2.2.2.2⟩
theorem Two.start {w0 w : World} (h : Below w0.heap.size w0 w) : Two w0 w (.slice none 0 0) [] (.slice none 0 0) [] :=
  ⟨World.ownsRow_nil _ _ _ _, World.ownsRow_nil _ _ _ _, (fun g hg => by cases hg), (fun x hx => by rcases hx with hx | hx <;> simp at hx), h⟩
theorem Two.below {w0 w w' : World} {v u : Value} {E F : List ElC} (h : Two w0 w v E u F) (hb : Below w.heap.size w w') : Two w0 w' v E u F :=
  ⟨own_below h.1 hb (Nat.le_refl _), own_below h.2.1 hb (Nat.le_refl _), h.2.2.1, fun x hx => ⟨((h.2.2.2.1 x hx).1.below hb).more hb.size, (h.2.2.2.1 x hx).2⟩, h.2.2.2.2.trans (hb.mono h.2.2.2.2.size)⟩
theorem SlC.off {w w' : World} {v : Value} {r : List Cell} {row : Option Nat} (h : SlC w w.heap.size v r) (hg : w.grownBy w' row) (hn : 0 < r.length → ∀ g, v.ownBlock = some g → row ≠ some g) : SlC w' w'.heap.size v r := by
  obtain ⟨A, n, c, rfl, h1, h2, h3, h4⟩ := h
  refine ⟨A, n, c, rfl, h1, h2, h3, h4.1, fun h0 => ?_⟩
  obtain ⟨b, o, rfl, hb, hc⟩ := h4.2 h0
  have hz := hg.size
  exact ⟨b, o, rfl, by omega, fun j u hu => (World.cell?_of_block (a := ⟨b, o + j, none⟩) (hg.block b hb (fun e => hn (by omega) b rfl e.symm))).trans (hc j u hu)⟩
theorem SlC.blk {w : World} {v : Value} {r : List Cell} (h : SlC w w.heap.size v r) (h0 : 0 < r.length) : ∀ g, v.ownBlock = some g → g < w.heap.size := by
  obtain ⟨A, n, c, rfl, h1, h2, h3, h4⟩ := h
  intro g hg
  obtain ⟨b, o, rfl, hb, _⟩ := h4.2 (by omega)
  have : b = g := by simpa [Value.ownBlock] using hg
  omega
/-- one more slice onto the first row -/
theorem Two.push {w0 w w' : World} {v u v' : Value} {E F : List ElC} {x : ElC} (h : Two w0 w v E u F) (hx : SlC w w.heap.size x.1 x.2) (hxa : 0 < x.2.length → ∀ g, x.1.ownBlock = some g → v.ownBlock ≠ some g ∧ u.ownBlock ≠ some g)
    (hg : w.grownBy w' v.ownBlock) (hn : Near w v v') (ho : w'.ownsRow w0.heap.size 24 1 v' (E.length + 1) (E.map Prod.fst ++ [x.1])) : Two w0 w' v' (E ++ [x]) u F := by
  have hub : ∀ g, u.ownBlock = some g → g < w.heap.size := fun g hg => (h.2.1.lt g hg).2
  refine ⟨by rw [List.length_append, List.map_append]; exact ho, h.2.1.kept hg ?_, (h.2.2.1.symm.near hub hn).symm, fun y hy => ?_, h.2.2.2.2.grown hg h.2.2.2.2.size (fun g hg => (h.1.lt g hg).1)⟩
  · cases hu : u.ownBlock with
    | none => exact .inl rfl
    | some g => exact .inr (fun e => h.2.2.1.symm g hu e.symm)
  · have key : SlC w w.heap.size y.1 y.2 ∧ (0 < y.2.length → ∀ g, y.1.ownBlock = some g → v.ownBlock ≠ some g ∧ u.ownBlock ≠ some g) := by
      rcases hy with hy | hy
      · rcases List.mem_append.1 hy with hy | hy
        · exact h.2.2.2.1 y (.inl hy)
        · have hy := List.mem_singleton.1 hy
          subst hy
          exact ⟨hx, hxa⟩
      · exact h.2.2.2.1 y (.inr hy)
    refine ⟨key.1.off hg (fun h0 g hg => (key.2 h0 g hg).1), fun h0 g hg => ⟨fun hv => ?_, (key.2 h0 g hg).2⟩⟩
    rcases hn g hv with h5 | h5
    · exact (key.2 h0 g hg).1 h5
    · have := key.1.blk h0 g hg; omega
/-- a row that a call has made is apart from both -/
theorem Two.fresh {w0 w w' : World} {v u x : Value} {E F : List ElC} {r : List Cell} {n : Nat} (h : Two w0 w v E u F) (hx : w'.ownsRow w.heap.size 39 2 x n (r.flatMap encC)) : 0 < r.length → ∀ g, x.ownBlock = some g → v.ownBlock ≠ some g ∧ u.ownBlock ≠ some g := fun _ g hg => by
  have h1 := (hx.lt g hg).1
  refine ⟨fun e => ?_, fun e => ?_⟩
  · have := (h.1.lt g e).2; omega
  · have := (h.2.1.lt g e).2; omega
theorem Two.rows {w0 w : World} {v u : Value} {E F : List ElC} (h : Two w0 w v E u F) : RowsC w w.heap.size v (E.map Prod.snd) := by
  obtain ⟨A, c, rfl, h1, _, h2⟩ := own_rd h.1
  refine ⟨A, E.length, c, E.map Prod.fst, rfl, by simp, h1, fun e => (own_none h.1 e).2, h2, by simp, fun i a r h3 h4 => ?_⟩
  rw [List.getElem?_map] at h3 h4
  cases hE : E[i]? with
  | none => rw [hE] at h3; cases h3
  | some x =>
    rw [hE] at h3 h4
    injection h3 with h3
    injection h4 with h4
    subst h3 h4
    exact (h.2.2.2.1 x (.inl (List.mem_of_getElem? hE))).1
theorem SafePost.is {w w' : World} {has wants : List (List Cell)} {x : Nat} {l : List Int} {e : Ending} (h : SafePost w has wants e w') (hs : safeF has wants = (x, l)) : ∃ v', e = .returned (.tuple #[v', .int .i64 (x : Int)]) ∧ w'.ownsRow w.heap.size 3 1 v' l.length (l.map iv) ∧ Below w.heap.size w w' := by
  obtain ⟨v', h1, h2, h3⟩ := h
  rw [hs] at h1 h2
  exact ⟨v', h1, h2, h3⟩
/-- the order that is found -/
theorem pickF_law {has wants : List (List Cell)} {out : List Int} : ∀ {n : Nat}, 0 ≤ pickF has wants out n → pickF has wants out n < n ∧ pickF has wants out n ∉ out ∧ freeF has (wants.getD (pickF has wants out n).toNat []) (pickF has wants out n) out = true
  | 0, h => absurd h (show ¬ (0 : Int) ≤ -1 by decide)
  | n + 1, h => by
    by_cases hc : pickF has wants out n < 0 ∧ (n : Int) ∉ out ∧ freeF has (wants.getD n []) n out = true
    · have e : pickF has wants out (n + 1) = n := by rw [pickF, if_pos hc]
      rw [e, Int.toNat_natCast]
      exact ⟨by omega, hc.2⟩
    · have e : pickF has wants out (n + 1) = pickF has wants out n := by rw [pickF, if_neg hc]
      rw [e] at h ⊢
      have := pickF_law h
      exact ⟨by omega, this.2⟩
theorem greedy_law {has wants : List (List Cell)} : ∀ (f : Nat) (out l : List Int), greedyF has wants f out = some l → l.length = out.length + f ∧ l.take out.length = out ∧
    ∀ i k, out.length ≤ i → l[i]? = some k → 0 ≤ k ∧ k < has.length ∧ k ∉ l.take i ∧ freeF has (wants.getD k.toNat []) k (l.take i) = true
  | 0, out, l, h => by
    injection h with h
    subst h
    refine ⟨rfl, List.take_length, fun i k hi hk => ?_⟩
    have := (List.getElem?_eq_some_iff.1 hk).1
    omega
  | f + 1, out, l, h => by
    unfold greedyF at h
    split at h
    · cases h
    · rename_i hp
      obtain ⟨h1, h2, h3⟩ := greedy_law f _ l h
      rw [List.length_append] at h1 h2 h3
      have hpl := pickF_law (has := has) (wants := wants) (out := out) (n := has.length) (by omega)
      have ht : l.take out.length = out := by
        have := congrArg (List.take out.length) h2
        rw [List.take_take, Nat.min_eq_left (by simp), List.take_left] at this
        exact this
      refine ⟨by simp at h1; omega, ht, fun i k hi hk => ?_⟩
      by_cases hio : i = out.length
      · subst hio
        have hl : l[out.length]? = some (pickF has wants out has.length) := by
          have h4 : (l.take (out.length + 1))[out.length]? = l[out.length]? := by rw [List.getElem?_take, if_pos (by omega)]
          have h5 := h2
          simp only [List.length_cons, List.length_nil, Nat.zero_add] at h5
          rw [← h4, h5, List.getElem?_append_right (Nat.le_refl _), Nat.sub_self]; rfl
        rw [hl] at hk
        injection hk with hk
        subst hk
        rw [ht]
        exact ⟨by omega, hpl⟩
      · exact h3 i k (by simp; omega) hk
end Go.Proofs.Ytambngbkegnghaa
