/- What is known of a world: it stands over w, and these blocks hold this. Conditions: those typed. -/
import Derived.Test.YtpnefacignalpaaWords
import Derived.Test.YtpnefacignalpaaSeq
import Derived.Deep.RegionHeld3
namespace Go.Proofs.Ytpnefacignalpaa
open Go.RowKit Go.Gy
set_option linter.unusedVariables false
/-- over w: what w has is as it was; the blocks of l, all new and apart, hold what l says -/
structure In (w : World) (l : List (Nat × TypeId × Array Value)) (W : World) : Prop where
  bel : Below w.heap.size w W
  blk : ∀ x ∈ l, Blk W x.1 x.2.1 x.2.2
  new : ∀ x ∈ l, w.heap.size ≤ x.1
  apart : (l.map (·.1)).Nodup
section
variable {w W W' : World} {l a b : List (Nat × TypeId × Array Value)}
theorem In.start (w : World) : In w [] w := ⟨Below.refl _ _, by simp, by simp, by simp⟩
theorem In.call (h : In w l W) (hb : Below W.heap.size W W') : In w l W' :=
  ⟨h.bel.trans (hb.mono h.bel.size), fun x hx => (h.blk x hx).below hb (h.blk x hx).lt, h.new, h.apart⟩
theorem In.callB {B : Nat} (h : In w l W) (hb : Below B W W') (hw : w.heap.size ≤ B) (hB : ∀ x ∈ l, x.1 < B) : In w l W' :=
  ⟨h.bel.trans (hb.mono hw), fun x hx => (h.blk x hx).below hb (hB x hx), h.new, h.apart⟩
theorem In.drew (h : In w l W) : In w l W.drew := ⟨h.bel.drew, h.blk, h.new, h.apart⟩
theorem In.alloc (h : In w l W) (t : TypeId) (cs : Array Value) : In w ((W.heap.size, t, cs) :: l) (W.alloc (.cells cs t)) := by
  refine ⟨h.bel.alloc h.bel.size _, fun x hx => ?_, fun x hx => ?_, ?_⟩
  · rcases List.mem_cons.1 hx with rfl | hx
    · exact Blk.new W t cs
    · exact (h.blk x hx).alloc _
  · rcases List.mem_cons.1 hx with rfl | hx
    · exact h.bel.size
    · exact h.new x hx
  · rw [List.map_cons, List.nodup_cons]
    refine ⟨fun hm => ?_, h.apart⟩
    obtain ⟨x, hx, he⟩ := List.mem_map.1 hm
    have := (h.blk x hx).lt
    simp only at he
    omega
theorem In.skip (h : In w l W) (o : Obj) : In w l (W.alloc o) :=
  ⟨h.bel.alloc h.bel.size _, fun x hx => (h.blk x hx).alloc _, h.new, h.apart⟩
theorem In.drop (h : In w (a ++ b) W) : In w b W :=
  ⟨h.bel, fun x hx => h.blk x (List.mem_append_right _ hx), fun x hx => h.new x (List.mem_append_right _ hx), by have := h.apart; rw [List.map_append, List.nodup_append] at this; exact this.2.1⟩
theorem In.take (h : In w (a ++ b) W) : In w a W :=
  ⟨h.bel, fun x hx => h.blk x (List.mem_append_left _ hx), fun x hx => h.new x (List.mem_append_left _ hx), by have := h.apart; rw [List.map_append, List.nodup_append] at this; exact this.1⟩
theorem In.tail {x : Nat × TypeId × Array Value} (h : In w (x :: b) W) : In w b W := In.drop (a := [x]) h
theorem In.cell (h : In w l W) {k i g : Nat} {t : TypeId} {cs : Array Value} {u : Value} (hk : l[k]? = some (g, t, cs)) (hi : cs.toList[i]? = some u) : W.cell? ⟨g, i, none⟩ = some u :=
  (h.blk _ (List.mem_of_getElem? hk)).cell i u (by rw [← Array.getElem?_toList]; exact hi)
theorem In.free (h : In w l W) {k i g : Nat} {t : TypeId} {cs : Array Value} (hk : l[k]? = some (g, t, cs)) : W.frozen? ⟨g, i, none⟩ = false :=
  (h.blk _ (List.mem_of_getElem? hk)).free i
theorem In.blkAt (h : In w l W) {k g : Nat} {t : TypeId} {cs : Array Value} (hk : l[k]? = some (g, t, cs)) : Blk W g t cs := h.blk _ (List.mem_of_getElem? hk)
theorem In.lt (h : In w l W) {k g : Nat} {t : TypeId} {cs : Array Value} (hk : l[k]? = some (g, t, cs)) : g < W.heap.size := (h.blkAt hk).lt
theorem In.old (h : In w l W) {c o : Nat} (hb : c < w.heap.size) : W.cell? ⟨c, o, none⟩ = w.cell? ⟨c, o, none⟩ := h.bel.cell (p := ⟨c, o, none⟩) hb
theorem In.set {g : Nat} {t : TypeId} {cs : Array Value} (h : In w (a ++ (g, t, cs) :: b) W) (i : Nat) (u : Value) : In w (a ++ (g, t, cs.setIfInBounds i u) :: b) (W.setCell ⟨g, i, none⟩ u) := by
  have hg : w.heap.size ≤ g := h.new (g, t, cs) (by simp)
  have hap := h.apart
  rw [List.map_append, List.map_cons, List.nodup_append, List.nodup_cons] at hap
  refine ⟨h.bel.setCell hg u, fun x hx => ?_, fun x hx => ?_, ?_⟩
  · rcases List.mem_append.1 hx with hx | hx
    · exact (h.blk x (List.mem_append_left _ hx)).far (hap.2.2 _ (List.mem_map_of_mem hx) _ (by simp)) u
    · rcases List.mem_cons.1 hx with rfl | hx
      · exact (h.blk (g, t, cs) (by simp)).set i u
      · exact (h.blk x (List.mem_append_right _ (List.mem_cons_of_mem _ hx))).far (fun he => hap.2.1.1 (List.mem_map.2 ⟨x, hx, he⟩)) u
  · rcases List.mem_append.1 hx with hx | hx
    · exact h.new x (List.mem_append_left _ hx)
    · rcases List.mem_cons.1 hx with rfl | hx
      · exact hg
      · exact h.new x (List.mem_append_right _ (List.mem_cons_of_mem _ hx))
  · have := h.apart
    simpa using this
/-- three cells of a block at once -/
theorem In.put3 {g : Nat} {t : TypeId} {cs : Array Value} (h : In w (a ++ (g, t, cs) :: b) W) (i : Nat) (u0 u1 u2 : Value) :
    In w (a ++ (g, t, ((cs.setIfInBounds i u0).setIfInBounds (i + 1) u1).setIfInBounds (i + 2) u2) :: b) (((W.setCell ⟨g, i, none⟩ u0).setCell ⟨g, i + 1, none⟩ u1).setCell ⟨g, i + 2, none⟩ u2) :=
  ((h.set i u0).set (i + 1) u1).set (i + 2) u2
/-- all cells of a block anew -/
theorem In.all3 {g : Nat} {t : TypeId} {x0 x1 x2 : Value} (h : In w (a ++ (g, t, #[x0, x1, x2]) :: b) W) (u0 u1 u2 : Value) : In w (a ++ (g, t, #[u0, u1, u2]) :: b) (((W.setCell ⟨g, 0, none⟩ u0).setCell ⟨g, 1, none⟩ u1).setCell ⟨g, 2, none⟩ u2) := by
  replace h : In w (a ++ (g, t, #[u0, x1, x2]) :: b) (W.setCell ⟨g, 0, none⟩ u0) := h.set 0 u0
  replace h : In w (a ++ (g, t, #[u0, u1, x2]) :: b) ((W.setCell ⟨g, 0, none⟩ u0).setCell ⟨g, 1, none⟩ u1) := h.set 1 u1
  replace h : In w (a ++ (g, t, #[u0, u1, u2]) :: b) (((W.setCell ⟨g, 0, none⟩ u0).setCell ⟨g, 1, none⟩ u1).setCell ⟨g, 2, none⟩ u2) := h.set 2 u2
  exact h
theorem In.all6 {g : Nat} {t : TypeId} {x0 x1 x2 x3 x4 x5 : Value} (h : In w (a ++ (g, t, #[x0, x1, x2, x3, x4, x5]) :: b) W) (u0 u1 u2 u3 u4 u5 : Value) : In w (a ++ (g, t, #[u0, u1, u2, u3, u4, u5]) :: b) ((((((W.setCell ⟨g, 0, none⟩ u0).setCell ⟨g, 1, none⟩ u1).setCell ⟨g, 2, none⟩ u2).setCell ⟨g, 3, none⟩ u3).setCell ⟨g, 4, none⟩ u4).setCell ⟨g, 5, none⟩ u5) := by
  replace h : In w (a ++ (g, t, #[u0, x1, x2, x3, x4, x5]) :: b) (W.setCell ⟨g, 0, none⟩ u0) := h.set 0 u0
  replace h : In w (a ++ (g, t, #[u0, u1, x2, x3, x4, x5]) :: b) ((W.setCell ⟨g, 0, none⟩ u0).setCell ⟨g, 1, none⟩ u1) := h.set 1 u1
  replace h : In w (a ++ (g, t, #[u0, u1, u2, x3, x4, x5]) :: b) (((W.setCell ⟨g, 0, none⟩ u0).setCell ⟨g, 1, none⟩ u1).setCell ⟨g, 2, none⟩ u2) := h.set 2 u2
  replace h : In w (a ++ (g, t, #[u0, u1, u2, u3, x4, x5]) :: b) ((((W.setCell ⟨g, 0, none⟩ u0).setCell ⟨g, 1, none⟩ u1).setCell ⟨g, 2, none⟩ u2).setCell ⟨g, 3, none⟩ u3) := h.set 3 u3
  replace h : In w (a ++ (g, t, #[u0, u1, u2, u3, u4, x5]) :: b) (((((W.setCell ⟨g, 0, none⟩ u0).setCell ⟨g, 1, none⟩ u1).setCell ⟨g, 2, none⟩ u2).setCell ⟨g, 3, none⟩ u3).setCell ⟨g, 4, none⟩ u4) := h.set 4 u4
  replace h : In w (a ++ (g, t, #[u0, u1, u2, u3, u4, u5]) :: b) ((((((W.setCell ⟨g, 0, none⟩ u0).setCell ⟨g, 1, none⟩ u1).setCell ⟨g, 2, none⟩ u2).setCell ⟨g, 3, none⟩ u3).setCell ⟨g, 4, none⟩ u4).setCell ⟨g, 5, none⟩ u5) := h.set 5 u5
  exact h
theorem In.all12 {g : Nat} {t : TypeId} {x0 x1 x2 x3 x4 x5 x6 x7 x8 x9 x10 x11 : Value} (h : In w (a ++ (g, t, #[x0, x1, x2, x3, x4, x5, x6, x7, x8, x9, x10, x11]) :: b) W) (u0 u1 u2 u3 u4 u5 u6 u7 u8 u9 u10 u11 : Value) : In w (a ++ (g, t, #[u0, u1, u2, u3, u4, u5, u6, u7, u8, u9, u10, u11]) :: b) ((((((((((((W.setCell ⟨g, 0, none⟩ u0).setCell ⟨g, 1, none⟩ u1).setCell ⟨g, 2, none⟩ u2).setCell ⟨g, 3, none⟩ u3).setCell ⟨g, 4, none⟩ u4).setCell ⟨g, 5, none⟩ u5).setCell ⟨g, 6, none⟩ u6).setCell ⟨g, 7, none⟩ u7).setCell ⟨g, 8, none⟩ u8).setCell ⟨g, 9, none⟩ u9).setCell ⟨g, 10, none⟩ u10).setCell ⟨g, 11, none⟩ u11) := by
  replace h : In w (a ++ (g, t, #[u0, x1, x2, x3, x4, x5, x6, x7, x8, x9, x10, x11]) :: b) (W.setCell ⟨g, 0, none⟩ u0) := h.set 0 u0
  replace h : In w (a ++ (g, t, #[u0, u1, x2, x3, x4, x5, x6, x7, x8, x9, x10, x11]) :: b) ((W.setCell ⟨g, 0, none⟩ u0).setCell ⟨g, 1, none⟩ u1) := h.set 1 u1
  replace h : In w (a ++ (g, t, #[u0, u1, u2, x3, x4, x5, x6, x7, x8, x9, x10, x11]) :: b) (((W.setCell ⟨g, 0, none⟩ u0).setCell ⟨g, 1, none⟩ u1).setCell ⟨g, 2, none⟩ u2) := h.set 2 u2
  replace h : In w (a ++ (g, t, #[u0, u1, u2, u3, x4, x5, x6, x7, x8, x9, x10, x11]) :: b) ((((W.setCell ⟨g, 0, none⟩ u0).setCell ⟨g, 1, none⟩ u1).setCell ⟨g, 2, none⟩ u2).setCell ⟨g, 3, none⟩ u3) := h.set 3 u3
  replace h : In w (a ++ (g, t, #[u0, u1, u2, u3, u4, x5, x6, x7, x8, x9, x10, x11]) :: b) (((((W.setCell ⟨g, 0, none⟩ u0).setCell ⟨g, 1, none⟩ u1).setCell ⟨g, 2, none⟩ u2).setCell ⟨g, 3, none⟩ u3).setCell ⟨g, 4, none⟩ u4) := h.set 4 u4
  replace h : In w (a ++ (g, t, #[u0, u1, u2, u3, u4, u5, x6, x7, x8, x9, x10, x11]) :: b) ((((((W.setCell ⟨g, 0, none⟩ u0).setCell ⟨g, 1, none⟩ u1).setCell ⟨g, 2, none⟩ u2).setCell ⟨g, 3, none⟩ u3).setCell ⟨g, 4, none⟩ u4).setCell ⟨g, 5, none⟩ u5) := h.set 5 u5
  replace h : In w (a ++ (g, t, #[u0, u1, u2, u3, u4, u5, u6, x7, x8, x9, x10, x11]) :: b) (((((((W.setCell ⟨g, 0, none⟩ u0).setCell ⟨g, 1, none⟩ u1).setCell ⟨g, 2, none⟩ u2).setCell ⟨g, 3, none⟩ u3).setCell ⟨g, 4, none⟩ u4).setCell ⟨g, 5, none⟩ u5).setCell ⟨g, 6, none⟩ u6) := h.set 6 u6
  replace h : In w (a ++ (g, t, #[u0, u1, u2, u3, u4, u5, u6, u7, x8, x9, x10, x11]) :: b) ((((((((W.setCell ⟨g, 0, none⟩ u0).setCell ⟨g, 1, none⟩ u1).setCell ⟨g, 2, none⟩ u2).setCell ⟨g, 3, none⟩ u3).setCell ⟨g, 4, none⟩ u4).setCell ⟨g, 5, none⟩ u5).setCell ⟨g, 6, none⟩ u6).setCell ⟨g, 7, none⟩ u7) := h.set 7 u7
  replace h : In w (a ++ (g, t, #[u0, u1, u2, u3, u4, u5, u6, u7, u8, x9, x10, x11]) :: b) (((((((((W.setCell ⟨g, 0, none⟩ u0).setCell ⟨g, 1, none⟩ u1).setCell ⟨g, 2, none⟩ u2).setCell ⟨g, 3, none⟩ u3).setCell ⟨g, 4, none⟩ u4).setCell ⟨g, 5, none⟩ u5).setCell ⟨g, 6, none⟩ u6).setCell ⟨g, 7, none⟩ u7).setCell ⟨g, 8, none⟩ u8) := h.set 8 u8
  replace h : In w (a ++ (g, t, #[u0, u1, u2, u3, u4, u5, u6, u7, u8, u9, x10, x11]) :: b) ((((((((((W.setCell ⟨g, 0, none⟩ u0).setCell ⟨g, 1, none⟩ u1).setCell ⟨g, 2, none⟩ u2).setCell ⟨g, 3, none⟩ u3).setCell ⟨g, 4, none⟩ u4).setCell ⟨g, 5, none⟩ u5).setCell ⟨g, 6, none⟩ u6).setCell ⟨g, 7, none⟩ u7).setCell ⟨g, 8, none⟩ u8).setCell ⟨g, 9, none⟩ u9) := h.set 9 u9
  replace h : In w (a ++ (g, t, #[u0, u1, u2, u3, u4, u5, u6, u7, u8, u9, u10, x11]) :: b) (((((((((((W.setCell ⟨g, 0, none⟩ u0).setCell ⟨g, 1, none⟩ u1).setCell ⟨g, 2, none⟩ u2).setCell ⟨g, 3, none⟩ u3).setCell ⟨g, 4, none⟩ u4).setCell ⟨g, 5, none⟩ u5).setCell ⟨g, 6, none⟩ u6).setCell ⟨g, 7, none⟩ u7).setCell ⟨g, 8, none⟩ u8).setCell ⟨g, 9, none⟩ u9).setCell ⟨g, 10, none⟩ u10) := h.set 10 u10
  replace h : In w (a ++ (g, t, #[u0, u1, u2, u3, u4, u5, u6, u7, u8, u9, u10, u11]) :: b) ((((((((((((W.setCell ⟨g, 0, none⟩ u0).setCell ⟨g, 1, none⟩ u1).setCell ⟨g, 2, none⟩ u2).setCell ⟨g, 3, none⟩ u3).setCell ⟨g, 4, none⟩ u4).setCell ⟨g, 5, none⟩ u5).setCell ⟨g, 6, none⟩ u6).setCell ⟨g, 7, none⟩ u7).setCell ⟨g, 8, none⟩ u8).setCell ⟨g, 9, none⟩ u9).setCell ⟨g, 10, none⟩ u10).setCell ⟨g, 11, none⟩ u11) := h.set 11 u11
  exact h
/-- what the cells of one block hold, from i on -/
def cellsOf (W : World) (g : Nat) : Nat → List Value → Prop
  | _, [] => True
  | i, u :: us => W.cell? ⟨g, i, none⟩ = some u ∧ cellsOf W g (i + 1) us
def factsOf (W : World) : List (Nat × TypeId × Array Value) → Prop
  | [] => True
  | x :: l => cellsOf W x.1 0 x.2.2.toList ∧ factsOf W l
theorem cellsOf_mk {g : Nat} {l : List Value} {i : Nat} (h : ∀ j u, l[j]? = some u → W.cell? ⟨g, i + j, none⟩ = some u) : cellsOf W g i l := by
  induction l generalizing i with
  | nil => exact trivial
  | cons u us ih => exact ⟨h 0 u rfl, ih fun j v hv => by have := h (j + 1) v hv; rwa [show i + (j + 1) = i + 1 + j by omega] at this⟩
theorem In.facts (h : In w l W) : factsOf W l := by
  induction l with
  | nil => exact trivial
  | cons x l ih =>
    refine ⟨cellsOf_mk fun j u hu => ?_, ih h.tail⟩
    rw [Nat.zero_add]
    exact (h.blk x (by simp)).cell j u (by rw [← Array.getElem?_toList]; exact hu)
end
section
variable {P : Program} {w0 w : World} {ls : List (Nat × TypeId × Array Value)}
theorem wp_region_in {id : Nat} {Q : Exit → Act → World → Prop} {a : Act} {l : List Oper} (hI : In w0 ls w) (hm : P.follows .mixedOrders = true) (hB : Region.lexB .any l.toArray = true)
    (h : wpSeq P l.toArray (In w0 ls) (fun a' => ∀ W, In w0 ls W → Q .normal a' W) l a) : (Code.region id l.toArray true).wp P Q a w :=
  wp_region_seq (In w0 ls) (fun _ _ h hb => h.call hb) hm hB hI.drew h
theorem wp_region_in_tail {id : Nat} {Q : Exit → Act → World → Prop} {a : Act} {l : List Oper} (n : Nat) (hI : In w0 ls w) (hm : P.follows .mixedOrders = true) (hB : Region.lexTailB .any l.toArray n = true)
    (h : wpSeq P l.toArray (In w0 ls) (fun a' => ∀ W, In w0 ls W → wpList P l.toArray Q (l.drop n) a' W) (l.take n) a) : (Code.region id l.toArray true).wp P Q a w :=
  wp_region_seq_tail (In w0 ls) (fun _ _ h hb => h.call hb) n hm hB hI.drew h
theorem wp_region_in_plain {id : Nat} {Q : Exit → Act → World → Prop} {a : Act} {l : List Oper} (n : Nat) (hI : In w0 ls w)
    (h : wpSeq P l.toArray (In w0 ls) (fun a' => ∀ W, In w0 ls W → wpList P l.toArray Q (l.drop n) a' W) (l.take n) a) : (Code.region id l.toArray false).wp P Q a w :=
  wp_region_plain (In w0 ls) (fun _ _ h hb => h.call hb) n hI h
theorem wp_region_in_plain_all {id : Nat} {Q : Exit → Act → World → Prop} {a : Act} {l : List Oper} (hI : In w0 ls w)
    (h : wpSeq P l.toArray (In w0 ls) (fun a' => ∀ W, In w0 ls W → Q .normal a' W) l a) : (Code.region id l.toArray false).wp P Q a w :=
  wp_region_plain (In w0 ls) (fun _ _ h hb => h.call hb) l.length hI (by rw [List.take_length, List.drop_length]; exact h)
/-- with one alloc of type t (cells cs) that may come up at any time -/
theorem wp_region_in_float {id : Nat} {Q : Exit → Act → World → Prop} {a : Act} {l : List Oper} (fl : Nat) (of : Oper) (t : TypeId) (cs : Array Value) (hI : In w0 ls w) (hm : P.follows .mixedOrders = true) (hB : Region.flB .any l.toArray fl = true) (hof : l[fl]? = some of)
    (h : wpSeq P l.toArray (In w0 ls) (fun a' => Region.wanted of (yielded l.toArray a'.tmps) = true ∧ (∀ w, In w0 ls w → (execOp a'.eval of).run P w = .ok (.value (.pointer (some ⟨w.heap.size, 0, none⟩))) (w.alloc (.cells cs t))) ∧ ∀ g W, In w0 ((g, t, cs) :: ls) W → wpList P l.toArray Q (l.drop (fl + 1)) (a'.put of.dst (.pointer (some ⟨g, 0, none⟩))) W) (l.take fl) a) : (Code.region id l.toArray true).wp P Q a w := by
  refine wp_region_seq_float (In w0 ls) (fun _ _ h hb => h.call hb) (fun v W => ∃ g, v = .pointer (some ⟨g, 0, none⟩) ∧ In w0 ((g, t, cs) :: ls) W) (fun v _ _ ⟨g, hv, h⟩ hb => ⟨g, hv, h.call hb⟩) (fun v _ ⟨g, _, h⟩ => h.tail) fl of hm hB hof hI.drew ?_
  refine wpSeq_mono (fun a' h => ?_) h
  exact ⟨h.1, fun w hw => ⟨_, _, h.2.1 w hw, _, rfl, hw.alloc t cs⟩, fun v W ⟨g, hv, hI⟩ => by subst hv; exact h.2.2 g W hI⟩
/-- as wp_region_in_float; the operations of late may come up late -/
theorem wp_region_in_late {id : Nat} {Q : Exit → Act → World → Prop} {a : Act} {l : List Oper} (fl : Nat) (late : List Nat) (of : Oper) (t : TypeId) (cs : Array Value) (hI : In w0 ls w) (hm : P.follows .mixedOrders = true) (hB : Region.lateB .any l.toArray fl late = true) (hof : l[fl]? = some of)
    (h : wpSeqL P l.toArray (In w0 ls) late (fun a' => Region.wanted of (yielded l.toArray a'.tmps) = true ∧ (∀ w, In w0 ls w → (execOp a'.eval of).run P w = .ok (.value (.pointer (some ⟨w.heap.size, 0, none⟩))) (w.alloc (.cells cs t))) ∧ ∀ g W, In w0 ((g, t, cs) :: ls) W → wpList P l.toArray (NoPanic Q) (l.drop (fl + 1)) (a'.put of.dst (.pointer (some ⟨g, 0, none⟩))) W) 0 (l.take fl) a) : (Code.region id l.toArray true).wp P Q a w := by
  refine wp_region_noPanic (wp_region_seq_late (In w0 ls) (fun _ _ h hb => h.call hb) (fun v W => ∃ g, v = .pointer (some ⟨g, 0, none⟩) ∧ In w0 ((g, t, cs) :: ls) W) (fun v _ _ ⟨g, hv, h⟩ hb => ⟨g, hv, h.call hb⟩) (fun v _ ⟨g, _, h⟩ => h.tail) fl late of (fun _ _ _ _ _ h => h) hm hB hof hI.drew ?_)
  refine wpSeqL_mono (fun a' h => ?_) h
  exact ⟨h.1, fun w hw => ⟨_, _, h.2.1 w hw, _, rfl, hw.alloc t cs⟩, fun v W ⟨g, hv, hI⟩ => by subst hv; exact h.2.2 g W hI⟩
/-- the same, where what is made is a slice of one element -/
theorem wp_region_in_lateS {id : Nat} {Q : Exit → Act → World → Prop} {a : Act} {l : List Oper} (fl : Nat) (late : List Nat) (of : Oper) (t : TypeId) (cs : Array Value) (hI : In w0 ls w) (hm : P.follows .mixedOrders = true) (hB : Region.lateB .any l.toArray fl late = true) (hof : l[fl]? = some of)
    (h : wpSeqL P l.toArray (In w0 ls) late (fun a' => Region.wanted of (yielded l.toArray a'.tmps) = true ∧ (∀ w, In w0 ls w → (execOp a'.eval of).run P w = .ok (.value (.slice (some ⟨w.heap.size, 0, none⟩) 1 1)) (w.alloc (.cells cs t))) ∧ ∀ g W, In w0 ((g, t, cs) :: ls) W → wpList P l.toArray (NoPanic Q) (l.drop (fl + 1)) (a'.put of.dst (.slice (some ⟨g, 0, none⟩) 1 1)) W) 0 (l.take fl) a) : (Code.region id l.toArray true).wp P Q a w := by
  refine wp_region_noPanic (wp_region_seq_late (In w0 ls) (fun _ _ h hb => h.call hb) (fun v W => ∃ g, v = .slice (some ⟨g, 0, none⟩) 1 1 ∧ In w0 ((g, t, cs) :: ls) W) (fun v _ _ ⟨g, hv, h⟩ hb => ⟨g, hv, h.call hb⟩) (fun v _ ⟨g, _, h⟩ => h.tail) fl late of (fun _ _ _ _ _ h => h) hm hB hof hI.drew ?_)
  refine wpSeqL_mono (fun a' h => ?_) h
  exact ⟨h.1, fun w hw => ⟨_, _, h.2.1 w hw, _, rfl, hw.alloc t cs⟩, fun v W ⟨g, hv, hI⟩ => by subst hv; exact h.2.2 g W hI⟩
end
/-- what holds over w holds over a later world -/
theorem up {w W0 : World} {X : World → Prop} (h : Hid (∀ W, Below w.heap.size w W → X W)) (hW : Below w.heap.size w W0) : Hid (∀ W, Below W0.heap.size W0 W → X W) :=
  Lib.hid fun W hb => h.out W (hW.trans (hb.mono hW.size))
end Go.Proofs.Ytpnefacignalpaa
