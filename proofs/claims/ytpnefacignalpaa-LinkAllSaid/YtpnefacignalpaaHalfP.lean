/- The second implementation's end of a connection: where it lies. Conditions: those typed. -/
import Derived.Test.YtpnefacignalpaaLinkOut
import Derived.Test.YtpnefacignalpaaEqMsg
namespace Go.Proofs.Ytpnefacignalpaa
open Go.RowKit Go.Gy
set_option linter.unusedVariables false
set_option linter.unusedSimpArgs false
def encL (x : WK) : List Value := [.int .i64 x.2]
def encH (x : WK) : List Value := encM x.1
theorem encH_len (x : WK) : (encH x).length = 6 := rfl
theorem encL_len (x : WK) : (encL x).length = 1 := rfl
theorem info_intI : (Try.prog.info? 3).map (fun i => (i.zero, i.size, i.bytes)) = some (some (.int .i64 0), 1, 8) := by kernel_rfl
structure HalfAt (W : World) (base H : Nat) (nx wt : Int) (ow : Bool) (hw hl : Value) (hs : List WK) (hg : Value) (gs : List SM) : Prop where
  lo : base ≤ H
  box : Blk W H 31 #[.int .i64 nx, .int .i64 wt, hw, hl, hg, .bool ow]
  rw : OffRow W base 43 6 hw hs.length (hs.flatMap encH)
  rl : OffRow W base 3 1 hl hs.length (hs.flatMap encL)
  rg : W.ownsRow base 43 6 hg gs.length (gs.flatMap encM)
  mw : ∀ x ∈ hs, MsgAt W base x.1.m x.1.A x.1.n x.1.c
  mg : ∀ g ∈ gs, MsgAt W base g.m g.A g.n g.c
  ap : ∀ g, hw.ownBlock = some g → hg.ownBlock ≠ some g
def HalfF (H : Nat) (hw hl hg : Value) (k : Nat) : Prop := k = H ∨ hw.ownBlock = some k ∨ hl.ownBlock = some k ∨ hg.ownBlock = some k
section
variable {W W' : World} {base H : Nat} {nx wt : Int} {ow : Bool} {hw hl hg : Value} {hs : List WK} {gs : List SM}
theorem HalfAt.keep {F : Nat → Prop} (h : HalfAt W base H nx wt ow hw hl hs hg gs) (hm : Mod F W W') (hF : ∀ g, F g → ¬ HalfF H hw hl hg g) (hlo : ∀ g, F g → base ≤ g) : HalfAt W' base H nx wt ow hw hl hs hg gs := by
  obtain ⟨h1, h2, h3, h4, h5, h6, h7, h8⟩ := h
  have hb : Below base W W' := hm.below (fun g hg hf => by have := hlo g hf; omega) (by have := h2.lt; omega)
  exact ⟨h1, hm.blk h2 (fun hf => hF _ hf (.inl rfl)), h3.mod hm (fun g hg hf => hF _ hf (.inr (.inl hg))), h4.mod hm (fun g hg hf => hF _ hf (.inr (.inr (.inl hg)))), hm.own h5 (fun g cs hg hk hf => hF _ hf (.inr (.inr (.inr hg)))), fun x hx => (h6 x hx).below hb, fun x hx => (h7 x hx).below hb, h8⟩
theorem HalfAt.below (h : HalfAt W base H nx wt ow hw hl hs hg gs) (hb : Below W.heap.size W W') : HalfAt W' base H nx wt ow hw hl hs hg gs := h.keep (F := fun _ => False) (Mod.of_below hb) (fun _ hf => hf.elim) (fun _ hf => hf.elim)
theorem HalfAt.flo (h : HalfAt W base H nx wt ow hw hl hs hg gs) : ∀ g, HalfF H hw hl hg g → base ≤ g ∧ g < W.heap.size := by
  rintro g (rfl | hg | hg | hg)
  · exact ⟨h.lo, h.box.lt⟩
  · exact h.rw.lt g hg
  · exact h.rl.lt g hg
  · exact h.rg.lt g hg
theorem HalfAt.typ (h : HalfAt W base H nx wt ow hw hl hs hg gs) {g : Nat} {t : TypeId} {cs : Array Value} (hk : Blk W g t cs) (hf : HalfF H hw hl hg g) : t = 31 ∨ t = 43 ∨ t = 3 := by
  rcases hf with rfl | hg | hg | hg
  · exact .inl (blk_type hk h.box)
  · obtain ⟨cs', hk'⟩ := h.rw.blk hg
    exact .inr (.inl (blk_type hk hk'))
  · obtain ⟨cs', hk'⟩ := h.rl.blk hg
    exact .inr (.inr (blk_type hk hk'))
  · obtain ⟨cs', hk'⟩ := own_blk h.rg hg
    exact .inr (.inl (blk_type hk hk'))
/-- what a new block, the box's cells or rows replaced, leaves: all three rows and the box said anew -/
theorem HalfAt.mk' {F : Nat → Prop} {nx' wt' : Int} {ow' : Bool} {hw' hl' hg' : Value} {hs' : List WK} {gs' : List SM} (h : HalfAt W base H nx wt ow hw hl hs hg gs) (hm : Mod F W W') (hlo : ∀ g, F g → base ≤ g) (h2 : Blk W' H 31 #[.int .i64 nx', .int .i64 wt', hw', hl', hg', .bool ow']) (h3 : OffRow W' base 43 6 hw' hs'.length (hs'.flatMap encH)) (h4 : OffRow W' base 3 1 hl' hs'.length (hs'.flatMap encL)) (h5 : W'.ownsRow base 43 6 hg' gs'.length (gs'.flatMap encM)) (h6 : ∀ x ∈ hs', x ∈ hs ∨ MsgAt W base x.1.m x.1.A x.1.n x.1.c) (h7 : ∀ x ∈ gs', x ∈ gs ∨ MsgAt W base x.m x.A x.n x.c) (h8 : ∀ g, hw'.ownBlock = some g → hg'.ownBlock ≠ some g) : HalfAt W' base H nx' wt' ow' hw' hl' hs' hg' gs' := by
  have hb : Below base W W' := hm.below (fun g hg hf => by have := hlo g hf; omega) (by have := h.box.lt; have := h.lo; omega)
  exact ⟨h.lo, h2, h3, h4, h5, fun x hx => ((h6 x hx).elim (h.mw x) id).below hb, fun x hx => ((h7 x hx).elim (h.mg x) id).below hb, h8⟩
/-- a cell of the box is stored -/
theorem HalfAt.put {u : Value} {k : Nat} {nx' wt' : Int} {ow' : Bool} (h : HalfAt W base H nx wt ow hw hl hs hg gs) (hc : (#[.int .i64 nx, .int .i64 wt, hw, hl, hg, .bool ow] : Array Value).setIfInBounds k u = #[.int .i64 nx', .int .i64 wt', hw, hl, hg, .bool ow']) : HalfAt (W.setCell ⟨H, k, none⟩ u) base H nx' wt' ow' hw hl hs hg gs ∧ Mod (fun g => g = H) W (W.setCell ⟨H, k, none⟩ u) := by
  have hm : Mod (fun g => g = H) W (W.setCell ⟨H, k, none⟩ u) := (Mod.refl (fun g => g = H) W).set (g := H) (fun _ => rfl) k u
  refine ⟨h.mk' hm (fun g e => by rw [e]; exact h.lo) ?_ (h.rw.mod hm (fun g hg hf => ?_)) (h.rl.mod hm (fun g hg hf => ?_)) (hm.own h.rg (fun g cs _ hk hf => ?_)) (fun x hx => .inl hx) (fun x hx => .inl hx) h.ap, hm⟩
  · have := h.box.set k u
    rwa [hc] at this
  · subst hf
    obtain ⟨cs, hk⟩ := h.rw.blk hg
    exact absurd (blk_type hk h.box) (by decide)
  · subst hf
    obtain ⟨cs, hk⟩ := h.rl.blk hg
    exact absurd (blk_type hk h.box) (by decide)
  · subst hf
    exact absurd (blk_type hk h.box) (by decide)
/-- the last of a row of the box is replaced: the messages' row (2) -/
theorem HalfAt.got {v' : Value} {x : SM} (h : HalfAt W base H nx wt ow hw hl hs hg gs) (hr : W'.ownsRow base 43 6 v' (gs.length + 1) (gs.flatMap encM ++ encM x)) (hm : Mod (fun k => hg.ownBlock = some k) W W') (hn : NearV W hg v') (hx : MsgAt W base x.m x.A x.n x.c) :
    HalfAt (W'.setCell ⟨H, 4, none⟩ v') base H nx wt ow hw hl hs v' (gs ++ [x]) ∧ Mod (HalfF H hw hl hg) W (W'.setCell ⟨H, 4, none⟩ v') := by
  have hE := hm.blk h.box (fun hg => by
    obtain ⟨cs', hk'⟩ := own_blk h.rg hg
    exact absurd (blk_type h.box hk') (by decide))
  have hS : Mod (fun g => g = H) W' (W'.setCell ⟨H, 4, none⟩ v') := (Mod.refl (fun g => g = H) W').set (g := H) (fun _ => rfl) 4 _
  have hM : Mod (HalfF H hw hl hg) W (W'.setCell ⟨H, 4, none⟩ v') := (hm.mono (G := HalfF H hw hl hg) (fun k _ h => Or.inr (Or.inr (Or.inr h)))).set (g := H) (fun _ => Or.inl rfl) 4 _
  refine ⟨h.mk' hM (fun g hf => (h.flo g hf).1) (hE.set 4 v') ((h.rw.mod hm (fun g hg => h.ap g hg)).mod hS (fun g hg hf => ?_)) ((h.rl.mod hm (fun g hg hf => ?_)).mod hS (fun g hg hf => ?_)) ?_ (fun x hx => .inl hx) (fun y hy => ?_) (fun g hg hg' => ?_), hM⟩
  · subst hf
    obtain ⟨cs, hk⟩ := h.rw.blk hg
    exact absurd (blk_type hk h.box) (by decide)
  · obtain ⟨cs, hk⟩ := h.rl.blk hg
    obtain ⟨cs', hk'⟩ := own_blk h.rg hf
    exact absurd (blk_type hk hk') (by decide)
  · subst hf
    obtain ⟨cs, hk⟩ := h.rl.blk hg
    exact absurd (blk_type hk h.box) (by decide)
  · rw [List.length_append, List.flatMap_append]
    refine hS.own ?_ (fun g cs _ hk hf => ?_)
    · simpa using hr
    · subst hf
      exact absurd (blk_type hk hE) (by decide)
  · rcases List.mem_append.1 hy with hy | hy
    · exact .inl hy
    · rw [List.mem_singleton.1 hy]
      exact .inr hx
  · rcases hn g hg' with h1 | h1
    · exact h.ap g hg h1
    · have := (h.rw.lt g hg).2
      omega
/-- a message is appended to the waiting ones -/
theorem HalfAt.wapp {v' : Value} {x : SM} {W' : World} (h : HalfAt W base H nx wt ow hw hl hs hg gs) (hr : OffRow W' base 43 6 v' (hs.length + 1) (hs.flatMap encH ++ encM x)) (hm : Mod (fun k => hw.ownBlock = some k) W W') (hn : NearV W hw v') :
    Blk (W'.setCell ⟨H, 2, none⟩ v') H 31 #[.int .i64 nx, .int .i64 wt, v', hl, hg, .bool ow] ∧ OffRow (W'.setCell ⟨H, 2, none⟩ v') base 43 6 v' (hs.length + 1) (hs.flatMap encH ++ encM x) ∧ OffRow (W'.setCell ⟨H, 2, none⟩ v') base 3 1 hl hs.length (hs.flatMap encL) ∧ (W'.setCell ⟨H, 2, none⟩ v').ownsRow base 43 6 hg gs.length (gs.flatMap encM) ∧ (∀ g, v'.ownBlock = some g → hg.ownBlock ≠ some g) ∧ Mod (HalfF H hw hl hg) W (W'.setCell ⟨H, 2, none⟩ v') := by
  have hE := hm.blk h.box (fun hg => by
    obtain ⟨cs', hk'⟩ := h.rw.blk hg
    exact absurd (blk_type h.box hk') (by decide))
  have hS : Mod (fun g => g = H) W' (W'.setCell ⟨H, 2, none⟩ v') := (Mod.refl (fun g => g = H) W').set (g := H) (fun _ => rfl) 2 _
  have hM : Mod (HalfF H hw hl hg) W (W'.setCell ⟨H, 2, none⟩ v') := (hm.mono (G := HalfF H hw hl hg) (fun k _ h => Or.inr (Or.inl h))).set (g := H) (fun _ => Or.inl rfl) 2 _
  refine ⟨hE.set 2 v', hr.mod hS (fun g hg hf => ?_), (h.rl.mod hm (fun g hg hf => ?_)).mod hS (fun g hg hf => ?_), hS.own (hm.own h.rg (fun g cs hg hk hf => h.ap g hf hg)) (fun g cs _ hk hf => ?_), fun g hg hg' => ?_, hM⟩
  · subst hf
    obtain ⟨cs, hk⟩ := hr.blk hg
    exact absurd (blk_type hk hE) (by decide)
  · obtain ⟨cs, hk⟩ := h.rl.blk hg
    obtain ⟨cs', hk'⟩ := h.rw.blk hf
    exact absurd (blk_type hk hk') (by decide)
  · subst hf
    obtain ⟨cs, hk⟩ := h.rl.blk hg
    exact absurd (blk_type hk h.box) (by decide)
  · subst hf
    exact absurd (blk_type hk hE) (by decide)
  · rcases hn g hg with h1 | h1
    · exact h.ap g h1 hg'
    · have := (h.rg.lt g hg').2
      omega
end
/-- both ends, apart from one another -/
structure TwoAt (W : World) (base E H : Nat) (nx wt : Int) (ow : Bool) (vw : Value) (ws : List WK) (vg : Value) (gs : List SM) (nx' wt' : Int) (ow' : Bool) (hw hl : Value) (hs : List WK) (hg : Value) (hgs : List SM) : Prop where
  e : EndAt W base E 0 1 nx wt ow vw ws vg gs
  h : HalfAt W base H nx' wt' ow' hw hl hs hg hgs
  ap : ∀ g, vg.ownBlock = some g → hw.ownBlock ≠ some g ∧ hg.ownBlock ≠ some g
section
variable {W W' : World} {base E H : Nat} {nx wt nx' wt' : Int} {ow ow' : Bool} {vw vg hw hl hg : Value} {ws hs : List WK} {gs hgs : List SM}
theorem TwoAt.dis (t : TwoAt W base E H nx wt ow vw ws vg gs nx' wt' ow' hw hl hs hg hgs) : ∀ g, EndF E vw vg g → ¬ HalfF H hw hl hg g := by
  have hB : ∀ g, HalfF H hw hl hg g → ∃ tt cs, Blk W g tt cs := by
    rintro g (rfl | hg' | hg' | hg')
    · exact ⟨_, _, t.h.box⟩
    · obtain ⟨cs, hk⟩ := t.h.rw.blk hg'
      exact ⟨_, cs, hk⟩
    · obtain ⟨cs, hk⟩ := t.h.rl.blk hg'
      exact ⟨_, cs, hk⟩
    · obtain ⟨cs, hk⟩ := own_blk t.h.rg hg'
      exact ⟨_, cs, hk⟩
  intro g he hh
  obtain ⟨tt, cs, hk⟩ := hB g hh
  rcases he with rfl | he | he
  · rcases t.h.typ hk hh with e | e | e <;> rw [blk_type hk t.e.box] at e <;> exact absurd e (by decide)
  · obtain ⟨cs', hk'⟩ := t.e.rw.blk he
    rcases t.h.typ hk hh with e | e | e <;> rw [blk_type hk hk'] at e <;> exact absurd e (by decide)
  · obtain ⟨cs', hk'⟩ := own_blk t.e.rg he
    rcases hh with rfl | hh | hh | hh
    · exact absurd (blk_type hk' t.h.box) (by decide)
    · exact (t.ap g he).1 hh
    · obtain ⟨cs2, hk2⟩ := t.h.rl.blk hh
      exact absurd (blk_type hk' hk2) (by decide)
    · exact (t.ap g he).2 hh
theorem TwoAt.below (t : TwoAt W base E H nx wt ow vw ws vg gs nx' wt' ow' hw hl hs hg hgs) (hb : Below W.heap.size W W') : TwoAt W' base E H nx wt ow vw ws vg gs nx' wt' ow' hw hl hs hg hgs := ⟨t.e.below hb, t.h.below hb, t.ap⟩
/-- the end has moved on -/
theorem TwoAt.end_ {nx2 wt2 : Int} {ow2 : Bool} {vw2 vg2 : Value} {ws2 : List WK} {gs2 : List SM} (t : TwoAt W base E H nx wt ow vw ws vg gs nx' wt' ow' hw hl hs hg hgs) (he : EndAt W' base E 0 1 nx2 wt2 ow2 vw2 ws2 vg2 gs2) (hm : Mod (EndF E vw vg) W W') (hn : NearV W vg vg2) : TwoAt W' base E H nx2 wt2 ow2 vw2 ws2 vg2 gs2 nx' wt' ow' hw hl hs hg hgs := by
  refine ⟨he, t.h.keep hm t.dis (fun g hf => (t.e.flo g hf).1), fun g hg => ?_⟩
  rcases hn g hg with h1 | h1
  · exact t.ap g h1
  · exact ⟨fun h2 => by have := (t.h.rw.lt g h2).2; omega, fun h2 => by have := (t.h.rg.lt g h2).2; omega⟩
/-- the half has moved on -/
theorem TwoAt.half {nx2 wt2 : Int} {ow2 : Bool} {hw2 hl2 hg2 : Value} {hs2 : List WK} {hgs2 : List SM} (t : TwoAt W base E H nx wt ow vw ws vg gs nx' wt' ow' hw hl hs hg hgs) (he : HalfAt W' base H nx2 wt2 ow2 hw2 hl2 hs2 hg2 hgs2) (hm : Mod (HalfF H hw hl hg) W W') (hn : NearV W hw hw2) (hn2 : NearV W hg hg2) : TwoAt W' base E H nx wt ow vw ws vg gs nx2 wt2 ow2 hw2 hl2 hs2 hg2 hgs2 := by
  refine ⟨t.e.keep hm (fun g tt cs hk hf => ⟨fun h2 => t.dis g h2 hf, fun e => ?_⟩), he, fun g hg => ⟨fun h2 => ?_, fun h2 => ?_⟩⟩
  · rcases t.h.typ hk hf with e2 | e2 | e2 <;> rw [e] at e2 <;> exact absurd e2 (by decide)
  · rcases hn g h2 with h1 | h1
    · exact (t.ap g hg).1 h1
    · have := (t.e.rg.lt g hg).2
      omega
  · rcases hn2 g h2 with h1 | h1
    · exact (t.ap g hg).2 h1
    · have := (t.e.rg.lt g hg).2
      omega
end
theorem nearV_refl (w : World) (v : Value) : NearV w v v := fun _ h => .inl h
end Go.Proofs.Ytpnefacignalpaa
