/- The two ends and a message's box, step by step. Conditions: those typed. -/
import Derived.Test.YtpnefacignalpaaHalfP
import Derived.Test.YtpnefacignalpaaSetJ
namespace Go.Proofs.Ytpnefacignalpaa
open Go.RowKit Go.Gy
set_option linter.unusedVariables false
set_option linter.unusedSimpArgs false
def absW (x : WK) : GMsg × Int := (x.1.m, x.2)
structure LR (B : Nat) (nx wt : Int) (ws hs : List WK) (gs hgs : List SM) : Prop where
  w : hs.map absW = ws.map absW
  g : gs.map (·.m) = hgs.map (·.m)
  len : ws.length ≤ 500
  la : ∀ x ∈ ws, -1 ≤ x.2 ∧ x.2 ≤ 2000
  nx : 0 ≤ nx ∧ nx ≤ B
  wt : 0 ≤ wt ∧ wt ≤ B
  gl : gs.length ≤ B
  bb : B ≤ 1073741824
def TwoSt (base E H B : Nat) (W : World) : Prop := ∃ nx wt ow vw ws vg gs hw hl hs hg hgs, TwoAt W base E H nx wt ow vw ws vg gs nx wt ow hw hl hs hg hgs ∧ LR B nx wt ws hs gs hgs
structure HSt (w : World) (base E H : Nat) (nx wt : Int) (ow : Bool) (vw : Value) (ws : List WK) (vg : Value) (gs : List SM) (nx' wt' : Int) (ow' : Bool) (hw hl : Value) (hs : List WK) (hg : Value) (hgs : List SM) (gb : Nat) (cs : Array Value) (W : World) : Prop where
  t : TwoAt W base E H nx wt ow vw ws vg gs nx' wt' ow' hw hl hs hg hgs
  bx : Blk W gb 43 cs
  bel : Below base w W
  nb : vg.ownBlock ≠ some gb ∧ hw.ownBlock ≠ some gb ∧ hg.ownBlock ≠ some gb
  lo : base ≤ W.heap.size
section
variable {w W W' : World} {base E H gb : Nat} {nx wt nx' wt' : Int} {ow ow' : Bool} {vw vg hw hl hg : Value} {ws hs : List WK} {gs hgs : List SM} {cs : Array Value}
theorem HSt.below (h : HSt w base E H nx wt ow vw ws vg gs nx' wt' ow' hw hl hs hg hgs gb cs W) (hb : Below W.heap.size W W') : HSt w base E H nx wt ow vw ws vg gs nx' wt' ow' hw hl hs hg hgs gb cs W' := ⟨h.t.below hb, h.bx.below hb h.bx.lt, h.bel.trans (hb.mono h.lo), h.nb, Nat.le_trans h.lo hb.size⟩
theorem HSt.half {nx2 wt2 : Int} {ow2 : Bool} {hw2 hl2 hg2 : Value} {hs2 : List WK} {hgs2 : List SM} (h : HSt w base E H nx wt ow vw ws vg gs nx' wt' ow' hw hl hs hg hgs gb cs W) (he : HalfAt W' base H nx2 wt2 ow2 hw2 hl2 hs2 hg2 hgs2) (hm : Mod (HalfF H hw hl hg) W W') (hn : NearV W hw hw2) (hn2 : NearV W hg hg2) : HSt w base E H nx wt ow vw ws vg gs nx2 wt2 ow2 hw2 hl2 hs2 hg2 hgs2 gb cs W' := by
  have hlt := h.bx.lt
  refine ⟨h.t.half he hm hn hn2, hm.blk h.bx (fun hf => ?_), h.bel.trans (hm.below (fun g hg hf => by have := (h.t.h.flo g hf).1; omega) h.lo), ⟨h.nb.1, fun e => ?_, fun e => ?_⟩, Nat.le_trans h.lo hm.size⟩
  · rcases hf with e | e | e | e
    · have hk := h.bx
      rw [e] at hk
      exact absurd (blk_type hk h.t.h.box) (by decide)
    · exact h.nb.2.1 e
    · obtain ⟨cs', hk'⟩ := h.t.h.rl.blk e
      exact absurd (blk_type h.bx hk') (by decide)
    · exact h.nb.2.2 e
  · rcases hn gb e with h1 | h1
    · exact h.nb.2.1 h1
    · omega
  · rcases hn2 gb e with h1 | h1
    · exact h.nb.2.2 h1
    · omega
theorem HSt.put {u : Value} {k : Nat} {nx2 wt2 : Int} {ow2 : Bool} (h : HSt w base E H nx wt ow vw ws vg gs nx' wt' ow' hw hl hs hg hgs gb cs W) (hc : (#[.int .i64 nx', .int .i64 wt', hw, hl, hg, .bool ow'] : Array Value).setIfInBounds k u = #[.int .i64 nx2, .int .i64 wt2, hw, hl, hg, .bool ow2]) : HSt w base E H nx wt ow vw ws vg gs nx2 wt2 ow2 hw hl hs hg hgs gb cs (W.setCell ⟨H, k, none⟩ u) := by
  obtain ⟨h1, h2⟩ := h.t.h.put hc
  exact h.half h1 (h2.mono (fun k _ e => .inl e)) (nearV_refl _ _) (nearV_refl _ _)
/-- the end's In has been called: what it makes of both -/
theorem HSt.in_ {B : Nat} {m : GMsg} {n : Nat} {e : Ending} {wt2 : Int} {ow2 : Bool} {hs2 : List WK} {hgs2 : List SM} (h : HSt w base E H nx wt ow vw ws vg gs nx wt2 ow2 hw hl hs2 hg hgs2 gb cs W) (hl0 : LR B nx wt ws hs gs hgs) (hB : B + 1 ≤ 1073741824)
    (hp : InPost W base E 0 1 nx wt ow vw ws vg gs m n e W')
    (hc : (inC m 0 1 nx ≠ 0 → wt2 = wt ∧ ow2 = ow ∧ hs2 = hs ∧ hgs2 = hgs) ∧ (inC m 0 1 nx = 0 → m.kind = 3 → wt2 = wt ∧ ow2 = ow ∧ hs2 = hs.dropWhile (ackB m.seq) ∧ hgs2 = hgs) ∧ (inC m 0 1 nx = 0 → m.kind ≠ 3 → m.seq ≠ wt → wt2 = wt ∧ ow2 = true ∧ hs2 = hs ∧ hgs2 = hgs) ∧ (inC m 0 1 nx = 0 → m.kind ≠ 3 → m.seq = wt → wt2 = wt + 1 ∧ ow2 = true ∧ hs2 = hs ∧ hgs2.map (·.m) = hgs.map (·.m) ++ [m])) :
    e = .returned (.int .i64 ((inC m 0 1 nx : Nat) : Int)) ∧ TwoSt base E H (B + 1) W' ∧ Below base w W' := by
  obtain ⟨he, hp⟩ := hp
  obtain ⟨g1, g2, g3, g4, g5, g6, g7, g8⟩ := hl0
  have hb : ∀ {W'}, Mod (EndF E vw vg) W W' → Below base w W' := fun hm => h.bel.trans (hm.below (fun g hg hf => by have := (h.t.e.flo g hf).1; omega) h.lo)
  refine ⟨he, ?_⟩
  rcases hp with ⟨h0, h1, h2⟩ | ⟨h0, hk, vw', h1, h2, h3⟩ | ⟨h0, hk, hs', h1, h2⟩ | ⟨h0, hk, hs', vg', A', c', h1, h2, h3⟩
  · obtain ⟨rfl, rfl, rfl, rfl⟩ := hc.1 h0
    exact ⟨⟨_, _, _, _, _, _, _, _, _, _, _, _, h.t.end_ h1 h2 (nearV_refl _ _), g1, g2, g3, g4, by omega, by omega, by omega, by omega⟩, hb h2⟩
  · obtain ⟨rfl, rfl, rfl, rfl⟩ := hc.2.1 h0 hk
    refine ⟨⟨_, _, _, _, _, _, _, _, _, _, _, _, h.t.end_ h1 h3 (nearV_refl _ _), ?_, g2, Nat.le_trans (List.dropWhile_sublist _).length_le g3, fun x hx => g4 x ((List.dropWhile_sublist _).mem hx), by omega, by omega, by omega, by omega⟩, hb h3⟩
    have e1 : ∀ l : List WK, (l.dropWhile (ackB m.seq)).map absW = (l.map absW).dropWhile (fun y => decide (y.1.seq < m.seq)) := fun l => by
      rw [List.dropWhile_map]
      rfl
    rw [e1, e1, g1]
  · obtain ⟨rfl, rfl, rfl, rfl⟩ := hc.2.2.1 h0 hk hs'
    exact ⟨⟨_, _, _, _, _, _, _, _, _, _, _, _, h.t.end_ h1 h2 (nearV_refl _ _), g1, g2, g3, g4, by omega, by omega, by omega, by omega⟩, hb h2⟩
  · obtain ⟨rfl, rfl, rfl, hg2⟩ := hc.2.2.2 h0 hk hs'
    refine ⟨⟨_, _, _, _, _, _, _, _, _, _, _, _, h.t.end_ h1 h3 h2, g1, ?_, g3, g4, by omega, by omega, ?_, by omega⟩, hb h3⟩
    · rw [List.map_append, g2, hg2]
      rfl
    · rw [List.length_append]
      simp only [List.length_cons, List.length_nil]
      omega
end
/-- the first waiting message of the half is dropped -/
theorem HalfAt.pop {W W' : World} {base H : Nat} {nx wt : Int} {ow : Bool} {g o c g2 o2 c2 : Nat} {hg : Value} {x : WK} {rest : List WK} {gs : List SM} (h : HalfAt W base H nx wt ow (.slice (some ⟨g, o, none⟩) (rest.length + 1) c) (.slice (some ⟨g2, o2, none⟩) (rest.length + 1) c2) (x :: rest) hg gs) {v1 v2 : Value} (e1 : v1 = .slice (some (if c = 1 then ⟨g, o, none⟩ else ⟨g, o + 6, none⟩)) rest.length (c - 1)) (e2 : v2 = .slice (some (if c2 = 1 then ⟨g2, o2, none⟩ else ⟨g2, o2 + 1, none⟩)) rest.length (c2 - 1)) (hm : Mod (fun k => k = H) W W') (hb : Blk W' H 31 #[.int .i64 nx, .int .i64 wt, v1, v2, hg, .bool ow]) :
    HalfAt W' base H nx wt ow v1 v2 rest hg gs ∧ (∀ k, v1.ownBlock = some k → (Value.slice (some ⟨g, o, none⟩) (rest.length + 1) c).ownBlock = some k) := by
  have r1 : OffRow W base 43 6 (.slice (some ⟨g, o, none⟩) (rest.length + 1) c) (rest.length + 1) (encH x ++ rest.flatMap encH) := h.rw
  have r2 : OffRow W base 3 1 (.slice (some ⟨g2, o2, none⟩) (rest.length + 1) c2) (rest.length + 1) (encL x ++ rest.flatMap encL) := h.rl
  obtain ⟨_, _, ea, _, p1⟩ := r1.pop
  cases ea
  obtain ⟨_, _, ea, _, p2⟩ := r2.pop
  cases ea
  rw [show (encH x ++ rest.flatMap encH).drop 6 = rest.flatMap encH from rfl, ← e1] at p1
  rw [show (encL x ++ rest.flatMap encL).drop 1 = rest.flatMap encL from rfl, ← e2] at p2
  have ho : ∀ k, v1.ownBlock = some k → (Value.slice (some ⟨g, o, none⟩) (rest.length + 1) c).ownBlock = some k := fun k hk => by
    rw [e1] at hk
    split at hk <;> exact hk
  refine ⟨h.mk' hm (fun k e => by rw [e]; exact h.lo) hb (p1.mod hm (fun k hk e => ?_)) (p2.mod hm (fun k hk e => ?_)) (hm.own h.rg (fun k cs _ hk e => ?_)) (fun y hy => .inl (List.mem_cons_of_mem _ hy)) (fun y hy => .inl hy) (fun k hk => h.ap k (ho k hk)), ho⟩
  · subst e
    obtain ⟨cs, hk'⟩ := p1.blk hk
    exact absurd (blk_type hk' h.box) (by decide)
  · subst e
    obtain ⟨cs, hk'⟩ := p2.blk hk
    exact absurd (blk_type hk' h.box) (by decide)
  · subst e
    exact absurd (blk_type hk h.box) (by decide)
theorem exec_slice1M {ev : Operand → Value} {o : Oper} {W : World} (x : Operand) (ho : o.op = .slice 23 x (some (.const (.int .i64 1))) none none) (g q n c : Nat) (hx : ev x = .slice (some ⟨g, q, none⟩) (n + 1) c) (hc : ev (.const (.int .i64 1)) = .int .i64 1 := by rfl) (hn : n + 1 ≤ c) :
    (execOp ev o).run Try.prog W = .ok (.value (.slice (some (if c = 1 then ⟨g, q, none⟩ else ⟨g, q + 6, none⟩)) n (c - 1))) W := by
  have hu : Try.prog.underlying 23 = some (.slice (Try.prog.elem 23)) := by kernel_rfl
  have hz : (sizeOf (Try.prog.elem 23)).run Try.prog W = .ok 6 W := by
    rw [show Try.prog.elem 23 = 43 from by kernel_rfl]
    go_simp
  have hr := run_slice_l W 23 (some ⟨g, q, none⟩) (n + 1) c hu .i64 1 (by omega) (by omega)
  rw [hz] at hr
  unfold execOp
  simp only [ho, hx, hc, Option.map_some, Option.map_none, Sem.run_bind, run_sliceAt_slice W _ _ _ _ _ hu, hr, Result.andThen_ok, Sem.run_pure, sliced, show (1 : Int).toNat = 1 from rfl, Nat.add_sub_cancel, Nat.one_mul, add_none]
  split <;> rfl
theorem exec_slice1L {ev : Operand → Value} {o : Oper} {W : World} (x : Operand) (ho : o.op = .slice 29 x (some (.const (.int .i64 1))) none none) (g q n c : Nat) (hx : ev x = .slice (some ⟨g, q, none⟩) (n + 1) c) (hc : ev (.const (.int .i64 1)) = .int .i64 1 := by rfl) (hn : n + 1 ≤ c) :
    (execOp ev o).run Try.prog W = .ok (.value (.slice (some (if c = 1 then ⟨g, q, none⟩ else ⟨g, q + 1, none⟩)) n (c - 1))) W := by
  have hu : Try.prog.underlying 29 = some (.slice (Try.prog.elem 29)) := by kernel_rfl
  have hz : (sizeOf (Try.prog.elem 29)).run Try.prog W = .ok 1 W := by
    rw [show Try.prog.elem 29 = 3 from by kernel_rfl]
    go_simp
  have hr := run_slice_l W 29 (some ⟨g, q, none⟩) (n + 1) c hu .i64 1 (by omega) (by omega)
  rw [hz] at hr
  unfold execOp
  simp only [ho, hx, hc, Option.map_some, Option.map_none, Sem.run_bind, run_sliceAt_slice W _ _ _ _ _ hu, hr, Result.andThen_ok, Sem.run_pure, sliced, show (1 : Int).toNat = 1 from rfl, Nat.add_sub_cancel, Nat.one_mul, add_none]
  split <;> rfl
end Go.Proofs.Ytpnefacignalpaa
