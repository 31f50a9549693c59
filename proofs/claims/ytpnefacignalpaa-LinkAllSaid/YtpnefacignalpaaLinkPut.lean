/- link.Put, walked. Conditions: those typed. -/
import Derived.Test.YtpnefacignalpaaLinkP
import Derived.Test.YtpnefacignalpaaMsgCheck
namespace Go.Proofs.Ytpnefacignalpaa
open Go.RowKit Go.Gy
set_option linter.unusedVariables false
set_option linter.unusedSimpArgs false
theorem exec_litI {ev : Operand → Value} {o : Oper} {W : World} (x : Operand) (ho : o.op = .buildSlice 68 1 #[(0, x)]) (k s d q t : Int) (A : Option Addr) (n c : Nat) (la : Int) (hx : ev x = .agg #[.int .i64 k, .int .i64 s, .int .i64 d, .int .i64 q, .int .u32 t, .slice A n c, .int .i64 la]) :
    (execOp ev o).run Try.prog W = .ok (.value (.slice (some ⟨W.heap.size, 0, none⟩) 1 1)) (W.alloc (.cells #[.int .i64 k, .int .i64 s, .int .i64 d, .int .i64 q, .int .u32 t, .slice A n c, .int .i64 la] 94)) := by
  unfold execOp
  simp only [ho, List.map_toArray, List.map_cons, List.map_nil, hx]
  go_simp
theorem exec_buildI {ev : Operand → Value} {o : Oper} {W : World} (x : Operand) (ho : o.op = .build 94 #[(0, x), (1, .const (.int .i64 (-1)))]) (k s d q t : Int) (A : Option Addr) (n c : Nat) (hx : ev x = .agg #[.int .i64 k, .int .i64 s, .int .i64 d, .int .i64 q, .int .u32 t, .slice A n c]) (hc : ev (.const (.int .i64 (-1))) = .int .i64 (-1) := by rfl) :
    (execOp ev o).run Try.prog W = .ok (.value (.agg #[.int .i64 k, .int .i64 s, .int .i64 d, .int .i64 q, .int .u32 t, .slice A n c, .int .i64 (-1)])) W := by
  unfold execOp
  simp only [ho, List.map_toArray, List.map_cons, List.map_nil, hx, hc]
  go_simp
theorem exec_build5 {ev : Operand → Value} {o : Oper} {W : World} (x0 x1 x2 x3 x5 : Operand) (ho : o.op = .build 43 #[(0, x0), (1, x1), (2, x2), (3, x3), (5, x5)]) (k s d q : Int) (A : Option Addr) (n c : Nat) (h0 : ev x0 = .int .i64 k) (h1 : ev x1 = .int .i64 s) (h2 : ev x2 = .int .i64 d) (h3 : ev x3 = .int .i64 q) (h5 : ev x5 = .slice A n c) :
    (execOp ev o).run Try.prog W = .ok (.value (.agg #[.int .i64 k, .int .i64 s, .int .i64 d, .int .i64 q, .int .u32 0, .slice A n c])) W := by
  unfold execOp
  simp only [ho, List.map_toArray, List.map_cons, List.map_nil, h0, h1, h2, h3, h5]
  go_simp
theorem box6' {W : World} {g : Nat} {t : TypeId} {a0 a1 a2 a3 a4 a5 : Value} (h : Blk W g t #[a0, a1, a2, a3, a4, a5]) (b0 b1 b2 b3 b4 b5 : Value) : Blk ((((((W.setCell ⟨g, 0, none⟩ b0).setCell ⟨g, 1, none⟩ b1).setCell ⟨g, 2, none⟩ b2).setCell ⟨g, 3, none⟩ b3).setCell ⟨g, 4, none⟩ b4).setCell ⟨g, 5, none⟩ b5) g t #[b0, b1, b2, b3, b4, b5] := by
  have := (((((h.set 0 b0).set 1 b1).set 2 b2).set 3 b3).set 4 b4).set 5 b5
  simpa using this
theorem bel6 (W : World) (g B : Nat) (hB : B ≤ g) (hg : B ≤ W.heap.size) (b0 b1 b2 b3 b4 b5 : Value) : Below B W ((((((W.setCell ⟨g, 0, none⟩ b0).setCell ⟨g, 1, none⟩ b1).setCell ⟨g, 2, none⟩ b2).setCell ⟨g, 3, none⟩ b3).setCell ⟨g, 4, none⟩ b4).setCell ⟨g, 5, none⟩ b5) :=
  ((((((Below.refl B W).setCell (p := ⟨g, 0, none⟩) hB b0).setCell (p := ⟨g, 1, none⟩) hB b1).setCell (p := ⟨g, 2, none⟩) hB b2).setCell (p := ⟨g, 3, none⟩) hB b3).setCell (p := ⟨g, 4, none⟩) hB b4).setCell (p := ⟨g, 5, none⟩) hB b5
theorem mod6' (W : World) (g : Nat) (b0 b1 b2 b3 b4 b5 : Value) : Mod (fun k => k = g) W ((((((W.setCell ⟨g, 0, none⟩ b0).setCell ⟨g, 1, none⟩ b1).setCell ⟨g, 2, none⟩ b2).setCell ⟨g, 3, none⟩ b3).setCell ⟨g, 4, none⟩ b4).setCell ⟨g, 5, none⟩ b5) :=
  ((((((Mod.refl (fun k => k = g) W).set (g := g) (fun _ => rfl) 0 b0).set (g := g) (fun _ => rfl) 1 b1).set (g := g) (fun _ => rfl) 2 b2).set (g := g) (fun _ => rfl) 3 b3).set (g := g) (fun _ => rfl) 4 b4).set (g := g) (fun _ => rfl) 5 b5
def PutR (w : World) (base E : Nat) (a b nx wt : Int) (ow : Bool) (vw vg : Value) (ws : List WK) (gs : List SM) (W : World) : Prop := EndAt W base E a b nx wt ow vw ws vg gs ∧ Below w.heap.size w W
theorem PutR.lasts {w : World} {base E : Nat} {a b nx wt : Int} {ow : Bool} {vw vg : Value} {ws : List WK} {gs : List SM} : Lasts (PutR w base E a b nx wt ow vw vg ws gs) := fun W W' h hb => ⟨h.1.below hb, h.2.trans (hb.mono h.2.size)⟩
/-- what the head's operations that are of one of several results yield -/
def PutSp (w : World) (kind a b nx : Int) (n : Nat) (cs : List Value) (i : Nat) (v : Value) (W : World) : Prop :=
  match i with
  | 14 => ∃ v', v = v' ∧ W.ownsRow w.heap.size 88 2 v' n cs
  | 15 => ∃ A' c', v = .agg #[.int .i64 kind, .int .i64 a, .int .i64 b, .int .i64 nx, .int .u32 0, .slice A' n c'] ∧ W.ownsRow w.heap.size 88 2 (.slice A' n c') n cs
  | 16 => ∃ g, v = .pointer (some ⟨g, 0, none⟩) ∧ w.heap.size ≤ g ∧ Blk W g 43 #[.int .i64 0, .int .i64 0, .int .i64 0, .int .i64 0, .int .u32 0, .slice none 0 0]
  | _ => True
theorem PutSp.lasts {w : World} {kind a b nx : Int} {n : Nat} {cs : List Value} : ∀ i v, Lasts (PutSp w kind a b nx n cs i v) := by
  intro i v W W' h hb
  unfold PutSp at h ⊢
  split at h
  · obtain ⟨v', e, ho⟩ := h
    exact ⟨v', e, own_below ho hb (Nat.le_refl _)⟩
  · obtain ⟨A', c', e, ho⟩ := h
    exact ⟨A', c', e, own_below ho hb (Nat.le_refl _)⟩
  · obtain ⟨g, e, h1, h2⟩ := h
    exact ⟨g, e, h1, h2.below hb h2.lt⟩
  · trivial
def PutSq (cs : Array Value) (i : Nat) (v : Value) (W : World) : Prop := i = 7 → ∃ gL, v = .slice (some ⟨gL, 0, none⟩) 1 1 ∧ Blk W gL 94 cs
theorem PutSq.lasts {cs : Array Value} : ∀ i v, Lasts (PutSq cs i v) := by
  intro i v W W' h hb e
  obtain ⟨g, e1, h2⟩ := h e
  exact ⟨g, e1, h2.below hb h2.lt⟩
/-- what Put answers -/
def putC (kind a b nx : Int) (l : List Cell) (n : Nat) : Nat := if kind = 3 then 1 else if msgF ⟨kind, a, b, nx, 0, l⟩ ≠ 0 then msgF ⟨kind, a, b, nx, 0, l⟩ else if n = 500 then 6 else 0
def PutPost (w : World) (base E : Nat) (a b nx wt : Int) (ow : Bool) (vw : Value) (ws : List WK) (vg : Value) (gs : List SM) (kind : Int) (l : List Cell) (n : Nat) (e : Ending) (w' : World) : Prop :=
  e = .returned (.int .i64 (putC kind a b nx l ws.length : Nat)) ∧
  ((putC kind a b nx l ws.length ≠ 0 ∧ EndAt w' base E a b nx wt ow vw ws vg gs ∧ Below w.heap.size w w') ∨
   (putC kind a b nx l ws.length = 0 ∧ ∃ vw' A' c', EndAt w' base E a b (nx + 1) wt ow vw' (ws ++ [(⟨⟨kind, a, b, nx, 0, l⟩, A', n, c'⟩, -1)]) vg gs ∧ NearV w vw vw' ∧ Mod (EndF E vw vg) w w'))
/-- a waiting message is added -/
theorem EndAt.app {W W' : World} {base E : Nat} {a b nx wt : Int} {ow : Bool} {vw vg v' : Value} {ws : List WK} {gs : List SM} {x : WK} (h : EndAt W base E a b nx wt ow vw ws vg gs) (hr : OffRow W' base 94 7 v' (ws.length + 1) (ws.flatMap encW ++ encW x)) (hm : Mod (fun k => vw.ownBlock = some k) W W') (hx : MOwn W base x.1) :
    EndAt (W'.setCell ⟨E, 3, none⟩ v') base E a b nx wt ow v' (ws ++ [x]) vg gs ∧ Mod (EndF E vw vg) W (W'.setCell ⟨E, 3, none⟩ v') := by
  have hbl : ∀ {t cs}, ∀ g, Blk W g t cs → t ≠ 94 → ¬ vw.ownBlock = some g := fun g hk ht hg => by
    obtain ⟨cs', hk'⟩ := h.rw.blk hg
    exact ht (blk_type hk hk')
  have hE := hm.blk h.box (hbl E h.box (by decide))
  have hS : Mod (fun g => g = E) W' (W'.setCell ⟨E, 3, none⟩ v') := (Mod.refl (fun g => g = E) W').set (g := E) (fun _ => rfl) 3 _
  have hM : Mod (EndF E vw vg) W (W'.setCell ⟨E, 3, none⟩ v') := (hm.mono (G := EndF E vw vg) (fun k _ h => Or.inr (Or.inl h))).set (g := E) (fun _ => Or.inl rfl) 3 _
  have hmo : ∀ s, MOwn W base s → MOwn (W'.setCell ⟨E, 3, none⟩ v') base s := fun s hs => ⟨hM.own hs.1 (fun g cs _ hk hf => by
    rcases h.typ hk hf with e | e | e <;> exact absurd e (by decide)), hs.2⟩
  refine ⟨⟨h.lo, hE.set 3 v', ?_, hS.own (hm.own h.rg (fun g cs _ hk => hbl g hk (by decide))) (fun g cs _ hk hf => ?_), fun y hy => ?_, fun y hy => hmo _ (h.mg y hy)⟩, hM⟩
  · rw [List.length_append, List.flatMap_append]
    refine (OffRow.mod (v := v') ?_ hS (fun g hg hf => ?_))
    · simpa using hr
    · subst hf
      obtain ⟨cs, hk⟩ := hr.blk hg
      exact absurd (blk_type hk hE) (by decide)
  · subst hf
    exact absurd (blk_type hk hE) (by decide)
  · rcases List.mem_append.1 hy with hy | hy
    · exact hmo _ (h.mw y hy)
    · rw [List.mem_singleton.1 hy]
      exact hmo _ hx
set_option maxRecDepth 100000 in
set_option maxHeartbeats 8000000 in
theorem put_any (w : World) (base E : Nat) (a b nx wt : Int) (ow : Bool) (vw vg : Value) (ws : List WK) (gs : List SM) (h : EndAt w base E a b nx wt ow vw ws vg gs) (hbase : base ≤ w.heap.size) (hws : ws.length ≤ 500) (hnx : 0 ≤ nx ∧ nx ≤ 4611686018427387904) (kind : Int) (A : Option Addr) (n c : Nat) (l : List Cell) (hM : MsgAt w w.heap.size ⟨kind, a, b, nx, 0, l⟩ A n c) :
    Calls Try.prog 27 #[.pointer (some ⟨E, 0, none⟩), .int .i64 kind, .slice A n c] w (PutPost w base E a b nx wt ow vw ws vg gs kind l n) := by
  obtain ⟨Aw, cw, hvw, hcw, _, hAw, _⟩ := h.rw.rd
  subst hvw
  obtain ⟨i0, hi0, hz0, hz1, hz2⟩ := info_parts info_item
  have HE := Lib.hid h
  have HM := Lib.hid hM
  have HCL := Lib.hid (fun W (hW : Below w.heap.size w W) => clone_cells W A n c l hM.none_ hM.len hM.bound ((hM.rd.below hW).more hW.size))
  clear h hM hAw
  go_enter Try.func27, Try.ntmps27
  go_upto_region 1 with (fail)
  refine wp_region_invK 17 (LstJ (fun i => ([some (.int .i64 kind), some (.pointer (some ⟨E, 0, none⟩)), some (.pointer (some ⟨E, 0, none⟩)), some (.pointer (some ⟨E, 0, none⟩)), some (.int .i64 a), some (.pointer (some ⟨E, 0, none⟩)), some (.pointer (some ⟨E, 0, none⟩)), some (.pointer (some ⟨E, 1, none⟩)), some (.int .i64 b), some (.pointer (some ⟨E, 0, none⟩)), some (.pointer (some ⟨E, 0, none⟩)), some (.pointer (some ⟨E, 2, none⟩)), some (.int .i64 nx), some (.slice A n c), none, none, none] : List (Option Value)).getD i none) (PutR w base E a b nx wt ow (.slice Aw ws.length cw) vg ws gs) (PutSp w kind a b nx n (l.flatMap encC))) (by kernel_rfl) (by kernel_rfl) (LstJ.start ⟨HE.out.below (Below.refl _ _).drew, (Below.refl _ _).drew⟩) ?_ ?_
  · intro i o hi ho s vs W hJ hs hdep
    have hE := hJ.r0
    rcases i with _ | _ | _ | _ | _ | _ | _ | _ | _ | _ | _ | _ | _ | _ | _ | _ | _ | i
    all_goals first | omega | skip
    all_goals (simp only [List.getElem?_cons_succ, List.getElem?_cons_zero, Option.some.injEq] at ho; subst ho)
    · refine StepJ.val (v := .int .i64 kind) rfl ?_ (hJ.same  rfl)
      clear hJ hdep hE
      unfold lexA
      simp only [putAll, preI, Nat.reduceLT, Nat.reduceAdd, decide_false, Bool.false_eq_true, if_false]
      go_simp
    · refine StepJ.val (v := .pointer (some ⟨E, 0, none⟩)) rfl ?_ (hJ.same  rfl)
      clear hJ hdep hE
      unfold lexA
      simp only [putAll, preI, Nat.reduceLT, Nat.reduceAdd, decide_true, decide_false, Bool.false_eq_true, if_true, if_false, Act.put, List.setIfInBounds_toArray, List.set_cons_zero, List.set_cons_succ]
      go_simp
    · have d1 : vs 1 = .pointer (some ⟨E, 0, none⟩) := hJ.dt 1 _ (hdep ⟨1, .data⟩ (by simp) rfl) rfl
      refine StepJ.val (v := .pointer (some ⟨E, 0, none⟩)) rfl ?_ (hJ.same  rfl)
      clear hJ hdep hE
      unfold lexA
      simp only [putAll, preI, Nat.reduceLT, Nat.reduceAdd, decide_true, decide_false, Bool.false_eq_true, if_true, if_false, Act.put, List.setIfInBounds_toArray, List.set_cons_zero, List.set_cons_succ]
      go_simp
    · have d2 : vs 2 = .pointer (some ⟨E, 0, none⟩) := hJ.dt 2 _ (hdep ⟨2, .data⟩ (by simp) rfl) rfl
      refine StepJ.val (v := .pointer (some ⟨E, 0, none⟩)) rfl ?_ (hJ.same  rfl)
      clear hJ hdep hE
      unfold lexA
      simp only [putAll, preI, Nat.reduceLT, Nat.reduceAdd, decide_true, decide_false, Bool.false_eq_true, if_true, if_false, Act.put, List.setIfInBounds_toArray, List.set_cons_zero, List.set_cons_succ]
      go_simp
    · have d3 : vs 3 = .pointer (some ⟨E, 0, none⟩) := hJ.dt 3 _ (hdep ⟨3, .data⟩ (by simp) rfl) rfl
      refine StepJ.val (v := .int .i64 a) rfl ?_ (hJ.same  rfl)
      have c0 := hE.1.box.cell 0 _ rfl
      have c1 := hE.1.box.cell 1 _ rfl
      have c2 := hE.1.box.cell 2 _ rfl
      have c3 := hE.1.box.cell 3 _ rfl
      clear hJ hdep hE
      unfold lexA
      simp only [putAll, preI, Nat.reduceLT, Nat.reduceAdd, decide_true, decide_false, Bool.false_eq_true, if_true, if_false, Act.put, List.setIfInBounds_toArray, List.set_cons_zero, List.set_cons_succ]
      go_simp
    · refine StepJ.val (v := .pointer (some ⟨E, 0, none⟩)) rfl ?_ (hJ.same  rfl)
      clear hJ hdep hE
      unfold lexA
      simp only [putAll, preI, Nat.reduceLT, Nat.reduceAdd, decide_true, decide_false, Bool.false_eq_true, if_true, if_false, Act.put, List.setIfInBounds_toArray, List.set_cons_zero, List.set_cons_succ]
      go_simp
    · have d5 : vs 5 = .pointer (some ⟨E, 0, none⟩) := hJ.dt 5 _ (hdep ⟨5, .data⟩ (by simp) rfl) rfl
      refine StepJ.val (v := .pointer (some ⟨E, 0, none⟩)) rfl ?_ (hJ.same  rfl)
      clear hJ hdep hE
      unfold lexA
      simp only [putAll, preI, Nat.reduceLT, Nat.reduceAdd, decide_true, decide_false, Bool.false_eq_true, if_true, if_false, Act.put, List.setIfInBounds_toArray, List.set_cons_zero, List.set_cons_succ]
      go_simp
    · have d6 : vs 6 = .pointer (some ⟨E, 0, none⟩) := hJ.dt 6 _ (hdep ⟨6, .data⟩ (by simp) rfl) rfl
      refine StepJ.val (v := .pointer (some ⟨E, 1, none⟩)) rfl ?_ (hJ.same  rfl)
      clear hJ hdep hE
      unfold lexA
      simp only [putAll, preI, Nat.reduceLT, Nat.reduceAdd, decide_true, decide_false, Bool.false_eq_true, if_true, if_false, Act.put, List.setIfInBounds_toArray, List.set_cons_zero, List.set_cons_succ]
      go_simp
    · have d7 : vs 7 = .pointer (some ⟨E, 1, none⟩) := hJ.dt 7 _ (hdep ⟨7, .data⟩ (by simp) rfl) rfl
      refine StepJ.val (v := .int .i64 b) rfl ?_ (hJ.same  rfl)
      have c0 := hE.1.box.cell 0 _ rfl
      have c1 := hE.1.box.cell 1 _ rfl
      have c2 := hE.1.box.cell 2 _ rfl
      have c3 := hE.1.box.cell 3 _ rfl
      clear hJ hdep hE
      unfold lexA
      simp only [putAll, preI, Nat.reduceLT, Nat.reduceAdd, decide_true, decide_false, Bool.false_eq_true, if_true, if_false, Act.put, List.setIfInBounds_toArray, List.set_cons_zero, List.set_cons_succ]
      go_simp
    · refine StepJ.val (v := .pointer (some ⟨E, 0, none⟩)) rfl ?_ (hJ.same  rfl)
      clear hJ hdep hE
      unfold lexA
      simp only [putAll, preI, Nat.reduceLT, Nat.reduceAdd, decide_true, decide_false, Bool.false_eq_true, if_true, if_false, Act.put, List.setIfInBounds_toArray, List.set_cons_zero, List.set_cons_succ]
      go_simp
    · have d9 : vs 9 = .pointer (some ⟨E, 0, none⟩) := hJ.dt 9 _ (hdep ⟨9, .data⟩ (by simp) rfl) rfl
      refine StepJ.val (v := .pointer (some ⟨E, 0, none⟩)) rfl ?_ (hJ.same  rfl)
      clear hJ hdep hE
      unfold lexA
      simp only [putAll, preI, Nat.reduceLT, Nat.reduceAdd, decide_true, decide_false, Bool.false_eq_true, if_true, if_false, Act.put, List.setIfInBounds_toArray, List.set_cons_zero, List.set_cons_succ]
      go_simp
    · have d10 : vs 10 = .pointer (some ⟨E, 0, none⟩) := hJ.dt 10 _ (hdep ⟨10, .data⟩ (by simp) rfl) rfl
      refine StepJ.val (v := .pointer (some ⟨E, 2, none⟩)) rfl ?_ (hJ.same  rfl)
      clear hJ hdep hE
      unfold lexA
      simp only [putAll, preI, Nat.reduceLT, Nat.reduceAdd, decide_true, decide_false, Bool.false_eq_true, if_true, if_false, Act.put, List.setIfInBounds_toArray, List.set_cons_zero, List.set_cons_succ]
      go_simp
    · have d11 : vs 11 = .pointer (some ⟨E, 2, none⟩) := hJ.dt 11 _ (hdep ⟨11, .data⟩ (by simp) rfl) rfl
      refine StepJ.val (v := .int .i64 nx) rfl ?_ (hJ.same  rfl)
      have c0 := hE.1.box.cell 0 _ rfl
      have c1 := hE.1.box.cell 1 _ rfl
      have c2 := hE.1.box.cell 2 _ rfl
      have c3 := hE.1.box.cell 3 _ rfl
      clear hJ hdep hE
      unfold lexA
      simp only [putAll, preI, Nat.reduceLT, Nat.reduceAdd, decide_true, decide_false, Bool.false_eq_true, if_true, if_false, Act.put, List.setIfInBounds_toArray, List.set_cons_zero, List.set_cons_succ]
      go_simp
    · refine StepJ.val (v := .slice A n c) rfl ?_ (hJ.same  rfl)
      clear hJ hdep hE
      unfold lexA
      simp only [putAll, preI, Nat.reduceLT, Nat.reduceAdd, decide_true, decide_false, Bool.false_eq_true, if_true, if_false, Act.put, List.setIfInBounds_toArray, List.set_cons_zero, List.set_cons_succ]
      go_simp
    · have d13 : vs 13 = .slice A n c := hJ.dt 13 _ (hdep ⟨13, .data⟩ (by simp) rfl) rfl
      have hBW := hE.2
      refine StepJ.call rfl ?_ ((HCL.out W hJ.r0.2).mono fun e W' ⟨v, he, ho, hb⟩ => ⟨v, he, hJ.some_ (hl0 := PutR.lasts) (hl := PutSp.lasts) rfl hb ?_⟩)
      · clear hJ hdep hE hBW
        unfold lexA
        simp only [putAll, preI, Nat.reduceLT, Nat.reduceAdd, decide_true, decide_false, Bool.false_eq_true, if_true, if_false, Act.put, List.setIfInBounds_toArray, List.set_cons_zero, List.set_cons_succ]
        go_simp
      · exact ⟨v, rfl, own_mono ho hBW.size⟩
    · have d0 : vs 0 = .int .i64 kind := hJ.dt 0 _ (hdep ⟨0, .data⟩ (by simp) rfl) rfl
      have d4 : vs 4 = .int .i64 a := hJ.dt 4 _ (hdep ⟨4, .data⟩ (by simp) rfl) rfl
      have d8 : vs 8 = .int .i64 b := hJ.dt 8 _ (hdep ⟨8, .data⟩ (by simp) rfl) rfl
      have d12 : vs 12 = .int .i64 nx := hJ.dt 12 _ (hdep ⟨12, .data⟩ (by simp) rfl) rfl
      obtain ⟨v14, d14, ho⟩ := hJ.sp 14 (hdep ⟨14, .data⟩ (by simp) rfl) rfl
      obtain ⟨A', c', rfl, _⟩ := own_rd ho
      refine StepJ.val (v := .agg #[.int .i64 kind, .int .i64 a, .int .i64 b, .int .i64 nx, .int .u32 0, .slice A' n c']) rfl ?_ (hJ.some_ (hl0 := PutR.lasts) (hl := PutSp.lasts) rfl (Below.refl _ _) ⟨A', c', rfl, ho⟩)
      clear hJ hdep hE ho
      refine exec_build5 (.tmp 9) (.tmp 13) (.tmp 17) (.tmp 21) (.tmp 23) rfl kind a b nx A' n c' ?_ ?_ ?_ ?_ ?_
      all_goals
        unfold lexA
        simp only [putAll, preI, Nat.reduceLT, Nat.reduceAdd, decide_true, decide_false, Bool.false_eq_true, if_true, if_false, Act.put, List.setIfInBounds_toArray, List.set_cons_zero, List.set_cons_succ]
        first | (rw [d0]; done) | (rw [d4]; done) | (rw [d8]; done) | (rw [d12]; done) | (rw [d14]; done) | (rw [d0]; rfl) | (rw [d4]; rfl) | (rw [d8]; rfl) | (rw [d12]; rfl) | (rw [d14]; rfl)
    · refine StepJ.val (v := .pointer (some ⟨W.heap.size, 0, none⟩)) (W' := W.alloc (.cells #[.int .i64 0, .int .i64 0, .int .i64 0, .int .i64 0, .int .u32 0, .slice none 0 0] 43)) rfl ?_ (hJ.some_ (hl0 := PutR.lasts) (hl := PutSp.lasts) rfl ((Below.refl _ _).alloc (Nat.le_refl _) _) ⟨W.heap.size, rfl, hE.2.size, Blk.new _ _ _⟩)
      clear hJ hdep hE
      unfold lexA
      simp only [putAll, preI, Nat.reduceLT, Nat.reduceAdd, decide_true, decide_false, Bool.false_eq_true, if_true, if_false, Act.put, List.setIfInBounds_toArray, List.set_cons_zero, List.set_cons_succ]
      go_simp
  · intro s vs W hall hJ
    obtain ⟨A', c', d15, ho⟩ := hJ.sp 15 (hall 15 (by omega)) rfl
    obtain ⟨g, d16, hg, hk⟩ := hJ.sp 16 (hall 16 (by omega)) rfl
    obtain ⟨hE, hB⟩ := hJ.r0
    have HO := Lib.hid ho
    have HG := Lib.hid hg
    have HK := Lib.hid hk
    have HE1 := Lib.hid hE
    have HB1 := Lib.hid hB
    have zf := fun i => hk.free i
    have z0 := hk.cell 0 _ rfl
    have z1 := hk.cell 1 _ rfl
    have z2 := hk.cell 2 _ rfl
    have z3 := hk.cell 3 _ rfl
    have z4 := hk.cell 4 _ rfl
    have z5 := hk.cell 5 _ rfl
    unfold lexA
    simp only [putAll, preI, Nat.reduceLT, Nat.reduceAdd, decide_true, decide_false, Bool.false_eq_true, if_true, if_false, Act.put, List.setIfInBounds_toArray, List.set_cons_zero, List.set_cons_succ, List.drop_succ_cons, List.drop_zero]
    rw [d15, d16]
    generalize vs 0 = e0
    generalize vs 1 = e1
    generalize vs 2 = e2
    generalize vs 3 = e3
    generalize vs 4 = e4
    generalize vs 5 = e5
    generalize vs 6 = e6
    generalize vs 7 = e7
    generalize vs 8 = e8
    generalize vs 9 = e9
    generalize vs 10 = e10
    generalize vs 11 = e11
    generalize vs 12 = e12
    generalize vs 13 = e13
    generalize vs 14 = e14
    clear hJ hall ho hg hk hE hB d15 d16
    go_upto_region 2 with (fail)
    have hk3 := box6' HK.out (.int .i64 kind) (.int .i64 a) (.int .i64 b) (.int .i64 nx) (.int .u32 0) (.slice A' n c')
    have hb3 := HB1.out.trans (bel6 W g w.heap.size HG.out HB1.out.size (.int .i64 kind) (.int .i64 a) (.int .i64 b) (.int .i64 nx) (.int .u32 0) (.slice A' n c'))
    have ho3 := (mod6' W g (.int .i64 kind) (.int .i64 a) (.int .i64 b) (.int .i64 nx) (.int .u32 0) (.slice A' n c')).own HO.out (fun g' cs _ hk e => by
      subst e
      exact absurd (blk_type hk HK.out) (by decide))
    generalize (((((W.setCell ⟨g, 0, none⟩ (.int .i64 kind)).setCell ⟨g, 1, none⟩ (.int .i64 a)).setCell ⟨g, 2, none⟩ (.int .i64 b)).setCell ⟨g, 3, none⟩ (.int .i64 nx)).setCell ⟨g, 4, none⟩ (.int .u32 0)).setCell ⟨g, 5, none⟩ (.slice A' n c') = w3 at hk3 hb3 ho3 ⊢
    have hE3 := HE.out.below hb3
    obtain ⟨F0, hF0⟩ : ∃ F0, F0 = msgF ⟨kind, a, b, nx, 0, l⟩ := ⟨_, rfl⟩
    have HCK := Lib.hid (show Calls Try.prog 33 #[.agg #[.int .i64 kind, .int .i64 a, .int .i64 b, .int .i64 nx, .int .u32 0, .slice A' n c']] w3 (fun e w' => e = .returned (.int .i64 (F0 : Int)) ∧ Below w3.heap.size w3 w') from by
      rw [hF0]
      exact check_any w3 ⟨kind, a, b, nx, 0, l⟩ A' n c' (MsgAt.of_own ho3 HM.out.len HM.out.bound))
    have HPC := Lib.hid (show putC kind a b nx l ws.length = (if kind = 3 then 1 else if F0 ≠ 0 then F0 else if ws.length = 500 then 6 else 0) from by
      unfold putC
      rw [← hF0])
    have HF0 := Lib.hid hF0
    have HK3 := Lib.hid hk3
    have HB3' := Lib.hid hb3
    have HO3 := Lib.hid ho3
    have HE3' := Lib.hid hE3
    have z0 := hk3.cell 0 _ rfl
    have z1 := hk3.cell 1 _ rfl
    have z2 := hk3.cell 2 _ rfl
    have z3 := hk3.cell 3 _ rfl
    have z4 := hk3.cell 4 _ rfl
    have z5 := hk3.cell 5 _ rfl
    clear hk3 hb3 ho3 hE3 hF0 HK HG HO HB1
    by_cases hk3 : kind = 3
    · have HP := Lib.hid (HPC.out.trans (if_pos hk3))
      have hkq : (kind == 3) = true := by simpa using hk3
      clear hk3 HPC
      go_wp2_with fail
      go_ret
      exact ⟨by rw [HP.out]; rfl, .inl ⟨by rw [HP.out]; decide, HE3'.out, HB3'.out⟩⟩
    · have hkq : (kind == 3) = false := by simpa using hk3
      have HPC2 := Lib.hid (HPC.out.trans (if_neg hk3))
      clear hk3 HPC
      go_wp2_with fail
      refine HCK.out.mono ?_
      rintro e w4 ⟨rfl, hb4⟩
      have HB4 := Lib.hid (HB3'.out.trans (hb4.mono HB3'.out.size))
      have HE4 := Lib.hid (HE3'.out.below hb4)
      have HK4 := Lib.hid (HK3.out.below hb4 HK3.out.lt)
      have HO4 := Lib.hid (own_below HO3.out hb4 (Nat.le_refl _))
      clear hb4 HB3' HE3' HK3 HO3 z0 z1 z2 z3 z4 z5 HCK
      by_cases hf0 : F0 = 0
      · subst hf0
        have c2 := HE4.out.box.cell 2 _ rfl
        have c3 := HE4.out.box.cell 3 _ rfl
        have zf := fun i => HE4.out.box.free i
        by_cases h5 : ws.length = 500
        · have HP := Lib.hid (HPC2.out.trans ((if_neg (by simp)).trans (if_pos h5)))
          have h5q : ((ws.length : Int) == 500) = true := by simp; omega
          clear h5 HPC2
          go_wp2_with fail
          go_ret
          exact ⟨by rw [HP.out]; rfl, .inl ⟨by rw [HP.out]; decide, HE4.out, HB4.out⟩⟩
        · have HP := Lib.hid (HPC2.out.trans ((if_neg (by simp)).trans (if_neg h5)))
          have h5q : ((ws.length : Int) == 500) = false := by simp; omega
          have hwn : IntKind.i64.wrap (nx + 1) = nx + 1 := by rw [IntKind.wrap_i64]; omega
          have hn400 : n ≤ 400 := by
            have := (cellsF_zero (msgF_zero HF0.out.symm).2).1
            rw [← HM.out.len]
            exact this
          clear h5 HPC2
          go_upto_region 10 with (fail)
          obtain ⟨hE5, hm5⟩ := HE4.out.put (k := 2) (u := .int .i64 (nx + 1)) (nx' := nx + 1) (wt' := wt) (ow' := ow) rfl
          have hk5 := hm5.blk HK4.out (fun e => by
            have hk := HK4.out
            rw [e] at hk
            exact absurd (blk_type hk HE4.out.box) (by decide))
          have ho5 := hm5.own HO4.out (fun g' cs _ hk e => by
            subst e
            exact absurd (blk_type hk HE4.out.box) (by decide))
          generalize w4.setCell ⟨E, 2, none⟩ (.int .i64 (nx + 1)) = w5 at hE5 hm5 hk5 ho5 ⊢
          have HE3 := Lib.hid hE5
          have HK5 := Lib.hid hk5
          have HB3 := Lib.hid (Nat.le_trans (Nat.le_trans hbase HB4.out.size) hm5.size)
          have HX := Lib.hid (show MOwn w5 base ⟨⟨kind, a, b, nx, 0, l⟩, A', n, c'⟩ from ⟨own_mono ho5 hbase, HM.out.len, hn400⟩)
          have HM5 := Lib.hid hm5
          clear hE5 hm5 hk5 ho5 c2 c3 zf
          refine wp_region_invK 11 (LapJ (fun i => ([some (.pointer (some ⟨E, 0, none⟩)), some (.pointer (some ⟨E, 0, none⟩)), some (.pointer (some ⟨E, 0, none⟩)), some (.pointer (some ⟨E, 3, none⟩)), some (.slice Aw ws.length cw), some (.agg #[.int .i64 kind, .int .i64 a, .int .i64 b, .int .i64 nx, .int .u32 0, .slice A' n c']), some (.agg #[.int .i64 kind, .int .i64 a, .int .i64 b, .int .i64 nx, .int .u32 0, .slice A' n c', .int .i64 (-1)]), none, none, some (.pointer (some ⟨E, 0, none⟩)), some (.pointer (some ⟨E, 3, none⟩))] : List (Option Value)).getD i none) [(7, 8)] 8 (fun W => Below w5.heap.size w5 W) (PutSq #[.int .i64 kind, .int .i64 a, .int .i64 b, .int .i64 nx, .int .u32 0, .slice A' n c', .int .i64 (-1)]) (fun v W => OffRow W base 94 7 v (ws.length + 1) (ws.flatMap encW ++ encW (⟨⟨kind, a, b, nx, 0, l⟩, A', n, c'⟩, -1)) ∧ Mod (fun k => (Value.slice Aw ws.length cw).ownBlock = some k) w5 W ∧ NearV w5 (.slice Aw ws.length cw) v)) (by kernel_rfl) (by kernel_rfl) (LapJ.start (Below.refl _ _).drew) ?_ ?_
          · intro i o hi ho s vs W hJ hs hdep
            have hE : Blk W E 70 #[.int .i64 a, .int .i64 b, .int .i64 (nx + 1), .slice Aw ws.length cw, .int .i64 wt, vg, .bool ow] ∧ Blk W g 43 #[.int .i64 kind, .int .i64 a, .int .i64 b, .int .i64 nx, .int .u32 0, .slice A' n c'] := hJ.all (X := fun W => Blk W E 70 #[.int .i64 a, .int .i64 b, .int .i64 (nx + 1), .slice Aw ws.length cw, .int .i64 wt, vg, .bool ow] ∧ Blk W g 43 #[.int .i64 kind, .int .i64 a, .int .i64 b, .int .i64 nx, .int .u32 0, .slice A' n c']) (fun W h => ⟨HE3.out.box.below h HE3.out.box.lt, HK5.out.below h HK5.out.lt⟩) (fun v W h => ⟨h.2.1.blk HE3.out.box (fun hg => by
              obtain ⟨cs', hk'⟩ := HE3.out.rw.blk hg
              exact absurd (blk_type hk' HE3.out.box) (by decide)), h.2.1.blk HK5.out (fun hg => by
              obtain ⟨cs', hk'⟩ := HE3.out.rw.blk hg
              exact absurd (blk_type hk' HK5.out) (by decide))⟩)
            rcases i with _ | _ | _ | _ | _ | _ | _ | _ | _ | _ | _ | i
            all_goals first | omega | skip
            all_goals (simp only [List.getElem?_cons_succ, List.getElem?_cons_zero, Option.some.injEq] at ho; subst ho)
            · refine StepJ.val (v := .pointer (some ⟨E, 0, none⟩)) rfl ?_ (hJ.same (by omega) (by simp) rfl)
              clear hJ hdep hE
              unfold lexA
              simp only [putAll, preI, Nat.reduceLT, Nat.reduceAdd, decide_false, Bool.false_eq_true, if_false]
              go_simp
            · refine StepJ.val (v := .pointer (some ⟨E, 0, none⟩)) rfl ?_ (hJ.same (by omega) (by simp) rfl)
              clear hJ hdep hE
              unfold lexA
              simp only [putAll, preI, Nat.reduceLT, Nat.reduceAdd, decide_true, decide_false, Bool.false_eq_true, if_true, if_false, Act.put, List.setIfInBounds_toArray, List.set_cons_zero, List.set_cons_succ]
              go_simp
            · have d1 : vs 1 = .pointer (some ⟨E, 0, none⟩) := hJ.dt 1 _ (hdep ⟨1, .data⟩ (by simp) rfl) rfl
              refine StepJ.val (v := .pointer (some ⟨E, 0, none⟩)) rfl ?_ (hJ.same (by omega) (by simp) rfl)
              clear hJ hdep hE
              unfold lexA
              simp only [putAll, preI, Nat.reduceLT, Nat.reduceAdd, decide_true, decide_false, Bool.false_eq_true, if_true, if_false, Act.put, List.setIfInBounds_toArray, List.set_cons_zero, List.set_cons_succ]
              go_simp
            · have d2 : vs 2 = .pointer (some ⟨E, 0, none⟩) := hJ.dt 2 _ (hdep ⟨2, .data⟩ (by simp) rfl) rfl
              refine StepJ.val (v := .pointer (some ⟨E, 3, none⟩)) rfl ?_ (hJ.same (by omega) (by simp) rfl)
              clear hJ hdep hE
              unfold lexA
              simp only [putAll, preI, Nat.reduceLT, Nat.reduceAdd, decide_true, decide_false, Bool.false_eq_true, if_true, if_false, Act.put, List.setIfInBounds_toArray, List.set_cons_zero, List.set_cons_succ]
              go_simp
            · have d3 : vs 3 = .pointer (some ⟨E, 3, none⟩) := hJ.dt 3 _ (hdep ⟨3, .data⟩ (by simp) rfl) rfl
              refine StepJ.val (v := .slice Aw ws.length cw) rfl ?_ (hJ.same (by omega) (by simp) rfl)
              have c3 := hE.1.cell 3 _ rfl
              have z0 := hE.2.cell 0 _ rfl
              have z1 := hE.2.cell 1 _ rfl
              have z2 := hE.2.cell 2 _ rfl
              have z3 := hE.2.cell 3 _ rfl
              have z4 := hE.2.cell 4 _ rfl
              have z5 := hE.2.cell 5 _ rfl
              clear hJ hdep hE
              unfold lexA
              simp only [putAll, preI, Nat.reduceLT, Nat.reduceAdd, decide_true, decide_false, Bool.false_eq_true, if_true, if_false, Act.put, List.setIfInBounds_toArray, List.set_cons_zero, List.set_cons_succ]
              go_simp
            · refine StepJ.val (v := .agg #[.int .i64 kind, .int .i64 a, .int .i64 b, .int .i64 nx, .int .u32 0, .slice A' n c']) rfl ?_ (hJ.same (by omega) (by simp) rfl)
              have c3 := hE.1.cell 3 _ rfl
              have z0 := hE.2.cell 0 _ rfl
              have z1 := hE.2.cell 1 _ rfl
              have z2 := hE.2.cell 2 _ rfl
              have z3 := hE.2.cell 3 _ rfl
              have z4 := hE.2.cell 4 _ rfl
              have z5 := hE.2.cell 5 _ rfl
              clear hJ hdep hE
              unfold lexA
              simp only [putAll, preI, Nat.reduceLT, Nat.reduceAdd, decide_true, decide_false, Bool.false_eq_true, if_true, if_false, Act.put, List.setIfInBounds_toArray, List.set_cons_zero, List.set_cons_succ]
              go_simp
            · have d5 : vs 5 = .agg #[.int .i64 kind, .int .i64 a, .int .i64 b, .int .i64 nx, .int .u32 0, .slice A' n c'] := hJ.dt 5 _ (hdep ⟨5, .data⟩ (by simp) rfl) rfl
              refine StepJ.val (v := .agg #[.int .i64 kind, .int .i64 a, .int .i64 b, .int .i64 nx, .int .u32 0, .slice A' n c', .int .i64 (-1)]) rfl ?_ (hJ.same (by omega) (by simp) rfl)
              clear hJ hdep hE
              refine exec_buildI (.tmp 50) rfl kind a b nx 0 A' n c' ?_
              unfold lexA
              simp only [putAll, preI, Nat.reduceLT, Nat.reduceAdd, decide_true, decide_false, Bool.false_eq_true, if_true, if_false, Act.put, List.setIfInBounds_toArray, List.set_cons_zero, List.set_cons_succ]
              rw [d5]
              rfl
            · have h8 : s 8 = false := by
                cases e : s 8 with
                | false => rfl
                | true => exact absurd (hJ.w2 (7, 8) (by simp) e) (by simp [hs])
              have d6 : vs 6 = .agg #[.int .i64 kind, .int .i64 a, .int .i64 b, .int .i64 nx, .int .u32 0, .slice A' n c', .int .i64 (-1)] := hJ.dt 6 _ (hdep ⟨6, .data⟩ (by simp) rfl) rfl
              refine StepJ.val (v := .slice (some ⟨W.heap.size, 0, none⟩) 1 1) (W' := W.alloc (.cells #[.int .i64 kind, .int .i64 a, .int .i64 b, .int .i64 nx, .int .u32 0, .slice A' n c', .int .i64 (-1)] 94)) rfl ?_ (hJ.some_ h8 (hl0 := fun W W' h hb => h.trans (hb.mono h.size)) (hl := PutSq.lasts) (by omega) (by simp) rfl ((Below.refl _ _).alloc (Nat.le_refl _) _) (fun _ => ⟨W.heap.size, rfl, Blk.new _ _ _⟩))
              clear hJ hdep hE
              refine exec_litI (.tmp 51) rfl kind a b nx 0 A' n c' (-1) ?_
              unfold lexA
              simp only [putAll, preI, Nat.reduceLT, Nat.reduceAdd, decide_true, decide_false, Bool.false_eq_true, if_true, if_false, Act.put, List.setIfInBounds_toArray, List.set_cons_zero, List.set_cons_succ]
              rw [d6]
              rfl
            · have d4 : vs 4 = .slice Aw ws.length cw := hJ.dt 4 _ (hdep ⟨4, .data⟩ (by simp) rfl) rfl
              obtain ⟨hbW, hsp⟩ := hJ.w0 hs
              obtain ⟨gL, d7, hkL⟩ := hsp 7 (hdep ⟨7, .data⟩ (by simp) rfl) rfl rfl
              refine StepJ.app rfl (exec_appendO (.tmp 49) (.tmp 52) 68 rfl base 94 i0 (.agg #[.int .i64 0, .int .i64 0, .int .i64 0, .int .i64 0, .int .u32 0, .slice none 0 0, .int .i64 0]) 7 72 Try.underlying68 hi0 hz0 hz1 hz2 rfl (by omega) (.slice Aw ws.length cw) ws.length (ws.flatMap encW) ?_ (HE3.out.rw.below hbW) gL #[.int .i64 kind, .int .i64 a, .int .i64 b, .int .i64 nx, .int .u32 0, .slice A' n c', .int .i64 (-1)] ?_ hkL rfl (by simp [Value.oneCell']) (by unfold maxLen; omega) (by omega) (Nat.le_trans HB3.out hbW.size)) (fun vn Wn ⟨hon, hgn, hnn⟩ => hJ.app (by simp; exact hdep ⟨7, .data⟩ (by simp) rfl) rfl ⟨hon, (Mod.of_below (F := fun k => (Value.slice Aw ws.length cw).ownBlock = some k) hbW).trans hgn (fun _ _ h => h), fun g hg => (hnn g hg).elim .inl (fun h => .inr (Nat.le_trans hbW.size h))⟩)
              · clear hJ hdep hE hsp hkL hbW
                unfold lexA
                simp only [putAll, preI, Nat.reduceLT, Nat.reduceAdd, decide_true, decide_false, Bool.false_eq_true, if_true, if_false, Act.put, List.setIfInBounds_toArray, List.set_cons_zero, List.set_cons_succ]
                rw [d4]
                rfl
              · clear hJ hdep hE hsp hkL hbW
                unfold lexA
                simp only [putAll, preI, Nat.reduceLT, Nat.reduceAdd, decide_true, decide_false, Bool.false_eq_true, if_true, if_false, Act.put, List.setIfInBounds_toArray, List.set_cons_zero, List.set_cons_succ]
                rw [d7]
                rfl
            · have d0 : vs 0 = .pointer (some ⟨E, 0, none⟩) := hJ.dt 0 _ (hdep ⟨0, .data⟩ (by simp) rfl) rfl
              refine StepJ.val (v := .pointer (some ⟨E, 0, none⟩)) rfl ?_ (hJ.same (by omega) (by simp) rfl)
              clear hJ hdep hE
              unfold lexA
              simp only [putAll, preI, Nat.reduceLT, Nat.reduceAdd, decide_true, decide_false, Bool.false_eq_true, if_true, if_false, Act.put, List.setIfInBounds_toArray, List.set_cons_zero, List.set_cons_succ]
              go_simp
            · have d9 : vs 9 = .pointer (some ⟨E, 0, none⟩) := hJ.dt 9 _ (hdep ⟨9, .data⟩ (by simp) rfl) rfl
              refine StepJ.val (v := .pointer (some ⟨E, 3, none⟩)) rfl ?_ (hJ.same (by omega) (by simp) rfl)
              clear hJ hdep hE
              unfold lexA
              simp only [putAll, preI, Nat.reduceLT, Nat.reduceAdd, decide_true, decide_false, Bool.false_eq_true, if_true, if_false, Act.put, List.setIfInBounds_toArray, List.set_cons_zero, List.set_cons_succ]
              go_simp
          · intro s vs W hall hJ
            obtain ⟨hon, hmn, hnn⟩ := hJ.w1 (hall 8 (by omega))
            obtain ⟨A8, c8, d8, _⟩ := hon.rd
            rw [d8] at hon hnn
            have hE8 := hmn.blk HE3.out.box (fun hg => by
              obtain ⟨cs', hk'⟩ := HE3.out.rw.blk hg
              exact absurd (blk_type hk' HE3.out.box) (by decide))
            have y0 := hE8.cell 3 _ rfl
            have y1 := hE8.free 3
            have d10 : vs 10 = .pointer (some ⟨E, 3, none⟩) := hJ.dt 10 _ (hall 10 (by omega)) rfl
            obtain ⟨hfin, hmf⟩ := HE3.out.app hon hmn HX.out
            have HX8 := Lib.hid (show PutPost w base E a b nx wt ow (.slice Aw ws.length cw) ws vg gs kind l n (.returned (.int .i64 ((0 : Nat) : Int))) (W.setCell ⟨E, 3, none⟩ (.slice A8 (ws.length + 1) c8)) from ⟨by rw [HP.out], .inr ⟨HP.out, _, A', c', hfin, fun g hg => (hnn g hg).elim .inl (fun h => .inr (Nat.le_trans (Nat.le_trans HB4.out.size HM5.out.size) h)), ((Mod.of_below (F := EndF E (.slice Aw ws.length cw) vg) HB4.out).trans HM5.out (fun k _ e => Or.inl e)).trans hmf (fun k _ h => h)⟩⟩)
            clear hJ hall hon hnn hmn hE8 hfin hmf
            unfold lexA
            simp only [putAll, preI, Nat.reduceLT, Nat.reduceAdd, decide_true, decide_false, Bool.false_eq_true, if_true, if_false, Act.put, List.setIfInBounds_toArray, List.set_cons_zero, List.set_cons_succ, List.drop_succ_cons, List.drop_zero]
            rw [d8, d10]
            go_wp2_with fail
            go_ret
            exact HX8.out
      · have HP := Lib.hid (HPC2.out.trans (if_pos hf0))
        have hf2 : ((F0 : Int) != 0) = true := by simp; omega
        have hf3 : ((F0 : Int) == 0) = false := by simp; omega
        go_wp2_with fail
        go_ret
        exact ⟨by rw [HP.out]; rfl, .inl ⟨by rw [HP.out]; exact hf0, HE4.out, HB4.out⟩⟩
end Go.Proofs.Ytpnefacignalpaa
