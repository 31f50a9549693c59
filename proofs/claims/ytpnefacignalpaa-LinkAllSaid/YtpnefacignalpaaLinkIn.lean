/- link.In, walked. Conditions: those typed. -/
import Derived.Test.YtpnefacignalpaaLinkPut
namespace Go.Proofs.Ytpnefacignalpaa
open Go.RowKit Go.Gy
set_option linter.unusedVariables false
set_option linter.unusedSimpArgs false
section
variable {P : Program} {ops : Array Oper} {rest : List Oper} {o : Oper} {a : Act} {w w' : World} {Q : Exit → Act → World → Prop}
/-- one operation, its value said -/
theorem wpList_val2 {v : Value} (hgd : o.guard = none) (h : (execOp a.eval o).run P w = .ok (.value v) w') (hk : wpList P ops Q rest (a.put o.dst v) w') : wpList P ops Q (o :: rest) a w :=
  wpList_plain hgd fun _ hK => by
    unfold Oper.wp
    rw [h]
    exact hK _ _ hk
end
/-- what In answers -/
def inC (m : GMsg) (a b nx : Int) : Nat := if msgF m ≠ 0 then msgF m else if m.src ≠ b ∨ m.dst ≠ a then 16 else if m.kind = 3 ∧ nx < m.seq then 9 else 0
def ackB (q : Int) (x : WK) : Bool := decide (x.1.m.seq < q)
def InPost (w : World) (base E : Nat) (a b nx wt : Int) (ow : Bool) (vw : Value) (ws : List WK) (vg : Value) (gs : List SM) (m : GMsg) (n : Nat) (e : Ending) (w' : World) : Prop :=
  e = .returned (.int .i64 (inC m a b nx : Nat)) ∧
  ((inC m a b nx ≠ 0 ∧ EndAt w' base E a b nx wt ow vw ws vg gs ∧ Mod (EndF E vw vg) w w') ∨
   (inC m a b nx = 0 ∧ m.kind = 3 ∧ ∃ vw', EndAt w' base E a b nx wt ow vw' (ws.dropWhile (ackB m.seq)) vg gs ∧ (∀ k, vw'.ownBlock = some k → vw.ownBlock = some k) ∧ Mod (EndF E vw vg) w w') ∨
   (inC m a b nx = 0 ∧ m.kind ≠ 3 ∧ m.seq ≠ wt ∧ EndAt w' base E a b nx wt true vw ws vg gs ∧ Mod (EndF E vw vg) w w') ∨
   (inC m a b nx = 0 ∧ m.kind ≠ 3 ∧ m.seq = wt ∧ ∃ vg' A' c', EndAt w' base E a b nx (wt + 1) true vw ws vg' (gs ++ [⟨m, A', n, c'⟩]) ∧ NearV w vg vg' ∧ Mod (EndF E vw vg) w w'))
structure InSt (w : World) (F : Nat → Prop) (base E : Nat) (a b nx wt : Int) (ow : Bool) (vw : Value) (ws : List WK) (vg : Value) (gs : List SM) (gb : Nat) (cs : Array Value) (W : World) : Prop where
  e : EndAt W base E a b nx wt ow vw ws vg gs
  bx : Blk W gb 43 cs
  md : Mod F w W
  ap : vg.ownBlock ≠ some gb
section
variable {w W W' : World} {F : Nat → Prop} {base E gb : Nat} {a b nx wt : Int} {ow : Bool} {vw vg : Value} {ws : List WK} {gs : List SM} {cs : Array Value}
theorem InSt.below (h : InSt w F base E a b nx wt ow vw ws vg gs gb cs W) (hb : Below W.heap.size W W') : InSt w F base E a b nx wt ow vw ws vg gs gb cs W' := ⟨h.e.below hb, h.bx.below hb h.bx.lt, h.md.call hb, h.ap⟩
theorem InSt.put {u : Value} {k : Nat} {nx' wt' : Int} {ow' : Bool} (h : InSt w F base E a b nx wt ow vw ws vg gs gb cs W) (hF : F E) (hc : (#[.int .i64 a, .int .i64 b, .int .i64 nx, vw, .int .i64 wt, vg, .bool ow] : Array Value).setIfInBounds k u = #[.int .i64 a, .int .i64 b, .int .i64 nx', vw, .int .i64 wt', vg, .bool ow']) : InSt w F base E a b nx' wt' ow' vw ws vg gs gb cs (W.setCell ⟨E, k, none⟩ u) := by
  obtain ⟨h1, h2⟩ := h.e.put hc
  exact ⟨h1, h2.blk h.bx (fun e => by
    have hk := h.bx
    rw [e] at hk
    exact absurd (blk_type hk h.e.box) (by decide)), h.md.set (fun _ => hF) k u, h.ap⟩
end
theorem cell_lasts (p : Addr) (v : Value) : Lasts (fun W => W.cell? p = some v) := fun W W' h hb => (World.cell?_of_block (hb.block p.block (World.block_lt_of_cell? W p h))).trans h
/-- the first waiting message is dropped -/
theorem InSt.pop {w W : World} {F : Nat → Prop} {base E gb : Nat} {a b nx wt : Int} {ow : Bool} {A : Option Addr} {n c : Nat} {vg : Value} {x : WK} {ws : List WK} {gs : List SM} {cs : Array Value} (h : InSt w F base E a b nx wt ow (.slice A (n + 1) c) (x :: ws) vg gs gb cs W) (hn : ws.length = n) (hF : F E) : ∃ g o, A = some ⟨g, o, none⟩ ∧ 0 < c ∧ InSt w F base E a b nx wt ow (.slice (some (if c = 1 then ⟨g, o, none⟩ else ⟨g, o + 7, none⟩)) n (c - 1)) ws vg gs gb cs (W.setCell ⟨E, 3, none⟩ (.slice (some (if c = 1 then ⟨g, o, none⟩ else ⟨g, o + 7, none⟩)) n (c - 1))) := by
  subst hn
  obtain ⟨⟨h1, h2, h3, h4, h5, h6⟩, hbx, hmd, hap⟩ := h
  have hr : OffRow W base 94 7 (.slice A (ws.length + 1) c) (ws.length + 1) (encW x ++ ws.flatMap encW) := by
    rw [List.flatMap_cons, List.length_cons] at h3
    exact h3
  obtain ⟨g, o, rfl, hc, hp⟩ := hr.pop
  refine ⟨g, o, rfl, hc, ?_⟩
  rw [show (encW x ++ ws.flatMap encW).drop 7 = ws.flatMap encW from rfl] at hp
  generalize hv : (Value.slice (some (if c = 1 then (⟨g, o, none⟩ : Addr) else ⟨g, o + 7, none⟩)) ws.length (c - 1)) = v' at hp ⊢
  have hS : Mod (fun k => k = E) W (W.setCell ⟨E, 3, none⟩ v') := (Mod.refl (fun k => k = E) W).set (g := E) (fun _ => rfl) 3 _
  have hmo : ∀ s, MOwn W base s → MOwn (W.setCell ⟨E, 3, none⟩ v') base s := fun s hs => ⟨hS.own hs.1 (fun g cs _ hk hf => by
    subst hf
    exact absurd (blk_type hk h2) (by decide)), hs.2⟩
  exact ⟨⟨h1, h2.set 3 v', hp.mod hS (fun g hg hf => by
    subst hf
    obtain ⟨cs, hk⟩ := hp.blk hg
    exact absurd (blk_type hk h2) (by decide)), hS.own h4 (fun g cs _ hk hf => by
    subst hf
    exact absurd (blk_type hk h2) (by decide)), fun y hy => hmo _ (h5 y (List.mem_cons_of_mem _ hy)), fun y hy => hmo _ (h6 y hy)⟩, hS.blk hbx (fun e => by
    subst e
    exact absurd (blk_type hbx h2) (by decide)), hmd.set (fun _ => hF) 3 _, hap⟩
def InSp (mk ms mt mq mc : Int) (n base : Nat) (cs : List Value) (i : Nat) (v : Value) (W : World) : Prop :=
  match i with
  | 6 => ∃ A' c', v = .agg #[.int .i64 mk, .int .i64 ms, .int .i64 mt, .int .i64 mq, .int .u32 mc, .slice A' n c'] ∧ W.ownsRow base 88 2 (.slice A' n c') n cs
  | 7 => ∃ gL A' c', v = .slice (some ⟨gL, 0, none⟩) 1 1 ∧ Blk W gL 43 #[.int .i64 mk, .int .i64 ms, .int .i64 mt, .int .i64 mq, .int .u32 mc, .slice A' n c'] ∧ W.ownsRow base 88 2 (.slice A' n c') n cs
  | _ => True
theorem InSp.lasts {mk ms mt mq mc : Int} {n base : Nat} {cs : List Value} : ∀ i v, Lasts (InSp mk ms mt mq mc n base cs i v) := by
  intro i v W W' h hb
  unfold InSp at h ⊢
  split at h
  · obtain ⟨A', c', e, ho⟩ := h
    exact ⟨A', c', e, own_below ho hb (Nat.le_refl _)⟩
  · obtain ⟨gL, A', c', e, h1, ho⟩ := h
    exact ⟨gL, A', c', e, h1.below hb h1.lt, own_below ho hb (Nat.le_refl _)⟩
  · trivial
/-- a received message is added -/
theorem EndAt.gapp {W W' : World} {base E : Nat} {a b nx wt : Int} {ow : Bool} {vw vg v' : Value} {ws : List WK} {gs : List SM} {x : SM} (h : EndAt W base E a b nx wt ow vw ws vg gs) (hr : W'.ownsRow base 43 6 v' (gs.length + 1) (gs.flatMap encM ++ encM x)) (hm : Mod (fun k => vg.ownBlock = some k) W W') (hx : MOwn W' base x) :
    EndAt (W'.setCell ⟨E, 5, none⟩ v') base E a b nx wt ow vw ws v' (gs ++ [x]) ∧ Mod (EndF E vw vg) W (W'.setCell ⟨E, 5, none⟩ v') := by
  have hbl : ∀ {t cs}, ∀ g, Blk W g t cs → t ≠ 43 → ¬ vg.ownBlock = some g := fun g hk ht hg => by
    obtain ⟨cs', hk'⟩ := own_blk h.rg hg
    exact ht (blk_type hk hk')
  have hE := hm.blk h.box (hbl E h.box (by decide))
  have hS : Mod (fun g => g = E) W' (W'.setCell ⟨E, 5, none⟩ v') := (Mod.refl (fun g => g = E) W').set (g := E) (fun _ => rfl) 5 _
  have hM : Mod (EndF E vw vg) W (W'.setCell ⟨E, 5, none⟩ v') := (hm.mono (G := EndF E vw vg) (fun k _ h => Or.inr (Or.inr h))).set (g := E) (fun _ => Or.inl rfl) 5 _
  have hmo : ∀ s, MOwn W base s → MOwn (W'.setCell ⟨E, 5, none⟩ v') base s := fun s hs => ⟨hM.own hs.1 (fun g cs _ hk hf => by
    rcases h.typ hk hf with e | e | e <;> exact absurd e (by decide)), hs.2⟩
  refine ⟨⟨h.lo, hE.set 5 v', (h.rw.mod hm (fun g hg => ?_)).mod hS (fun g hg hf => ?_), ?_, fun y hy => hmo _ (h.mw y hy), fun y hy => ?_⟩, hM⟩
  · obtain ⟨cs, hk⟩ := h.rw.blk hg
    exact hbl g hk (by decide)
  · subst hf
    obtain ⟨cs, hk⟩ := h.rw.blk hg
    exact absurd (blk_type hk h.box) (by decide)
  · rw [List.length_append, List.flatMap_append]
    refine hS.own ?_ (fun g cs _ hk hf => ?_)
    · simpa using hr
    · subst hf
      exact absurd (blk_type hk hE) (by decide)
  · rcases List.mem_append.1 hy with hy | hy
    · exact hmo _ (h.mg y hy)
    · rw [List.mem_singleton.1 hy]
      exact ⟨hS.own hx.1 (fun g cs _ hk hf => by
        subst hf
        exact absurd (blk_type hk hE) (by decide)), hx.2⟩
theorem Rd.mod {w w' : World} {B size n : Nat} {A : Option Addr} {xs : List Value} {F : Nat → Prop} (h : Rd w B size A n xs) (hm : Mod F w w') (hB : B ≤ w.heap.size) (hA : 0 < n → ∀ p, A = some p → ¬ F p.block) : Rd w' B size A n xs := by
  refine ⟨h.1, fun h0 => ?_⟩
  obtain ⟨b, o, rfl, hb, hc⟩ := h.2 h0
  exact ⟨b, o, rfl, hb, fun j u hu => (World.cell?_of_block (a := ⟨b, o + j, none⟩) (hm.block b (by omega) (hA h0 _ rfl))).trans (hc j u hu)⟩
theorem exec_slice1 {ev : Operand → Value} {o : Oper} {W : World} (x : Operand) (ho : o.op = .slice 68 x (some (.const (.int .i64 1))) none none) (g q n c : Nat) (hx : ev x = .slice (some ⟨g, q, none⟩) (n + 1) c) (hc : ev (.const (.int .i64 1)) = .int .i64 1 := by rfl) (hn : n + 1 ≤ c) :
    (execOp ev o).run Try.prog W = .ok (.value (.slice (some (if c = 1 then ⟨g, q, none⟩ else ⟨g, q + 7, none⟩)) n (c - 1))) W := by
  have hu : Try.prog.underlying 68 = some (.slice (Try.prog.elem 68)) := by kernel_rfl
  have hz : (sizeOf (Try.prog.elem 68)).run Try.prog W = .ok 7 W := by
    rw [show Try.prog.elem 68 = 94 from by kernel_rfl]
    go_simp
  have hr := run_slice_l W 68 (some ⟨g, q, none⟩) (n + 1) c hu .i64 1 (by omega) (by omega)
  rw [hz] at hr
  unfold execOp
  simp only [ho, hx, hc, Option.map_some, Option.map_none, Sem.run_bind, run_sliceAt_slice W _ _ _ _ _ hu, hr, Result.andThen_ok, Sem.run_pure, sliced, show (1 : Int).toNat = 1 from rfl, Nat.add_sub_cancel, Nat.one_mul, add_none]
  split <;> rfl
def InRel (w : World) (base E : Nat) (a b nx wt : Int) (ow : Bool) (vw vg : Value) (ws : List WK) (gs : List SM) (gb : Nat) (cs : Array Value) (q : Int) (g : Nat) (wr : World) : Prop := ∃ (ws' : List WK) (vw' : Value), g = ws'.length ∧ ws.dropWhile (ackB q) = ws'.dropWhile (ackB q) ∧ (∀ k, vw'.ownBlock = some k → vw.ownBlock = some k) ∧ InSt w (EndF E vw vg) base E a b nx wt ow vw' ws' vg gs gb cs wr
set_option maxRecDepth 100000 in
set_option maxHeartbeats 8000000 in
theorem in_any (w : World) (base E : Nat) (a b nx wt : Int) (ow : Bool) (vw vg : Value) (ws : List WK) (gs : List SM) (h : EndAt w base E a b nx wt ow vw ws vg gs) (hbase : base ≤ w.heap.size) (hws : ws.length ≤ 500) (hgs : gs.length ≤ 1073741824) (m : GMsg) (A : Option Addr) (n c : Nat) (hM : MsgAt w w.heap.size m A n c) (hA : 0 < n → ∀ p, A = some p → ¬ EndF E vw vg p.block) :
    Calls Try.prog 38 #[.pointer (some ⟨E, 0, none⟩), msgV m A n c] w (InPost w base E a b nx wt ow vw ws vg gs m n) := by
  obtain ⟨mk, ms, mt, mq, mc, ml⟩ := m
  obtain ⟨Aw, cw, hvw, hcw, _, hAw, _⟩ := h.rw.rd
  subst hvw
  obtain ⟨Ag, cg, hvg, _⟩ := own_rd h.rg
  subst hvg
  obtain ⟨j0, hj0, hy0, hy1, hy2⟩ := info_parts info_msgI
  have hb1 : Below w.heap.size w (w.alloc (.cells #[.int .i64 mk, .int .i64 ms, .int .i64 mt, .int .i64 mq, .int .u32 mc, .slice A n c] 43)) := (Below.refl _ _).alloc (Nat.le_refl _) _
  have hS1 : InSt w (EndF E (.slice Aw ws.length cw) (.slice Ag gs.length cg)) base E a b nx wt ow (.slice Aw ws.length cw) ws (.slice Ag gs.length cg) gs w.heap.size #[.int .i64 mk, .int .i64 ms, .int .i64 mt, .int .i64 mq, .int .u32 mc, .slice A n c] (w.alloc (.cells #[.int .i64 mk, .int .i64 ms, .int .i64 mt, .int .i64 mq, .int .u32 mc, .slice A n c] 43)) :=
    ⟨h.below hb1, Blk.new _ _ _, Mod.of_below hb1, fun e => by have := (h.rg.lt _ e).2; omega⟩
  have hM1 : MsgAt (w.alloc (.cells #[.int .i64 mk, .int .i64 ms, .int .i64 mt, .int .i64 mq, .int .u32 mc, .slice A n c] 43)) (w.alloc (.cells #[.int .i64 mk, .int .i64 ms, .int .i64 mt, .int .i64 mq, .int .u32 mc, .slice A n c] 43)).heap.size ⟨mk, ms, mt, mq, mc, ml⟩ A n c := (hM.below hb1).more hb1.size
  have HMM := Lib.hid (fun W (hW : Mod (EndF E (.slice Aw ws.length cw) (.slice Ag gs.length cg)) w W) => hM.mod hW hA)
  have HML := Lib.hid hM.len
  clear h hM hA hb1 hAw
  go_enter Try.func38, Try.ntmps38
  go_upto_region 1 with (fail)
  obtain ⟨F0, hF0⟩ : ∃ F0, F0 = msgF ⟨mk, ms, mt, mq, mc, ml⟩ := ⟨_, rfl⟩
  generalize w.alloc (.cells #[.int .i64 mk, .int .i64 ms, .int .i64 mt, .int .i64 mq, .int .u32 mc, .slice A n c] 43) = w1 at hS1 hM1 ⊢
  obtain ⟨gb, hgb⟩ : ∃ gb, gb = w.heap.size := ⟨_, rfl⟩
  rw [← hgb] at hS1 ⊢
  have HCK := Lib.hid (show Calls Try.prog 33 #[.agg #[.int .i64 mk, .int .i64 ms, .int .i64 mt, .int .i64 mq, .int .u32 mc, .slice A n c]] w1 (fun e w' => e = .returned (.int .i64 (F0 : Int)) ∧ Below w1.heap.size w1 w') from by
    rw [hF0]
    exact check_any w1 ⟨mk, ms, mt, mq, mc, ml⟩ A n c hM1)
  have HPC := Lib.hid (show inC ⟨mk, ms, mt, mq, mc, ml⟩ a b nx = (if F0 ≠ 0 then F0 else if ms ≠ b ∨ mt ≠ a then 16 else if mk = 3 ∧ nx < mq then 9 else 0) from by
    unfold inC
    rw [← hF0])
  have HF0 := Lib.hid hF0
  have HS1 := Lib.hid hS1
  have z0 := hS1.bx.cell 0 _ rfl
  have z1 := hS1.bx.cell 1 _ rfl
  have z2 := hS1.bx.cell 2 _ rfl
  have z3 := hS1.bx.cell 3 _ rfl
  have z4 := hS1.bx.cell 4 _ rfl
  have z5 := hS1.bx.cell 5 _ rfl
  clear hS1 hM1 hF0 hgb
  go_wp2_with fail
  refine HCK.out.mono ?_
  rintro e w2 ⟨rfl, hb2⟩
  have HS2 := Lib.hid (HS1.out.below hb2)
  clear hb2 HS1 HCK z0 z1 z2 z3 z4 z5
  by_cases hf0 : F0 = 0
  · subst hf0
    have HPC2 := Lib.hid (HPC.out.trans (if_neg (by simp)))
    clear HPC
    go_upto_region 4 with (fail)
    by_cases hs0 : ms = b
    · by_cases ht0 : mt = a
      · have hsq : (ms != b) = false := by simpa using hs0
        have htq : (mt != a) = false := by simpa using ht0
        have HPC3 := Lib.hid (HPC2.out.trans (if_neg (fun h => h.elim (fun h => h hs0) (fun h => h ht0))))
        clear hs0 ht0 HPC2
        refine wp_region_seq (fun W => InSt w (EndF E (.slice Aw ws.length cw) (.slice Ag gs.length cg)) base E a b nx wt ow (.slice Aw ws.length cw) ws (.slice Ag gs.length cg) gs gb #[.int .i64 mk, .int .i64 ms, .int .i64 mt, .int .i64 mq, .int .u32 mc, .slice A n c] W) (fun W W' h hb => h.below hb) (by kernel_rfl) (by kernel_rfl) (HS2.out.below (Below.refl _ _).drew) ?_
        repeat (first
          | (refine wpSeq_off (by rfl) ?_; try simp only [Act.put, List.setIfInBounds_toArray, List.set_cons_zero, List.set_cons_succ])
          | (refine wpSeq_val (v := .bool true) (by rfl) (fun W hS => ?_) ?_
             · (clear hS; go_simp; done)
             try simp only [Act.put, List.setIfInBounds_toArray, List.set_cons_zero, List.set_cons_succ])
          | (refine wpSeq_val (v := .bool false) (by rfl) (fun W hS => ?_) ?_
             · (clear hS; go_simp; done)
             try simp only [Act.put, List.setIfInBounds_toArray, List.set_cons_zero, List.set_cons_succ])
          | (refine wpSeq_val (v := ?_) (by rfl) (fun W hS => ?_) ?_
             rotate_left
             · ((have fe := hS.e.box; have c0 := fe.cell 0 _ rfl; have c1 := fe.cell 1 _ rfl; have c2 := fe.cell 2 _ rfl; have c4 := fe.cell 4 _ rfl; have z1 := hS.bx.cell 1 _ rfl; have z2 := hS.bx.cell 2 _ rfl; have z3 := hS.bx.cell 3 _ rfl; clear hS fe); go_simp; first | done | with_reducible rfl)
             try simp only [Act.put, List.setIfInBounds_toArray, List.set_cons_zero, List.set_cons_succ]))
        refine wpSeq_nil (fun W hS => ?_)
        have HS3 := Lib.hid hS
        have z0 := hS.bx.cell 0 _ rfl
        have c6 := hS.e.box.cell 6 _ rfl
        have cf := fun i => hS.e.box.free i
        clear hS HS2
        go_upto_region 6 with (fail)
        by_cases hk3 : mk = 3
        · have hkq : (mk == 3) = true := by simpa using hk3
          go_upto_region 7 with (fail)
          by_cases hq : nx < mq
          · have HP := Lib.hid (HPC3.out.trans (if_pos ⟨hk3, hq⟩))
            clear hk3 z0 c6 cf
            refine wp_region_seq (fun W => InSt w (EndF E (.slice Aw ws.length cw) (.slice Ag gs.length cg)) base E a b nx wt ow (.slice Aw ws.length cw) ws (.slice Ag gs.length cg) gs gb #[.int .i64 mk, .int .i64 ms, .int .i64 mt, .int .i64 mq, .int .u32 mc, .slice A n c] W) (fun W W' h hb => h.below hb) (by kernel_rfl) (by kernel_rfl) (HS3.out.below (Below.refl _ _).drew) ?_
            repeat (first
              | (refine wpSeq_off (by rfl) ?_; try simp only [Act.put, List.setIfInBounds_toArray, List.set_cons_zero, List.set_cons_succ])
              | (refine wpSeq_val (v := .bool true) (by rfl) (fun W hS => ?_) ?_
                 · (clear hS; go_simp; done)
                 try simp only [Act.put, List.setIfInBounds_toArray, List.set_cons_zero, List.set_cons_succ])
              | (refine wpSeq_val (v := .bool false) (by rfl) (fun W hS => ?_) ?_
                 · (clear hS; go_simp; done)
                 try simp only [Act.put, List.setIfInBounds_toArray, List.set_cons_zero, List.set_cons_succ])
              | (refine wpSeq_val (v := ?_) (by rfl) (fun W hS => ?_) ?_
                 rotate_left
                 · ((have fe := hS.e.box; have c0 := fe.cell 0 _ rfl; have c1 := fe.cell 1 _ rfl; have c2 := fe.cell 2 _ rfl; have c4 := fe.cell 4 _ rfl; have z1 := hS.bx.cell 1 _ rfl; have z2 := hS.bx.cell 2 _ rfl; have z3 := hS.bx.cell 3 _ rfl; clear hS fe); go_simp; first | done | with_reducible rfl)
                 try simp only [Act.put, List.setIfInBounds_toArray, List.set_cons_zero, List.set_cons_succ]))
            refine wpSeq_nil (fun W hS => ?_)
            have HS4 := Lib.hid hS
            clear hS HS3
            go_wp2_with fail
            go_ret
            exact ⟨by rw [HP.out]; rfl, .inl ⟨by rw [HP.out]; decide, HS4.out.e, HS4.out.md⟩⟩
          · have HP := Lib.hid (HPC3.out.trans (if_neg (fun h => hq h.2)))
            have HK3 := Lib.hid hk3
            clear hk3 z0 c6 cf
            refine wp_region_seq (fun W => InSt w (EndF E (.slice Aw ws.length cw) (.slice Ag gs.length cg)) base E a b nx wt ow (.slice Aw ws.length cw) ws (.slice Ag gs.length cg) gs gb #[.int .i64 mk, .int .i64 ms, .int .i64 mt, .int .i64 mq, .int .u32 mc, .slice A n c] W) (fun W W' h hb => h.below hb) (by kernel_rfl) (by kernel_rfl) (HS3.out.below (Below.refl _ _).drew) ?_
            repeat (first
              | (refine wpSeq_off (by rfl) ?_; try simp only [Act.put, List.setIfInBounds_toArray, List.set_cons_zero, List.set_cons_succ])
              | (refine wpSeq_val (v := .bool true) (by rfl) (fun W hS => ?_) ?_
                 · (clear hS; go_simp; done)
                 try simp only [Act.put, List.setIfInBounds_toArray, List.set_cons_zero, List.set_cons_succ])
              | (refine wpSeq_val (v := .bool false) (by rfl) (fun W hS => ?_) ?_
                 · (clear hS; go_simp; done)
                 try simp only [Act.put, List.setIfInBounds_toArray, List.set_cons_zero, List.set_cons_succ])
              | (refine wpSeq_val (v := ?_) (by rfl) (fun W hS => ?_) ?_
                 rotate_left
                 · ((have fe := hS.e.box; have c0 := fe.cell 0 _ rfl; have c1 := fe.cell 1 _ rfl; have c2 := fe.cell 2 _ rfl; have c4 := fe.cell 4 _ rfl; have z1 := hS.bx.cell 1 _ rfl; have z2 := hS.bx.cell 2 _ rfl; have z3 := hS.bx.cell 3 _ rfl; clear hS fe); go_simp; first | done | with_reducible rfl)
                 try simp only [Act.put, List.setIfInBounds_toArray, List.set_cons_zero, List.set_cons_succ]))
            refine wpSeq_nil (fun W hS => ?_)
            have HS4 := Lib.hid hS
            clear hS HS3 hq
            go_wp2_with fail
            go_loopg [] ws.length (fun g wr => InRel w base E a b nx wt ow (.slice Aw ws.length cw) (.slice Ag gs.length cg) ws gs gb #[.int .i64 mk, .int .i64 ms, .int .i64 mt, .int .i64 mq, .int .u32 mc, .slice A n c] mq g wr)
            case atStart => exact ⟨ws, _, rfl, rfl, fun _ h => h, HS4.out⟩
            case round =>
              obtain ⟨wq, rfl⟩ : ∃ wq, wq = wr := ⟨_, rfl⟩
              clear HS4
              obtain ⟨ws', vw', hg, hdw, hsub, hI⟩ := hrel
              obtain ⟨A', c', rfl, hnc, _, hAn, hrd⟩ := hI.e.rw.rd
              have HI := Lib.hid hI
              have HSUB := Lib.hid hsub
              have HDW := Lib.hid hdw
              clear hI hsub hdw
              cases ws' with
              | nil =>
                go_upto_region 9 with (fail)
                refine wp_region_seq (fun W => InSt w (EndF E (.slice Aw ws.length cw) (.slice Ag gs.length cg)) base E a b nx wt ow (.slice A' 0 c') [] (.slice Ag gs.length cg) gs gb #[.int .i64 mk, .int .i64 ms, .int .i64 mt, .int .i64 mq, .int .u32 mc, .slice A n c] W) (fun W W' h hb => h.below hb) (by kernel_rfl) (by kernel_rfl) (HI.out.below (Below.refl _ _).drew) ?_
                clear HI
                repeat (first
                  | (refine wpSeq_off (by rfl) ?_; try simp only [Act.put, List.setIfInBounds_toArray, List.set_cons_zero, List.set_cons_succ])
                  | (refine wpSeq_val (v := .bool true) (by rfl) (fun W hS => ?_) ?_
                     · (clear hS; go_simp; done)
                     try simp only [Act.put, List.setIfInBounds_toArray, List.set_cons_zero, List.set_cons_succ])
                  | (refine wpSeq_val (v := .bool false) (by rfl) (fun W hS => ?_) ?_
                     · (clear hS; go_simp; done)
                     try simp only [Act.put, List.setIfInBounds_toArray, List.set_cons_zero, List.set_cons_succ])
                  | (refine wpSeq_val (v := ?_) (by rfl) (fun W hS => ?_) ?_
                     rotate_left
                     · ((have c3 := hS.e.box.cell 3 _ rfl; clear hS); go_simp; first | done | with_reducible rfl)
                     try simp only [Act.put, List.setIfInBounds_toArray, List.set_cons_zero, List.set_cons_succ]))
                refine wpSeq_nil (fun W hS => ?_)
                have HS5 := Lib.hid hS
                clear hS
                go_wp2_with fail
                go_ret
                exact ⟨by rw [HP.out]; rfl, .inr (.inl ⟨HP.out, HK3.out, _, by
                  have := HDW.out
                  rw [List.dropWhile_nil] at this
                  rw [this]
                  exact HS5.out.e, HSUB.out, HS5.out.md⟩)⟩
              | cons x rest =>
                obtain ⟨⟨⟨xk, xs, xt, xq, xc, xl⟩, xA, xn, xcc⟩, xla⟩ := x
                obtain ⟨bf, of, x', rfl, hbB, hgx, hcc⟩ := hrd.elem encW_len rfl (show 0 < (List.cons ((⟨⟨xk, xs, xt, xq, xc, xl⟩, xA, xn, xcc⟩, xla) : WK) rest).length from Nat.succ_pos _)
                have hx' : x' = (⟨⟨xk, xs, xt, xq, xc, xl⟩, xA, xn, xcc⟩, xla) := by
                  simp at hgx
                  exact hgx.symm
                subst hx'
                have hx3 : wq.cell? ⟨bf, of + 3, none⟩ = some (.int .i64 xq) := by
                  have := hcc 3 (.int .i64 xq) rfl
                  rwa [Nat.zero_mul, Nat.add_zero] at this
                have HX3 := Lib.hid hx3
                have hl0 : (0 : Int) < ((rest.length + 1 : Nat) : Int) := by omega
                rw [List.length_cons] at HI hnc
                clear hx3 hcc hgx hrd hbB
                by_cases hlt : xq < mq
                · go_upto_region 9 with (fail)
                  refine wp_region_seq (fun W => (InSt w (EndF E (.slice Aw ws.length cw) (.slice Ag gs.length cg)) base E a b nx wt ow (.slice (some ⟨bf, of, none⟩) (rest.length + 1) c') ((⟨⟨xk, xs, xt, xq, xc, xl⟩, xA, xn, xcc⟩, xla) :: rest) (.slice Ag gs.length cg) gs gb #[.int .i64 mk, .int .i64 ms, .int .i64 mt, .int .i64 mq, .int .u32 mc, .slice A n c] W) ∧ W.cell? ⟨bf, of + 3, none⟩ = some (.int .i64 xq)) (fun W W' h hb => ⟨h.1.below hb, cell_lasts _ _ _ _ h.2 hb⟩) (by kernel_rfl) (by kernel_rfl) ⟨HI.out.below (Below.refl _ _).drew, cell_lasts _ _ _ _ HX3.out (Below.refl _ _).drew⟩ ?_
                  clear HI HX3
                  repeat (first
                    | (refine wpSeq_off (by rfl) ?_; try simp only [Act.put, List.setIfInBounds_toArray, List.set_cons_zero, List.set_cons_succ])
                    | (refine wpSeq_val (v := .bool true) (by rfl) (fun W hS => ?_) ?_
                       · (clear hS; go_simp; done)
                       try simp only [Act.put, List.setIfInBounds_toArray, List.set_cons_zero, List.set_cons_succ])
                    | (refine wpSeq_val (v := .bool false) (by rfl) (fun W hS => ?_) ?_
                       · (clear hS; go_simp; done)
                       try simp only [Act.put, List.setIfInBounds_toArray, List.set_cons_zero, List.set_cons_succ])
                    | (refine wpSeq_val (v := ?_) (by rfl) (fun W hS => ?_) ?_
                       rotate_left
                       · ((have c3 := hS.1.e.box.cell 3 _ rfl; have h3 := hS.2; have z3 := hS.1.bx.cell 3 _ rfl; clear hS); go_simp; first | done | with_reducible rfl)
                       try simp only [Act.put, List.setIfInBounds_toArray, List.set_cons_zero, List.set_cons_succ]))
                  refine wpSeq_nil (fun W hS => ?_)
                  go_upto_region 10 with (fail)
                  obtain ⟨g0, o0, hA0, hc0, hPop⟩ := hS.1.pop rfl (Or.inl rfl)
                  cases hA0
                  have c3 := hS.1.e.box.cell 3 _ rfl
                  have cf := fun i => hS.1.e.box.free i
                  have HPop := Lib.hid hPop
                  clear hS hPop
                  refine wp_region_lit ?_
                  refine wpList_val2 rfl (v := .pointer (some ⟨E, 0, none⟩)) (w' := W) ?_ ?_
                  · go_simp
                  simp only [Act.put, List.setIfInBounds_toArray, List.set_cons_zero, List.set_cons_succ]
                  refine wpList_val2 rfl (v := .pointer (some ⟨E, 0, none⟩)) (w' := W) ?_ ?_
                  · go_simp
                  simp only [Act.put, List.setIfInBounds_toArray, List.set_cons_zero, List.set_cons_succ]
                  refine wpList_val2 rfl (v := .pointer (some ⟨E, 0, none⟩)) (w' := W) ?_ ?_
                  · go_simp
                  simp only [Act.put, List.setIfInBounds_toArray, List.set_cons_zero, List.set_cons_succ]
                  refine wpList_val2 rfl (v := .pointer (some ⟨E, 3, none⟩)) (w' := W) ?_ ?_
                  · go_simp
                  simp only [Act.put, List.setIfInBounds_toArray, List.set_cons_zero, List.set_cons_succ]
                  refine wpList_val2 rfl (v := .slice (some ⟨bf, of, none⟩) (rest.length + 1) c') (w' := W) ?_ ?_
                  · go_simp
                  simp only [Act.put, List.setIfInBounds_toArray, List.set_cons_zero, List.set_cons_succ]
                  refine wpList_val2 rfl (v := .slice (some (if c' = 1 then ⟨bf, of, none⟩ else ⟨bf, of + 7, none⟩)) rest.length (c' - 1)) (w' := W) ?_ ?_
                  · exact exec_slice1 (.tmp 60) rfl bf of rest.length c' rfl rfl hnc
                  simp only [Act.put, List.setIfInBounds_toArray, List.set_cons_zero, List.set_cons_succ]
                  obtain ⟨Av, hAv⟩ : ∃ Av : Addr, Av = (if c' = 1 then ⟨bf, of, none⟩ else ⟨bf, of + 7, none⟩) := ⟨_, rfl⟩
                  rw [← hAv] at HPop ⊢
                  have hsub2 : ∀ k, (Value.slice (some Av) rest.length (c' - 1)).ownBlock = some k → (Value.slice (some ⟨bf, of, none⟩) (rest.length + 1) c').ownBlock = some k := fun k hk => by
                    rw [hAv] at hk
                    split at hk <;> exact hk
                  have HSUB2 := Lib.hid hsub2
                  clear hAv hsub2
                  go_wp2_with fail
                  go_roundg rest.length
                  case measure => simp at hg; omega
                  case rel => exact ⟨rest, _, rfl, by rw [HDW.out, List.dropWhile_cons_of_pos (by simpa [ackB] using hlt)], fun k hk => HSUB.out k (HSUB2.out k hk), HPop.out⟩
                · go_upto_region 9 with (fail)
                  refine wp_region_seq (fun W => (InSt w (EndF E (.slice Aw ws.length cw) (.slice Ag gs.length cg)) base E a b nx wt ow (.slice (some ⟨bf, of, none⟩) (rest.length + 1) c') ((⟨⟨xk, xs, xt, xq, xc, xl⟩, xA, xn, xcc⟩, xla) :: rest) (.slice Ag gs.length cg) gs gb #[.int .i64 mk, .int .i64 ms, .int .i64 mt, .int .i64 mq, .int .u32 mc, .slice A n c] W) ∧ W.cell? ⟨bf, of + 3, none⟩ = some (.int .i64 xq)) (fun W W' h hb => ⟨h.1.below hb, cell_lasts _ _ _ _ h.2 hb⟩) (by kernel_rfl) (by kernel_rfl) ⟨HI.out.below (Below.refl _ _).drew, cell_lasts _ _ _ _ HX3.out (Below.refl _ _).drew⟩ ?_
                  clear HI HX3
                  repeat (first
                    | (refine wpSeq_off (by rfl) ?_; try simp only [Act.put, List.setIfInBounds_toArray, List.set_cons_zero, List.set_cons_succ])
                    | (refine wpSeq_val (v := .bool true) (by rfl) (fun W hS => ?_) ?_
                       · (clear hS; go_simp; done)
                       try simp only [Act.put, List.setIfInBounds_toArray, List.set_cons_zero, List.set_cons_succ])
                    | (refine wpSeq_val (v := .bool false) (by rfl) (fun W hS => ?_) ?_
                       · (clear hS; go_simp; done)
                       try simp only [Act.put, List.setIfInBounds_toArray, List.set_cons_zero, List.set_cons_succ])
                    | (refine wpSeq_val (v := ?_) (by rfl) (fun W hS => ?_) ?_
                       rotate_left
                       · ((have c3 := hS.1.e.box.cell 3 _ rfl; have h3 := hS.2; have z3 := hS.1.bx.cell 3 _ rfl; clear hS); go_simp; first | done | with_reducible rfl)
                       try simp only [Act.put, List.setIfInBounds_toArray, List.set_cons_zero, List.set_cons_succ]))
                  refine wpSeq_nil (fun W hS => ?_)
                  have HS5 := Lib.hid hS.1
                  clear hS
                  go_wp2_with fail
                  go_ret
                  exact ⟨by rw [HP.out]; rfl, .inr (.inl ⟨HP.out, HK3.out, _, by
                    have := HDW.out
                    rw [List.dropWhile_cons_of_neg (by simpa [ackB] using hlt)] at this
                    rw [this]
                    exact HS5.out.e, HSUB.out, HS5.out.md⟩)⟩
        · have hkq : (mk == 3) = false := by simpa using hk3
          have HP := Lib.hid (HPC3.out.trans (if_neg (fun h => hk3 h.1)))
          have HK3 := Lib.hid hk3
          clear hk3
          go_upto_region 13 with (fail)
          have hS4 := HS3.out.put (k := 6) (u := .bool true) (nx' := nx) (wt' := wt) (ow' := true) (Or.inl rfl) rfl
          generalize World.setCell _ ⟨E, 6, none⟩ (.bool true) = w4 at hS4 ⊢
          have HS4 := Lib.hid hS4
          clear hS4 z0 c6 cf HS3
          by_cases hsw : mq = wt
          · have hwq : (mq == wt) = true := by simpa using hsw
            refine wp_region_seq (fun W => InSt w (EndF E (.slice Aw ws.length cw) (.slice Ag gs.length cg)) base E a b nx wt true (.slice Aw ws.length cw) ws (.slice Ag gs.length cg) gs gb #[.int .i64 mk, .int .i64 ms, .int .i64 mt, .int .i64 mq, .int .u32 mc, .slice A n c] W) (fun W W' h hb => h.below hb) (by kernel_rfl) (by kernel_rfl) (HS4.out.below (Below.refl _ _).drew) ?_
            repeat (first
              | (refine wpSeq_off (by rfl) ?_; try simp only [Act.put, List.setIfInBounds_toArray, List.set_cons_zero, List.set_cons_succ])
              | (refine wpSeq_val (v := .bool true) (by rfl) (fun W hS => ?_) ?_
                 · (clear hS; go_simp; done)
                 try simp only [Act.put, List.setIfInBounds_toArray, List.set_cons_zero, List.set_cons_succ])
              | (refine wpSeq_val (v := .bool false) (by rfl) (fun W hS => ?_) ?_
                 · (clear hS; go_simp; done)
                 try simp only [Act.put, List.setIfInBounds_toArray, List.set_cons_zero, List.set_cons_succ])
              | (refine wpSeq_val (v := ?_) (by rfl) (fun W hS => ?_) ?_
                 rotate_left
                 · ((have fe := hS.e.box; have c0 := fe.cell 0 _ rfl; have c1 := fe.cell 1 _ rfl; have c2 := fe.cell 2 _ rfl; have c4 := fe.cell 4 _ rfl; have z1 := hS.bx.cell 1 _ rfl; have z2 := hS.bx.cell 2 _ rfl; have z3 := hS.bx.cell 3 _ rfl; clear hS fe); go_simp; first | done | with_reducible rfl)
                 try simp only [Act.put, List.setIfInBounds_toArray, List.set_cons_zero, List.set_cons_succ]))
            refine wpSeq_nil (fun W hS => ?_)
            have HS5 := Lib.hid hS
            have hmq : 0 ≤ mq ∧ mq ≤ 2147483647 := by
              have := msgF0_zero (msgF_zero HF0.out.symm).1
              exact ⟨this.2.2.2.2.2.2.2.1, this.2.2.2.2.2.2.2.2.1⟩
            have hwn : IntKind.i64.wrap (wt + 1) = wt + 1 := by rw [IntKind.wrap_i64]; omega
            have hn400 : n ≤ 400 := by
              have := (cellsF_zero (msgF_zero HF0.out.symm).2).1
              rw [← HML.out]
              exact this
            have c4 := hS.e.box.cell 4 _ rfl
            have cf := fun i => hS.e.box.free i
            have HSW := Lib.hid hsw
            clear hS HS4 hsw hmq
            go_upto_region 15 with (fail)
            have hS6 := HS5.out.put (k := 4) (u := .int .i64 (wt + 1)) (nx' := nx) (wt' := wt + 1) (ow' := true) (Or.inl rfl) rfl
            generalize World.setCell _ ⟨E, 4, none⟩ (.int .i64 (wt + 1)) = w6 at hS6 ⊢
            have HB6 := Lib.hid (Nat.le_trans hbase hS6.md.size)
            have HMA := Lib.hid (fun W (hW : Below w6.heap.size w6 W) => HMM.out W (hS6.md.call hW))
            have HS6 := Lib.hid hS6
            clear hS6 c4 cf HS5
            refine wp_region_invK 11 (LapJ (fun i => ([some (.pointer (some ⟨E, 0, none⟩)), some (.pointer (some ⟨E, 0, none⟩)), some (.pointer (some ⟨E, 0, none⟩)), some (.pointer (some ⟨E, 5, none⟩)), some (.slice Ag gs.length cg), some (.agg #[.int .i64 mk, .int .i64 ms, .int .i64 mt, .int .i64 mq, .int .u32 mc, .slice A n c]), none, none, none, some (.pointer (some ⟨E, 0, none⟩)), some (.pointer (some ⟨E, 5, none⟩))] : List (Option Value)).getD i none) [(6, 7), (7, 8)] 8 (fun W => Below w6.heap.size w6 W) (InSp mk ms mt mq mc n base (ml.flatMap encC)) (fun v W => ∃ A' c', W.ownsRow base 43 6 v (gs.length + 1) (gs.flatMap encM ++ encM ⟨⟨mk, ms, mt, mq, mc, ml⟩, A', n, c'⟩) ∧ W.ownsRow base 88 2 (.slice A' n c') n (ml.flatMap encC) ∧ Mod (fun k => (Value.slice Ag gs.length cg).ownBlock = some k) w6 W ∧ NearV w6 (.slice Ag gs.length cg) v)) (by kernel_rfl) (by kernel_rfl) (LapJ.start (Below.refl _ _).drew) ?_ ?_
            · intro i o hi ho s vs W hJ hs hdep
              have hE : Blk W E 70 #[.int .i64 a, .int .i64 b, .int .i64 nx, .slice Aw ws.length cw, .int .i64 (wt + 1), .slice Ag gs.length cg, .bool true] ∧ Blk W gb 43 #[.int .i64 mk, .int .i64 ms, .int .i64 mt, .int .i64 mq, .int .u32 mc, .slice A n c] := hJ.all (X := fun W => Blk W E 70 #[.int .i64 a, .int .i64 b, .int .i64 nx, .slice Aw ws.length cw, .int .i64 (wt + 1), .slice Ag gs.length cg, .bool true] ∧ Blk W gb 43 #[.int .i64 mk, .int .i64 ms, .int .i64 mt, .int .i64 mq, .int .u32 mc, .slice A n c]) (fun W h => ⟨HS6.out.e.box.below h HS6.out.e.box.lt, HS6.out.bx.below h HS6.out.bx.lt⟩) (fun v W ⟨_, _, _, _, h, _⟩ => ⟨h.blk HS6.out.e.box (fun hg => by
                obtain ⟨cs', hk'⟩ := own_blk HS6.out.e.rg hg
                exact absurd (blk_type hk' HS6.out.e.box) (by decide)), h.blk HS6.out.bx HS6.out.ap⟩)
              rcases i with _ | _ | _ | _ | _ | _ | _ | _ | _ | _ | _ | i
              all_goals first | omega | skip
              all_goals (simp only [List.getElem?_cons_succ, List.getElem?_cons_zero, Option.some.injEq] at ho; subst ho)
              · refine StepJ.val (v := .pointer (some ⟨E, 0, none⟩)) rfl ?_ (hJ.same (by omega) (by simp) rfl)
                clear hJ hdep hE
                unfold lexA
                simp only [putAll, preI, Nat.reduceLT, Nat.reduceAdd, decide_false, Bool.false_eq_true, if_false]
                go_simp
              · refine StepJ.val (v := .pointer (some ⟨E, 0, none⟩)) rfl ?_ (hJ.same (by omega) (by simp) rfl)
                clear hJ hdep hE
                unfold lexA
                simp only [putAll, preI, Nat.reduceLT, Nat.reduceAdd, decide_true, decide_false, Bool.false_eq_true, if_true, if_false, Act.put, List.setIfInBounds_toArray, List.set_cons_zero, List.set_cons_succ]
                go_simp
              · have d1 : vs 1 = .pointer (some ⟨E, 0, none⟩) := hJ.dt 1 _ (hdep ⟨1, .data⟩ (by simp) rfl) rfl
                refine StepJ.val (v := .pointer (some ⟨E, 0, none⟩)) rfl ?_ (hJ.same (by omega) (by simp) rfl)
                clear hJ hdep hE
                unfold lexA
                simp only [putAll, preI, Nat.reduceLT, Nat.reduceAdd, decide_true, decide_false, Bool.false_eq_true, if_true, if_false, Act.put, List.setIfInBounds_toArray, List.set_cons_zero, List.set_cons_succ]
                go_simp
              · have d2 : vs 2 = .pointer (some ⟨E, 0, none⟩) := hJ.dt 2 _ (hdep ⟨2, .data⟩ (by simp) rfl) rfl
                refine StepJ.val (v := .pointer (some ⟨E, 5, none⟩)) rfl ?_ (hJ.same (by omega) (by simp) rfl)
                clear hJ hdep hE
                unfold lexA
                simp only [putAll, preI, Nat.reduceLT, Nat.reduceAdd, decide_true, decide_false, Bool.false_eq_true, if_true, if_false, Act.put, List.setIfInBounds_toArray, List.set_cons_zero, List.set_cons_succ]
                go_simp
              · have d3 : vs 3 = .pointer (some ⟨E, 5, none⟩) := hJ.dt 3 _ (hdep ⟨3, .data⟩ (by simp) rfl) rfl
                refine StepJ.val (v := .slice Ag gs.length cg) rfl ?_ (hJ.same (by omega) (by simp) rfl)
                have c5 := hE.1.cell 5 _ rfl
                have z0 := hE.2.cell 0 _ rfl
                have z1 := hE.2.cell 1 _ rfl
                have z2 := hE.2.cell 2 _ rfl
                have z3 := hE.2.cell 3 _ rfl
                have z4 := hE.2.cell 4 _ rfl
                have z5 := hE.2.cell 5 _ rfl
                clear hJ hdep hE
                unfold lexA
                simp only [putAll, preI, Nat.reduceLT, Nat.reduceAdd, decide_true, decide_false, Bool.false_eq_true, if_true, if_false, Act.put, List.setIfInBounds_toArray, List.set_cons_zero, List.set_cons_succ]
                go_simp
              · refine StepJ.val (v := .agg #[.int .i64 mk, .int .i64 ms, .int .i64 mt, .int .i64 mq, .int .u32 mc, .slice A n c]) rfl ?_ (hJ.same (by omega) (by simp) rfl)
                have c5 := hE.1.cell 5 _ rfl
                have z0 := hE.2.cell 0 _ rfl
                have z1 := hE.2.cell 1 _ rfl
                have z2 := hE.2.cell 2 _ rfl
                have z3 := hE.2.cell 3 _ rfl
                have z4 := hE.2.cell 4 _ rfl
                have z5 := hE.2.cell 5 _ rfl
                clear hJ hdep hE
                unfold lexA
                simp only [putAll, preI, Nat.reduceLT, Nat.reduceAdd, decide_true, decide_false, Bool.false_eq_true, if_true, if_false, Act.put, List.setIfInBounds_toArray, List.set_cons_zero, List.set_cons_succ]
                go_simp
              · have d5 : vs 5 = .agg #[.int .i64 mk, .int .i64 ms, .int .i64 mt, .int .i64 mq, .int .u32 mc, .slice A n c] := hJ.dt 5 _ (hdep ⟨5, .data⟩ (by simp) rfl) rfl
                have h8 : s 8 = false := by
                  cases e : s 8 with
                  | false => rfl
                  | true => exact absurd (hJ.w2 (6, 7) (by simp) (hJ.w2 (7, 8) (by simp) e)) (by simp [hs])
                have hBW := (hJ.w0 h8).1
                refine StepJ.call rfl ?_ ((copy_own W ⟨mk, ms, mt, mq, mc, ml⟩ A n c (HMA.out W hBW)).mono fun e W' ⟨A', c', he, ho, hb⟩ => ⟨_, he, hJ.some_ h8 (hl0 := fun W W' h hb => h.trans (hb.mono h.size)) (hl := InSp.lasts) (by omega) (by simp) rfl hb ?_⟩)
                · clear hJ hdep hE hBW
                  unfold lexA
                  simp only [putAll, preI, Nat.reduceLT, Nat.reduceAdd, decide_true, decide_false, Bool.false_eq_true, if_true, if_false, Act.put, List.setIfInBounds_toArray, List.set_cons_zero, List.set_cons_succ]
                  go_simp
                · exact ⟨A', c', rfl, own_mono ho (Nat.le_trans HB6.out hBW.size)⟩
              · have h8 : s 8 = false := by
                  cases e : s 8 with
                  | false => rfl
                  | true => exact absurd (hJ.w2 (7, 8) (by simp) e) (by simp [hs])
                obtain ⟨A', c', d6, ho⟩ := (hJ.w0 h8).2 6 (hdep ⟨6, .data⟩ (by simp) rfl) rfl
                refine StepJ.val (v := .slice (some ⟨W.heap.size, 0, none⟩) 1 1) (W' := W.alloc (.cells #[.int .i64 mk, .int .i64 ms, .int .i64 mt, .int .i64 mq, .int .u32 mc, .slice A' n c'] 43)) rfl ?_ (hJ.some_ h8 (hl0 := fun W W' h hb => h.trans (hb.mono h.size)) (hl := InSp.lasts) (by omega) (by simp; exact hdep ⟨6, .data⟩ (by simp) rfl) rfl ((Below.refl _ _).alloc (Nat.le_refl _) _) ⟨W.heap.size, A', c', rfl, Blk.new _ _ _, ho.alloc _⟩)
                clear hJ hdep hE ho
                refine exec_lit (.tmp 87) rfl mk ms mt mq mc A' n c' ?_
                unfold lexA
                simp only [putAll, preI, Nat.reduceLT, Nat.reduceAdd, decide_true, decide_false, Bool.false_eq_true, if_true, if_false, Act.put, List.setIfInBounds_toArray, List.set_cons_zero, List.set_cons_succ]
                rw [d6]
                rfl
              · have d4 : vs 4 = .slice Ag gs.length cg := hJ.dt 4 _ (hdep ⟨4, .data⟩ (by simp) rfl) rfl
                obtain ⟨hbW, hsp⟩ := hJ.w0 hs
                obtain ⟨gL, A', c', d7, hkL, ho⟩ := hsp 7 (hdep ⟨7, .data⟩ (by simp) rfl) rfl
                refine StepJ.app rfl (exec_append (.tmp 85) (.tmp 88) 23 rfl base 43 j0 (.agg #[.int .i64 0, .int .i64 0, .int .i64 0, .int .i64 0, .int .u32 0, .slice none 0 0]) 6 64 Try.underlying23 hj0 hy0 hy1 hy2 rfl (by omega) (.slice Ag gs.length cg) gs.length (gs.flatMap encM) ?_ (own_below HS6.out.e.rg hbW (Nat.le_refl _)) gL #[.int .i64 mk, .int .i64 ms, .int .i64 mt, .int .i64 mq, .int .u32 mc, .slice A' n c'] ?_ hkL rfl (by simp [Value.oneCell']) (by unfold maxLen; omega) (by omega) (Nat.le_trans HB6.out hbW.size)) (fun vn Wn ⟨hon, hgn, hnn⟩ => hJ.app (by simp; exact hdep ⟨7, .data⟩ (by simp) rfl) rfl ⟨A', c', hon, (Mod.of_grown hgn).own ho (fun g' cs' _ hk' hf => ?_), (Mod.of_below (F := fun k => (Value.slice Ag gs.length cg).ownBlock = some k) hbW).trans (Mod.of_grown hgn) (fun _ _ h => h), fun g' hg => ?_⟩)
                · clear hJ hdep hE hsp hkL hbW ho
                  unfold lexA
                  simp only [putAll, preI, Nat.reduceLT, Nat.reduceAdd, decide_true, decide_false, Bool.false_eq_true, if_true, if_false, Act.put, List.setIfInBounds_toArray, List.set_cons_zero, List.set_cons_succ]
                  rw [d4]
                  rfl
                · clear hJ hdep hE hsp hkL hbW ho
                  unfold lexA
                  simp only [putAll, preI, Nat.reduceLT, Nat.reduceAdd, decide_true, decide_false, Bool.false_eq_true, if_true, if_false, Act.put, List.setIfInBounds_toArray, List.set_cons_zero, List.set_cons_succ]
                  rw [d7]
                  rfl
                · obtain ⟨cs2, hk2⟩ := own_blk (own_below HS6.out.e.rg hbW (Nat.le_refl _)) hf
                  exact absurd (blk_type hk' hk2) (by decide)
                · rcases hnn with hnn | hnn
                  · rw [hnn] at hg; exact .inl hg
                  · rw [hnn] at hg
                    have := Option.some.inj hg
                    have := hbW.size
                    exact .inr (by omega)
              · have d0 : vs 0 = .pointer (some ⟨E, 0, none⟩) := hJ.dt 0 _ (hdep ⟨0, .data⟩ (by simp) rfl) rfl
                refine StepJ.val (v := .pointer (some ⟨E, 0, none⟩)) rfl ?_ (hJ.same (by omega) (by simp) rfl)
                clear hJ hdep hE
                unfold lexA
                simp only [putAll, preI, Nat.reduceLT, Nat.reduceAdd, decide_true, decide_false, Bool.false_eq_true, if_true, if_false, Act.put, List.setIfInBounds_toArray, List.set_cons_zero, List.set_cons_succ]
                go_simp
              · have d9 : vs 9 = .pointer (some ⟨E, 0, none⟩) := hJ.dt 9 _ (hdep ⟨9, .data⟩ (by simp) rfl) rfl
                refine StepJ.val (v := .pointer (some ⟨E, 5, none⟩)) rfl ?_ (hJ.same (by omega) (by simp) rfl)
                clear hJ hdep hE
                unfold lexA
                simp only [putAll, preI, Nat.reduceLT, Nat.reduceAdd, decide_true, decide_false, Bool.false_eq_true, if_true, if_false, Act.put, List.setIfInBounds_toArray, List.set_cons_zero, List.set_cons_succ]
                go_simp
            · intro s vs W hall hJ
              obtain ⟨A', c', hon, hoc, hmn, hnn⟩ := hJ.w1 (hall 8 (by omega))
              obtain ⟨A8, c8, d8, _⟩ := own_rd hon
              rw [d8] at hon hnn
              have hE8 := hmn.blk HS6.out.e.box (fun hg => by
                obtain ⟨cs', hk'⟩ := own_blk HS6.out.e.rg hg
                exact absurd (blk_type hk' HS6.out.e.box) (by decide))
              have y0 := hE8.cell 5 _ rfl
              have y1 := hE8.free 5
              have d10 : vs 10 = .pointer (some ⟨E, 5, none⟩) := hJ.dt 10 _ (hall 10 (by omega)) rfl
              obtain ⟨hfin, hmf⟩ := HS6.out.e.gapp hon hmn (x := ⟨⟨mk, ms, mt, mq, mc, ml⟩, A', n, c'⟩) ⟨hoc, HML.out, hn400⟩
              have HX8 := Lib.hid (show InPost w base E a b nx wt ow (.slice Aw ws.length cw) ws (.slice Ag gs.length cg) gs ⟨mk, ms, mt, mq, mc, ml⟩ n (.returned (.int .i64 ((0 : Nat) : Int))) (W.setCell ⟨E, 5, none⟩ (.slice A8 (gs.length + 1) c8)) from ⟨by rw [HP.out], .inr (.inr (.inr ⟨HP.out, HK3.out, HSW.out, _, A', c', hfin, fun g hg => (hnn g hg).elim .inl (fun h => .inr (Nat.le_trans HS6.out.md.size h)), HS6.out.md.trans hmf (fun k _ h => h)⟩))⟩)
              clear hJ hall hon hoc hnn hmn hE8 hfin hmf
              unfold lexA
              simp only [putAll, preI, Nat.reduceLT, Nat.reduceAdd, decide_true, decide_false, Bool.false_eq_true, if_true, if_false, Act.put, List.setIfInBounds_toArray, List.set_cons_zero, List.set_cons_succ, List.drop_succ_cons, List.drop_zero]
              rw [d8, d10]
              go_wp2_with fail
              go_ret
              exact HX8.out
          · have hwq : (mq == wt) = false := by simpa using hsw
            refine wp_region_seq (fun W => InSt w (EndF E (.slice Aw ws.length cw) (.slice Ag gs.length cg)) base E a b nx wt true (.slice Aw ws.length cw) ws (.slice Ag gs.length cg) gs gb #[.int .i64 mk, .int .i64 ms, .int .i64 mt, .int .i64 mq, .int .u32 mc, .slice A n c] W) (fun W W' h hb => h.below hb) (by kernel_rfl) (by kernel_rfl) (HS4.out.below (Below.refl _ _).drew) ?_
            repeat (first
              | (refine wpSeq_off (by rfl) ?_; try simp only [Act.put, List.setIfInBounds_toArray, List.set_cons_zero, List.set_cons_succ])
              | (refine wpSeq_val (v := .bool true) (by rfl) (fun W hS => ?_) ?_
                 · (clear hS; go_simp; done)
                 try simp only [Act.put, List.setIfInBounds_toArray, List.set_cons_zero, List.set_cons_succ])
              | (refine wpSeq_val (v := .bool false) (by rfl) (fun W hS => ?_) ?_
                 · (clear hS; go_simp; done)
                 try simp only [Act.put, List.setIfInBounds_toArray, List.set_cons_zero, List.set_cons_succ])
              | (refine wpSeq_val (v := ?_) (by rfl) (fun W hS => ?_) ?_
                 rotate_left
                 · ((have fe := hS.e.box; have c0 := fe.cell 0 _ rfl; have c1 := fe.cell 1 _ rfl; have c2 := fe.cell 2 _ rfl; have c4 := fe.cell 4 _ rfl; have z1 := hS.bx.cell 1 _ rfl; have z2 := hS.bx.cell 2 _ rfl; have z3 := hS.bx.cell 3 _ rfl; clear hS fe); go_simp; first | done | with_reducible rfl)
                 try simp only [Act.put, List.setIfInBounds_toArray, List.set_cons_zero, List.set_cons_succ]))
            refine wpSeq_nil (fun W hS => ?_)
            have HS5 := Lib.hid hS
            have HSW := Lib.hid hsw
            clear hS HS4 hsw
            go_wp2_with fail
            go_ret
            exact ⟨by rw [HP.out]; rfl, .inr (.inr (.inl ⟨HP.out, HK3.out, HSW.out, HS5.out.e, HS5.out.md⟩))⟩
      · have hsq : (ms != b) = false := by simpa using hs0
        have htq : (mt != a) = true := by simpa using ht0
        have HP := Lib.hid (HPC2.out.trans (if_pos (.inr ht0)))
        clear hs0 ht0 HPC2
        refine wp_region_seq (fun W => InSt w (EndF E (.slice Aw ws.length cw) (.slice Ag gs.length cg)) base E a b nx wt ow (.slice Aw ws.length cw) ws (.slice Ag gs.length cg) gs gb #[.int .i64 mk, .int .i64 ms, .int .i64 mt, .int .i64 mq, .int .u32 mc, .slice A n c] W) (fun W W' h hb => h.below hb) (by kernel_rfl) (by kernel_rfl) (HS2.out.below (Below.refl _ _).drew) ?_
        repeat (first
          | (refine wpSeq_off (by rfl) ?_; try simp only [Act.put, List.setIfInBounds_toArray, List.set_cons_zero, List.set_cons_succ])
          | (refine wpSeq_val (v := .bool true) (by rfl) (fun W hS => ?_) ?_
             · (clear hS; go_simp; done)
             try simp only [Act.put, List.setIfInBounds_toArray, List.set_cons_zero, List.set_cons_succ])
          | (refine wpSeq_val (v := .bool false) (by rfl) (fun W hS => ?_) ?_
             · (clear hS; go_simp; done)
             try simp only [Act.put, List.setIfInBounds_toArray, List.set_cons_zero, List.set_cons_succ])
          | (refine wpSeq_val (v := ?_) (by rfl) (fun W hS => ?_) ?_
             rotate_left
             · ((have fe := hS.e.box; have c0 := fe.cell 0 _ rfl; have c1 := fe.cell 1 _ rfl; have c2 := fe.cell 2 _ rfl; have c4 := fe.cell 4 _ rfl; have z1 := hS.bx.cell 1 _ rfl; have z2 := hS.bx.cell 2 _ rfl; have z3 := hS.bx.cell 3 _ rfl; clear hS fe); go_simp; first | done | with_reducible rfl)
             try simp only [Act.put, List.setIfInBounds_toArray, List.set_cons_zero, List.set_cons_succ]))
        refine wpSeq_nil (fun W hS => ?_)
        have HS3 := Lib.hid hS
        clear hS
        go_wp2_with fail
        go_ret
        exact ⟨by rw [HP.out]; rfl, .inl ⟨by rw [HP.out]; decide, HS3.out.e, HS3.out.md⟩⟩
    · have hsq : (ms != b) = true := by simpa using hs0
      have HP := Lib.hid (HPC2.out.trans (if_pos (.inl hs0)))
      clear hs0 HPC2
      refine wp_region_seq (fun W => InSt w (EndF E (.slice Aw ws.length cw) (.slice Ag gs.length cg)) base E a b nx wt ow (.slice Aw ws.length cw) ws (.slice Ag gs.length cg) gs gb #[.int .i64 mk, .int .i64 ms, .int .i64 mt, .int .i64 mq, .int .u32 mc, .slice A n c] W) (fun W W' h hb => h.below hb) (by kernel_rfl) (by kernel_rfl) (HS2.out.below (Below.refl _ _).drew) ?_
      repeat (first
        | (refine wpSeq_off (by rfl) ?_; try simp only [Act.put, List.setIfInBounds_toArray, List.set_cons_zero, List.set_cons_succ])
        | (refine wpSeq_val (v := .bool true) (by rfl) (fun W hS => ?_) ?_
           · (clear hS; go_simp; done)
           try simp only [Act.put, List.setIfInBounds_toArray, List.set_cons_zero, List.set_cons_succ])
        | (refine wpSeq_val (v := .bool false) (by rfl) (fun W hS => ?_) ?_
           · (clear hS; go_simp; done)
           try simp only [Act.put, List.setIfInBounds_toArray, List.set_cons_zero, List.set_cons_succ])
        | (refine wpSeq_val (v := ?_) (by rfl) (fun W hS => ?_) ?_
           rotate_left
           · ((have fe := hS.e.box; have c0 := fe.cell 0 _ rfl; have c1 := fe.cell 1 _ rfl; have c2 := fe.cell 2 _ rfl; have c4 := fe.cell 4 _ rfl; have z1 := hS.bx.cell 1 _ rfl; have z2 := hS.bx.cell 2 _ rfl; have z3 := hS.bx.cell 3 _ rfl; clear hS fe); go_simp; first | done | with_reducible rfl)
           try simp only [Act.put, List.setIfInBounds_toArray, List.set_cons_zero, List.set_cons_succ]))
      refine wpSeq_nil (fun W hS => ?_)
      have HS3 := Lib.hid hS
      clear hS
      go_wp2_with fail
      go_ret
      exact ⟨by rw [HP.out]; rfl, .inl ⟨by rw [HP.out]; decide, HS3.out.e, HS3.out.md⟩⟩
  · have HP := Lib.hid (HPC.out.trans (if_pos hf0))
    have hf2 : ((F0 : Int) != 0) = true := by simp; omega
    go_wp2_with fail
    go_ret
    exact ⟨by rw [HP.out]; rfl, .inl ⟨by rw [HP.out]; exact hf0, HS2.out.e, HS2.out.md⟩⟩
end Go.Proofs.Ytpnefacignalpaa
