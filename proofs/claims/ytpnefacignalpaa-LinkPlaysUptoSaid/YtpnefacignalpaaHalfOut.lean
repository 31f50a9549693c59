/- half.out, walked. Conditions: those typed. -/
import Derived.Test.YtpnefacignalpaaHalfIn
namespace Go.Proofs.Ytpnefacignalpaa
open Go.RowKit Go.Gy
set_option linter.unusedVariables false
set_option linter.unusedSimpArgs false
theorem exec_buildB2 {ev : Operand → Value} {o : Oper} {W : World} (x3 x4 : Operand) (ho : o.op = .build 43 #[(0, .const (.int .i64 3)), (1, .const (.int .i64 0)), (2, .const (.int .i64 1)), (3, x3), (4, x4)]) (q t : Int) (h3 : ev x3 = .int .i64 q) (h4 : ev x4 = .int .u32 t) (hc : ev (.const (.int .i64 3)) = .int .i64 3 := by rfl) (hc0 : ev (.const (.int .i64 0)) = .int .i64 0 := by rfl) (hc1 : ev (.const (.int .i64 1)) = .int .i64 1 := by rfl) :
    (execOp ev o).run Try.prog W = .ok (.value (.agg #[.int .i64 3, .int .i64 0, .int .i64 1, .int .i64 q, .int .u32 t, .slice none 0 0])) W := by
  unfold execOp
  simp only [ho, List.map_toArray, List.map_cons, List.map_nil, h3, h4, hc, hc0, hc1]
  go_simp
theorem encL_set (T : Int) : ∀ (ws : List WK) (j : Nat) (x : WK), ws[j]? = some x → (ws.flatMap encL).set j (.int .i64 T) = (ws.set j (x.1, T)).flatMap encL
  | [], j, x, h => by simp at h
  | y :: ws, 0, x, h => rfl
  | y :: ws, j + 1, x, h => by
    rw [List.getElem?_cons_succ] at h
    rw [List.flatMap_cons, List.set_cons_succ, List.flatMap_cons, ← encL_set T ws j x h]
    rfl
theorem encH_set (T : Int) : ∀ (ws : List WK) (j : Nat) (x : WK), ws[j]? = some x → (ws.set j (x.1, T)).flatMap encH = ws.flatMap encH
  | [], j, x, h => by simp at h
  | y :: ws, 0, x, h => by
    simp only [List.getElem?_cons_zero, Option.some.injEq] at h
    subst h
    rfl
  | y :: ws, j + 1, x, h => by
    rw [List.getElem?_cons_succ] at h
    rw [List.set_cons_succ, List.flatMap_cons, List.flatMap_cons, encH_set T ws j x h]
/-- the time of a waiting message is stored -/
theorem HalfAt.last {W : World} {base H b2 o2 c2 j n : Nat} {nx wt T : Int} {ow : Bool} {hw hg : Value} {hs : List WK} {gs : List SM} {x : WK} (h : HalfAt W base H nx wt ow hw (.slice (some ⟨b2, o2, none⟩) n c2) hs hg gs) (hn : n = hs.length) (hj : hs[j]? = some x) :
    HalfAt (W.setCell ⟨b2, o2 + j, none⟩ (.int .i64 T)) base H nx wt ow hw (.slice (some ⟨b2, o2, none⟩) n c2) (hs.set j (x.1, T)) hg gs ∧ Mod (HalfF H hw (.slice (some ⟨b2, o2, none⟩) n c2) hg) W (W.setCell ⟨b2, o2 + j, none⟩ (.int .i64 T)) := by
  subst hn
  have hjl := (List.getElem?_eq_some_iff.1 hj).1
  have hm : Mod (fun k => k = b2) W (W.setCell ⟨b2, o2 + j, none⟩ (.int .i64 T)) := (Mod.refl (fun g => g = b2) W).set (g := b2) (fun _ => rfl) _ _
  obtain ⟨cs0, hk0⟩ := h.rl.blk (g := b2) rfl
  refine ⟨h.mk' hm (fun g e => by rw [e]; exact (h.rl.lt b2 rfl).1) (hm.blk h.box (fun e => ?_)) ?_ ?_ (hm.own h.rg (fun g cs _ hk hf => ?_)) (fun y hy => ?_) (fun y hy => .inl hy) h.ap, hm.mono (fun k _ e => Or.inr (Or.inr (Or.inl (by rw [e]; rfl))))⟩
  · have hk := h.box
    rw [e] at hk
    exact absurd (blk_type hk hk0) (by decide)
  · rw [encH_set T hs j x hj, List.length_set]
    refine h.rw.mod hm (fun g hg hf => ?_)
    subst hf
    obtain ⟨cs, hk⟩ := h.rw.blk hg
    exact absurd (blk_type hk hk0) (by decide)
  · have := h.rl.set j (.int .i64 T) (by omega)
    rw [encL_set T hs j x hj] at this
    rw [List.length_set]
    exact this
  · subst hf
    exact absurd (blk_type hk hk0) (by decide)
  · rcases List.mem_or_eq_of_mem_set hy with hy | rfl
    · exact .inl hy
    · exact .inr (h.mw x (List.mem_of_getElem? hj))
theorem due_abs (T ck : Int) (l : List WK) (k : Nat) : ((l.take k).filter (dueB T)).map (fun x => clkM ck x.1.m) = (((l.map absW).take k).filter (fun y => decide (y.2 < 0 ∨ 4 ≤ T - y.2))).map (fun y => clkM ck y.1) := by
  rw [← List.map_take, List.filter_map, List.map_map]
  rfl
theorem cur_abs (T : Int) (l : List WK) (k : Nat) : (curW T l k).map absW = ((l.map absW).take k).map (fun y => if decide (y.2 < 0 ∨ 4 ≤ T - y.2) then (y.1, T) else y) ++ (l.map absW).drop k := by
  unfold curW
  rw [List.map_append, ← List.map_take, ← List.map_drop, List.map_map, List.map_map]
  congr 1
  refine List.map_congr_left (fun x _ => ?_)
  by_cases h : x.2 < 0 ∨ 4 ≤ T - x.2
  · simp [Function.comp, updW, dueB, absW, h]
  · simp [Function.comp, updW, dueB, absW, h]
structure OhSt (w : World) (base E H : Nat) (nx wt : Int) (ow : Bool) (vw : Value) (ws : List WK) (vg : Value) (gs : List SM) (ow' : Bool) (hw hl : Value) (hs : List WK) (hg : Value) (hgs : List SM) (out : Value) (Ls : List SM) (W : World) : Prop where
  t : TwoAt W base E H nx wt ow vw ws vg gs nx wt ow' hw hl hs hg hgs
  row : W.ownsRow w.heap.size 43 6 out Ls.length (Ls.flatMap encM)
  at_ : ∀ s ∈ Ls, MsgAt W base s.m s.A s.n s.c
  bel : Below base w W
  sz : w.heap.size ≤ W.heap.size
  lo : base ≤ w.heap.size
  lt : ∀ g, HalfF H hw hl hg g → g < w.heap.size
section
variable {w W W' : World} {base E H : Nat} {nx wt : Int} {ow ow' : Bool} {vw vg hw hl hg out : Value} {ws hs : List WK} {gs hgs Ls : List SM}
theorem OhSt.below (h : OhSt w base E H nx wt ow vw ws vg gs ow' hw hl hs hg hgs out Ls W) (hb : Below W.heap.size W W') : OhSt w base E H nx wt ow vw ws vg gs ow' hw hl hs hg hgs out Ls W' :=
  ⟨h.t.below hb, own_below h.row hb (Nat.le_refl _), fun s hs => (h.at_ s hs).below (hb.mono (Nat.le_trans h.lo h.sz)), h.bel.trans (hb.mono (Nat.le_trans h.lo h.sz)), Nat.le_trans h.sz hb.size, h.lo, h.lt⟩
theorem OhSt.half {ow2 : Bool} {hs2 : List WK} (h : OhSt w base E H nx wt ow vw ws vg gs ow' hw hl hs hg hgs out Ls W) (he : HalfAt W' base H nx wt ow2 hw hl hs2 hg hgs) (hm : Mod (HalfF H hw hl hg) W W') : OhSt w base E H nx wt ow vw ws vg gs ow2 hw hl hs2 hg hgs out Ls W' := by
  have hb : Below base W W' := hm.below (fun g hg hf => by have := (h.t.h.flo g hf).1; omega) (Nat.le_trans h.lo h.sz)
  exact ⟨h.t.half he hm (nearV_refl _ _) (nearV_refl _ _), hm.own h.row (fun g cs hg _ hf => by
    have := (h.row.lt g hg).1
    have := h.lt g hf
    omega), fun s hs => (h.at_ s hs).below hb, h.bel.trans hb, Nat.le_trans h.sz hm.size, h.lo, h.lt⟩
theorem OhSt.push {out' : Value} {s : SM} (h : OhSt w base E H nx wt ow vw ws vg gs ow' hw hl hs hg hgs out Ls W) (hlE : ∀ g, EndF E vw vg g → g < w.heap.size) (hrow : W'.ownsRow w.heap.size 43 6 out' (Ls.length + 1) (Ls.flatMap encM ++ encM s)) (hm : Mod (fun k => out.ownBlock = some k) W W') (hs' : MsgAt W base s.m s.A s.n s.c) : OhSt w base E H nx wt ow vw ws vg gs ow' hw hl hs hg hgs out' (Ls ++ [s]) W' := by
  have hb : Below base W W' := hm.below (fun g hg hf => by have := (h.row.lt g hf).1; have := h.lo; omega) (Nat.le_trans h.lo h.sz)
  refine ⟨⟨h.t.e.keep hm (fun g t cs hk hf => ⟨fun hf2 => ?_, ?_⟩), h.t.h.keep hm (fun g hf hf2 => ?_) (fun g hf => ?_), h.t.ap⟩, ?_, fun y hy => ?_, h.bel.trans hb, Nat.le_trans h.sz hm.size, h.lo, h.lt⟩
  · have := hlE g hf2
    have := (h.row.lt g hf).1
    omega
  · obtain ⟨cs', hk'⟩ := own_blk h.row hf
    rw [blk_type hk hk']
    decide
  · have := h.lt g hf2
    have := (h.row.lt g hf).1
    omega
  · have := (h.row.lt g hf).1
    have := h.lo
    omega
  · rw [List.length_append, List.flatMap_append]
    simpa using hrow
  · rcases List.mem_append.1 hy with hy | hy
    · exact (h.at_ y hy).below hb
    · rw [List.mem_singleton.1 hy]
      exact hs'.below hb
end
def OhRel (w : World) (base E H : Nat) (nx wt : Int) (ow : Bool) (vw : Value) (ws : List WK) (vg : Value) (gs : List SM) (hw hl : Value) (hs : List WK) (hg : Value) (hgs : List SM) (T ck : Int) (N : Nat) (out i : Value) (wr : World) : Prop := ∃ (j : Nat) (Ls : List SM), j ≤ N ∧ i = .int .i64 j ∧ Ls.map (·.m) = ((hs.take j).filter (dueB T)).map (fun x => clkM ck x.1.m) ∧ OhSt w base E H nx wt ow vw ws vg gs ow hw hl (curW T hs j) hg hgs out Ls wr
set_option maxRecDepth 100000 in
set_option maxHeartbeats 16000000 in
theorem hout_any (w : World) (base E H B : Nat) (nx wt : Int) (ow : Bool) (vw vg hw hl hg : Value) (ws hs : List WK) (gs hgs : List SM) (ht : TwoAt w base E H nx wt ow vw ws vg gs nx wt ow hw hl hs hg hgs) (hlr : LR B nx wt ws hs gs hgs) (hB : B + 1 ≤ 1073741824) (hbase : base ≤ w.heap.size) (tick ck : Int) :
    Calls Try.prog 29 #[.pointer (some ⟨H, 0, none⟩), .pointer (some ⟨E, 0, none⟩), .int .i64 tick, .int .u32 ck] w fun e w' => e = .returned (.bool true) ∧ TwoSt base E H (B + 1) w' ∧ Below base w w' := by
  obtain ⟨T, hT⟩ : ∃ T : Int, T = max 0 (min tick 2000) := ⟨_, rfl⟩
  have hT2 : 0 ≤ T ∧ T ≤ 2000 := by omega
  have hTT : T = max 0 (min T 2000) := by omega
  obtain ⟨j0, hj0, hy0, hy1, hy2⟩ := info_parts info_msgI
  obtain ⟨N, hN⟩ : ∃ N, N = min hs.length 8 := ⟨_, rfl⟩
  have hhs : hs.length = ws.length := by
    have := congrArg List.length hlr.w
    rwa [List.length_map, List.length_map] at this
  have hla : ∀ x ∈ hs, -1 ≤ x.2 ∧ x.2 ≤ 2000 := fun x hx => by
    have h1 : absW x ∈ ws.map absW := by rw [← hlr.w]; exact List.mem_map_of_mem hx
    obtain ⟨y, hy, e⟩ := List.mem_map.1 h1
    have := hlr.la y hy
    have e2 : y.2 = x.2 := congrArg (fun p : GMsg × Int => p.2) e
    omega
  have HFE := Lib.hid (fun g hf => (ht.e.flo g hf).2)
  have hO : OhSt w base E H nx wt ow vw ws vg gs ow hw hl (curW T hs 0) hg hgs (.slice none 0 0) [] w := ⟨ht, World.ownsRow_nil _ _ _ _, fun s hs => (by cases hs), Below.refl _ _, Nat.le_refl _, hbase, fun g hf => (ht.h.flo g hf).2⟩
  obtain ⟨Aw, cw, hvw, _⟩ := ht.h.rw.rd
  subst hvw
  obtain ⟨Al, cl, hvl, _⟩ := ht.h.rl.rd
  subst hvl
  have hst := Lib.hid (show OhRel w base E H nx wt ow vw ws vg gs (.slice Aw hs.length cw) (.slice Al hs.length cl) hs hg hgs T ck N (.slice none 0 0) (.int .i64 0) w from ⟨0, [], Nat.zero_le _, rfl, rfl, hO⟩)
  have HT := Lib.hid hT
  have HTT := Lib.hid hTT
  have HN := Lib.hid hN
  have HLA := Lib.hid hla
  have HLR := Lib.hid hlr
  have HHS := Lib.hid hhs
  have hws := hlr.len
  clear ht hT hTT hN hla hO hlr hhs
  go_enter Try.func29, Try.ntmps29
  go_upto_region 1 with (fail)
  go_cut [2] (fun q wx => q = .int .i64 T ∧ w = wx)
  case first =>
    go_wp2_with fail
    all_goals
      go_meet
      exact ⟨congrArg (Value.int .i64) (by have := HT.out; omega), rfl⟩
  case rest =>
    obtain ⟨rfl, rfl⟩ := hcut
    go_wp2_with fail
    go_loopw [9, 10] (fun out i wr => OhRel w base E H nx wt ow vw ws vg gs (.slice Aw hs.length cw) (.slice Al hs.length cl) hs hg hgs T ck N out i wr) (fun _ i _ => N - (intOf i).toNat)
    case atStart => exact hst.out
    case round =>
      clear hst
      obtain ⟨j, Ls, hj, rfl, hLm, hO⟩ := hrel
      obtain ⟨Ao, co, rfl, _, _, _⟩ := own_rd hO.row
      have hNl : N ≤ hs.length ∧ N ≤ 8 := by have := HN.out; omega
      have hhl : hs.length ≤ 500 := by have := HHS.out; omega
      have hLl : Ls.length ≤ 8 := by
        have h1 := congrArg List.length hLm
        rw [List.length_map, List.length_map] at h1
        have h2 := List.length_filter_le (dueB T) (hs.take j)
        rw [List.length_take] at h2
        omega
      have c2 := hO.t.h.box.cell 2 _ rfl
      have c3 := hO.t.h.box.cell 3 _ rfl
      by_cases hlt : j < N
      · have hjw2 : (j : Int) < (hs.length : Int) := by omega
        have hj8 : (j : Int) < 8 := by omega
        have hjw : (0 : Int) ≤ (j : Int) ∧ (j : Int) < (hs.length : Int) := by omega
        have hwj : IntKind.i64.wrap ((j : Int) + 1) = (j : Int) + 1 := by rw [IntKind.wrap_i64]; omega
        have hrd1 : Rd wr wr.heap.size 6 Aw hs.length ((curW T hs j).flatMap encH) := by
          obtain ⟨A', c', e, _, _, _, hr⟩ := hO.t.h.rw.rd
          rw [curW_len] at e hr
          cases e
          exact hr
        have hrd2 : Rd wr wr.heap.size 1 Al hs.length ((curW T hs j).flatMap encL) := by
          obtain ⟨A', c', e, _, _, _, hr⟩ := hO.t.h.rl.rd
          rw [curW_len] at e hr
          cases e
          exact hr
        obtain ⟨b1, o1, x1', rfl, hbB1, hg1, hcc1⟩ := hrd1.elem encH_len (curW_len T hs j) (show j < hs.length by omega)
        obtain ⟨b2, o2, x2', rfl, hbB2, hg2, hcc2⟩ := hrd2.elem encL_len (curW_len T hs j) (show j < hs.length by omega)
        obtain rfl : x1' = x2' := Option.some.inj (hg1.symm.trans hg2)
        obtain ⟨⟨⟨mk, ms, mt, mq, mc, ml⟩, A, n, c⟩, la⟩ := x1'
        have hgw : hs[j]? = some (⟨⟨mk, ms, mt, mq, mc, ml⟩, A, n, c⟩, la) := (curW_get (by omega)).symm.trans hg1
        have hla := HLA.out _ (List.mem_of_getElem? hgw)
        simp only at hla
        have x6 : wr.cell? ⟨b2, o2 + j, none⟩ = some (.int .i64 la) := by
          have := hcc2 0 (.int .i64 la) rfl
          rwa [Nat.mul_one, Nat.add_zero] at this
        have htk : hs.take (j + 1) = hs.take j ++ [(⟨⟨mk, ms, mt, mq, mc, ml⟩, A, n, c⟩, la)] := by
          obtain ⟨hj', e⟩ := List.getElem?_eq_some_iff.1 hgw
          rw [List.take_succ_eq_append_getElem hj', e]
        have HG := Lib.hid hg1
        have HGW := Lib.hid hgw
        have HTK := Lib.hid htk
        have HLM := Lib.hid hLm
        have HO := Lib.hid hO
        have HLA2 := Lib.hid hla
        have HC1 := Lib.hid hcc1
        have hwt4 : IntKind.i64.wrap (T - 4) = T - 4 := by rw [IntKind.wrap_i64]; omega
        clear hcc1 hcc2 hg1 hg2 hgw htk hLm hO hrd1 hrd2 hbB1 hbB2 hla
        by_cases hd : dueB T (⟨⟨mk, ms, mt, mq, mc, ml⟩, A, n, c⟩, la) = true
        · have HD := Lib.hid hd
          have cf := fun i => show wr.frozen? ⟨b2, i, none⟩ = false from by
            obtain ⟨cs0, hk0⟩ := HO.out.t.h.rl.blk (g := b2) rfl
            exact hk0.free i
          by_cases hl1 : la = -1
          · have hlq : (la == -1) = true := by simpa using hl1
            clear hd hl1
            go_upto_region 8 with (fail)
            obtain ⟨hE8, hM8⟩ := HO.out.t.h.last (T := T) (curW_len T hs j).symm HG.out
            have hO8 := HO.out.half hE8 hM8
            generalize wr.setCell ⟨b2, o2 + j, none⟩ (.int .i64 T) = w8 at hE8 hM8 hO8 ⊢
            have hrd8 : Rd w8 w8.heap.size 6 (some ⟨b1, o1, none⟩) hs.length ((curW T hs j).flatMap encH) := by
              obtain ⟨A', c', e, _, _, _, hr⟩ := hE8.rw.rd
              rw [List.length_set, curW_len] at e hr
              rw [encH_set T _ j _ HG.out] at hr
              cases e
              exact hr
            obtain ⟨bb, oo, x3', e3, _, hg3, hcc3⟩ := hrd8.elem encH_len (curW_len T hs j) (show j < hs.length by omega)
            cases e3
            obtain rfl : x3' = (⟨⟨mk, ms, mt, mq, mc, ml⟩, A, n, c⟩, la) := Option.some.inj (hg3.symm.trans HG.out)
            have hma : MsgAt w8 base ⟨mk, ms, mt, mq, mc, ml⟩ A n c := hE8.mw (⟨⟨mk, ms, mt, mq, mc, ml⟩, A, n, c⟩, T) (List.mem_of_getElem? (List.getElem?_set_self (by rw [curW_len]; omega)))
            clear c2 c3 x6 cf
            have c2 := hE8.box.cell 2 _ rfl
            have x0 : w8.cell? ⟨b1, o1 + j * 6, none⟩ = some (.int .i64 mk) := hcc3 0 _ rfl
            have x1 : w8.cell? ⟨b1, o1 + j * 6 + 1, none⟩ = some (.int .i64 ms) := hcc3 1 _ rfl
            have x2 : w8.cell? ⟨b1, o1 + j * 6 + 2, none⟩ = some (.int .i64 mt) := hcc3 2 _ rfl
            have x3 : w8.cell? ⟨b1, o1 + j * 6 + 3, none⟩ = some (.int .i64 mq) := hcc3 3 _ rfl
            have x4 : w8.cell? ⟨b1, o1 + j * 6 + 4, none⟩ = some (.int .u32 mc) := hcc3 4 _ rfl
            have x5 : w8.cell? ⟨b1, o1 + j * 6 + 5, none⟩ = some (.slice A n c) := hcc3 5 _ rfl
            have HO8 := Lib.hid hO8
            have HMA := Lib.hid hma
            clear hE8 hM8 hO8 hrd8 hg3 hcc3 hma
            go_upto_region 10 with (fail)
            clear c2 x0 x1 x2 x3 x4 x5
            have hkA := Blk.new w8 43 #[.int .i64 mk, .int .i64 ms, .int .i64 mt, .int .i64 mq, .int .u32 ck, .slice A n c]
            have hbA : Below w8.heap.size w8 (w8.alloc (.cells #[.int .i64 mk, .int .i64 ms, .int .i64 mt, .int .i64 mq, .int .u32 ck, .slice A n c] 43)) := (Below.refl _ _).alloc (Nat.le_refl _) _
            obtain ⟨gA, hgA⟩ : ∃ gA, gA = w8.heap.size := ⟨_, rfl⟩
            have HOA := Lib.hid (HO8.out.below hbA)
            have HMB := Lib.hid (HMA.out.below (hbA.mono (Nat.le_trans HO8.out.lo HO8.out.sz)))
            generalize w8.alloc (.cells #[.int .i64 mk, .int .i64 ms, .int .i64 mt, .int .i64 mq, .int .u32 ck, .slice A n c] 43) = wA at hkA HOA HMB ⊢
            rw [← hgA] at hkA ⊢
            have hzA : w.heap.size ≤ wA.heap.size := HOA.out.sz
            have y0 := hkA.cell 0 _ rfl
            have y1 := hkA.cell 1 _ rfl
            have y2 := hkA.cell 2 _ rfl
            have y3 := hkA.cell 3 _ rfl
            have y4 := hkA.cell 4 _ rfl
            have y5 := hkA.cell 5 _ rfl
            clear hkA hbA hgA HO8 HMA
            refine wp_region_lit ?_
            refine wpList_val2 rfl (v := .slice Ao Ls.length co) (w' := wA) ?_ ?_
            · go_simp
            simp only [Act.put, List.setIfInBounds_toArray, List.set_cons_zero, List.set_cons_succ]
            refine wpList_val2 rfl (v := .agg #[.int .i64 mk, .int .i64 ms, .int .i64 mt, .int .i64 mq, .int .u32 ck, .slice A n c]) (w' := wA) ?_ ?_
            · go_simp
            simp only [Act.put, List.setIfInBounds_toArray, List.set_cons_zero, List.set_cons_succ]
            refine wpList_val2 rfl (v := .slice (some ⟨wA.heap.size, 0, none⟩) 1 1) (w' := wA.alloc (.cells #[.int .i64 mk, .int .i64 ms, .int .i64 mt, .int .i64 mq, .int .u32 ck, .slice A n c] 43)) ?_ ?_
            · exact exec_lit (.tmp 65) rfl _ _ _ _ _ _ _ _ rfl
            simp only [Act.put, List.setIfInBounds_toArray, List.set_cons_zero, List.set_cons_succ]
            refine wpList_pushN rfl (.tmp 64) (.tmp 66) 23 rfl w.heap.size 43 j0 (.agg #[.int .i64 0, .int .i64 0, .int .i64 0, .int .i64 0, .int .u32 0, .slice none 0 0]) 6 64 Try.underlying23 hj0 hy0 hy1 hy2 rfl (by omega) (.slice Ao Ls.length co) Ls.length (Ls.flatMap encM) rfl HOA.out.row [.int .i64 mk, .int .i64 ms, .int .i64 mt, .int .i64 mq, .int .u32 ck, .slice A n c] rfl rfl (by simp [Value.oneCell']) (by unfold maxLen; omega) (by omega) hzA ?_
            intro v4 w4 hn4 hm4 hv4 hs4
            have hfin := HOA.out.push HFE.out (s := ⟨⟨mk, ms, mt, mq, ck, ml⟩, A, n, c⟩) hn4 hm4 ⟨HMB.out.len, HMB.out.cap, HMB.out.none_, HMB.out.bound, HMB.out.rd⟩
            have HX := Lib.hid (show OhRel w base E H nx wt ow vw ws vg gs (.slice (some ⟨b1, o1, none⟩) hs.length cw) (.slice (some ⟨b2, o2, none⟩) hs.length cl) hs hg hgs T ck N v4 (.int .i64 ((j : Int) + 1)) w4 from ⟨j + 1, Ls ++ [⟨⟨mk, ms, mt, mq, ck, ml⟩, A, n, c⟩], hlt, by simp, by
              rw [HTK.out, List.filter_append, List.filter_cons_of_pos HD.out, List.filter_nil, List.map_append, List.map_append, HLM.out]
              rfl, by
              rw [curW_next HGW.out]
              have : updW T (⟨⟨mk, ms, mt, mq, mc, ml⟩, A, n, c⟩, la) = (⟨⟨mk, ms, mt, mq, mc, ml⟩, A, n, c⟩, T) := by unfold updW; rw [HD.out]; rfl
              rw [this]
              exact hfin⟩)
            obtain ⟨g4, c4, rfl⟩ := hs4
            clear hn4 hm4 hv4 hfin y0 y1 y2 y3 y4 y5
            simp only [Act.put, List.setIfInBounds_toArray, List.set_cons_zero, List.set_cons_succ]
            go_wp2_with fail
            go_roundw
            case rel => exact HX.out
            case measure => simp [intOf]; omega
          · have hlq : (la == -1) = false := by simpa using hl1
            have hl4 : la ≤ T - 4 := by
              have := of_decide_eq_true hd
              have := HLA2.out
              omega
            clear hd hl1
            go_upto_region 8 with (fail)
            obtain ⟨hE8, hM8⟩ := HO.out.t.h.last (T := T) (curW_len T hs j).symm HG.out
            have hO8 := HO.out.half hE8 hM8
            generalize wr.setCell ⟨b2, o2 + j, none⟩ (.int .i64 T) = w8 at hE8 hM8 hO8 ⊢
            have hrd8 : Rd w8 w8.heap.size 6 (some ⟨b1, o1, none⟩) hs.length ((curW T hs j).flatMap encH) := by
              obtain ⟨A', c', e, _, _, _, hr⟩ := hE8.rw.rd
              rw [List.length_set, curW_len] at e hr
              rw [encH_set T _ j _ HG.out] at hr
              cases e
              exact hr
            obtain ⟨bb, oo, x3', e3, _, hg3, hcc3⟩ := hrd8.elem encH_len (curW_len T hs j) (show j < hs.length by omega)
            cases e3
            obtain rfl : x3' = (⟨⟨mk, ms, mt, mq, mc, ml⟩, A, n, c⟩, la) := Option.some.inj (hg3.symm.trans HG.out)
            have hma : MsgAt w8 base ⟨mk, ms, mt, mq, mc, ml⟩ A n c := hE8.mw (⟨⟨mk, ms, mt, mq, mc, ml⟩, A, n, c⟩, T) (List.mem_of_getElem? (List.getElem?_set_self (by rw [curW_len]; omega)))
            clear c2 c3 x6 cf
            have c2 := hE8.box.cell 2 _ rfl
            have x0 : w8.cell? ⟨b1, o1 + j * 6, none⟩ = some (.int .i64 mk) := hcc3 0 _ rfl
            have x1 : w8.cell? ⟨b1, o1 + j * 6 + 1, none⟩ = some (.int .i64 ms) := hcc3 1 _ rfl
            have x2 : w8.cell? ⟨b1, o1 + j * 6 + 2, none⟩ = some (.int .i64 mt) := hcc3 2 _ rfl
            have x3 : w8.cell? ⟨b1, o1 + j * 6 + 3, none⟩ = some (.int .i64 mq) := hcc3 3 _ rfl
            have x4 : w8.cell? ⟨b1, o1 + j * 6 + 4, none⟩ = some (.int .u32 mc) := hcc3 4 _ rfl
            have x5 : w8.cell? ⟨b1, o1 + j * 6 + 5, none⟩ = some (.slice A n c) := hcc3 5 _ rfl
            have HO8 := Lib.hid hO8
            have HMA := Lib.hid hma
            clear hE8 hM8 hO8 hrd8 hg3 hcc3 hma
            go_upto_region 10 with (fail)
            clear c2 x0 x1 x2 x3 x4 x5
            have hkA := Blk.new w8 43 #[.int .i64 mk, .int .i64 ms, .int .i64 mt, .int .i64 mq, .int .u32 ck, .slice A n c]
            have hbA : Below w8.heap.size w8 (w8.alloc (.cells #[.int .i64 mk, .int .i64 ms, .int .i64 mt, .int .i64 mq, .int .u32 ck, .slice A n c] 43)) := (Below.refl _ _).alloc (Nat.le_refl _) _
            obtain ⟨gA, hgA⟩ : ∃ gA, gA = w8.heap.size := ⟨_, rfl⟩
            have HOA := Lib.hid (HO8.out.below hbA)
            have HMB := Lib.hid (HMA.out.below (hbA.mono (Nat.le_trans HO8.out.lo HO8.out.sz)))
            generalize w8.alloc (.cells #[.int .i64 mk, .int .i64 ms, .int .i64 mt, .int .i64 mq, .int .u32 ck, .slice A n c] 43) = wA at hkA HOA HMB ⊢
            rw [← hgA] at hkA ⊢
            have hzA : w.heap.size ≤ wA.heap.size := HOA.out.sz
            have y0 := hkA.cell 0 _ rfl
            have y1 := hkA.cell 1 _ rfl
            have y2 := hkA.cell 2 _ rfl
            have y3 := hkA.cell 3 _ rfl
            have y4 := hkA.cell 4 _ rfl
            have y5 := hkA.cell 5 _ rfl
            clear hkA hbA hgA HO8 HMA
            refine wp_region_lit ?_
            refine wpList_val2 rfl (v := .slice Ao Ls.length co) (w' := wA) ?_ ?_
            · go_simp
            simp only [Act.put, List.setIfInBounds_toArray, List.set_cons_zero, List.set_cons_succ]
            refine wpList_val2 rfl (v := .agg #[.int .i64 mk, .int .i64 ms, .int .i64 mt, .int .i64 mq, .int .u32 ck, .slice A n c]) (w' := wA) ?_ ?_
            · go_simp
            simp only [Act.put, List.setIfInBounds_toArray, List.set_cons_zero, List.set_cons_succ]
            refine wpList_val2 rfl (v := .slice (some ⟨wA.heap.size, 0, none⟩) 1 1) (w' := wA.alloc (.cells #[.int .i64 mk, .int .i64 ms, .int .i64 mt, .int .i64 mq, .int .u32 ck, .slice A n c] 43)) ?_ ?_
            · exact exec_lit (.tmp 65) rfl _ _ _ _ _ _ _ _ rfl
            simp only [Act.put, List.setIfInBounds_toArray, List.set_cons_zero, List.set_cons_succ]
            refine wpList_pushN rfl (.tmp 64) (.tmp 66) 23 rfl w.heap.size 43 j0 (.agg #[.int .i64 0, .int .i64 0, .int .i64 0, .int .i64 0, .int .u32 0, .slice none 0 0]) 6 64 Try.underlying23 hj0 hy0 hy1 hy2 rfl (by omega) (.slice Ao Ls.length co) Ls.length (Ls.flatMap encM) rfl HOA.out.row [.int .i64 mk, .int .i64 ms, .int .i64 mt, .int .i64 mq, .int .u32 ck, .slice A n c] rfl rfl (by simp [Value.oneCell']) (by unfold maxLen; omega) (by omega) hzA ?_
            intro v4 w4 hn4 hm4 hv4 hs4
            have hfin := HOA.out.push HFE.out (s := ⟨⟨mk, ms, mt, mq, ck, ml⟩, A, n, c⟩) hn4 hm4 ⟨HMB.out.len, HMB.out.cap, HMB.out.none_, HMB.out.bound, HMB.out.rd⟩
            have HX := Lib.hid (show OhRel w base E H nx wt ow vw ws vg gs (.slice (some ⟨b1, o1, none⟩) hs.length cw) (.slice (some ⟨b2, o2, none⟩) hs.length cl) hs hg hgs T ck N v4 (.int .i64 ((j : Int) + 1)) w4 from ⟨j + 1, Ls ++ [⟨⟨mk, ms, mt, mq, ck, ml⟩, A, n, c⟩], hlt, by simp, by
              rw [HTK.out, List.filter_append, List.filter_cons_of_pos HD.out, List.filter_nil, List.map_append, List.map_append, HLM.out]
              rfl, by
              rw [curW_next HGW.out]
              have : updW T (⟨⟨mk, ms, mt, mq, mc, ml⟩, A, n, c⟩, la) = (⟨⟨mk, ms, mt, mq, mc, ml⟩, A, n, c⟩, T) := by unfold updW; rw [HD.out]; rfl
              rw [this]
              exact hfin⟩)
            obtain ⟨g4, c4, rfl⟩ := hs4
            clear hn4 hm4 hv4 hfin y0 y1 y2 y3 y4 y5
            simp only [Act.put, List.setIfInBounds_toArray, List.set_cons_zero, List.set_cons_succ]
            go_wp2_with fail
            go_roundw
            case rel => exact HX.out
            case measure => simp [intOf]; omega
        · have hd' : dueB T (⟨⟨mk, ms, mt, mq, mc, ml⟩, A, n, c⟩, la) = false := by simpa using hd
          have hnd : ¬ (la < 0 ∨ 4 ≤ T - la) := fun h => hd (decide_eq_true h)
          have hlq : (la == -1) = false := by simp; omega
          have hl4 : ¬ la ≤ T - 4 := by omega
          have HX := Lib.hid (show OhRel w base E H nx wt ow vw ws vg gs (.slice (some ⟨b1, o1, none⟩) hs.length cw) (.slice (some ⟨b2, o2, none⟩) hs.length cl) hs hg hgs T ck N (.slice Ao Ls.length co) (.int .i64 ((j : Int) + 1)) wr from ⟨j + 1, Ls, hlt, by simp, by
            rw [HTK.out, List.filter_append, List.filter_cons_of_neg (by rw [hd']; decide), List.filter_nil, List.append_nil]
            exact HLM.out, by
            rw [curW_same HGW.out hd']
            exact HO.out⟩)
          clear hd hd' hnd
          go_wp2_with fail
          go_roundw
          case rel => exact HX.out
          case measure => simp [intOf]; omega
      · obtain rfl : j = N := by omega
        have hcm := curW_min T hs
        rw [← HN.out] at hcm
        rw [hcm.1] at hO
        rw [hcm.2] at hLm
        have c5 := hO.t.h.box.cell 5 _ rfl
        have HLM := Lib.hid hLm
        have HO := Lib.hid hO
        have HNN := Lib.hid hlt
        have hguard : (j : Int) < (hs.length : Int) → ¬ (j : Int) < 8 := fun h => by have := HN.out; omega
        clear hcm hLm hO
        have HEQL := Lib.hid (show ((ws.take 8).filter (dueB T)).map (fun x => clkM ck x.1.m) = Ls.map (·.m) from by
          rw [HLM.out, due_abs, due_abs, HLR.out.w])
        by_cases hjh : (j : Int) < (hs.length : Int)
        · have hj8 := hguard hjh
          clear hguard
          cases ow with
          | false =>
            have HFL := Lib.hid (show outL T ck false 0 1 wt ws = Ls.map (·.m) from by
              unfold outL
              rw [HEQL.out]
              exact List.append_nil _)
            have HLF := Lib.hid (show Ls.length ≤ 1000 by omega)
            have HOF := HO
            have HOT := Lib.hid (out_any wr base E 0 1 nx wt _ vw vg ws gs HOF.out.t.e (Nat.le_trans HOF.out.lo HOF.out.sz) HLR.out.la T ck T HTT.out)
            have HRW := Lib.hid HOF.out.row
            go_wp2_with fail
            refine HOT.out.mono ?_
            rintro e wo ⟨vo, Lo, rfl, hLo, hro, hmo, hEo, hMo⟩
            obtain ⟨A8, c8, rfl, _⟩ := own_rd hro
            have hT9 := HOF.out.t.end_ hEo hMo (nearV_refl _ _)
            have hb9 : Below base wr wo := hMo.below (fun g hg hf => by have := (HOF.out.t.e.flo g hf).1; omega) (Nat.le_trans HOF.out.lo HOF.out.sz)
            have hrw9 := hMo.own HRW.out (fun g cs hg _ hf => by
              have := (HRW.out.lt g hg).1
              have := HFE.out g hf
              omega)
            have heq : Lo.map (·.m) = (Ls).map (·.m) := by rw [hLo, HFL.out]
            have hln : Lo.length ≤ 1000 := by
              have h1 := congrArg List.length heq
              rw [List.length_map, List.length_map] at h1
              have := HLF.out
              omega
            have HEQ := Lib.hid (eqmsgs_law wo _ _ _ _ Lo (Ls) (MsgsAt.of hro hmo) ⟨_, _, _, rfl, hrw9, fun s hs => ((HOF.out.at_ s hs).below hb9).more (Nat.le_trans (Nat.le_trans HOF.out.lo HOF.out.sz) hMo.size)⟩ heq hln)
            have HFIN := Lib.hid (show TwoSt base E H (B + 1) wo from ⟨_, _, _, _, _, _, _, _, _, _, _, _, hT9, by
              obtain ⟨g1, g2, g3, g4, g5, g6, g7, g8⟩ := HLR.out
              refine ⟨by rw [cur_abs, cur_abs, g1], g2, by rw [curW_len]; exact g3, fun x hx => ?_, by omega, by omega, by omega, by omega⟩
              rcases List.mem_append.1 hx with hx | hx
              · obtain ⟨y, hy, rfl⟩ := List.mem_map.1 hx
                have := g4 y (List.mem_of_mem_take hy)
                unfold updW
                split
                · exact ⟨by simp only; omega, by simp only; omega⟩
                · exact this
              · exact g4 x (List.mem_of_mem_drop hx)⟩)
            have HB9 := Lib.hid (HOF.out.bel.trans hb9)
            have HZ9 := Lib.hid (show base ≤ wo.heap.size from Nat.le_trans (Nat.le_trans HOF.out.lo HOF.out.sz) hMo.size)
            clear hLo hro hmo hEo hMo hT9 hb9 hrw9 heq hln HOT
            go_wp2_with fail
            refine HEQ.out.mono ?_
            rintro e wp ⟨rfl, hbp⟩
            have HBP := Lib.hid hbp
            clear hbp
            go_wp2_with fail
            go_ret
            refine ⟨rfl, ?_, HB9.out.trans (HBP.out.mono HZ9.out)⟩
            obtain ⟨a1, a2, a3, a4, a5, a6, a7, a8, a9, a10, a11, a12, ht, hl⟩ := HFIN.out
            exact ⟨a1, a2, a3, a4, a5, a6, a7, a8, a9, a10, a11, a12, ht.below HBP.out, hl⟩
          | true =>
            go_upto_region 12 with (fail)
            have c1 := HO.out.t.h.box.cell 1 _ rfl
            have hzr := HO.out.sz
            refine wp_region_lit ?_
            refine wpList_val2 rfl (v := .slice Ao Ls.length co) (w' := wr) ?_ ?_
            · go_simp
            simp only [Act.put, List.setIfInBounds_toArray, List.set_cons_zero, List.set_cons_succ]
            refine wpList_val2 rfl (v := .pointer (some ⟨H, 0, none⟩)) (w' := wr) ?_ ?_
            · go_simp
            simp only [Act.put, List.setIfInBounds_toArray, List.set_cons_zero, List.set_cons_succ]
            refine wpList_val2 rfl (v := .pointer (some ⟨H, 0, none⟩)) (w' := wr) ?_ ?_
            · go_simp
            simp only [Act.put, List.setIfInBounds_toArray, List.set_cons_zero, List.set_cons_succ]
            refine wpList_val2 rfl (v := .pointer (some ⟨H, 1, none⟩)) (w' := wr) ?_ ?_
            · go_simp
            simp only [Act.put, List.setIfInBounds_toArray, List.set_cons_zero, List.set_cons_succ]
            refine wpList_val2 rfl (v := .int .i64 wt) (w' := wr) ?_ ?_
            · go_simp
            simp only [Act.put, List.setIfInBounds_toArray, List.set_cons_zero, List.set_cons_succ]
            refine wpList_val2 rfl (v := .int .u32 ck) (w' := wr) ?_ ?_
            · go_simp
            simp only [Act.put, List.setIfInBounds_toArray, List.set_cons_zero, List.set_cons_succ]
            refine wpList_val2 rfl (v := .agg #[.int .i64 3, .int .i64 0, .int .i64 1, .int .i64 wt, .int .u32 ck, .slice none 0 0]) (w' := wr) ?_ ?_
            · exact exec_buildB2 (.tmp 76) (.tmp 77) rfl wt ck rfl rfl
            simp only [Act.put, List.setIfInBounds_toArray, List.set_cons_zero, List.set_cons_succ]
            refine wpList_val2 rfl (v := .slice (some ⟨wr.heap.size, 0, none⟩) 1 1) (w' := wr.alloc (.cells #[.int .i64 3, .int .i64 0, .int .i64 1, .int .i64 wt, .int .u32 ck, .slice none 0 0] 43)) ?_ ?_
            · exact exec_lit (.tmp 78) rfl _ _ _ _ _ _ _ _ rfl
            simp only [Act.put, List.setIfInBounds_toArray, List.set_cons_zero, List.set_cons_succ]
            refine wpList_pushN rfl (.tmp 72) (.tmp 79) 23 rfl w.heap.size 43 j0 (.agg #[.int .i64 0, .int .i64 0, .int .i64 0, .int .i64 0, .int .u32 0, .slice none 0 0]) 6 64 Try.underlying23 hj0 hy0 hy1 hy2 rfl (by omega) (.slice Ao Ls.length co) Ls.length (Ls.flatMap encM) rfl HO.out.row [.int .i64 3, .int .i64 0, .int .i64 1, .int .i64 wt, .int .u32 ck, .slice none 0 0] rfl rfl (by simp [Value.oneCell']) (by unfold maxLen; omega) (by omega) hzr ?_
            intro v8 W hon hmn hv8 hs8
            obtain ⟨g8, c8, rfl⟩ := hs8
            have hO9 := HO.out.push HFE.out (s := ⟨⟨3, 0, 1, wt, ck, []⟩, none, 0, 0⟩) hon hmn ⟨rfl, Nat.le_refl _, fun _ => ⟨rfl, rfl⟩, Nat.zero_le _, ⟨rfl, fun h => absurd h (Nat.lt_irrefl 0)⟩⟩
            obtain ⟨hp1, hp2⟩ := hO9.t.h.put (k := 5) (u := .bool false) (nx' := nx) (wt' := wt) (ow' := false) rfl
            have HOF := Lib.hid (hO9.half hp1 (hp2.mono (fun k _ e => Or.inl e)))
            have y0 := hO9.t.h.box.cell 5 _ rfl
            have y1 := hO9.t.h.box.free 5
            have HFL := Lib.hid (show outL T ck true 0 1 wt ws = (Ls ++ [(⟨⟨3, 0, 1, wt, ck, []⟩, none, 0, 0⟩ : SM)]).map (·.m) from by
              unfold outL
              rw [HEQL.out, List.map_append]
              rfl)
            have HLF := Lib.hid (show (Ls ++ [(⟨⟨3, 0, 1, wt, ck, []⟩, none, 0, 0⟩ : SM)]).length ≤ 1000 by rw [List.length_append]; simp only [List.length_cons, List.length_nil]; omega)
            clear hon hmn hv8 hO9 hp1 hp2 c1
            simp only [Act.put, List.setIfInBounds_toArray, List.set_cons_zero, List.set_cons_succ]
            go_upto_region 14 with (fail)
            clear y0 y1
            generalize World.setCell _ ⟨H, 5, none⟩ (.bool false) = wF at HOF ⊢
            have HOT := Lib.hid (out_any wF base E 0 1 nx wt _ vw vg ws gs HOF.out.t.e (Nat.le_trans HOF.out.lo HOF.out.sz) HLR.out.la T ck T HTT.out)
            have HRW := Lib.hid HOF.out.row
            go_wp2_with fail
            refine HOT.out.mono ?_
            rintro e wo ⟨vo, Lo, rfl, hLo, hro, hmo, hEo, hMo⟩
            obtain ⟨A8, c8, rfl, _⟩ := own_rd hro
            have hT9 := HOF.out.t.end_ hEo hMo (nearV_refl _ _)
            have hb9 : Below base wF wo := hMo.below (fun g hg hf => by have := (HOF.out.t.e.flo g hf).1; omega) (Nat.le_trans HOF.out.lo HOF.out.sz)
            have hrw9 := hMo.own HRW.out (fun g cs hg _ hf => by
              have := (HRW.out.lt g hg).1
              have := HFE.out g hf
              omega)
            have heq : Lo.map (·.m) = ((Ls ++ [(⟨⟨3, 0, 1, wt, ck, []⟩, none, 0, 0⟩ : SM)])).map (·.m) := by rw [hLo, HFL.out]
            have hln : Lo.length ≤ 1000 := by
              have h1 := congrArg List.length heq
              rw [List.length_map, List.length_map] at h1
              have := HLF.out
              omega
            have HEQ := Lib.hid (eqmsgs_law wo _ _ _ _ Lo ((Ls ++ [(⟨⟨3, 0, 1, wt, ck, []⟩, none, 0, 0⟩ : SM)])) (MsgsAt.of hro hmo) ⟨_, _, _, rfl, hrw9, fun s hs => ((HOF.out.at_ s hs).below hb9).more (Nat.le_trans (Nat.le_trans HOF.out.lo HOF.out.sz) hMo.size)⟩ heq hln)
            have HFIN := Lib.hid (show TwoSt base E H (B + 1) wo from ⟨_, _, _, _, _, _, _, _, _, _, _, _, hT9, by
              obtain ⟨g1, g2, g3, g4, g5, g6, g7, g8⟩ := HLR.out
              refine ⟨by rw [cur_abs, cur_abs, g1], g2, by rw [curW_len]; exact g3, fun x hx => ?_, by omega, by omega, by omega, by omega⟩
              rcases List.mem_append.1 hx with hx | hx
              · obtain ⟨y, hy, rfl⟩ := List.mem_map.1 hx
                have := g4 y (List.mem_of_mem_take hy)
                unfold updW
                split
                · exact ⟨by simp only; omega, by simp only; omega⟩
                · exact this
              · exact g4 x (List.mem_of_mem_drop hx)⟩)
            have HB9 := Lib.hid (HOF.out.bel.trans hb9)
            have HZ9 := Lib.hid (show base ≤ wo.heap.size from Nat.le_trans (Nat.le_trans HOF.out.lo HOF.out.sz) hMo.size)
            clear hLo hro hmo hEo hMo hT9 hb9 hrw9 heq hln HOT
            go_wp2_with fail
            refine HEQ.out.mono ?_
            rintro e wp ⟨rfl, hbp⟩
            have HBP := Lib.hid hbp
            clear hbp
            go_wp2_with fail
            go_ret
            refine ⟨rfl, ?_, HB9.out.trans (HBP.out.mono HZ9.out)⟩
            obtain ⟨a1, a2, a3, a4, a5, a6, a7, a8, a9, a10, a11, a12, ht, hl⟩ := HFIN.out
            exact ⟨a1, a2, a3, a4, a5, a6, a7, a8, a9, a10, a11, a12, ht.below HBP.out, hl⟩
        · clear hguard
          cases ow with
          | false =>
            have HFL := Lib.hid (show outL T ck false 0 1 wt ws = Ls.map (·.m) from by
              unfold outL
              rw [HEQL.out]
              exact List.append_nil _)
            have HLF := Lib.hid (show Ls.length ≤ 1000 by omega)
            have HOF := HO
            have HOT := Lib.hid (out_any wr base E 0 1 nx wt _ vw vg ws gs HOF.out.t.e (Nat.le_trans HOF.out.lo HOF.out.sz) HLR.out.la T ck T HTT.out)
            have HRW := Lib.hid HOF.out.row
            go_wp2_with fail
            refine HOT.out.mono ?_
            rintro e wo ⟨vo, Lo, rfl, hLo, hro, hmo, hEo, hMo⟩
            obtain ⟨A8, c8, rfl, _⟩ := own_rd hro
            have hT9 := HOF.out.t.end_ hEo hMo (nearV_refl _ _)
            have hb9 : Below base wr wo := hMo.below (fun g hg hf => by have := (HOF.out.t.e.flo g hf).1; omega) (Nat.le_trans HOF.out.lo HOF.out.sz)
            have hrw9 := hMo.own HRW.out (fun g cs hg _ hf => by
              have := (HRW.out.lt g hg).1
              have := HFE.out g hf
              omega)
            have heq : Lo.map (·.m) = (Ls).map (·.m) := by rw [hLo, HFL.out]
            have hln : Lo.length ≤ 1000 := by
              have h1 := congrArg List.length heq
              rw [List.length_map, List.length_map] at h1
              have := HLF.out
              omega
            have HEQ := Lib.hid (eqmsgs_law wo _ _ _ _ Lo (Ls) (MsgsAt.of hro hmo) ⟨_, _, _, rfl, hrw9, fun s hs => ((HOF.out.at_ s hs).below hb9).more (Nat.le_trans (Nat.le_trans HOF.out.lo HOF.out.sz) hMo.size)⟩ heq hln)
            have HFIN := Lib.hid (show TwoSt base E H (B + 1) wo from ⟨_, _, _, _, _, _, _, _, _, _, _, _, hT9, by
              obtain ⟨g1, g2, g3, g4, g5, g6, g7, g8⟩ := HLR.out
              refine ⟨by rw [cur_abs, cur_abs, g1], g2, by rw [curW_len]; exact g3, fun x hx => ?_, by omega, by omega, by omega, by omega⟩
              rcases List.mem_append.1 hx with hx | hx
              · obtain ⟨y, hy, rfl⟩ := List.mem_map.1 hx
                have := g4 y (List.mem_of_mem_take hy)
                unfold updW
                split
                · exact ⟨by simp only; omega, by simp only; omega⟩
                · exact this
              · exact g4 x (List.mem_of_mem_drop hx)⟩)
            have HB9 := Lib.hid (HOF.out.bel.trans hb9)
            have HZ9 := Lib.hid (show base ≤ wo.heap.size from Nat.le_trans (Nat.le_trans HOF.out.lo HOF.out.sz) hMo.size)
            clear hLo hro hmo hEo hMo hT9 hb9 hrw9 heq hln HOT
            go_wp2_with fail
            refine HEQ.out.mono ?_
            rintro e wp ⟨rfl, hbp⟩
            have HBP := Lib.hid hbp
            clear hbp
            go_wp2_with fail
            go_ret
            refine ⟨rfl, ?_, HB9.out.trans (HBP.out.mono HZ9.out)⟩
            obtain ⟨a1, a2, a3, a4, a5, a6, a7, a8, a9, a10, a11, a12, ht, hl⟩ := HFIN.out
            exact ⟨a1, a2, a3, a4, a5, a6, a7, a8, a9, a10, a11, a12, ht.below HBP.out, hl⟩
          | true =>
            go_upto_region 12 with (fail)
            have c1 := HO.out.t.h.box.cell 1 _ rfl
            have hzr := HO.out.sz
            refine wp_region_lit ?_
            refine wpList_val2 rfl (v := .slice Ao Ls.length co) (w' := wr) ?_ ?_
            · go_simp
            simp only [Act.put, List.setIfInBounds_toArray, List.set_cons_zero, List.set_cons_succ]
            refine wpList_val2 rfl (v := .pointer (some ⟨H, 0, none⟩)) (w' := wr) ?_ ?_
            · go_simp
            simp only [Act.put, List.setIfInBounds_toArray, List.set_cons_zero, List.set_cons_succ]
            refine wpList_val2 rfl (v := .pointer (some ⟨H, 0, none⟩)) (w' := wr) ?_ ?_
            · go_simp
            simp only [Act.put, List.setIfInBounds_toArray, List.set_cons_zero, List.set_cons_succ]
            refine wpList_val2 rfl (v := .pointer (some ⟨H, 1, none⟩)) (w' := wr) ?_ ?_
            · go_simp
            simp only [Act.put, List.setIfInBounds_toArray, List.set_cons_zero, List.set_cons_succ]
            refine wpList_val2 rfl (v := .int .i64 wt) (w' := wr) ?_ ?_
            · go_simp
            simp only [Act.put, List.setIfInBounds_toArray, List.set_cons_zero, List.set_cons_succ]
            refine wpList_val2 rfl (v := .int .u32 ck) (w' := wr) ?_ ?_
            · go_simp
            simp only [Act.put, List.setIfInBounds_toArray, List.set_cons_zero, List.set_cons_succ]
            refine wpList_val2 rfl (v := .agg #[.int .i64 3, .int .i64 0, .int .i64 1, .int .i64 wt, .int .u32 ck, .slice none 0 0]) (w' := wr) ?_ ?_
            · exact exec_buildB2 (.tmp 76) (.tmp 77) rfl wt ck rfl rfl
            simp only [Act.put, List.setIfInBounds_toArray, List.set_cons_zero, List.set_cons_succ]
            refine wpList_val2 rfl (v := .slice (some ⟨wr.heap.size, 0, none⟩) 1 1) (w' := wr.alloc (.cells #[.int .i64 3, .int .i64 0, .int .i64 1, .int .i64 wt, .int .u32 ck, .slice none 0 0] 43)) ?_ ?_
            · exact exec_lit (.tmp 78) rfl _ _ _ _ _ _ _ _ rfl
            simp only [Act.put, List.setIfInBounds_toArray, List.set_cons_zero, List.set_cons_succ]
            refine wpList_pushN rfl (.tmp 72) (.tmp 79) 23 rfl w.heap.size 43 j0 (.agg #[.int .i64 0, .int .i64 0, .int .i64 0, .int .i64 0, .int .u32 0, .slice none 0 0]) 6 64 Try.underlying23 hj0 hy0 hy1 hy2 rfl (by omega) (.slice Ao Ls.length co) Ls.length (Ls.flatMap encM) rfl HO.out.row [.int .i64 3, .int .i64 0, .int .i64 1, .int .i64 wt, .int .u32 ck, .slice none 0 0] rfl rfl (by simp [Value.oneCell']) (by unfold maxLen; omega) (by omega) hzr ?_
            intro v8 W hon hmn hv8 hs8
            obtain ⟨g8, c8, rfl⟩ := hs8
            have hO9 := HO.out.push HFE.out (s := ⟨⟨3, 0, 1, wt, ck, []⟩, none, 0, 0⟩) hon hmn ⟨rfl, Nat.le_refl _, fun _ => ⟨rfl, rfl⟩, Nat.zero_le _, ⟨rfl, fun h => absurd h (Nat.lt_irrefl 0)⟩⟩
            obtain ⟨hp1, hp2⟩ := hO9.t.h.put (k := 5) (u := .bool false) (nx' := nx) (wt' := wt) (ow' := false) rfl
            have HOF := Lib.hid (hO9.half hp1 (hp2.mono (fun k _ e => Or.inl e)))
            have y0 := hO9.t.h.box.cell 5 _ rfl
            have y1 := hO9.t.h.box.free 5
            have HFL := Lib.hid (show outL T ck true 0 1 wt ws = (Ls ++ [(⟨⟨3, 0, 1, wt, ck, []⟩, none, 0, 0⟩ : SM)]).map (·.m) from by
              unfold outL
              rw [HEQL.out, List.map_append]
              rfl)
            have HLF := Lib.hid (show (Ls ++ [(⟨⟨3, 0, 1, wt, ck, []⟩, none, 0, 0⟩ : SM)]).length ≤ 1000 by rw [List.length_append]; simp only [List.length_cons, List.length_nil]; omega)
            clear hon hmn hv8 hO9 hp1 hp2 c1
            simp only [Act.put, List.setIfInBounds_toArray, List.set_cons_zero, List.set_cons_succ]
            go_upto_region 14 with (fail)
            clear y0 y1
            generalize World.setCell _ ⟨H, 5, none⟩ (.bool false) = wF at HOF ⊢
            have HOT := Lib.hid (out_any wF base E 0 1 nx wt _ vw vg ws gs HOF.out.t.e (Nat.le_trans HOF.out.lo HOF.out.sz) HLR.out.la T ck T HTT.out)
            have HRW := Lib.hid HOF.out.row
            go_wp2_with fail
            refine HOT.out.mono ?_
            rintro e wo ⟨vo, Lo, rfl, hLo, hro, hmo, hEo, hMo⟩
            obtain ⟨A8, c8, rfl, _⟩ := own_rd hro
            have hT9 := HOF.out.t.end_ hEo hMo (nearV_refl _ _)
            have hb9 : Below base wF wo := hMo.below (fun g hg hf => by have := (HOF.out.t.e.flo g hf).1; omega) (Nat.le_trans HOF.out.lo HOF.out.sz)
            have hrw9 := hMo.own HRW.out (fun g cs hg _ hf => by
              have := (HRW.out.lt g hg).1
              have := HFE.out g hf
              omega)
            have heq : Lo.map (·.m) = ((Ls ++ [(⟨⟨3, 0, 1, wt, ck, []⟩, none, 0, 0⟩ : SM)])).map (·.m) := by rw [hLo, HFL.out]
            have hln : Lo.length ≤ 1000 := by
              have h1 := congrArg List.length heq
              rw [List.length_map, List.length_map] at h1
              have := HLF.out
              omega
            have HEQ := Lib.hid (eqmsgs_law wo _ _ _ _ Lo ((Ls ++ [(⟨⟨3, 0, 1, wt, ck, []⟩, none, 0, 0⟩ : SM)])) (MsgsAt.of hro hmo) ⟨_, _, _, rfl, hrw9, fun s hs => ((HOF.out.at_ s hs).below hb9).more (Nat.le_trans (Nat.le_trans HOF.out.lo HOF.out.sz) hMo.size)⟩ heq hln)
            have HFIN := Lib.hid (show TwoSt base E H (B + 1) wo from ⟨_, _, _, _, _, _, _, _, _, _, _, _, hT9, by
              obtain ⟨g1, g2, g3, g4, g5, g6, g7, g8⟩ := HLR.out
              refine ⟨by rw [cur_abs, cur_abs, g1], g2, by rw [curW_len]; exact g3, fun x hx => ?_, by omega, by omega, by omega, by omega⟩
              rcases List.mem_append.1 hx with hx | hx
              · obtain ⟨y, hy, rfl⟩ := List.mem_map.1 hx
                have := g4 y (List.mem_of_mem_take hy)
                unfold updW
                split
                · exact ⟨by simp only; omega, by simp only; omega⟩
                · exact this
              · exact g4 x (List.mem_of_mem_drop hx)⟩)
            have HB9 := Lib.hid (HOF.out.bel.trans hb9)
            have HZ9 := Lib.hid (show base ≤ wo.heap.size from Nat.le_trans (Nat.le_trans HOF.out.lo HOF.out.sz) hMo.size)
            clear hLo hro hmo hEo hMo hT9 hb9 hrw9 heq hln HOT
            go_wp2_with fail
            refine HEQ.out.mono ?_
            rintro e wp ⟨rfl, hbp⟩
            have HBP := Lib.hid hbp
            clear hbp
            go_wp2_with fail
            go_ret
            refine ⟨rfl, ?_, HB9.out.trans (HBP.out.mono HZ9.out)⟩
            obtain ⟨a1, a2, a3, a4, a5, a6, a7, a8, a9, a10, a11, a12, ht, hl⟩ := HFIN.out
            exact ⟨a1, a2, a3, a4, a5, a6, a7, a8, a9, a10, a11, a12, ht.below HBP.out, hl⟩
end Go.Proofs.Ytpnefacignalpaa
