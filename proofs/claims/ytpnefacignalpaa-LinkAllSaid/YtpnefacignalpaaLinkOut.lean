/- link.Out, walked. Conditions: those typed. -/
import Derived.Test.YtpnefacignalpaaLinkIn
namespace Go.Proofs.Ytpnefacignalpaa
open Go.RowKit Go.Gy
set_option linter.unusedVariables false
set_option linter.unusedSimpArgs false
theorem exec_buildB {ev : Operand → Value} {o : Oper} {W : World} (x1 x2 x3 x4 : Operand) (ho : o.op = .build 43 #[(0, .const (.int .i64 3)), (1, x1), (2, x2), (3, x3), (4, x4)]) (s d q t : Int) (h1 : ev x1 = .int .i64 s) (h2 : ev x2 = .int .i64 d) (h3 : ev x3 = .int .i64 q) (h4 : ev x4 = .int .u32 t) (hc : ev (.const (.int .i64 3)) = .int .i64 3 := by rfl) :
    (execOp ev o).run Try.prog W = .ok (.value (.agg #[.int .i64 3, .int .i64 s, .int .i64 d, .int .i64 q, .int .u32 t, .slice none 0 0])) W := by
  unfold execOp
  simp only [ho, List.map_toArray, List.map_cons, List.map_nil, h1, h2, h3, h4, hc]
  go_simp
def LitSp (k : Nat) (cs : Array Value) (i : Nat) (v : Value) (W : World) : Prop := i = k → ∃ gL, v = .slice (some ⟨gL, 0, none⟩) 1 1 ∧ Blk W gL 43 cs
theorem LitSp.lasts {k : Nat} {cs : Array Value} : ∀ i v, Lasts (LitSp k cs i v) := by
  intro i v W W' h hb e
  obtain ⟨g, e1, h2⟩ := h e
  exact ⟨g, e1, h2.below hb h2.lt⟩
def dueB (T : Int) (x : WK) : Bool := decide (x.2 < 0 ∨ 4 ≤ T - x.2)
def updW (T : Int) (x : WK) : WK := if dueB T x then (x.1, T) else x
def clkM (ck : Int) (m : GMsg) : GMsg := { m with clock := ck }
def curW (T : Int) (ws : List WK) (j : Nat) : List WK := (ws.take j).map (updW T) ++ ws.drop j
def outL (T ck : Int) (ow : Bool) (a b wt : Int) (ws : List WK) : List GMsg := ((ws.take 8).filter (dueB T)).map (fun x => clkM ck x.1.m) ++ (if ow then [⟨3, a, b, wt, ck, []⟩] else [])
theorem curW_len (T : Int) (ws : List WK) (j : Nat) : (curW T ws j).length = ws.length := by
  unfold curW
  rw [List.length_append, List.length_map, List.length_take, List.length_drop]
  omega
theorem curW_get {T : Int} {ws : List WK} {j : Nat} (h : j < ws.length) : (curW T ws j)[j]? = ws[j]? := by
  unfold curW
  rw [List.getElem?_append_right (by rw [List.length_map, List.length_take]; omega), List.length_map, List.length_take, List.getElem?_drop]
  congr 1
  omega
theorem curW_next {T : Int} {ws : List WK} {j : Nat} {x : WK} (h : ws[j]? = some x) : curW T ws (j + 1) = (curW T ws j).set j (updW T x) := by
  obtain ⟨hj, rfl⟩ := List.getElem?_eq_some_iff.1 h
  unfold curW
  rw [List.set_append_right _ _ (by rw [List.length_map, List.length_take]; omega), List.length_map, List.length_take, List.take_succ_eq_append_getElem hj, List.map_append, List.map_cons, List.map_nil, List.append_assoc, List.drop_eq_getElem_cons hj, show j - min j ws.length = 0 by omega]
  rfl
theorem curW_same {T : Int} {ws : List WK} {j : Nat} {x : WK} (h : ws[j]? = some x) (hd : dueB T x = false) : curW T ws (j + 1) = curW T ws j := by
  rw [curW_next h]
  have hx : updW T x = x := by unfold updW; rw [hd]; rfl
  rw [hx]
  have hg := (curW_get (T := T) (List.getElem?_eq_some_iff.1 h).1).trans h
  obtain ⟨hj, e⟩ := List.getElem?_eq_some_iff.1 hg
  rw [← e]
  exact List.set_getElem_self hj
theorem curW_zero (T : Int) (ws : List WK) : curW T ws 0 = ws := rfl
theorem encW_set (T : Int) : ∀ (ws : List WK) (j : Nat) (x : WK), ws[j]? = some x → (ws.flatMap encW).set (j * 7 + 6) (.int .i64 T) = (ws.set j (x.1, T)).flatMap encW
  | [], j, x, h => by simp at h
  | y :: ws, 0, x, h => by
    simp only [List.getElem?_cons_zero, Option.some.injEq] at h
    subst h
    rfl
  | y :: ws, j + 1, x, h => by
    rw [List.getElem?_cons_succ] at h
    rw [List.flatMap_cons, List.set_cons_succ, List.flatMap_cons, List.set_append_right _ _ (by rw [encW_len]; omega), encW_len, show (j + 1) * 7 + 6 - 7 = j * 7 + 6 by omega, encW_set T ws j x h]
/-- the time of a waiting message is stored -/
theorem EndAt.last {W : World} {base E bf of c j n : Nat} {a b nx wt T : Int} {ow : Bool} {vg : Value} {ws : List WK} {gs : List SM} {x : WK} (h : EndAt W base E a b nx wt ow (.slice (some ⟨bf, of, none⟩) n c) ws vg gs) (hn : n = ws.length) (hj : ws[j]? = some x) :
    EndAt (W.setCell ⟨bf, of + j * 7 + 6, none⟩ (.int .i64 T)) base E a b nx wt ow (.slice (some ⟨bf, of, none⟩) n c) (ws.set j (x.1, T)) vg gs ∧ Mod (EndF E (.slice (some ⟨bf, of, none⟩) n c) vg) W (W.setCell ⟨bf, of + j * 7 + 6, none⟩ (.int .i64 T)) := by
  subst hn
  rw [Nat.add_assoc of]
  have hjl := (List.getElem?_eq_some_iff.1 hj).1
  have hm : Mod (fun k => k = bf) W (W.setCell ⟨bf, of + (j * 7 + 6), none⟩ (.int .i64 T)) := (Mod.refl (fun g => g = bf) W).set (g := bf) (fun _ => rfl) _ _
  obtain ⟨cs0, hk0⟩ := h.rw.blk (g := bf) rfl
  have hmo : ∀ s, MOwn W base s → MOwn (W.setCell ⟨bf, of + (j * 7 + 6), none⟩ (.int .i64 T)) base s := fun s hs => ⟨hm.own hs.1 (fun g cs _ hk hf => by
    subst hf
    exact absurd (blk_type hk hk0) (by decide)), hs.2⟩
  refine ⟨⟨h.lo, hm.blk h.box (fun e => ?_), ?_, hm.own h.rg (fun g cs _ hk hf => ?_), fun y hy => ?_, fun y hy => hmo _ (h.mg y hy)⟩, hm.mono (fun k _ e => Or.inr (Or.inl (by rw [e]; rfl)))⟩
  · have hk := h.box
    rw [e] at hk
    exact absurd (blk_type hk hk0) (by decide)
  · have := h.rw.set (j * 7 + 6) (.int .i64 T) (by omega)
    rw [encW_set T ws j x hj] at this
    rw [List.length_set]
    exact this
  · subst hf
    exact absurd (blk_type hk hk0) (by decide)
  · rcases List.mem_or_eq_of_mem_set hy with hy | rfl
    · exact hmo _ (h.mw y hy)
    · exact hmo _ (h.mw x (List.mem_of_getElem? hj))
def OutPost (w : World) (base E : Nat) (a b nx wt : Int) (ow : Bool) (vw : Value) (ws : List WK) (vg : Value) (gs : List SM) (T ck : Int) (e : Ending) (w' : World) : Prop :=
  ∃ (out : Value) (Ls : List SM), e = .returned out ∧ Ls.map (·.m) = outL T ck ow a b wt ws ∧ w'.ownsRow w.heap.size 43 6 out Ls.length (Ls.flatMap encM) ∧ (∀ s ∈ Ls, MOwn w' w.heap.size s) ∧ EndAt w' base E a b nx wt false vw (curW T ws 8) vg gs ∧ Mod (EndF E vw vg) w w'
structure OuSt (w : World) (base E : Nat) (a b nx wt : Int) (ow : Bool) (vw : Value) (ws : List WK) (vg : Value) (gs : List SM) (out : Value) (Ls : List SM) (W : World) : Prop where
  e : EndAt W base E a b nx wt ow vw ws vg gs
  row : W.ownsRow w.heap.size 43 6 out Ls.length (Ls.flatMap encM)
  own : ∀ s ∈ Ls, MOwn W w.heap.size s
  md : Mod (EndF E vw vg) w W
theorem OuSt.step {w W W' : World} {base E : Nat} {a b nx wt : Int} {ow ow' : Bool} {vw vg out : Value} {ws ws' : List WK} {gs Ls : List SM} (h : OuSt w base E a b nx wt ow vw ws vg gs out Ls W) (hlt : ∀ g, EndF E vw vg g → g < w.heap.size) (hm : Mod (EndF E vw vg) W W') (he : EndAt W' base E a b nx wt ow' vw ws' vg gs) : OuSt w base E a b nx wt ow' vw ws' vg gs out Ls W' :=
  ⟨he, hm.own h.row (fun g cs hg _ hf => by
    have := (h.row.lt g hg).1
    have := hlt g hf
    omega), fun s hs => ⟨hm.own (h.own s hs).1 (fun g cs hg _ hf => by
    have := ((h.own s hs).1.lt g hg).1
    have := hlt g hf
    omega), (h.own s hs).2⟩, h.md.trans hm (fun k _ h => h)⟩
theorem OuSt.below {w W W' : World} {base E : Nat} {a b nx wt : Int} {ow : Bool} {vw vg out : Value} {ws : List WK} {gs Ls : List SM} (h : OuSt w base E a b nx wt ow vw ws vg gs out Ls W) (hb : Below W.heap.size W W') : OuSt w base E a b nx wt ow vw ws vg gs out Ls W' :=
  ⟨h.e.below hb, own_below h.row hb (Nat.le_refl _), fun s hs => (h.own s hs).below hb, h.md.call hb⟩
theorem OuSt.push {w W W' : World} {base E : Nat} {a b nx wt : Int} {ow : Bool} {vw vg out out' : Value} {ws : List WK} {gs Ls : List SM} {s : SM} (h : OuSt w base E a b nx wt ow vw ws vg gs out Ls W) (hlt : ∀ g, EndF E vw vg g → g < w.heap.size) (hrow : W'.ownsRow w.heap.size 43 6 out' (Ls.length + 1) (Ls.flatMap encM ++ encM s)) (hm : Mod (fun k => out.ownBlock = some k) W W') (hs : MOwn W w.heap.size s) : OuSt w base E a b nx wt ow vw ws vg gs out' (Ls ++ [s]) W' := by
  have hmo : ∀ s, MOwn W w.heap.size s → MOwn W' w.heap.size s := fun s hs => ⟨hm.own hs.1 (fun g cs _ hk hf => by
    obtain ⟨cs', hk'⟩ := own_blk h.row hf
    exact absurd (blk_type hk hk') (by decide)), hs.2⟩
  refine ⟨h.e.keep hm (fun g t cs hk hf => ⟨fun hf2 => ?_, ?_⟩), ?_, fun y hy => ?_, h.md.trans hm (fun k hk hf => ?_)⟩
  · have := hlt g hf2
    have := (h.row.lt g hf).1
    omega
  · obtain ⟨cs', hk'⟩ := own_blk h.row hf
    rw [blk_type hk hk']
    decide
  · rw [List.length_append, List.flatMap_append]
    simpa using hrow
  · rcases List.mem_append.1 hy with hy | hy
    · exact hmo _ (h.own y hy)
    · rw [List.mem_singleton.1 hy]
      exact hmo _ hs
  · have := (h.row.lt k hf).1
    omega
theorem curW_min (T : Int) (ws : List WK) : curW T ws (min ws.length 8) = curW T ws 8 ∧ ws.take (min ws.length 8) = ws.take 8 := by
  have h1 : ws.take (min ws.length 8) = ws.take 8 := by
    by_cases h : ws.length ≤ 8
    · rw [Nat.min_eq_left h, List.take_length, List.take_of_length_le h]
    · rw [Nat.min_eq_right (by omega)]
  refine ⟨?_, h1⟩
  unfold curW
  rw [h1]
  by_cases h : ws.length ≤ 8
  · rw [Nat.min_eq_left h, List.drop_length, List.drop_of_length_le h]
  · rw [Nat.min_eq_right (by omega)]
def ORel (w : World) (base E : Nat) (a b nx wt : Int) (ow : Bool) (vw : Value) (ws : List WK) (vg : Value) (gs : List SM) (T ck : Int) (N : Nat) (out i : Value) (wr : World) : Prop := ∃ (j : Nat) (Ls : List SM), j ≤ N ∧ i = .int .i64 j ∧ Ls.map (·.m) = ((ws.take j).filter (dueB T)).map (fun x => clkM ck x.1.m) ∧ OuSt w base E a b nx wt ow vw (curW T ws j) vg gs out Ls wr
set_option maxRecDepth 100000 in
set_option maxHeartbeats 8000000 in
theorem out_any (w : World) (base E : Nat) (a b nx wt : Int) (ow : Bool) (vw vg : Value) (ws : List WK) (gs : List SM) (h : EndAt w base E a b nx wt ow vw ws vg gs) (hbase : base ≤ w.heap.size) (hws : ∀ x ∈ ws, -1 ≤ x.2 ∧ x.2 ≤ 2000) (tick ck : Int) (T : Int) (hT : T = max 0 (min tick 2000)) :
    Calls Try.prog 39 #[.pointer (some ⟨E, 0, none⟩), .int .i64 tick, .int .u32 ck] w (OutPost w base E a b nx wt ow vw ws vg gs T ck) := by
  obtain ⟨Aw, cw, hvw, hcw, hcm, hAw, _⟩ := h.rw.rd
  subst hvw
  obtain ⟨j0, hj0, hy0, hy1, hy2⟩ := info_parts info_msgI
  obtain ⟨N, hN⟩ : ∃ N, N = min ws.length 8 := ⟨_, rfl⟩
  have hT2 : 0 ≤ T ∧ T ≤ 2000 := by omega
  have HT := Lib.hid hT
  have HN := Lib.hid hN
  have HWS := Lib.hid hws
  have HE := Lib.hid h
  have c3 := h.box.cell 3 _ rfl
  have hst := Lib.hid (show ORel w base E a b nx wt ow (.slice Aw ws.length cw) ws vg gs T ck N (.slice none 0 0) (.int .i64 0) w from ⟨0, [], Nat.zero_le _, rfl, rfl, h, World.ownsRow_nil _ _ _ _, fun s hs => (by cases hs), Mod.refl _ _⟩)
  clear h hT hN hws hAw
  go_enter Try.func39, Try.ntmps39
  go_upto_region 1 with (fail)
  go_cut [1] (fun q wx => q = .int .i64 T ∧ w = wx)
  case first =>
    go_wp2_with fail
    all_goals
      go_meet
      exact ⟨congrArg (Value.int .i64) (by have := HT.out; omega), rfl⟩
  case rest =>
    obtain ⟨rfl, rfl⟩ := hcut
    go_upto_region 3 with (fail)
    go_cut [19, 20] (fun q i wx => q = .int .i64 (N : Int) ∧ i = .int .i64 0 ∧ w = wx)
    case first =>
      go_wp2_with fail
      all_goals
        go_meet
        exact ⟨congrArg (Value.int .i64) (by have := HN.out; omega), rfl, rfl⟩
    case rest =>
      obtain ⟨rfl, rfl, rfl⟩ := hcut
      clear c3
      go_wp2_with fail
      go_loopw [7, 20] (fun out i wr => ORel w base E a b nx wt ow (.slice Aw ws.length cw) ws vg gs T ck N out i wr) (fun _ i _ => N - (intOf i).toNat)
      case atStart => exact hst.out
      case round =>
        clear hst
        obtain ⟨j, Ls, hj, rfl, hLm, hO⟩ := hrel
        obtain ⟨Ao, co, rfl, _, _, _⟩ := own_rd hO.row
        have hNl : N ≤ ws.length ∧ N ≤ 8 := by have := HN.out; omega
        have hLl : Ls.length ≤ 8 := by
          have h1 := congrArg List.length hLm
          rw [List.length_map, List.length_map] at h1
          have h2 := List.length_filter_le (dueB T) (ws.take j)
          rw [List.length_take] at h2
          omega
        by_cases hlt : j < N
        · have hji : (j : Int) < (N : Int) := by omega
          have hwj : IntKind.i64.wrap ((j : Int) + 1) = (j : Int) + 1 := by rw [IntKind.wrap_i64]; omega
          have hjw : (0 : Int) ≤ (j : Int) ∧ (j : Int) < (ws.length : Int) := by omega
          have hjw2 : (j : Int) < (ws.length : Int) := hjw.2
          have hrd : Rd wr wr.heap.size 7 Aw ws.length ((curW T ws j).flatMap encW) := by
            obtain ⟨A', c', e, _, _, _, hr⟩ := hO.e.rw.rd
            rw [curW_len] at e hr
            cases e
            exact hr
          obtain ⟨bf, of, ⟨⟨⟨mk, ms, mt, mq, mc, ml⟩, A, n, c⟩, la⟩, rfl, hbB, hg, hcc⟩ := hrd.elem encW_len (curW_len T ws j) (show j < ws.length by omega)
          have hgw : ws[j]? = some (⟨⟨mk, ms, mt, mq, mc, ml⟩, A, n, c⟩, la) := (curW_get (by omega)).symm.trans hg
          have hla := HWS.out _ (List.mem_of_getElem? hgw)
          simp only at hla
          have x0 : wr.cell? ⟨bf, of + j * 7, none⟩ = some (.int .i64 mk) := hcc 0 _ rfl
          have x1 : wr.cell? ⟨bf, of + j * 7 + 1, none⟩ = some (.int .i64 ms) := hcc 1 _ rfl
          have x2 : wr.cell? ⟨bf, of + j * 7 + 2, none⟩ = some (.int .i64 mt) := hcc 2 _ rfl
          have x3 : wr.cell? ⟨bf, of + j * 7 + 3, none⟩ = some (.int .i64 mq) := hcc 3 _ rfl
          have x4 : wr.cell? ⟨bf, of + j * 7 + 4, none⟩ = some (.int .u32 mc) := hcc 4 _ rfl
          have x5 : wr.cell? ⟨bf, of + j * 7 + 5, none⟩ = some (.slice A n c) := hcc 5 _ rfl
          have x6 : wr.cell? ⟨bf, of + j * 7 + 6, none⟩ = some (.int .i64 la) := hcc 6 _ rfl
          have c3 := hO.e.box.cell 3 _ rfl
          have htk : ws.take (j + 1) = ws.take j ++ [(⟨⟨mk, ms, mt, mq, mc, ml⟩, A, n, c⟩, la)] := by
            obtain ⟨hj', e⟩ := List.getElem?_eq_some_iff.1 hgw
            rw [List.take_succ_eq_append_getElem hj', e]
          have HG := Lib.hid hg
          have HGW := Lib.hid hgw
          have HTK := Lib.hid htk
          have HLM := Lib.hid hLm
          have HO := Lib.hid hO
          have HLA := Lib.hid hla
          have hwt : IntKind.i64.wrap (T - la) = T - la := by rw [IntKind.wrap_i64]; omega
          clear hcc hg hgw htk hLm hO hrd hbB hla
          by_cases hd : dueB T (⟨⟨mk, ms, mt, mq, mc, ml⟩, A, n, c⟩, la) = true
          · have cf := fun i => show wr.frozen? ⟨bf, i, none⟩ = false from by
              obtain ⟨cs0, hk0⟩ := HO.out.e.rw.blk (g := bf) rfl
              exact hk0.free i
            by_cases hla0 : la < 0
            · go_upto_region 9 with (fail)
              obtain ⟨hE8, hM8⟩ := HO.out.e.last (T := T) (curW_len T ws j).symm HG.out
              have hO8 := HO.out.step (fun g hf => (HE.out.flo g hf).2) hM8 hE8
              have hrd8 : Rd (wr.setCell ⟨bf, of + j * 7 + 6, none⟩ (.int .i64 T)) (wr.setCell ⟨bf, of + j * 7 + 6, none⟩ (.int .i64 T)).heap.size 7 (some ⟨bf, of, none⟩) ws.length (((curW T ws j).set j (⟨⟨mk, ms, mt, mq, mc, ml⟩, A, n, c⟩, T)).flatMap encW) := by
                obtain ⟨A', c', e, _, _, _, hr⟩ := hE8.rw.rd
                rw [List.length_set, curW_len] at e hr
                cases e
                exact hr
              generalize wr.setCell ⟨bf, of + j * 7 + 6, none⟩ (.int .i64 T) = w8 at hE8 hM8 hO8 hrd8 ⊢
              obtain ⟨bf2, of2, x2', e2, _, hg2, hcc2⟩ := hrd8.elem encW_len (by rw [List.length_set, curW_len]) (show j < ws.length by omega)
              cases e2
              have hx2 : x2' = (⟨⟨mk, ms, mt, mq, mc, ml⟩, A, n, c⟩, T) := by
                rw [List.getElem?_set_self (by rw [curW_len]; omega)] at hg2
                exact (Option.some.inj hg2).symm
              subst hx2
              have hmo : MOwn w8 base ⟨⟨mk, ms, mt, mq, mc, ml⟩, A, n, c⟩ := hE8.mw (⟨⟨mk, ms, mt, mq, mc, ml⟩, A, n, c⟩, T) (List.mem_of_getElem? hg2)
              clear x0 x1 x2 x3 x4 x5 x6 c3 cf
              have x0 : w8.cell? ⟨bf, of + j * 7, none⟩ = some (.int .i64 mk) := hcc2 0 _ rfl
              have x1 : w8.cell? ⟨bf, of + j * 7 + 1, none⟩ = some (.int .i64 ms) := hcc2 1 _ rfl
              have x2 : w8.cell? ⟨bf, of + j * 7 + 2, none⟩ = some (.int .i64 mt) := hcc2 2 _ rfl
              have x3 : w8.cell? ⟨bf, of + j * 7 + 3, none⟩ = some (.int .i64 mq) := hcc2 3 _ rfl
              have x4 : w8.cell? ⟨bf, of + j * 7 + 4, none⟩ = some (.int .u32 mc) := hcc2 4 _ rfl
              have x5 : w8.cell? ⟨bf, of + j * 7 + 5, none⟩ = some (.slice A n c) := hcc2 5 _ rfl
              have HCP := Lib.hid (copy_own w8 ⟨mk, ms, mt, mq, mc, ml⟩ A n c hmo.at_)
              have HMO := Lib.hid hmo
              have HO8 := Lib.hid hO8
              have HD := Lib.hid hd
              clear hE8 hM8 hO8 hrd8 hcc2 hg2 hmo hd
              go_wp2_with fail
              refine HCP.out.mono ?_
              rintro e w9 ⟨A', c', rfl, ho9, hb9⟩
              have HO9 := Lib.hid (HO8.out.below hb9)
              have HR9 := Lib.hid (own_mono ho9 HO8.out.md.size)
              clear ho9 hb9 HCP x0 x1 x2 x3 x4 x5
              go_upto_region 11 with (fail)
              have hkA := Blk.new w9 43 #[.int .i64 mk, .int .i64 ms, .int .i64 mt, .int .i64 mq, .int .u32 ck, .slice A' n c']
              have hbA : Below w9.heap.size w9 (w9.alloc (.cells #[.int .i64 mk, .int .i64 ms, .int .i64 mt, .int .i64 mq, .int .u32 ck, .slice A' n c'] 43)) := (Below.refl _ _).alloc (Nat.le_refl _) _
              obtain ⟨gA, hgA⟩ : ∃ gA, gA = w9.heap.size := ⟨_, rfl⟩
              generalize w9.alloc (.cells #[.int .i64 mk, .int .i64 ms, .int .i64 mt, .int .i64 mq, .int .u32 ck, .slice A' n c'] 43) = wA at hkA hbA ⊢
              rw [← hgA] at hkA ⊢
              have HOA := Lib.hid (HO9.out.below hbA)
              have HRA := Lib.hid (own_below HR9.out hbA (Nat.le_refl _))
              have hzA : w.heap.size ≤ wA.heap.size := HOA.out.md.size
              have y0 := hkA.cell 0 _ rfl
              have y1 := hkA.cell 1 _ rfl
              have y2 := hkA.cell 2 _ rfl
              have y3 := hkA.cell 3 _ rfl
              have y4 := hkA.cell 4 _ rfl
              have y5 := hkA.cell 5 _ rfl
              clear hkA hbA hgA HO9 HR9
              refine wp_region_lit ?_
              refine wpList_val2 rfl (v := .slice Ao Ls.length co) (w' := wA) ?_ ?_
              · go_simp
              simp only [Act.put, List.setIfInBounds_toArray, List.set_cons_zero, List.set_cons_succ]
              refine wpList_val2 rfl (v := .agg #[.int .i64 mk, .int .i64 ms, .int .i64 mt, .int .i64 mq, .int .u32 ck, .slice A' n c']) (w' := wA) ?_ ?_
              · go_simp
              simp only [Act.put, List.setIfInBounds_toArray, List.set_cons_zero, List.set_cons_succ]
              refine wpList_val2 rfl (v := .slice (some ⟨wA.heap.size, 0, none⟩) 1 1) (w' := wA.alloc (.cells #[.int .i64 mk, .int .i64 ms, .int .i64 mt, .int .i64 mq, .int .u32 ck, .slice A' n c'] 43)) ?_ ?_
              · exact exec_lit (.tmp 55) rfl _ _ _ _ _ _ _ _ rfl
              simp only [Act.put, List.setIfInBounds_toArray, List.set_cons_zero, List.set_cons_succ]
              refine wpList_pushN rfl (.tmp 54) (.tmp 56) 23 rfl w.heap.size 43 j0 (.agg #[.int .i64 0, .int .i64 0, .int .i64 0, .int .i64 0, .int .u32 0, .slice none 0 0]) 6 64 Try.underlying23 hj0 hy0 hy1 hy2 rfl (by omega) (.slice Ao Ls.length co) Ls.length (Ls.flatMap encM) rfl HOA.out.row [.int .i64 mk, .int .i64 ms, .int .i64 mt, .int .i64 mq, .int .u32 ck, .slice A' n c'] rfl rfl (by simp [Value.oneCell']) (by unfold maxLen; omega) (by omega) hzA ?_
              intro v4 w4 hn4 hm4 hv4 hs4
              have hfin := HOA.out.push (fun g hf => (HE.out.flo g hf).2) (s := ⟨⟨mk, ms, mt, mq, ck, ml⟩, A', n, c'⟩) hn4 hm4 ⟨HRA.out, HMO.out.2⟩
              have HX := Lib.hid (show ORel w base E a b nx wt ow (.slice (some ⟨bf, of, none⟩) ws.length cw) ws vg gs T ck N v4 (.int .i64 ((j : Int) + 1)) w4 from ⟨j + 1, Ls ++ [⟨⟨mk, ms, mt, mq, ck, ml⟩, A', n, c'⟩], hlt, by simp, by
                rw [HTK.out, List.filter_append, List.filter_cons_of_pos HD.out, List.filter_nil, List.map_append, List.map_append, HLM.out]
                rfl, by
                rw [curW_next HGW.out]
                have : updW T (⟨⟨mk, ms, mt, mq, mc, ml⟩, A, n, c⟩, la) = (⟨⟨mk, ms, mt, mq, mc, ml⟩, A, n, c⟩, T) := by unfold updW; rw [HD.out]; rfl
                rw [this]
                exact hfin⟩)
              obtain ⟨g4, c4, rfl⟩ := hs4
              clear hn4 hm4 hv4 hfin y0 y1 y2 y3 y4 y5
              simp only [Act.put, List.setIfInBounds_toArray, List.set_cons_zero, List.set_cons_succ]
              go_wp2_with fail
              go_roundw
              case rel => exact HX.out
              case measure => simp [intOf]; omega
            · have hla4 : 4 ≤ T - la := (of_decide_eq_true hd).resolve_left hla0
              go_upto_region 9 with (fail)
              obtain ⟨hE8, hM8⟩ := HO.out.e.last (T := T) (curW_len T ws j).symm HG.out
              have hO8 := HO.out.step (fun g hf => (HE.out.flo g hf).2) hM8 hE8
              have hrd8 : Rd (wr.setCell ⟨bf, of + j * 7 + 6, none⟩ (.int .i64 T)) (wr.setCell ⟨bf, of + j * 7 + 6, none⟩ (.int .i64 T)).heap.size 7 (some ⟨bf, of, none⟩) ws.length (((curW T ws j).set j (⟨⟨mk, ms, mt, mq, mc, ml⟩, A, n, c⟩, T)).flatMap encW) := by
                obtain ⟨A', c', e, _, _, _, hr⟩ := hE8.rw.rd
                rw [List.length_set, curW_len] at e hr
                cases e
                exact hr
              generalize wr.setCell ⟨bf, of + j * 7 + 6, none⟩ (.int .i64 T) = w8 at hE8 hM8 hO8 hrd8 ⊢
              obtain ⟨bf2, of2, x2', e2, _, hg2, hcc2⟩ := hrd8.elem encW_len (by rw [List.length_set, curW_len]) (show j < ws.length by omega)
              cases e2
              have hx2 : x2' = (⟨⟨mk, ms, mt, mq, mc, ml⟩, A, n, c⟩, T) := by
                rw [List.getElem?_set_self (by rw [curW_len]; omega)] at hg2
                exact (Option.some.inj hg2).symm
              subst hx2
              have hmo : MOwn w8 base ⟨⟨mk, ms, mt, mq, mc, ml⟩, A, n, c⟩ := hE8.mw (⟨⟨mk, ms, mt, mq, mc, ml⟩, A, n, c⟩, T) (List.mem_of_getElem? hg2)
              clear x0 x1 x2 x3 x4 x5 x6 c3 cf
              have x0 : w8.cell? ⟨bf, of + j * 7, none⟩ = some (.int .i64 mk) := hcc2 0 _ rfl
              have x1 : w8.cell? ⟨bf, of + j * 7 + 1, none⟩ = some (.int .i64 ms) := hcc2 1 _ rfl
              have x2 : w8.cell? ⟨bf, of + j * 7 + 2, none⟩ = some (.int .i64 mt) := hcc2 2 _ rfl
              have x3 : w8.cell? ⟨bf, of + j * 7 + 3, none⟩ = some (.int .i64 mq) := hcc2 3 _ rfl
              have x4 : w8.cell? ⟨bf, of + j * 7 + 4, none⟩ = some (.int .u32 mc) := hcc2 4 _ rfl
              have x5 : w8.cell? ⟨bf, of + j * 7 + 5, none⟩ = some (.slice A n c) := hcc2 5 _ rfl
              have HCP := Lib.hid (copy_own w8 ⟨mk, ms, mt, mq, mc, ml⟩ A n c hmo.at_)
              have HMO := Lib.hid hmo
              have HO8 := Lib.hid hO8
              have HD := Lib.hid hd
              clear hE8 hM8 hO8 hrd8 hcc2 hg2 hmo hd
              go_wp2_with fail
              refine HCP.out.mono ?_
              rintro e w9 ⟨A', c', rfl, ho9, hb9⟩
              have HO9 := Lib.hid (HO8.out.below hb9)
              have HR9 := Lib.hid (own_mono ho9 HO8.out.md.size)
              clear ho9 hb9 HCP x0 x1 x2 x3 x4 x5
              go_upto_region 11 with (fail)
              have hkA := Blk.new w9 43 #[.int .i64 mk, .int .i64 ms, .int .i64 mt, .int .i64 mq, .int .u32 ck, .slice A' n c']
              have hbA : Below w9.heap.size w9 (w9.alloc (.cells #[.int .i64 mk, .int .i64 ms, .int .i64 mt, .int .i64 mq, .int .u32 ck, .slice A' n c'] 43)) := (Below.refl _ _).alloc (Nat.le_refl _) _
              obtain ⟨gA, hgA⟩ : ∃ gA, gA = w9.heap.size := ⟨_, rfl⟩
              generalize w9.alloc (.cells #[.int .i64 mk, .int .i64 ms, .int .i64 mt, .int .i64 mq, .int .u32 ck, .slice A' n c'] 43) = wA at hkA hbA ⊢
              rw [← hgA] at hkA ⊢
              have HOA := Lib.hid (HO9.out.below hbA)
              have HRA := Lib.hid (own_below HR9.out hbA (Nat.le_refl _))
              have hzA : w.heap.size ≤ wA.heap.size := HOA.out.md.size
              have y0 := hkA.cell 0 _ rfl
              have y1 := hkA.cell 1 _ rfl
              have y2 := hkA.cell 2 _ rfl
              have y3 := hkA.cell 3 _ rfl
              have y4 := hkA.cell 4 _ rfl
              have y5 := hkA.cell 5 _ rfl
              clear hkA hbA hgA HO9 HR9
              refine wp_region_lit ?_
              refine wpList_val2 rfl (v := .slice Ao Ls.length co) (w' := wA) ?_ ?_
              · go_simp
              simp only [Act.put, List.setIfInBounds_toArray, List.set_cons_zero, List.set_cons_succ]
              refine wpList_val2 rfl (v := .agg #[.int .i64 mk, .int .i64 ms, .int .i64 mt, .int .i64 mq, .int .u32 ck, .slice A' n c']) (w' := wA) ?_ ?_
              · go_simp
              simp only [Act.put, List.setIfInBounds_toArray, List.set_cons_zero, List.set_cons_succ]
              refine wpList_val2 rfl (v := .slice (some ⟨wA.heap.size, 0, none⟩) 1 1) (w' := wA.alloc (.cells #[.int .i64 mk, .int .i64 ms, .int .i64 mt, .int .i64 mq, .int .u32 ck, .slice A' n c'] 43)) ?_ ?_
              · exact exec_lit (.tmp 55) rfl _ _ _ _ _ _ _ _ rfl
              simp only [Act.put, List.setIfInBounds_toArray, List.set_cons_zero, List.set_cons_succ]
              refine wpList_pushN rfl (.tmp 54) (.tmp 56) 23 rfl w.heap.size 43 j0 (.agg #[.int .i64 0, .int .i64 0, .int .i64 0, .int .i64 0, .int .u32 0, .slice none 0 0]) 6 64 Try.underlying23 hj0 hy0 hy1 hy2 rfl (by omega) (.slice Ao Ls.length co) Ls.length (Ls.flatMap encM) rfl HOA.out.row [.int .i64 mk, .int .i64 ms, .int .i64 mt, .int .i64 mq, .int .u32 ck, .slice A' n c'] rfl rfl (by simp [Value.oneCell']) (by unfold maxLen; omega) (by omega) hzA ?_
              intro v4 w4 hn4 hm4 hv4 hs4
              have hfin := HOA.out.push (fun g hf => (HE.out.flo g hf).2) (s := ⟨⟨mk, ms, mt, mq, ck, ml⟩, A', n, c'⟩) hn4 hm4 ⟨HRA.out, HMO.out.2⟩
              have HX := Lib.hid (show ORel w base E a b nx wt ow (.slice (some ⟨bf, of, none⟩) ws.length cw) ws vg gs T ck N v4 (.int .i64 ((j : Int) + 1)) w4 from ⟨j + 1, Ls ++ [⟨⟨mk, ms, mt, mq, ck, ml⟩, A', n, c'⟩], hlt, by simp, by
                rw [HTK.out, List.filter_append, List.filter_cons_of_pos HD.out, List.filter_nil, List.map_append, List.map_append, HLM.out]
                rfl, by
                rw [curW_next HGW.out]
                have : updW T (⟨⟨mk, ms, mt, mq, mc, ml⟩, A, n, c⟩, la) = (⟨⟨mk, ms, mt, mq, mc, ml⟩, A, n, c⟩, T) := by unfold updW; rw [HD.out]; rfl
                rw [this]
                exact hfin⟩)
              obtain ⟨g4, c4, rfl⟩ := hs4
              clear hn4 hm4 hv4 hfin y0 y1 y2 y3 y4 y5
              simp only [Act.put, List.setIfInBounds_toArray, List.set_cons_zero, List.set_cons_succ]
              go_wp2_with fail
              go_roundw
              case rel => exact HX.out
              case measure => simp [intOf]; omega
          · have hd' : dueB T (⟨⟨mk, ms, mt, mq, mc, ml⟩, A, n, c⟩, la) = false := by simpa using hd
            have hla0 : ¬ la < 0 := fun h => hd (by unfold dueB; exact decide_eq_true (.inl h))
            have hla4 : ¬ 4 ≤ T - la := fun h => hd (by unfold dueB; exact decide_eq_true (.inr h))
            have HX := Lib.hid (show ORel w base E a b nx wt ow (.slice (some ⟨bf, of, none⟩) ws.length cw) ws vg gs T ck N (.slice Ao Ls.length co) (.int .i64 ((j : Int) + 1)) wr from ⟨j + 1, Ls, hlt, by simp, by
              rw [HTK.out, List.filter_append, List.filter_cons_of_neg (by rw [hd']; decide), List.filter_nil, List.append_nil]
              exact HLM.out, by
              rw [curW_same HGW.out hd']
              exact HO.out⟩)
            clear hd hd'
            go_wp2_with fail
            go_roundw
            case rel => exact HX.out
            case measure => simp [intOf]; omega
        · obtain rfl : j = N := by omega
          have hji : ¬ (j : Int) < (j : Int) := by omega
          have hcm := curW_min T ws
          rw [← HN.out] at hcm
          rw [hcm.1] at hO
          rw [hcm.2] at hLm
          have c6 := hO.e.box.cell 6 _ rfl
          have cf := fun i => hO.e.box.free i
          have HLM := Lib.hid hLm
          have HO := Lib.hid hO
          clear hcm hLm hO
          cases ow with
          | false =>
            go_wp2_with fail
            go_ret
            exact ⟨_, Ls, rfl, by rw [HLM.out]; exact (List.append_nil _).symm, HO.out.row, HO.out.own, HO.out.e, HO.out.md⟩
          | true =>
            go_upto_region 15 with (fail)
            obtain ⟨hE6, hm6⟩ := HO.out.e.put (k := 6) (u := .bool false) (nx' := nx) (wt' := wt) (ow' := false) rfl
            have hO6 := HO.out.step (fun g hf => (HE.out.flo g hf).2) (hm6.mono (G := EndF E (.slice Aw ws.length cw) vg) (fun k _ e => Or.inl e)) hE6
            generalize wr.setCell ⟨E, 6, none⟩ (.bool false) = w6 at hO6 ⊢
            have HO6 := Lib.hid hO6.row
            have HB6 := Lib.hid hO6.md.size
            have HE6 := Lib.hid hO6.e.box
            have HOS := Lib.hid hO6
            clear hE6 hm6 hO6 c6 cf
            refine wp_region_invK 17 (LapJ (fun i => ([some (.slice Ao Ls.length co), some (.pointer (some ⟨E, 0, none⟩)), some (.pointer (some ⟨E, 0, none⟩)), some (.pointer (some ⟨E, 0, none⟩)), some (.int .i64 a), some (.pointer (some ⟨E, 0, none⟩)), some (.pointer (some ⟨E, 0, none⟩)), some (.pointer (some ⟨E, 1, none⟩)), some (.int .i64 b), some (.pointer (some ⟨E, 0, none⟩)), some (.pointer (some ⟨E, 0, none⟩)), some (.pointer (some ⟨E, 4, none⟩)), some (.int .i64 wt), some (.int .u32 ck), some (.agg #[.int .i64 3, .int .i64 a, .int .i64 b, .int .i64 wt, .int .u32 ck, .slice none 0 0]), none, none] : List (Option Value)).getD i none) [(15, 16)] 16 (fun W => Below w6.heap.size w6 W) (LitSp 15 #[.int .i64 3, .int .i64 a, .int .i64 b, .int .i64 wt, .int .u32 ck, .slice none 0 0]) (fun v W => W.ownsRow w.heap.size 43 6 v (Ls.length + 1) (Ls.flatMap encM ++ encM ⟨⟨3, a, b, wt, ck, []⟩, none, 0, 0⟩) ∧ Mod (fun k => (Value.slice Ao Ls.length co).ownBlock = some k) w6 W)) (by kernel_rfl) (by kernel_rfl) (LapJ.start (Below.refl _ _).drew) ?_ ?_
            · intro i o hi ho s vs W hJ hs hdep
              have hE : Blk W E 70 #[.int .i64 a, .int .i64 b, .int .i64 nx, .slice Aw ws.length cw, .int .i64 wt, vg, .bool false] := hJ.all (X := fun W => Blk W E 70 #[.int .i64 a, .int .i64 b, .int .i64 nx, .slice Aw ws.length cw, .int .i64 wt, vg, .bool false]) (fun W h => HE6.out.below h HE6.out.lt) (fun v W h => h.2.blk HE6.out (fun hg => by
                obtain ⟨cs', hk'⟩ := own_blk HO6.out hg
                exact absurd (blk_type hk' HE6.out) (by decide)))
              rcases i with _ | _ | _ | _ | _ | _ | _ | _ | _ | _ | _ | _ | _ | _ | _ | _ | _ | i
              all_goals first | omega | skip
              all_goals (simp only [List.getElem?_cons_succ, List.getElem?_cons_zero, Option.some.injEq] at ho; subst ho)
              · refine StepJ.val (v := .slice Ao Ls.length co) rfl ?_ (hJ.same (by omega) (by simp) rfl)
                clear hJ hdep hE
                unfold lexA
                simp only [putAll, preI, Nat.reduceLT, Nat.reduceAdd, decide_false, Bool.false_eq_true, if_false]
                go_simp
              · refine StepJ.val (v := .pointer (some ⟨E, 0, none⟩)) rfl ?_ (hJ.same (by omega) (by simp) rfl)
                clear hJ hdep hE
                unfold lexA
                simp only [putAll, preI, Nat.reduceLT, Nat.reduceAdd, decide_true, decide_false, Bool.false_eq_true, if_true, if_false, Act.put, List.setIfInBounds_toArray, List.set_cons_zero, List.set_cons_succ]
                go_simp
              · have d1 : vs 1 = .pointer (some ⟨E, 0, none⟩) := hJ.dt 1 _ (hdep ⟨1, .data⟩ (by simp) rfl) rfl
                refine StepJ.val (v := .pointer (some ⟨E, 0, none⟩)) rfl ?_ (hJ.same (by omega) (by simp) rfl)
                clear hJ hdep hE
                unfold lexA
                simp only [putAll, preI, Nat.reduceLT, Nat.reduceAdd, decide_true, decide_false, Bool.false_eq_true, if_true, if_false, Act.put, List.setIfInBounds_toArray, List.set_cons_zero, List.set_cons_succ]
                go_simp
              · have d2 : vs 2 = .pointer (some ⟨E, 0, none⟩) := hJ.dt 2 _ (hdep ⟨2, .data⟩ (by simp) rfl) rfl
                refine StepJ.val (v := .pointer (some ⟨E, 0, none⟩)) rfl ?_ (hJ.same (by omega) (by simp) rfl)
                clear hJ hdep hE
                unfold lexA
                simp only [putAll, preI, Nat.reduceLT, Nat.reduceAdd, decide_true, decide_false, Bool.false_eq_true, if_true, if_false, Act.put, List.setIfInBounds_toArray, List.set_cons_zero, List.set_cons_succ]
                go_simp
              · have d3 : vs 3 = .pointer (some ⟨E, 0, none⟩) := hJ.dt 3 _ (hdep ⟨3, .data⟩ (by simp) rfl) rfl
                refine StepJ.val (v := .int .i64 a) rfl ?_ (hJ.same (by omega) (by simp) rfl)
                have c0 := hE.cell 0 _ rfl
                have c1 := hE.cell 1 _ rfl
                have c4 := hE.cell 4 _ rfl
                clear hJ hdep hE
                unfold lexA
                simp only [putAll, preI, Nat.reduceLT, Nat.reduceAdd, decide_true, decide_false, Bool.false_eq_true, if_true, if_false, Act.put, List.setIfInBounds_toArray, List.set_cons_zero, List.set_cons_succ]
                go_simp
              · refine StepJ.val (v := .pointer (some ⟨E, 0, none⟩)) rfl ?_ (hJ.same (by omega) (by simp) rfl)
                clear hJ hdep hE
                unfold lexA
                simp only [putAll, preI, Nat.reduceLT, Nat.reduceAdd, decide_true, decide_false, Bool.false_eq_true, if_true, if_false, Act.put, List.setIfInBounds_toArray, List.set_cons_zero, List.set_cons_succ]
                go_simp
              · have d5 : vs 5 = .pointer (some ⟨E, 0, none⟩) := hJ.dt 5 _ (hdep ⟨5, .data⟩ (by simp) rfl) rfl
                refine StepJ.val (v := .pointer (some ⟨E, 0, none⟩)) rfl ?_ (hJ.same (by omega) (by simp) rfl)
                clear hJ hdep hE
                unfold lexA
                simp only [putAll, preI, Nat.reduceLT, Nat.reduceAdd, decide_true, decide_false, Bool.false_eq_true, if_true, if_false, Act.put, List.setIfInBounds_toArray, List.set_cons_zero, List.set_cons_succ]
                go_simp
              · have d6 : vs 6 = .pointer (some ⟨E, 0, none⟩) := hJ.dt 6 _ (hdep ⟨6, .data⟩ (by simp) rfl) rfl
                refine StepJ.val (v := .pointer (some ⟨E, 1, none⟩)) rfl ?_ (hJ.same (by omega) (by simp) rfl)
                clear hJ hdep hE
                unfold lexA
                simp only [putAll, preI, Nat.reduceLT, Nat.reduceAdd, decide_true, decide_false, Bool.false_eq_true, if_true, if_false, Act.put, List.setIfInBounds_toArray, List.set_cons_zero, List.set_cons_succ]
                go_simp
              · have d7 : vs 7 = .pointer (some ⟨E, 1, none⟩) := hJ.dt 7 _ (hdep ⟨7, .data⟩ (by simp) rfl) rfl
                refine StepJ.val (v := .int .i64 b) rfl ?_ (hJ.same (by omega) (by simp) rfl)
                have c0 := hE.cell 0 _ rfl
                have c1 := hE.cell 1 _ rfl
                have c4 := hE.cell 4 _ rfl
                clear hJ hdep hE
                unfold lexA
                simp only [putAll, preI, Nat.reduceLT, Nat.reduceAdd, decide_true, decide_false, Bool.false_eq_true, if_true, if_false, Act.put, List.setIfInBounds_toArray, List.set_cons_zero, List.set_cons_succ]
                go_simp
              · refine StepJ.val (v := .pointer (some ⟨E, 0, none⟩)) rfl ?_ (hJ.same (by omega) (by simp) rfl)
                clear hJ hdep hE
                unfold lexA
                simp only [putAll, preI, Nat.reduceLT, Nat.reduceAdd, decide_true, decide_false, Bool.false_eq_true, if_true, if_false, Act.put, List.setIfInBounds_toArray, List.set_cons_zero, List.set_cons_succ]
                go_simp
              · have d9 : vs 9 = .pointer (some ⟨E, 0, none⟩) := hJ.dt 9 _ (hdep ⟨9, .data⟩ (by simp) rfl) rfl
                refine StepJ.val (v := .pointer (some ⟨E, 0, none⟩)) rfl ?_ (hJ.same (by omega) (by simp) rfl)
                clear hJ hdep hE
                unfold lexA
                simp only [putAll, preI, Nat.reduceLT, Nat.reduceAdd, decide_true, decide_false, Bool.false_eq_true, if_true, if_false, Act.put, List.setIfInBounds_toArray, List.set_cons_zero, List.set_cons_succ]
                go_simp
              · have d10 : vs 10 = .pointer (some ⟨E, 0, none⟩) := hJ.dt 10 _ (hdep ⟨10, .data⟩ (by simp) rfl) rfl
                refine StepJ.val (v := .pointer (some ⟨E, 4, none⟩)) rfl ?_ (hJ.same (by omega) (by simp) rfl)
                clear hJ hdep hE
                unfold lexA
                simp only [putAll, preI, Nat.reduceLT, Nat.reduceAdd, decide_true, decide_false, Bool.false_eq_true, if_true, if_false, Act.put, List.setIfInBounds_toArray, List.set_cons_zero, List.set_cons_succ]
                go_simp
              · have d11 : vs 11 = .pointer (some ⟨E, 4, none⟩) := hJ.dt 11 _ (hdep ⟨11, .data⟩ (by simp) rfl) rfl
                refine StepJ.val (v := .int .i64 wt) rfl ?_ (hJ.same (by omega) (by simp) rfl)
                have c0 := hE.cell 0 _ rfl
                have c1 := hE.cell 1 _ rfl
                have c4 := hE.cell 4 _ rfl
                clear hJ hdep hE
                unfold lexA
                simp only [putAll, preI, Nat.reduceLT, Nat.reduceAdd, decide_true, decide_false, Bool.false_eq_true, if_true, if_false, Act.put, List.setIfInBounds_toArray, List.set_cons_zero, List.set_cons_succ]
                go_simp
              · refine StepJ.val (v := .int .u32 ck) rfl ?_ (hJ.same (by omega) (by simp) rfl)
                clear hJ hdep hE
                unfold lexA
                simp only [putAll, preI, Nat.reduceLT, Nat.reduceAdd, decide_true, decide_false, Bool.false_eq_true, if_true, if_false, Act.put, List.setIfInBounds_toArray, List.set_cons_zero, List.set_cons_succ]
                go_simp
              · have d4 : vs 4 = .int .i64 a := hJ.dt 4 _ (hdep ⟨4, .data⟩ (by simp) rfl) rfl
                have d8 : vs 8 = .int .i64 b := hJ.dt 8 _ (hdep ⟨8, .data⟩ (by simp) rfl) rfl
                have d12 : vs 12 = .int .i64 wt := hJ.dt 12 _ (hdep ⟨12, .data⟩ (by simp) rfl) rfl
                have d13 : vs 13 = .int .u32 ck := hJ.dt 13 _ (hdep ⟨13, .data⟩ (by simp) rfl) rfl
                refine StepJ.val (v := .agg #[.int .i64 3, .int .i64 a, .int .i64 b, .int .i64 wt, .int .u32 ck, .slice none 0 0]) rfl ?_ (hJ.same (by omega) (by simp) rfl)
                clear hJ hdep hE
                refine exec_buildB (.tmp 70) (.tmp 74) (.tmp 78) (.tmp 79) rfl a b wt ck ?_ ?_ ?_ ?_
                all_goals
                  unfold lexA
                  simp only [putAll, preI, Nat.reduceLT, Nat.reduceAdd, decide_true, decide_false, Bool.false_eq_true, if_true, if_false, Act.put, List.setIfInBounds_toArray, List.set_cons_zero, List.set_cons_succ]
                  first | (rw [d4]; done) | (rw [d8]; done) | (rw [d12]; done) | (rw [d13]; done) | (rw [d4]; rfl) | (rw [d8]; rfl) | (rw [d12]; rfl) | (rw [d13]; rfl)
              · have d14 : vs 14 = .agg #[.int .i64 3, .int .i64 a, .int .i64 b, .int .i64 wt, .int .u32 ck, .slice none 0 0] := hJ.dt 14 _ (hdep ⟨14, .data⟩ (by simp) rfl) rfl
                have h8 : s 16 = false := by
                  cases e : s 16 with
                  | false => rfl
                  | true => exact absurd (hJ.w2 (15, 16) (by simp) e) (by simp [hs])
                refine StepJ.val (v := .slice (some ⟨W.heap.size, 0, none⟩) 1 1) (W' := W.alloc (.cells #[.int .i64 3, .int .i64 a, .int .i64 b, .int .i64 wt, .int .u32 ck, .slice none 0 0] 43)) rfl ?_ (hJ.some_ h8 (hl0 := fun W W' h hb => h.trans (hb.mono h.size)) (hl := LitSp.lasts) (by omega) (by simp) rfl ((Below.refl _ _).alloc (Nat.le_refl _) _) (fun _ => ⟨W.heap.size, rfl, Blk.new _ _ _⟩))
                clear hJ hdep hE
                refine exec_lit (.tmp 80) rfl 3 a b wt ck none 0 0 ?_
                unfold lexA
                simp only [putAll, preI, Nat.reduceLT, Nat.reduceAdd, decide_true, decide_false, Bool.false_eq_true, if_true, if_false, Act.put, List.setIfInBounds_toArray, List.set_cons_zero, List.set_cons_succ]
                rw [d14]
                rfl
              · have d0 : vs 0 = .slice Ao Ls.length co := hJ.dt 0 _ (hdep ⟨0, .data⟩ (by simp) rfl) rfl
                obtain ⟨hbW, hsp⟩ := hJ.w0 hs
                obtain ⟨gL, d15, hkL⟩ := hsp 15 (hdep ⟨15, .data⟩ (by simp) rfl) rfl rfl
                refine StepJ.app rfl (exec_append (.tmp 66) (.tmp 81) 23 rfl w.heap.size 43 j0 (.agg #[.int .i64 0, .int .i64 0, .int .i64 0, .int .i64 0, .int .u32 0, .slice none 0 0]) 6 64 Try.underlying23 hj0 hy0 hy1 hy2 rfl (by omega) (.slice Ao Ls.length co) Ls.length (Ls.flatMap encM) ?_ (own_below HO6.out hbW (Nat.le_refl _)) gL #[.int .i64 3, .int .i64 a, .int .i64 b, .int .i64 wt, .int .u32 ck, .slice none 0 0] ?_ hkL rfl (by simp [Value.oneCell']) (by unfold maxLen; omega) (by omega) (Nat.le_trans HB6.out hbW.size)) (fun vn Wn ⟨hon, hgn, hnn⟩ => hJ.app (by simp; exact hdep ⟨15, .data⟩ (by simp) rfl) rfl ⟨hon, (Mod.of_below (F := fun k => (Value.slice Ao Ls.length co).ownBlock = some k) hbW).trans (Mod.of_grown hgn) (fun _ _ h => h)⟩)
                · clear hJ hdep hE hsp hkL hbW
                  unfold lexA
                  simp only [putAll, preI, Nat.reduceLT, Nat.reduceAdd, decide_true, decide_false, Bool.false_eq_true, if_true, if_false, Act.put, List.setIfInBounds_toArray, List.set_cons_zero, List.set_cons_succ]
                  rw [d0]
                  rfl
                · clear hJ hdep hE hsp hkL hbW
                  unfold lexA
                  simp only [putAll, preI, Nat.reduceLT, Nat.reduceAdd, decide_true, decide_false, Bool.false_eq_true, if_true, if_false, Act.put, List.setIfInBounds_toArray, List.set_cons_zero, List.set_cons_succ]
                  rw [d15]
                  rfl
            · intro s vs W hall hJ
              obtain ⟨hon, hmn⟩ := hJ.w1 (hall 16 (by omega))
              obtain ⟨A8, c8, d16, _⟩ := own_rd hon
              rw [d16] at hon
              have hfin := HOS.out.push (fun g hf => (HE.out.flo g hf).2) (s := ⟨⟨3, a, b, wt, ck, []⟩, none, 0, 0⟩) hon hmn ⟨World.ownsRow_nil _ _ _ _, rfl, Nat.zero_le _⟩
              have HX := Lib.hid (show OutPost w base E a b nx wt true (.slice Aw ws.length cw) ws vg gs T ck (.returned (.slice A8 (Ls.length + 1) c8)) W from ⟨_, _, rfl, by
                rw [List.map_append, HLM.out]
                rfl, hfin.row, hfin.own, hfin.e, hfin.md⟩)
              clear hJ hall hon hmn hfin
              unfold lexA
              simp only [putAll, preI, Nat.reduceLT, Nat.reduceAdd, decide_true, decide_false, Bool.false_eq_true, if_true, if_false, Act.put, List.setIfInBounds_toArray, List.set_cons_zero, List.set_cons_succ, List.drop_succ_cons, List.drop_zero]
              rw [d16]
              go_wp2_with fail
              go_ret
              exact HX.out
end Go.Proofs.Ytpnefacignalpaa
