/- What NetPlain keeps beside the net: gantkeep5.beat, the rows of what is wanted. Conditions: those typed. -/
import Derived.Test.YtpnefacignalpaaNetW
import Derived.Test.YtpnefacignalpaaEqMsg
import Derived.Test.YtpnefacignalpaaIntsOpen
namespace Go.Proofs.Ytpnefacignalpaa
open Go.RowKit Go.Gy
set_option linter.unusedVariables false
def beatG (a b n : Int) : GMsg := ⟨3, a, b, n % 1000, 0, []⟩
set_option maxRecDepth 100000 in
set_option maxHeartbeats 1000000 in
theorem beat_any (w : World) (a b n : Int) : Calls Try.prog 14 #[.int .i64 a, .int .i64 b, .int .i64 n] w fun e w' => e = .returned (msgV (beatG a b n) none 0 0) ∧ Below w.heap.size w w' := by
  go_enter Try.func14, Try.ntmps14
  go_upto_region 1 with (fail)
  have k1 := Blk.new w 43 #[.int .i64 0, .int .i64 0, .int .i64 0, .int .i64 0, .int .u32 0, .slice none 0 0]
  have hb : Below w.heap.size w (w.alloc (.cells #[.int .i64 0, .int .i64 0, .int .i64 0, .int .i64 0, .int .u32 0, .slice none 0 0] 43)) := (Below.refl _ _).alloc (Nat.le_refl _) _
  generalize w.alloc (.cells #[.int .i64 0, .int .i64 0, .int .i64 0, .int .i64 0, .int .u32 0, .slice none 0 0] 43) = w1 at k1 hb ⊢
  have HBE := Lib.hid (below_any n 1000 w1 (by decide) (by decide))
  have b0 := k1.cell 0 _ rfl
  have b1 := k1.cell 1 _ rfl
  have b2 := k1.cell 2 _ rfl
  have b3 := k1.cell 3 _ rfl
  have b4 := k1.cell 4 _ rfl
  have b5 := k1.cell 5 _ rfl
  have f0 := k1.free 0
  have f1 := k1.free 1
  have f2 := k1.free 2
  have f3 := k1.free 3
  have f4 := k1.free 4
  have f5 := k1.free 5
  have HK := Lib.hid ((((((k1.set 0 (.int .i64 3)).set 1 (.int .i64 a)).set 2 (.int .i64 b)).set 3 (.int .i64 (n % 1000))).set 4 (.int .u32 0)).set 5 (.slice none 0 0))
  have HB := Lib.hid ((((((hb.setCell (p := ⟨w.heap.size, 0, none⟩) (Nat.le_refl _) (.int .i64 3)).setCell (p := ⟨w.heap.size, 1, none⟩) (Nat.le_refl _) (.int .i64 a)).setCell (p := ⟨w.heap.size, 2, none⟩) (Nat.le_refl _) (.int .i64 b)).setCell (p := ⟨w.heap.size, 3, none⟩) (Nat.le_refl _) (.int .i64 (n % 1000))).setCell (p := ⟨w.heap.size, 4, none⟩) (Nat.le_refl _) (.int .u32 0)).setCell (p := ⟨w.heap.size, 5, none⟩) (Nat.le_refl _) (.slice none 0 0))
  clear k1 hb
  go_wp2_with fail
  refine HBE.out.mono ?_
  rintro e w2 ⟨rfl, rfl⟩
  go_wp2
  refine bodyPost_ret (results_cell_row Try.results14 _ _ w.heap.size 43 _ (0, 0) _ rfl HK.out Try.underlying43 rfl (by kernel_rfl)) rfl ?_
  exact ⟨rfl, HB.out⟩
set_option maxRecDepth 100000 in
/-- a literal of one message, as a single operation (apart from any context) -/
theorem exec_lit {ev : Operand → Value} {o : Oper} {W : World} (x : Operand) (ho : o.op = .buildSlice 23 1 #[(0, x)]) (k s d q : Int) (t : Int) (A : Option Addr) (n c : Nat) (hx : ev x = .agg #[.int .i64 k, .int .i64 s, .int .i64 d, .int .i64 q, .int .u32 t, .slice A n c]) :
    (execOp ev o).run Try.prog W = .ok (.value (.slice (some ⟨W.heap.size, 0, none⟩) 1 1)) (W.alloc (.cells #[.int .i64 k, .int .i64 s, .int .i64 d, .int .i64 q, .int .u32 t, .slice A n c] 43)) := by
  unfold execOp
  simp only [ho, List.map_toArray, List.map_cons, List.map_nil, hx]
  go_simp
def encM0 (m : GMsg) : List Value := encM ⟨m, none, 0, 0⟩
theorem flat0 : ∀ (M : List GMsg), M.flatMap encM0 = (M.map (fun m => (⟨m, none, 0, 0⟩ : SM))).flatMap encM
  | [] => rfl
  | m :: M => by rw [List.flatMap_cons, List.map_cons, List.flatMap_cons, flat0 M]; rfl
/-- five rows of messages without cells, the array of their slices at V -/
structure WantAt (W : World) (base V : Nat) (Ms : List (List GMsg)) : Prop where
  lo : base ≤ V
  no : ∀ M ∈ Ms, ∀ m ∈ M, m.cells = []
  is : ∃ us : List Value, us.length = 5 ∧ Ms.length = 5 ∧ Blk W V 57 us.toArray ∧ (∀ (i : Nat) (u : Value) (M : List GMsg), us[i]? = some u → Ms[i]? = some M → W.ownsRow base 43 6 u M.length (M.flatMap encM0)) ∧
    ∀ (i j : Nat) (u u' : Value), i ≠ j → us[i]? = some u → us[j]? = some u' → ∀ g, u.ownBlock = some g → u'.ownBlock ≠ some g
theorem WantAt.keep {W W' : World} {base V : Nat} {Ms : List (List GMsg)} {F : Nat → Prop} (h : WantAt W base V Ms) (hm : Mod F W W') (hF : ∀ g t cs, Blk W g t cs → F g → t ≠ 57 ∧ t ≠ 43) : WantAt W' base V Ms := by
  obtain ⟨h1, h0, us, h2, h3, h4, h5, h6⟩ := h
  exact ⟨h1, h0, us, h2, h3, hm.blk h4 (fun hf => (hF _ _ _ h4 hf).1 rfl), fun i u M hi hM => hm.own (h5 i u M hi hM) (fun g cs _ hk hf => (hF _ _ _ hk hf).2 rfl), h6⟩
theorem WantAt.below {W W' : World} {base V : Nat} {Ms : List (List GMsg)} (h : WantAt W base V Ms) (hb : Below W.heap.size W W') : WantAt W' base V Ms :=
  h.keep (F := fun _ => False) (Mod.of_below hb) (fun _ _ _ _ hf => hf.elim)
theorem WantAt.lt {W : World} {base V : Nat} {Ms : List (List GMsg)} (h : WantAt W base V Ms) : V < W.heap.size := by
  obtain ⟨_, _, us, _, _, h4, _⟩ := h
  exact h4.lt
theorem WantAt.get {W : World} {base V i : Nat} {Ms : List (List GMsg)} (h : WantAt W base V Ms) (hi : i < 5) : ∃ A n c M, Ms[i]? = some M ∧ M.length = n ∧ W.cell? ⟨V, i, none⟩ = some (.slice A n c) ∧ W.ownsRow base 43 6 (.slice A n c) M.length (M.flatMap encM0) := by
  obtain ⟨_, _, us, h2, h3, h4, h5, _⟩ := h
  obtain ⟨u, hu⟩ : ∃ u, us[i]? = some u := ⟨_, List.getElem?_eq_getElem (by omega)⟩
  obtain ⟨M, hM⟩ : ∃ M, Ms[i]? = some M := ⟨_, List.getElem?_eq_getElem (by omega)⟩
  have h6 := h5 i u M hu hM
  obtain ⟨A, c, rfl, _⟩ := own_rd h6
  exact ⟨A, _, c, M, hM, rfl, h4.cell i _ (by simpa using hu), h6⟩
theorem WantAt.free {W : World} {base V : Nat} {Ms : List (List GMsg)} (h : WantAt W base V Ms) (i : Nat) : W.frozen? ⟨V, i, none⟩ = false := by
  obtain ⟨_, _, us, _, _, h4, _⟩ := h
  exact h4.free i
theorem WantAt.at_ {W : World} {base V i : Nat} {Ms : List (List GMsg)} {M : List GMsg} {u : Value} (h : WantAt W base V Ms) (hM : Ms[i]? = some M) (ho : W.ownsRow base 43 6 u M.length (M.flatMap encM0)) : MsgsAt W base u (M.map (fun m => (⟨m, none, 0, 0⟩ : SM))) := by
  obtain ⟨A, c, rfl, _⟩ := own_rd ho
  refine ⟨A, _, c, rfl, by rw [List.length_map, ← flat0]; exact ho, fun s hs => ?_⟩
  obtain ⟨m, hm, rfl⟩ := List.mem_map.1 hs
  have := h.no M (List.mem_of_getElem? hM) m hm
  exact ⟨by rw [this]; rfl, Nat.le_refl _, fun _ => ⟨rfl, rfl⟩, by show 0 ≤ _; omega, ⟨by rw [this]; rfl, fun h => absurd h (Nat.lt_irrefl 0)⟩⟩
/-- one of the rows is put in place of what was there -/
theorem WantAt.put {W W' : World} {base V d n : Nat} {Ms : List (List GMsg)} {M : List GMsg} {A : Option Addr} {c : Nat} {u' : Value} (h : WantAt W base V Ms) (hd : d < 5) (hc : W.cell? ⟨V, d, none⟩ = some (.slice A n c)) (hm : Mod (fun k => (Value.slice A n c).ownBlock = some k) W W') (hno : ∀ m ∈ M, m.cells = [])
    (ho : W'.ownsRow base 43 6 u' M.length (M.flatMap encM0)) (hn : NearV W (.slice A n c) u') : WantAt (W'.setCell ⟨V, d, none⟩ u') base V (Ms.set d M) := by
  obtain ⟨h1, h0, us, h2, h3, h4, h5, h6⟩ := h
  have hud : us[d]? = some (.slice A n c) := by
    have := h4.cell d
    obtain ⟨u, hu⟩ : ∃ u, us[d]? = some u := ⟨_, List.getElem?_eq_getElem (by omega)⟩
    rw [this u (by simpa using hu)] at hc
    rw [hu]
    exact hc
  have hVt : ∀ {t : TypeId} {g : Nat} {cs : Array Value}, Blk W' g t cs → t ≠ 57 → g ≠ V := fun {t g cs} hk ht e => by
    subst e
    have hk' : Blk W' g 57 us.toArray := hm.blk h4 (fun hf => by
      obtain ⟨M', hM'⟩ : ∃ M', Ms[d]? = some M' := ⟨_, List.getElem?_eq_getElem (by omega)⟩
      obtain ⟨cs', hk2⟩ := own_blk (h5 d _ M' hud hM') hf
      exact absurd (blk_type hk2 h4) (by decide))
    exact ht (blk_type hk hk')
  have hk4 : Blk W' V 57 us.toArray := hm.blk h4 (fun hf => by
    obtain ⟨M', hM'⟩ : ∃ M', Ms[d]? = some M' := ⟨_, List.getElem?_eq_getElem (by omega)⟩
    obtain ⟨cs', hk2⟩ := own_blk (h5 d _ M' hud hM') hf
    exact absurd (blk_type hk2 h4) (by decide))
  have hS := Mod.of_grow (GroW.set W' V d u')
  have k5 := hk4.set d u'
  refine ⟨h1, fun M' hM' m hm' => ?_, us.set d u', by rw [List.length_set]; exact h2, by rw [List.length_set]; exact h3, by simpa using k5, fun i u M' hi hM' => ?_, fun i j u u2 hij hi hj g hg => ?_⟩
  · rcases List.mem_or_eq_of_mem_set hM' with hM' | rfl
    · exact h0 M' hM' m hm'
    · exact hno m hm'
  · rw [List.getElem?_set] at hi hM'
    by_cases hdi : d = i
    · subst hdi
      rw [if_pos rfl, if_pos (by omega)] at hi hM'
      obtain rfl := Option.some.inj hi
      obtain rfl := Option.some.inj hM'
      exact hS.own ho (fun g cs _ hk => hVt hk (by decide))
    · rw [if_neg hdi] at hi hM'
      exact hS.own (hm.own (h5 i u M' hi hM') (fun g cs hg _ hf => h6 i d u _ (fun e => hdi e.symm) hi hud g hg hf)) (fun g cs _ hk => hVt hk (by decide))
  · rw [List.getElem?_set] at hi hj
    by_cases hdi : d = i
    · subst hdi
      rw [if_pos rfl, if_pos (by omega)] at hi
      rw [if_neg hij] at hj
      obtain rfl := Option.some.inj hi
      intro hg2
      rcases hn g hg with h7 | h7
      · exact h6 d j _ u2 hij hud hj g h7 hg2
      · obtain ⟨M', hM'⟩ : ∃ M', Ms[j]? = some M' := ⟨_, List.getElem?_eq_getElem (by have := (List.getElem?_eq_some_iff.1 hj).1; omega)⟩
        have := ((h5 j u2 M' hj hM').lt g hg2).2
        omega
    · rw [if_neg hdi] at hi
      by_cases hdj : d = j
      · subst hdj
        rw [if_pos rfl, if_pos (by omega)] at hj
        obtain rfl := Option.some.inj hj
        intro hg2
        rcases hn g hg2 with h7 | h7
        · exact h6 d i _ u (fun e => hij e.symm) hud hi g h7 hg
        · obtain ⟨M', hM'⟩ : ∃ M', Ms[i]? = some M' := ⟨_, List.getElem?_eq_getElem (by have := (List.getElem?_eq_some_iff.1 hi).1; omega)⟩
          have := ((h5 i u M' hi hM').lt g hg).2
          omega
      · rw [if_neg hdj] at hj
        exact h6 i j u u2 hij hi hj g hg
end Go.Proofs.Ytpnefacignalpaa
