/- gantkeep5.falls and events. Conditions: those typed. -/
import Derived.Test.YtaahpjjffggaiaaFallDo
import Derived.Test.YtaahpjjffggaiaaMakeCells
import Derived.Test.YtaahpjjffggaiaaSliceTo
import Derived.Test.YtaahpjjffggaiaaIntsOpen
import Derived.Deep.DeepCutAuto
import Derived.Deep.CutBlock
import Derived.RegionTactic
import Derived.Deep.RegionHeld3
namespace Go.Proofs.Ytaahpjjffggaiaa
open Go.RowKit Go.Gy
set_option linter.unusedVariables false
/-- an event in memory, its slice's address, length and capacity -/
structure SEv where
  e : GEv
  A : Option Addr
  n : Nat
  c : Nat
def encE (s : SEv) : List Value := [.int .i64 s.e.kind, .int .i64 s.e.n, .slice s.A s.n s.c]
theorem encE_len (s : SEv) : (encE s).length = 3 := rfl
/-- the cells of all of them, in rows of the call's own -/
def EvsOwn (w : World) (base : Nat) (ss : List SEv) : Prop := ∀ s ∈ ss, w.ownsRow base 24 2 (.slice s.A s.n s.c) s.n (s.e.cells.flatMap encC)
theorem EvsOwn.below {w w' : World} {base : Nat} {ss : List SEv} (h : EvsOwn w base ss) (hb : Below w.heap.size w w') : EvsOwn w' base ss := fun s hs => own_below (h s hs) hb (Nat.le_refl _)
theorem EvsOwn.kept {w w' : World} {base base' : Nat} {e : TypeId} {size n : Nat} {ss : List SEv} {r : Value} {xs : List Value} (h : EvsOwn w base ss) (ho : w.ownsRow base' e size r n xs) (hne : 24 ≠ e) (hg : w.grownBy w' r.ownBlock) : EvsOwn w' base ss := fun s hs => (h s hs).kept hg (own_apart (h s hs) ho hne)
theorem EvsOwn.set {w : World} {base : Nat} {ss : List SEv} (h : EvsOwn w base ss) {p : Addr} (hp : p.block < base) (u : Value) : EvsOwn (w.setCell p u) base ss := fun s hs => ownsRow_setCell_below (h s hs) hp _
theorem EvsOwn.mono {w : World} {base base' : Nat} {ss : List SEv} (h : EvsOwn w base ss) (hb : base' ≤ base) : EvsOwn w base' ss := fun s hs => own_mono (h s hs) hb
/-- what the events make of a new memory -/
def foldF (es : List GEv) : GMem := es.foldl (fun m e => (doF m e).2) zeroMem
theorem foldF_snoc (es : List GEv) (e : GEv) : foldF (es ++ [e]) = (doF (foldF es) e).2 := by simp [foldF]
/-- each of them is done -/
def GoodEvs (es : List GEv) : Prop := ∀ k e, es[k]? = some e → doF (foldF (es.take k)) e = (0, foldF (es.take (k + 1)))
theorem GoodEvs.nil : GoodEvs [] := fun k e h => by simp at h
theorem GoodEvs.snoc {es : List GEv} {e : GEv} {m : GMem} (h : GoodEvs es) (hd : doF (foldF es) e = (0, m)) : GoodEvs (es ++ [e]) ∧ foldF (es ++ [e]) = m := by
  have hm : foldF (es ++ [e]) = m := by rw [foldF_snoc, hd]
  refine ⟨fun k x hx => ?_, hm⟩
  rcases Nat.lt_trichotomy k es.length with h1 | h1 | h1
  · rw [List.getElem?_append_left h1] at hx
    rw [List.take_append_of_le_length (by omega), List.take_append_of_le_length (by omega)]
    exact h k x hx
  · subst h1
    rw [List.getElem?_append_right (Nat.le_refl _)] at hx
    simp at hx
    subst hx
    rw [List.take_append_of_le_length (Nat.le_refl _), List.take_length, List.take_of_length_le (by simp), hm]
    exact hd
  · rw [List.getElem?_eq_none (by simp; omega)] at hx; cases hx
theorem doF_check {m m' : GMem} {e : GEv} (h : doF m e = (0, m')) : checkF e = 0 := by
  unfold doF at h
  split at h
  · rename_i h1; exact absurd (congrArg Prod.fst h) h1
  · omega
theorem GoodEvs.check {es : List GEv} (h : GoodEvs es) {e : GEv} (he : e ∈ es) : checkF e = 0 := by
  obtain ⟨k, hk, rfl⟩ := List.getElem_of_mem he
  exact doF_check (h k _ (List.getElem?_eq_getElem hk))
def FBool (b : Bool) (w : World) (e : Ending) (w' : World) : Prop := e = .returned (.bool b) ∧ Below w.heap.size w w'
theorem SlC.nil' (w : World) (B : Nat) : SlC w B (.slice none 0 0) [] := ⟨none, 0, 0, rfl, rfl, Nat.le_refl _, fun _ => rfl, ⟨rfl, fun h => by omega⟩⟩
set_option maxRecDepth 100000 in
set_option maxHeartbeats 1000000 in
theorem falls_any (w : World) : Calls Try.prog 35 #[] w (FBool true w) := by
  have HD := Lib.hid (do_any w zeroMem ⟨6, 0, []⟩ none 0 0 none 0 0 none 0 0 (SlC.nil' _ _) (SlC.nil' _ _) (SlC.nil' _ _))
  have hd : doF zeroMem ⟨6, 0, []⟩ = (0, ⟨0, 0, [], [], 1⟩) := by simp [doF, doF0, checkF, rightF, cellsF, cellsG, IntKind.wrap_i64]
  rw [hd] at HD
  clear hd
  go_enter Try.func35, Try.ntmps35
  go_wp2_with fail
  refine HD.out.mono ?_
  rintro e w1 ⟨v, rfl, ⟨A, n, c, A', n', c', rfl, _, _, _, _⟩, hb⟩
  have HB := Lib.hid hb
  clear hb HD
  go_wp2
  go_ret
  exact ⟨rfl, HB.out.alloc HB.out.size _⟩
abbrev memRow (m : GMem) (A : Option Addr) (n c : Nat) (A' : Option Addr) (n' c' : Nat) : Array Value := #[.int .i64 m.goal, .int .i64 m.ticks, .slice A n c, .slice A' n' c', .int .i64 m.falls]
/-- block g holds the memory m, its cells in rows of the call's own -/
def MemBlk (w : World) (g base : Nat) (m : GMem) : Prop := ∃ A n c A' n' c', Blk w g 46 (memRow m A n c A' n' c') ∧ w.ownsRow base 24 2 (.slice A n c) n (m.asked.flatMap encC) ∧ w.ownsRow base 24 2 (.slice A' n' c') n' (m.has.flatMap encC) ∧ n ≤ 1000 ∧ n' ≤ 1000
theorem MemBlk.below {w w' : World} {g base : Nat} {m : GMem} (h : MemBlk w g base m) (hb : Below w.heap.size w w') : MemBlk w' g base m := by
  obtain ⟨A, n, c, A', n', c', h1, h2, h3, h4⟩ := h
  exact ⟨A, n, c, A', n', c', h1.below hb h1.lt, own_below h2 hb (Nat.le_refl _), own_below h3 hb (Nat.le_refl _), h4⟩
theorem MemBlk.kept {w w' : World} {g base base' : Nat} {e : TypeId} {size n : Nat} {m : GMem} {r : Value} {xs : List Value} (h : MemBlk w g base m) (ho : w.ownsRow base' e size r n xs) (hne : 24 ≠ e) (hgb : g < base') (hg : w.grownBy w' r.ownBlock) : MemBlk w' g base m := by
  obtain ⟨A, n, c, A', n', c', h1, h2, h3, h4⟩ := h
  refine ⟨A, n, c, A', n', c', (hg.block g h1.lt fun e => ?_).trans h1, h2.kept hg (own_apart h2 ho hne), h3.kept hg (own_apart h3 ho hne), h4⟩
  have := (ho.lt g e.symm).1
  omega
theorem own_set5 {w : World} {g base : Nat} {e : TypeId} {size n : Nat} {v : Value} {xs : List Value} (h : w.ownsRow base e size v n xs) (hg : g < base) (a b c d e' : Value) : (((((w.setCell ⟨g, 0, none⟩ a).setCell ⟨g, 1, none⟩ b).setCell ⟨g, 2, none⟩ c).setCell ⟨g, 3, none⟩ d).setCell ⟨g, 4, none⟩ e').ownsRow base e size v n xs :=
  ownsRow_setCell_below (ownsRow_setCell_below (ownsRow_setCell_below (ownsRow_setCell_below (ownsRow_setCell_below h hg _) hg _) hg _) hg _) hg _
theorem blk_far5 {w : World} {g k : Nat} {t : TypeId} {cs : Array Value} (h : Blk w k t cs) (hg : k ≠ g) (a b c d e' : Value) : Blk (((((w.setCell ⟨g, 0, none⟩ a).setCell ⟨g, 1, none⟩ b).setCell ⟨g, 2, none⟩ c).setCell ⟨g, 3, none⟩ d).setCell ⟨g, 4, none⟩ e') k t cs :=
  ((((h.far hg _).far hg _).far hg _).far hg _).far hg _
theorem size_set5 (w : World) (g : Nat) (a b c d e' : Value) : (((((w.setCell ⟨g, 0, none⟩ a).setCell ⟨g, 1, none⟩ b).setCell ⟨g, 2, none⟩ c).setCell ⟨g, 3, none⟩ d).setCell ⟨g, 4, none⟩ e').heap.size = w.heap.size := by simp [World.setCell]
theorem blk_kept {w w' : World} {g base : Nat} {t e : TypeId} {size n : Nat} {cs : Array Value} {r : Value} {xs : List Value} (h : Blk w g t cs) (ho : w.ownsRow base e size r n xs) (hgb : g < base) (hg : w.grownBy w' r.ownBlock) : Blk w' g t cs :=
  (hg.block g h.lt fun e => by have := (ho.lt g e.symm).1; omega).trans h
theorem results_two_cell {P : Program} {fn : Func} {p q : Tmp} {ty : TypeId} (h : fn.results = #[.tmp q, .cell p ty]) (tmps : Array Value) (w : World) (g : Nat) (t : TypeId) (cs : Array Value) (fr : Nat × Nat) (d : TypeDesc) (u : Value)
    (hp : tmps.getD p undef = .pointer (some ⟨g, 0, none⟩)) (hq : tmps.getD q undef = u) (hg : w.heap[g]? = some (.cells cs t fr))
    (hu : P.underlying ty = some d) (hd : (match d with | .struct _ | .array _ _ => true | _ => false) = true) (hi : (P.info? ty).map (·.size) = some cs.size) :
    (results fn tmps).run P w = .ok (.tuple #[u, .agg cs]) w := by
  have hp' : tmps[p]?.getD undef = .pointer (some ⟨g, 0, none⟩) := by simpa using hp
  have hq' : tmps[q]?.getD undef = u := by simpa using hq
  simp [results, h, hp', hq', asAddr, run_loadVar_row w g t ty cs fr d hg hu hd hi]
def EvRel (w : World) (n : Nat) (v i : Value) (wr : World) : Prop := ∃ (k m : Nat) (ss : List SEv), k ≤ n ∧ i = .int .i64 (k : Int) ∧ ss.length = m ∧ m ≤ k ∧ GoodEvs (ss.map (·.e)) ∧ wr.ownsRow (w.heap.size + 2) 48 3 v m (ss.flatMap encE) ∧ EvsOwn wr (w.heap.size + 2) ss ∧
  Blk wr w.heap.size 46 zeroMv ∧ MemBlk wr (w.heap.size + 1) (w.heap.size + 2) (foldF (ss.map (·.e))) ∧ Below w.heap.size w wr ∧ w.heap.size + 2 ≤ wr.heap.size
def EvCut (w wr : World) (K : Int) (wx : World) : Prop := ∃ (n : Int) (cs : List Cell) (A : Option Addr) (p c : Nat), Blk wx wr.heap.size 48 #[.int .i64 K, .int .i64 n, .slice A p c] ∧ wx.ownsRow (w.heap.size + 2) 24 2 (.slice A p c) p (cs.flatMap encC) ∧ Below wr.heap.size wr wx ∧ wr.heap.size < wx.heap.size
def ClPost (w1 : World) (e : Ending) (w' : World) : Prop := ∃ (A : Option Addr) (n c : Nat) (cs : List Cell), e = .returned (.slice A n c) ∧ cs.length ≤ 8 ∧ cellsF cs = 0 ∧ w'.ownsRow (w1.heap.size + 1) 24 2 (.slice A n c) n (cs.flatMap encC) ∧ Below w1.heap.size w1 w'
def MtPost (w1 : World) (e : Ending) (w' : World) : Prop := ∃ (A : Option Addr) (n c : Nat) (cs : List Cell), e = .returned (.slice A n c) ∧ w'.ownsRow w1.heap.size 24 2 (.slice A n c) n (cs.flatMap encC) ∧ Below w1.heap.size w1 w'
def EventsPost (w : World) (e : Ending) (w' : World) : Prop := ∃ (v vm : Value) (m : Nat) (ss : List SEv), e = .returned (.tuple #[v, vm]) ∧ ss.length = m ∧ m ≤ 30 ∧ GoodEvs (ss.map (·.e)) ∧ w'.ownsRow w.heap.size 48 3 v m (ss.flatMap encE) ∧ EvsOwn w' w.heap.size ss ∧ MemOwn w' w.heap.size (foldF (ss.map (·.e))) vm ∧ Below w.heap.size w w'
set_option maxRecDepth 100000 in
theorem info_ev : (Try.prog.info? 48).map (fun i => (i.zero, i.size, i.bytes)) = some (some (.agg #[.int .i64 0, .int .i64 0, .slice none 0 0]), 3, 40) := by kernel_rfl
set_option maxRecDepth 100000 in
set_option maxHeartbeats 4000000 in
theorem events_any (w : World) (v : Value) (l : List Int) (hv : SlI w w.heap.size v l) (hl : l.length ≤ 140737488355328) :
    Calls Try.prog 36 #[v] w (EventsPost w) := by
  obtain ⟨j0, hji, hy0, hy1, hy2⟩ := info_parts info_ev
  obtain ⟨A, N, C, rfl, hln, hNC, hA, hr⟩ := hv
  obtain ⟨n, hn⟩ : ∃ n, n = min N 30 := ⟨_, rfl⟩
  have hnN : n ≤ N := by omega
  have hn30 : n ≤ 30 := by omega
  have hmin : min (N : Int) 30 = (n : Int) := by omega
  have hto := ints_to A N C n (by omega)
  have hr := hr.take hnN
  rw [Nat.mul_one, ← List.map_take] at hr
  obtain ⟨xs, hxs⟩ : ∃ xs, xs = l.take n := ⟨_, rfl⟩
  rw [← hxs] at hr
  have Hr := Lib.hid hr
  have Hu := Lib.hid (show Try.prog.underlying 22 = some (.slice (Try.prog.elem 22)) by kernel_rfl)
  have hst : ∀ wr, wr = ((w.alloc (.cells zeroMv 46)).alloc (.cells zeroMv 46)) → EvRel w n (.slice none 0 0) (.int .i64 0) wr := fun wr h => by
    subst h
    refine ⟨0, 0, [], Nat.zero_le _, rfl, rfl, Nat.le_refl _, GoodEvs.nil, World.ownsRow_nil _ _ _ _, fun s hs => by simp at hs, (Blk.new w _ _).alloc _, ⟨none, 0, 0, none, 0, 0, ?_, World.ownsRow_nil _ _ _ _, World.ownsRow_nil _ _ _ _, by decide, by decide⟩, ((Below.refl _ _).alloc (Nat.le_refl _) _).alloc (by simp) _, by simp⟩
    have := Blk.new (w.alloc (.cells zeroMv 46)) 46 zeroMv
    rw [World.size_alloc] at this
    exact this
  have Hst := Lib.hid hst
  clear hst hn hln hr hxs hA
  go_enter Try.func36, Try.ntmps36
  go_wp2_with (first
    | (refine wpList_min2 rfl (.tmp 13) (.const (.int .i64 30)) _ rfl N 30 rfl rfl n hmin ?_)
    | (refine wpList_slice_to rfl 22 (.tmp 11) (.tmp 14) rfl A N C n rfl rfl Hu.out hto ?_))
  go_loopw [4, 17] (fun v i wr => EvRel w n v i wr) (fun _ i _ => n - (intOf i).toNat)
  case atStart => exact Hst.out _ rfl
  case round =>
    obtain ⟨k, m, ss, hk, rfl, hsm, hmk, hge, hown, hevs, hR, hM, hb, hz⟩ := hrel
    have hzw := hb.size
    have Hsm := Lib.hid hsm
    have Hge := Lib.hid hge
    have Hown := Lib.hid hown
    have Hevs := Lib.hid hevs
    have HR := Lib.hid hR
    have HM := Lib.hid hM
    have Hb := Lib.hid hb
    obtain ⟨Ao, co, rfl, hmc, hcm, _⟩ := own_rd hown
    clear hsm hge hown hevs hR hM hb
    by_cases hlt : k < n
    · obtain ⟨b, o, x, rfl, hbb, hx, hc⟩ := (Hr.out.below Hb.out).one hlt
      have hlt' : (k : Int) < (n : Int) := by omega
      obtain ⟨r, hr⟩ : ∃ r : Int, r = x % 6 := ⟨_, rfl⟩
      have hr0 : 0 ≤ r := by omega
      have hr6 : r < 6 := by omega
      have HB6 := Lib.hid (show ∀ W, Calls Try.prog 20 #[.int .i64 x, .int .i64 6] W fun e w' => e = .returned (.int .i64 r) ∧ W = w' from fun W => by rw [hr]; exact below_any x 6 W (by omega) (by omega))
      clear hr hx
      go_wp2_with fail
      refine (HB6.out _).mono ?_
      rintro e w' ⟨rfl, rfl⟩
      go_upto_block 2 with (fail)
      have hE := Blk.new wr 48 #[.int .i64 (1 + r), .int .i64 0, .slice none 0 0]
      have hbE : Below wr.heap.size wr (wr.alloc (.cells #[.int .i64 (1 + r), .int .i64 0, .slice none 0 0] 48)) := (Below.refl _ _).alloc (Nat.le_refl _) _
      generalize wr.alloc (.cells #[.int .i64 (1 + r), .int .i64 0, .slice none 0 0] 48) = w1 at hE hbE ⊢
      have hEl := hE.lt
      obtain ⟨MA, Mn, Mc, HA, Hn, Hc, hMB, hMo1, hMo2, hMn, hHn⟩ := HM.out
      have hM1 := hMB.below hbE hMB.lt
      have HM1 := Lib.hid hM1
      have HMB := Lib.hid hMB
      have HMo1 := Lib.hid hMo1
      have HMo2 := Lib.hid hMo2
      have HE := Lib.hid hE
      have HbE := Lib.hid hbE
      obtain ⟨M, hM⟩ : ∃ M, M = foldF (ss.map (·.e)) := ⟨_, rfl⟩
      rw [← hM] at HM1 HMB HMo1 HMo2
      have HMd := Lib.hid hM
      have hMlt := hM1.lt
      clear hM hM1 hMB hMo1 hMo2 hE hbE HM
      have HB3 := Lib.hid (show ∀ y W, Calls Try.prog 20 #[.int .i64 y, .int .i64 1000] W fun e w' => e = .returned (.int .i64 (y % 1000)) ∧ W = w' from fun y W => below_any y 1000 W (by omega) (by omega))
      have HCl := Lib.hid (show ∀ a b W, Below w1.heap.size w1 W → Calls Try.prog 48 #[.slice (some ⟨W.heap.size, 0, none⟩) 2 2] (W.alloc (.cells #[.int .i64 a, .int .i64 b] 3)) (ClPost w1) from fun a b W hb => by
        have h1 := Rd.lit W 3 [.int .i64 a, .int .i64 b] 1 2 rfl
        refine (cells_any (W.alloc (.cells #[.int .i64 a, .int .i64 b] 3)) (.slice (some ⟨W.heap.size, 0, none⟩) 2 2) [a, b] ⟨_, 2, 2, rfl, rfl, Nat.le_refl _, (fun h => by cases h), by simpa using h1⟩ (by simp)).mono ?_
        rintro e w' ⟨v', cs, h1, h2, h3, h4, h5⟩
        obtain ⟨A', c', rfl, _, _, _⟩ := own_rd h4
        exact ⟨A', _, c', cs, h1, h2, h3, own_mono h4 (by have := hb.size; simp; omega), (hb.alloc hb.size _).trans (h5.mono (by have := hb.size; simp; omega))⟩)
      go_cut [] (fun wx => EvCut w wr (1 + r) wx)
      case first =>
        have hr : r = 0 ∨ r = 1 ∨ r = 2 ∨ r = 3 ∨ r = 4 ∨ r = 5 := by omega
        have e0 := HE.out.cell 0 _ rfl
        have e1 := HE.out.cell 1 _ rfl
        have e2 := HE.out.cell 2 _ rfl
        have f1 := HE.out.free 1
        have f2 := HE.out.free 2
        rcases hr with rfl | rfl | rfl | rfl | rfl | rfl
        · go_wp2_with fail
          refine (HB3.out _ _).mono ?_
          rintro e w' ⟨rfl, rfl⟩
          go_wp2_with fail
          go_meet
          exact ⟨_, [], none, 0, 0, HE.out.set 1 _, World.ownsRow_nil _ _ _ _, HbE.out.setCell (Nat.le_refl _) _, by simp [World.setCell]; omega⟩
        · go_wp2_with fail
          go_meet
          exact ⟨0, [], none, 0, 0, HE.out, World.ownsRow_nil _ _ _ _, HbE.out, hEl⟩
        · go_wp2_with fail
          refine (HCl.out _ _ _ (Below.refl _ _)).mono ?_
          rintro e w2 ⟨A2, n2, c2, cs, rfl, h8, h0, ho2, hb2⟩
          have hE2 := HE.out.below hb2 hEl
          have e2 := hE2.cell 2 _ rfl
          have f2 := hE2.free 2
          have HE2 := Lib.hid hE2
          have Hb2 := Lib.hid hb2
          have Ho2 := Lib.hid ho2
          clear hE2 hb2 ho2 h0
          go_wp2_with fail
          go_meet
          exact ⟨0, cs, A2, n2, c2, HE2.out.set 2 _, own_mono (ownsRow_setCell_below Ho2.out (by show wr.heap.size < _; omega) _) (by omega), (HbE.out.trans (Hb2.out.mono (by omega))).setCell (Nat.le_refl _) _, by have := Hb2.out.size; simp [World.setCell]; omega⟩
        · go_wp2_with fail
          go_meet
          exact ⟨0, [], none, 0, 0, HE.out, World.ownsRow_nil _ _ _ _, HbE.out, hEl⟩
        · have hMwr := HMB.out.lt
          have HS := Lib.hid (show ∀ w', Below wr.heap.size w1 w' → (w'.cell? ⟨w.heap.size + 1, 3, none⟩ = some (.slice HA Hn Hc) ∧ Below wr.heap.size w1 w') from fun w' h => ⟨(HM1.out.below h hMwr).cell 3 _ rfl, h⟩)
          have HMt := Lib.hid (show ∀ w' v cs, Below w1.heap.size w1 w' → SlC w' w'.heap.size v cs → cs.length ≤ 8 → Calls Try.prog 49 #[.slice HA Hn Hc, v] w' (MtPost w1) from fun w' v cs hb hv h8 => by
            have hbr := HbE.out.trans (hb.mono (by omega))
            have hs := SlC.own (own_below HMo2.out hbr (Nat.le_refl _))
            refine (meet_any w' _ v M.has cs hs hv (by rw [hs.parts.1]; omega) (by omega)).mono ?_
            rintro e w'' ⟨A, n, c, h1, h2, h3, h4⟩
            exact ⟨A, n, c, _, h1, own_mono h3 hb.size, hb.trans (h4.mono hb.size)⟩)
          go_wp2_with fail
          go_region_held3 (fun w' => w'.cell? ⟨w.heap.size + 1, 3, none⟩ = some (.slice HA Hn Hc) ∧ Below wr.heap.size w1 w')
            (first | exact HS.out _ (Below.refl _ _).drew | exact HS.out _ (((Below.refl _ _).alloc (Nat.le_of_lt hEl) _).drew) | exact HS.out _ ((hb3.mono (Nat.le_of_lt hEl)).setCell (Nat.le_refl _) _) | exact HS.out _ (hb3.mono (Nat.le_of_lt hEl)) | exact HS.out _ (hb2.mono (Nat.le_of_lt hEl)))
            (first
              | (go_at_call 48; refine (HCl.out _ _ _ (Below.refl _ _).drew).mono ?_; rintro e w2 ⟨A2, n2, c2, cs, rfl, h8, h0, ho2, hb2⟩)
              | (go_at_call 49; refine (HMt.out _ _ cs hb2 (SlC.own ho2) h8).mono ?_; rintro e w3 ⟨A3, n3, c3, cs3, rfl, ho3, hb3⟩; have hE3 := HE.out.below hb3 hEl; have e2 := hE3.cell 2 _ rfl; have f2 := hE3.free 2))
          all_goals
            go_wp2_with fail
            go_meet
            exact ⟨0, cs3, A3, n3, c3, hE3.set 2 _, own_mono (ownsRow_setCell_below ho3 (by show wr.heap.size < _; omega) _) (by omega), (HbE.out.trans (hb3.mono (Nat.le_of_lt hEl))).setCell (Nat.le_refl _) _, by have := hb3.size; simp [World.setCell]; omega⟩
        · go_wp2_with fail
          go_meet
          exact ⟨0, [], none, 0, 0, HE.out, World.ownsRow_nil _ _ _ _, HbE.out, hEl⟩
      case rest =>
        obtain ⟨v, cs, A1, p, c1, hE, hco, hbc, hz1⟩ := hcut
        have hM := HMB.out.below hbc HMB.out.lt
        have hMl := HMB.out.lt
        have HDo := do_any wc M ⟨1 + r, v, cs⟩ MA Mn Mc HA Hn Hc A1 p c1 (SlC.own (own_below HMo1.out hbc (Nat.le_refl _))) (SlC.own (own_below HMo2.out hbc (Nat.le_refl _))) (SlC.own hco)
        obtain ⟨X, M', hX⟩ : ∃ X M', doF M ⟨1 + r, v, cs⟩ = (X, M') := ⟨_, _, rfl⟩
        rw [hX] at HDo
        have HDo := Lib.hid HDo
        have m0 := hM.cell 0 _ rfl
        have m1 := hM.cell 1 _ rfl
        have m2 := hM.cell 2 _ rfl
        have m3 := hM.cell 3 _ rfl
        have m4 := hM.cell 4 _ rfl
        have e0 := hE.cell 0 _ rfl
        have e1 := hE.cell 1 _ rfl
        have e2 := hE.cell 2 _ rfl
        have HEc := Lib.hid hE
        have Hco := Lib.hid hco
        have Hbc := Lib.hid hbc
        have HX := Lib.hid hX
        clear hE hco hbc hX hM HE HM1 HbE HB3 HCl HB6
        go_wp2_with fail
        refine HDo.out.mono ?_
        rintro e w5 ⟨v5, rfl, ⟨A5, n5, c5, A6, n6, c6, rfl, ho5, ho6, h5, h6⟩, hb5⟩
        obtain ⟨g', t', l1, l2, f'⟩ := M'
        have hbr5 := Hbc.out.trans (hb5.mono (Nat.le_of_lt hz1))
        have hz5 := hb5.size
        have hE5 := HEc.out.below hb5 hz1
        have HEc5 := Lib.hid hE5
        have Hco5 := Lib.hid (own_below Hco.out hb5 (Nat.le_refl _))
        have Hbr5 := Lib.hid hbr5
        have Ho5 := Lib.hid ho5
        have Ho6 := Lib.hid ho6
        clear hE5 hb5 hbr5 ho5 ho6 HDo m0 m1 m2 m3 m4 e0 e1 e2 HEc Hco Hbc
        go_upto_if 61 with (fail)
        have hN := Blk.new w5 46 (memRow ⟨g', t', l1, l2, f'⟩ A5 n5 c5 A6 n6 c6)
        have hb56 : Below w5.heap.size w5 (w5.alloc (.cells (memRow ⟨g', t', l1, l2, f'⟩ A5 n5 c5 A6 n6 c6) 46)) := (Below.refl _ _).alloc (Nat.le_refl _) _
        change Code.wp _ _ _ _ (w5.alloc (.cells (memRow ⟨g', t', l1, l2, f'⟩ A5 n5 c5 A6 n6 c6) 46))
        generalize w5.alloc (.cells (memRow ⟨g', t', l1, l2, f'⟩ A5 n5 c5 A6 n6 c6) 46) = w6 at hN hb56 ⊢
        have hbr6 := Hbr5.out.trans (hb56.mono Hbr5.out.size)
        have hz6 := hb56.size
        have hN' := hN.lt
        have hE6 := HEc5.out.below hb56 (by omega)
        have hM6 := HMB.out.below hbr6 HMB.out.lt
        have HEc6 := Lib.hid hE6
        have HM6 := Lib.hid hM6
        have Hco6 := Lib.hid (own_below Hco5.out hb56 (Nat.le_refl _))
        have Ho5 := Lib.hid (own_below Ho5.out hb56 (Nat.le_refl _))
        have Ho6 := Lib.hid (own_below Ho6.out hb56 (Nat.le_refl _))
        have Hbr6 := Lib.hid hbr6
        have HN := Lib.hid hN
        clear hN hb56 hbr6 hE6 hM6
        by_cases hX0 : X = 0
        · subst hX0
          have n0 := HN.out.cell 0 _ rfl
          have n1 := HN.out.cell 1 _ rfl
          have n2 := HN.out.cell 2 _ rfl
          have n3 := HN.out.cell 3 _ rfl
          have n4 := HN.out.cell 4 _ rfl
          have m0 := HM6.out.cell 0 _ rfl
          have m1 := HM6.out.cell 1 _ rfl
          have m2 := HM6.out.cell 2 _ rfl
          have m3 := HM6.out.cell 3 _ rfl
          have m4 := HM6.out.cell 4 _ rfl
          have f0 := HM6.out.free 0
          have f1 := HM6.out.free 1
          have f2 := HM6.out.free 2
          have f3 := HM6.out.free 3
          have f4 := HM6.out.free 4
          go_upto_region 17 with (fail)
          have hM7 := blk_set5 HM6.out (.int .i64 g') (.int .i64 t') (.slice A5 n5 c5) (.slice A6 n6 c6) (.int .i64 f')
          have hE7 := blk_far5 (g := w.heap.size + 1) HEc6.out (by omega) (.int .i64 g') (.int .i64 t') (.slice A5 n5 c5) (.slice A6 n6 c6) (.int .i64 f')
          have hR7 := blk_far5 (g := w.heap.size + 1) (HR.out.below Hbr6.out HR.out.lt) (by omega) (.int .i64 g') (.int .i64 t') (.slice A5 n5 c5) (.slice A6 n6 c6) (.int .i64 f')
          have ho5 := own_set5 (g := w.heap.size + 1) (own_mono Ho5.out (show w.heap.size + 2 ≤ wc.heap.size by omega)) (by omega) (.int .i64 g') (.int .i64 t') (.slice A5 n5 c5) (.slice A6 n6 c6) (.int .i64 f')
          have ho6 := own_set5 (g := w.heap.size + 1) (own_mono Ho6.out (show w.heap.size + 2 ≤ wc.heap.size by omega)) (by omega) (.int .i64 g') (.int .i64 t') (.slice A5 n5 c5) (.slice A6 n6 c6) (.int .i64 f')
          have hco7 := own_set5 (g := w.heap.size + 1) Hco6.out (by omega) (.int .i64 g') (.int .i64 t') (.slice A5 n5 c5) (.slice A6 n6 c6) (.int .i64 f')
          have hown7 := own_set5 (g := w.heap.size + 1) (own_below Hown.out Hbr6.out (Nat.le_refl _)) (by omega) (.int .i64 g') (.int .i64 t') (.slice A5 n5 c5) (.slice A6 n6 c6) (.int .i64 f')
          have hev7 : EvsOwn (((((w6.setCell ⟨w.heap.size + 1, 0, none⟩ (.int .i64 g')).setCell ⟨w.heap.size + 1, 1, none⟩ (.int .i64 t')).setCell ⟨w.heap.size + 1, 2, none⟩ (.slice A5 n5 c5)).setCell ⟨w.heap.size + 1, 3, none⟩ (.slice A6 n6 c6)).setCell ⟨w.heap.size + 1, 4, none⟩ (.int .i64 f')) (w.heap.size + 2) ss := fun s hs => own_set5 (Hevs.out.below Hbr6.out s hs) (by omega) _ _ _ _ _
          have hb7 := below_set5 (g := w.heap.size + 1) (Hb.out.trans (Hbr6.out.mono hzw)) (by omega) (.int .i64 g') (.int .i64 t') (.slice A5 n5 c5) (.slice A6 n6 c6) (.int .i64 f')
          have hz7 := size_set5 w6 (w.heap.size + 1) (.int .i64 g') (.int .i64 t') (.slice A5 n5 c5) (.slice A6 n6 c6) (.int .i64 f')
          generalize (((((w6.setCell ⟨w.heap.size + 1, 0, none⟩ (.int .i64 g')).setCell ⟨w.heap.size + 1, 1, none⟩ (.int .i64 t')).setCell ⟨w.heap.size + 1, 2, none⟩ (.slice A5 n5 c5)).setCell ⟨w.heap.size + 1, 3, none⟩ (.slice A6 n6 c6)).setCell ⟨w.heap.size + 1, 4, none⟩ (.int .i64 f')) = w7 at hM7 hE7 hR7 ho5 ho6 hco7 hown7 hev7 hb7 hz7 ⊢
          clear n0 n1 n2 n3 n4 m0 m1 m2 m3 m4 f0 f1 f2 f3 f4
          have e0 := hE7.cell 0 _ rfl
          have e1 := hE7.cell 1 _ rfl
          have e2 := hE7.cell 2 _ rfl
          have hlm : m + 1 ≤ maxLen := by unfold maxLen; omega
          have hz7' : w.heap.size + 2 ≤ w7.heap.size := by omega
          have HM7 := Lib.hid hM7
          have HR7 := Lib.hid hR7
          have HO5 := Lib.hid ho5
          have HO6 := Lib.hid ho6
          have Hco7 := Lib.hid hco7
          have Hown7 := Lib.hid hown7
          have Hev7 := Lib.hid hev7
          have Hb7 := Lib.hid hb7
          clear hM7 hE7 hR7 ho5 ho6 hco7 hown7 hev7 hb7 hz7
          go_wp2_with (at_builtin; refine wpList_pushG rfl (.tmp 63) (.tmp 65) 70 rfl (w.heap.size + 2) 48 j0 (.agg #[.int .i64 0, .int .i64 0, .slice none 0 0]) 3 40 Try.underlying70 hji hy0 hy1 hy2 rfl (by omega) _ m _ rfl Hown7.out [.int .i64 (1 + r), .int .i64 v, .slice A1 p c1] rfl rfl (by simp [Value.oneCell']) hlm (by omega) hz7' ?_; intro v8 w8 hown8 hb8 hg8 _)
          have Hnx := Lib.hid (show EvRel w n v8 (.int .i64 ((k : Int) + 1)) w8 from ⟨k + 1, m + 1, ss ++ [⟨⟨1 + r, v, cs⟩, A1, p, c1⟩], by omega, by go_num, by rw [List.length_append, Hsm.out]; rfl, by omega, by
            rw [List.map_append]
            exact (Hge.out.snoc (e := ⟨1 + r, v, cs⟩) (by rw [← HMd.out]; exact HX.out)).1, by
            rw [List.flatMap_append]; exact hown8, by
            intro s hs
            rcases List.mem_append.1 hs with hs | hs
            · exact (Hev7.out.kept Hown7.out (by decide) hg8) s hs
            · simp at hs; subst hs
              exact Hco7.out.kept hg8 (own_apart Hco7.out Hown7.out (by decide)), blk_kept HR7.out Hown7.out (by omega) hg8, by
            rw [List.map_append]
            have := (Hge.out.snoc (e := ⟨1 + r, v, cs⟩) (by rw [← HMd.out]; exact HX.out)).2
            simp only [List.map_cons, List.map_nil]
            rw [this]
            exact MemBlk.kept ⟨A5, n5, c5, A6, n6, c6, HM7.out, HO5.out, HO6.out, h5, h6⟩ Hown7.out (by decide) (by omega) hg8, Hb7.out.trans (hb8.mono (by omega)), by have := hb8.size; omega⟩)
          clear hown8 hb8 hg8
          go_roundw
          case rel => exact Hnx.out
          case measure => simp [intOf]; omega
        · have hXb : ((X : Int) == 0) = false := by simp; omega
          have hXn : ¬ (X : Int) = 0 := by omega
          have Hnx := Lib.hid (show EvRel w n (.slice Ao m co) (.int .i64 ((k : Int) + 1)) w6 from ⟨k + 1, m, ss, by omega, by go_num, Hsm.out, by omega, Hge.out, own_below Hown.out Hbr6.out (Nat.le_refl _), Hevs.out.below Hbr6.out, HR.out.below Hbr6.out HR.out.lt, by
            rw [← HMd.out]
            exact ⟨MA, Mn, Mc, HA, Hn, Hc, HM6.out, own_below HMo1.out Hbr6.out (Nat.le_refl _), own_below HMo2.out Hbr6.out (Nat.le_refl _), hMn, hHn⟩, Hb.out.trans (Hbr6.out.mono hzw), by omega⟩)
          clear hX0
          go_wp2_with fail
          go_roundw
          case rel => exact Hnx.out
          case measure => simp [intOf]; omega
    · obtain rfl : k = n := by omega
      obtain ⟨MA, Mn, Mc, HA, Hn, Hc, hMB, hMo1, hMo2, hMn, hHn⟩ := HM.out
      obtain ⟨M, hM⟩ : ∃ M, M = foldF (ss.map (·.e)) := ⟨_, rfl⟩
      rw [← hM] at hMB hMo1 hMo2
      obtain ⟨g', t', l1, l2, f'⟩ := M
      have m0 := hMB.cell 0 _ rfl
      have m1 := hMB.cell 1 _ rfl
      have m2 := hMB.cell 2 _ rfl
      have m3 := hMB.cell 3 _ rfl
      have m4 := hMB.cell 4 _ rfl
      have r0 := HR.out.cell 0 _ rfl
      have r1 := HR.out.cell 1 _ rfl
      have r2 := HR.out.cell 2 _ rfl
      have r3 := HR.out.cell 3 _ rfl
      have r4 := HR.out.cell 4 _ rfl
      have f0 := HR.out.free 0
      have f1 := HR.out.free 1
      have f2 := HR.out.free 2
      have f3 := HR.out.free 3
      have f4 := HR.out.free 4
      have HMo1 := Lib.hid hMo1
      have HMo2 := Lib.hid hMo2
      have HMd := Lib.hid hM
      clear hM hMB hMo1 hMo2
      go_wp2_with fail
      go_region
      go_wp2_with fail
      have hg := blk_set5 HR.out (.int .i64 g') (.int .i64 t') (.slice MA Mn Mc) (.slice HA Hn Hc) (.int .i64 f')
      have ho7 := own_set5 (g := w.heap.size) Hown.out (by omega) (.int .i64 g') (.int .i64 t') (.slice MA Mn Mc) (.slice HA Hn Hc) (.int .i64 f')
      have hp7 := own_set5 (g := w.heap.size) HMo1.out (by omega) (.int .i64 g') (.int .i64 t') (.slice MA Mn Mc) (.slice HA Hn Hc) (.int .i64 f')
      have hq7 := own_set5 (g := w.heap.size) HMo2.out (by omega) (.int .i64 g') (.int .i64 t') (.slice MA Mn Mc) (.slice HA Hn Hc) (.int .i64 f')
      have hev7 : EvsOwn (((((wr.setCell ⟨w.heap.size, 0, none⟩ (.int .i64 g')).setCell ⟨w.heap.size, 1, none⟩ (.int .i64 t')).setCell ⟨w.heap.size, 2, none⟩ (.slice MA Mn Mc)).setCell ⟨w.heap.size, 3, none⟩ (.slice HA Hn Hc)).setCell ⟨w.heap.size, 4, none⟩ (.int .i64 f')) (w.heap.size + 2) ss := fun s hs => own_set5 (Hevs.out s hs) (by omega) _ _ _ _ _
      have hb7 := below_set5 (g := w.heap.size) Hb.out (Nat.le_refl _) (.int .i64 g') (.int .i64 t') (.slice MA Mn Mc) (.slice HA Hn Hc) (.int .i64 f')
      generalize (((((wr.setCell ⟨w.heap.size, 0, none⟩ (.int .i64 g')).setCell ⟨w.heap.size, 1, none⟩ (.int .i64 t')).setCell ⟨w.heap.size, 2, none⟩ (.slice MA Mn Mc)).setCell ⟨w.heap.size, 3, none⟩ (.slice HA Hn Hc)).setCell ⟨w.heap.size, 4, none⟩ (.int .i64 f')) = w7 at hg ho7 hp7 hq7 hev7 hb7 ⊢
      have hr := fun tm h1 h2 => results_two_cell Try.results36 tm w7.drew w.heap.size 46 (memRow ⟨g', t', l1, l2, f'⟩ MA Mn Mc HA Hn Hc) (0, 0) _ (.slice Ao m co) h1 h2 hg.drew Try.underlying46 rfl (by kernel_rfl)
      refine bodyPost_ret (hr _ ?_ ?_) rfl ?_
      · rfl
      · rfl
      refine ⟨.slice Ao m co, .agg (memRow ⟨g', t', l1, l2, f'⟩ MA Mn Mc HA Hn Hc), m, ss, rfl, Hsm.out, by omega, Hge.out, ?_, ?_, ?_, ?_⟩
      · exact show w7.ownsRow _ _ _ _ _ _ from own_mono ho7 (by omega)
      · exact fun s hs => show w7.ownsRow _ _ _ _ _ _ from own_mono (hev7 s hs) (by omega)
      · rw [← HMd.out]
        exact ⟨MA, Mn, Mc, HA, Hn, Hc, rfl, show w7.ownsRow _ _ _ _ _ _ from own_mono hp7 (by omega), show w7.ownsRow _ _ _ _ _ _ from own_mono hq7 (by omega), hMn, hHn⟩
      · exact hb7.drew
end Go.Proofs.Ytaahpjjffggaiaa
