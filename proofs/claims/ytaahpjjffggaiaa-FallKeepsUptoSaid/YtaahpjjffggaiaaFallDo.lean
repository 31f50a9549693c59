/- fall.Do. Conditions: those typed. -/
import Derived.Test.YtaahpjjffggaiaaFallW
import Derived.Test.YtaahpjjffggaiaaSets
import Derived.Test.YtaahpjjffggaiaaReadA
import Derived.Deep.RegionWith
namespace Go.Proofs.Ytaahpjjffggaiaa
open Go.RowKit Go.Gy
set_option linter.unusedVariables false
abbrev zeroMem : GMem := ⟨0, 0, [], [], 0⟩
/-- what Do does once the event and the memory are right: error, memory -/
def doF0 (m : GMem) (e : GEv) : Nat × GMem :=
  if e.kind = 1 then (0, { m with goal := e.n, ticks := 0 })
  else if e.kind = 2 then (if 2000 ≤ m.ticks then (19, zeroMem) else (0, { m with ticks := m.ticks + 1 }))
  else if e.kind = 3 then (if m.asked ≠ [] then (7, zeroMem) else (0, { m with asked := minusC e.cells m.has }))
  else if e.kind = 4 then (if cellsF (joinC m.has m.asked) ≠ 0 then (6, zeroMem) else (0, { m with has := joinC m.has m.asked, asked := [] }))
  else if e.kind = 5 then (if withinC e.cells m.has = false then (4, zeroMem) else (0, { m with has := minusC m.has e.cells }))
  else (0, { m with falls := IntKind.i64.wrap (m.falls + 1) })
def doF (m : GMem) (e : GEv) : Nat × GMem :=
  if checkF e ≠ 0 then (checkF e, zeroMem) else if rightF m ≠ 0 then (rightF m, zeroMem) else doF0 m e
/-- the memory m as a value at w' -/
def MemAt (w : World) (B : Nat) (m : GMem) (v : Value) : Prop := ∃ A n c A' n' c', v = memV m A n c A' n' c' ∧ SlC w B (.slice A n c) m.asked ∧ SlC w B (.slice A' n' c') m.has ∧ n ≤ 1000 ∧ n' ≤ 1000
theorem MemAt.below {w w' : World} {B : Nat} {m : GMem} {v : Value} (h : MemAt w B m v) (hb : Below B w w') : MemAt w' B m v := by
  obtain ⟨A, n, c, A', n', c', h1, h2, h3, h4⟩ := h
  exact ⟨A, n, c, A', n', c', h1, h2.below hb, h3.below hb, h4⟩
theorem MemAt.more {w : World} {B B' : Nat} {m : GMem} {v : Value} (h : MemAt w B m v) (hB : B ≤ B') : MemAt w B' m v := by
  obtain ⟨A, n, c, A', n', c', h1, h2, h3, h4⟩ := h
  exact ⟨A, n, c, A', n', c', h1, h2.more hB, h3.more hB, h4⟩
theorem MemAt.zero (w : World) (B : Nat) : MemAt w B zeroMem (.agg #[.int .i64 0, .int .i64 0, .slice none 0 0, .slice none 0 0, .int .i64 0]) :=
  ⟨none, 0, 0, none, 0, 0, rfl, ⟨none, 0, 0, rfl, rfl, Nat.le_refl _, fun _ => rfl, ⟨rfl, fun h => by omega⟩⟩, ⟨none, 0, 0, rfl, rfl, Nat.le_refl _, fun _ => rfl, ⟨rfl, fun h => by omega⟩⟩, by decide, by decide⟩
/-- the same, its cells in rows of the call's own -/
def MemOwn (w : World) (base : Nat) (m : GMem) (v : Value) : Prop := ∃ A n c A' n' c', v = memV m A n c A' n' c' ∧ w.ownsRow base 24 2 (.slice A n c) n (m.asked.flatMap encC) ∧ w.ownsRow base 24 2 (.slice A' n' c') n' (m.has.flatMap encC) ∧ n ≤ 1000 ∧ n' ≤ 1000
theorem MemOwn.at_ {w : World} {base : Nat} {m : GMem} {v : Value} (h : MemOwn w base m v) : MemAt w w.heap.size m v := by
  obtain ⟨A, n, c, A', n', c', h1, h2, h3, h4⟩ := h
  exact ⟨A, n, c, A', n', c', h1, SlC.own h2, SlC.own h3, h4⟩
theorem MemOwn.below {w w' : World} {base : Nat} {m : GMem} {v : Value} (h : MemOwn w base m v) (hb : Below w.heap.size w w') : MemOwn w' base m v := by
  obtain ⟨A, n, c, A', n', c', h1, h2, h3, h4⟩ := h
  exact ⟨A, n, c, A', n', c', h1, own_below h2 hb (Nat.le_refl _), own_below h3 hb (Nat.le_refl _), h4⟩
theorem MemOwn.mono {w : World} {base base' : Nat} {m : GMem} {v : Value} (h : MemOwn w base m v) (hb : base' ≤ base) : MemOwn w base' m v := by
  obtain ⟨A, n, c, A', n', c', h1, h2, h3, h4⟩ := h
  exact ⟨A, n, c, A', n', c', h1, own_mono h2 hb, own_mono h3 hb, h4⟩
theorem MemOwn.kept {w w' : World} {base base' : Nat} {e : TypeId} {size n : Nat} {m : GMem} {v r : Value} {xs : List Value} (h : MemOwn w base m v) (ho : w.ownsRow base' e size r n xs) (hne : 24 ≠ e) (hg : w.grownBy w' r.ownBlock) : MemOwn w' base m v := by
  obtain ⟨A, n, c, A', n', c', h1, h2, h3, h4⟩ := h
  exact ⟨A, n, c, A', n', c', h1, h2.kept hg (own_apart h2 ho hne), h3.kept hg (own_apart h3 ho hne), h4⟩
theorem MemOwn.set {w : World} {base : Nat} {m : GMem} {v : Value} (h : MemOwn w base m v) {p : Addr} (hp : p.block < base) (u : Value) : MemOwn (w.setCell p u) base m v := by
  obtain ⟨A, n, c, A', n', c', h1, h2, h3, h4⟩ := h
  exact ⟨A, n, c, A', n', c', h1, ownsRow_setCell_below h2 hp _, ownsRow_setCell_below h3 hp _, h4⟩
theorem MemOwn.zero (w : World) (base : Nat) : MemOwn w base zeroMem (.agg #[.int .i64 0, .int .i64 0, .slice none 0 0, .slice none 0 0, .int .i64 0]) :=
  ⟨none, 0, 0, none, 0, 0, rfl, World.ownsRow_nil _ _ _ _, World.ownsRow_nil _ _ _ _, by decide, by decide⟩
def DoPost (r : Nat × GMem) (w : World) (e : Ending) (w' : World) : Prop := ∃ v, e = .returned (.tuple #[v, .int .i64 ((r.1 : Nat) : Int)]) ∧ MemOwn w' w.heap.size r.2 v ∧ Below w.heap.size w w'
abbrev zeroMv : Array Value := #[.int .i64 0, .int .i64 0, .slice none 0 0, .slice none 0 0, .int .i64 0]
theorem DoPost.bad {r : Nat × GMem} {x : Nat} {w w' : World} (h : r = (x, zeroMem)) (hb : Below w.heap.size w w') : DoPost r w (.returned (.tuple #[.agg zeroMv, .int .i64 (x : Int)])) w' := by
  subst h
  exact ⟨_, rfl, MemOwn.zero _ _, hb⟩
theorem blk_set5 {w : World} {g : Nat} {a b c d e : Value} (h : Blk w g 46 #[a, b, c, d, e]) (a' b' c' d' e' : Value) : Blk (((((w.setCell ⟨g, 0, none⟩ a').setCell ⟨g, 1, none⟩ b').setCell ⟨g, 2, none⟩ c').setCell ⟨g, 3, none⟩ d').setCell ⟨g, 4, none⟩ e') g 46 #[a', b', c', d', e'] :=
  ((((h.set 0 a').set 1 b').set 2 c').set 3 d').set 4 e'
theorem below_set5 {w w' : World} {B g : Nat} (h : Below B w w') (hg : B ≤ g) (a' b' c' d' e' : Value) : Below B w (((((w'.setCell ⟨g, 0, none⟩ a').setCell ⟨g, 1, none⟩ b').setCell ⟨g, 2, none⟩ c').setCell ⟨g, 3, none⟩ d').setCell ⟨g, 4, none⟩ e') :=
  ((((h.setCell hg _).setCell hg _).setCell hg _).setCell hg _).setCell hg _
def ClonePost (l : List Cell) (n : Nat) (w : World) (e : Ending) (w' : World) : Prop := ∃ A c, e = .returned (.slice A n c) ∧ w'.ownsRow w.heap.size 24 2 (.slice A n c) n (l.flatMap encC) ∧ Below w.heap.size w w'
theorem clone_post (w : World) (A : Option Addr) (n c : Nat) (l : List Cell) (h : SlC w w.heap.size (.slice A n c) l) (hn : l.length ≤ 400) : Calls Try.prog 51 #[.slice A n c] w (ClonePost l n w) := by
  obtain ⟨h1, h2, h3, h4⟩ := h.parts
  refine (clone_cells w A n c l (fun hA => ⟨?_, h3 hA⟩) h1 (by omega) h4).mono ?_
  · have := h3 hA; omega
  · rintro e w' ⟨v, rfl, ho, hb⟩
    obtain ⟨A', c', rfl, _, _, _⟩ := own_rd ho
    exact ⟨A', c', rfl, ho, hb⟩
theorem rightF_zero {m : GMem} (h : rightF m = 0) : 0 ≤ m.goal ∧ 0 ≤ m.ticks ∧ 0 ≤ m.falls ∧ cellsF m.asked = 0 ∧ cellsF m.has = 0 := by
  unfold rightF at h
  split at h
  · cases h
  split at h
  · rename_i h2; exact absurd h h2
  · rename_i h1 h2
    exact ⟨by omega, by omega, by omega, by omega, h⟩
theorem lt400 {g t : Int} {l l' : List Cell} {f : Int} (h : 0 = rightF ⟨g, t, l, l', f⟩) : l.length ≤ 400 ∧ l'.length ≤ 400 := by
  have := rightF_zero h.symm
  exact ⟨(cellsF_zero this.2.2.2.1).1, (cellsF_zero this.2.2.2.2).1⟩
/-- the end of Do: the memory in block g is laid into the result's block -/
theorem DoPost.good {r : Nat × GMem} {m : GMem} {w wx : World} {A A' : Option Addr} {n c n' c' : Nat} (h : r = (0, m)) (h1 : wx.ownsRow (w.heap.size + 3) 24 2 (.slice A n c) n (m.asked.flatMap encC)) (h2 : wx.ownsRow (w.heap.size + 3) 24 2 (.slice A' n' c') n' (m.has.flatMap encC))
    (hl1 : m.asked.length ≤ 1000) (hl2 : m.has.length ≤ 1000) (hb : Below w.heap.size w wx) (hz : w.heap.size + 1 + 1 < wx.heap.size) (a b c3 d e : Value) : DoPost r w (.returned (.tuple #[memV m A n c A' n' c', .int .i64 0])) (((((wx.setCell ⟨w.heap.size + 1 + 1, 0, none⟩ a).setCell ⟨w.heap.size + 1 + 1, 1, none⟩ b).setCell ⟨w.heap.size + 1 + 1, 2, none⟩ c3).setCell ⟨w.heap.size + 1 + 1, 3, none⟩ d).setCell ⟨w.heap.size + 1 + 1, 4, none⟩ e) := by
  subst h
  have s1 := SlC.own h1
  have s2 := SlC.own h2
  have l1 := s1.parts.1
  have l2 := s2.parts.1
  refine ⟨_, rfl, ⟨A, n, c, A', n', c', rfl, ?_, ?_, by omega, by omega⟩, below_set5 hb (by omega) _ _ _ _ _⟩
  · refine own_mono (base := w.heap.size + 3) ?_ (by omega)
    repeat' (refine ownsRow_setCell_below ?_ (by show w.heap.size + 1 + 1 < _; omega) _)
    exact h1
  · refine own_mono (base := w.heap.size + 3) ?_ (by omega)
    repeat' (refine ownsRow_setCell_below ?_ (by show w.heap.size + 1 + 1 < _; omega) _)
    exact h2
def DoCut (w w5 : World) (g t : Int) (l l' : List Cell) (f k v : Int) (D : Option Addr) (p d : Nat) (wx : World) : Prop := ∃ A n c A' n' c',
  Blk wx w.heap.size 46 #[.int .i64 g, .int .i64 t, .slice A n c, .slice A' n' c', .int .i64 f] ∧ Blk wx (w.heap.size + 1) 48 #[.int .i64 k, .int .i64 v, .slice D p d] ∧ Blk wx (w.heap.size + 1 + 1) 46 zeroMv ∧
  wx.ownsRow (w.heap.size + 3) 24 2 (.slice A n c) n (l.flatMap encC) ∧ wx.ownsRow (w.heap.size + 3) 24 2 (.slice A' n' c') n' (l'.flatMap encC) ∧ Below w.heap.size w wx ∧ w5.heap.size ≤ wx.heap.size
theorem docut_mk {w w5 wx : World} {g t : Int} {l l' : List Cell} {f k v : Int} {A A' A1 A2 : Option Addr} {n c n' c' c1 c2 : Nat} {D : Option Addr} {p d B1 B2 : Nat} (hw : Below w.heap.size w w5)
    (hM : Blk w5 w.heap.size 46 #[.int .i64 g, .int .i64 t, .slice A n c, .slice A' n' c', .int .i64 f]) (hE : Blk w5 (w.heap.size + 1) 48 #[.int .i64 k, .int .i64 v, .slice D p d]) (hR : Blk w5 (w.heap.size + 1 + 1) 46 zeroMv)
    (hb : Below w5.heap.size w5 wx) (h1 : wx.ownsRow B1 24 2 (.slice A1 n c1) n (l.flatMap encC)) (h2 : wx.ownsRow B2 24 2 (.slice A2 n' c2) n' (l'.flatMap encC)) (hB1 : w5.heap.size ≤ B1) (hB2 : w5.heap.size ≤ B2) (h3 : w.heap.size + 3 ≤ w5.heap.size) :
    DoCut w w5 g t l l' f k v D p d ((wx.setCell ⟨w.heap.size, 2, none⟩ (.slice A1 n c1)).setCell ⟨w.heap.size, 3, none⟩ (.slice A2 n' c2)) ∧ DoCut w w5 g t l l' f k v D p d ((wx.setCell ⟨w.heap.size, 3, none⟩ (.slice A2 n' c2)).setCell ⟨w.heap.size, 2, none⟩ (.slice A1 n c1)) := by
  have hMl := hM.lt
  have hz := hb.size
  have hM' := hM.below hb hM.lt
  have hE' := hE.below hb hE.lt
  have hR' := hR.below hb hR.lt
  have hw' := hw.trans (hb.mono hw.size)
  constructor
  · refine ⟨A1, n, c1, A2, n', c2, (hM'.set 2 _).set 3 _, (hE'.far (by simp) _).far (by simp) _, (hR'.far (by simp; omega) _).far (by simp; omega) _, ?_, ?_, (hw'.setCell (Nat.le_refl _) _).setCell (Nat.le_refl _) _, by simpa [World.setCell] using hz⟩
    · exact own_mono (ownsRow_setCell_below (ownsRow_setCell_below h1 (by show w.heap.size < _; omega) _) (by show w.heap.size < _; omega) _) (by omega)
    · exact own_mono (ownsRow_setCell_below (ownsRow_setCell_below h2 (by show w.heap.size < _; omega) _) (by show w.heap.size < _; omega) _) (by omega)
  · refine ⟨A1, n, c1, A2, n', c2, (hM'.set 3 _).set 2 _, (hE'.far (by simp) _).far (by simp) _, (hR'.far (by simp; omega) _).far (by simp; omega) _, ?_, ?_, (hw'.setCell (Nat.le_refl _) _).setCell (Nat.le_refl _) _, by simpa [World.setCell] using hz⟩
    · exact own_mono (ownsRow_setCell_below (ownsRow_setCell_below h1 (by show w.heap.size < _; omega) _) (by show w.heap.size < _; omega) _) (by omega)
    · exact own_mono (ownsRow_setCell_below (ownsRow_setCell_below h2 (by show w.heap.size < _; omega) _) (by show w.heap.size < _; omega) _) (by omega)
set_option maxRecDepth 100000 in
set_option maxHeartbeats 4000000 in
theorem do_any (w : World) (m : GMem) (e : GEv) (A : Option Addr) (n c : Nat) (A' : Option Addr) (n' c' : Nat) (D : Option Addr) (p d : Nat)
    (ha : SlC w w.heap.size (.slice A n c) m.asked) (hh : SlC w w.heap.size (.slice A' n' c') m.has) (he : SlC w w.heap.size (.slice D p d) e.cells) :
    Calls Try.prog 22 #[memV m A n c A' n' c', evV e D p d] w (DoPost (doF m e) w) := by
  have HC := Lib.hid (show ∀ w', Below w.heap.size w w' → Calls Try.prog 24 #[evV e D p d] w' (IntPost (checkF e) w') from fun w' hb => fcheck_any w' e D p d ((he.below hb).more hb.size))
  have HR := Lib.hid (show ∀ w', Below w.heap.size w w' → Calls Try.prog 29 #[memV m A n c A' n' c'] w' (IntPost (rightF m) w') from fun w' hb => right_any w' m A n c A' n' c' ((ha.below hb).more hb.size) ((hh.below hb).more hb.size))
  have Ha := Lib.hid ha
  have Hh := Lib.hid hh
  have He := Lib.hid he
  obtain ⟨F, hF⟩ : ∃ F, F = checkF e := ⟨_, rfl⟩
  obtain ⟨G, hG⟩ : ∃ G, G = rightF m := ⟨_, rfl⟩
  rw [← hF] at HC
  rw [← hG] at HR
  have HF := Lib.hid hF
  have HG := Lib.hid hG
  obtain ⟨g, t, l, l', f⟩ := m
  obtain ⟨k, v, ec⟩ := e
  clear ha hh he hF hG
  have hb3 : ∀ X Y Z, Below w.heap.size w (((w.alloc X).alloc Y).alloc Z) := fun X Y Z => (((Below.refl _ _).alloc (Nat.le_refl _) _).alloc (by simp) _).alloc (by simp; omega) _
  have Hb3 := Lib.hid hb3
  have HM3 := Lib.hid (show ∀ Y Z, Blk (((w.alloc (.cells #[.int .i64 g, .int .i64 t, .slice A n c, .slice A' n' c', .int .i64 f] 46)).alloc Y).alloc Z) w.heap.size 46 #[.int .i64 g, .int .i64 t, .slice A n c, .slice A' n' c', .int .i64 f] from fun Y Z => ((Blk.new w _ _).alloc _).alloc _)
  have HE3 := Lib.hid (show ∀ X Z, Blk (((w.alloc X).alloc (.cells #[.int .i64 k, .int .i64 v, .slice D p d] 48)).alloc Z) (w.heap.size + 1) 48 #[.int .i64 k, .int .i64 v, .slice D p d] from fun X Z => by
    have := Blk.new (w.alloc X) 48 #[.int .i64 k, .int .i64 v, .slice D p d]
    rw [World.size_alloc] at this
    exact this.alloc _)
  have HR3 := Lib.hid (show ∀ X Y, Blk (((w.alloc X).alloc Y).alloc (.cells zeroMv 46)) (w.heap.size + 1 + 1) 46 zeroMv from fun X Y => by
    have := Blk.new ((w.alloc X).alloc Y) 46 zeroMv
    simp only [World.size_alloc] at this
    exact this)
  clear hb3
  go_enter Try.func22, Try.ntmps22
  go_wp2_with fail
  refine (HC.out _ (Hb3.out _ _ _)).mono ?_
  rintro e w4 ⟨rfl, hb4⟩
  have hz4 := hb4.size
  simp only [World.size_alloc] at hz4
  have hM4 := (HM3.out _ _).below hb4 (by simp; omega)
  have hE4 := (HE3.out _ _).below hb4 (by simp)
  have hR4 := (HR3.out _ _).below hb4 (by simp)
  have HBw4 := Lib.hid ((Hb3.out _ _ _).trans (hb4.mono (by simp; omega)))
  clear hb4 HM3 HE3 HR3 Hb3
  by_cases hF0 : F = 0
  · subst hF0
    have m0 := hM4.cell 0 _ rfl
    have m1 := hM4.cell 1 _ rfl
    have m2 := hM4.cell 2 _ rfl
    have m3 := hM4.cell 3 _ rfl
    have m4 := hM4.cell 4 _ rfl
    have HM4 := Lib.hid hM4
    have HE4 := Lib.hid hE4
    have HR4 := Lib.hid hR4
    clear hM4 hE4 hR4
    go_wp2_with fail
    refine (HR.out _ HBw4.out).mono ?_
    rintro e w5 ⟨rfl, hb5⟩
    have hM5 := HM4.out.below hb5 (by omega)
    have hE5 := HE4.out.below hb5 (by omega)
    have hR5 := HR4.out.below hb5 (by omega)
    have hz5 := hb5.size
    have HBw5 := Lib.hid (HBw4.out.trans (hb5.mono (by omega)))
    clear hb5 m0 m1 m2 m3 m4 HM4 HE4 HR4 HBw4
    by_cases hG0 : G = 0
    · subst hG0
      have HM5 := Lib.hid hM5
      have HE5 := Lib.hid hE5
      have HR5 := Lib.hid hR5
      clear hM5 hE5 hR5
      go_wp2_with fail
      go_cut [] (fun wx => DoCut w w5 g t l l' f k v D p d wx)
      case first =>
        have m2 := HM5.out.cell 2 _ rfl
        have m3 := HM5.out.cell 3 _ rfl
        have f2 := HM5.out.free 2
        have f3 := HM5.out.free 3
        have hzM := HM5.out.lt
        have hzE := HE5.out.lt
        have hzR := HR5.out.lt
        have H1 := Lib.hid (show ∀ w', Below w5.heap.size w5 w' → Calls Try.prog 51 #[.slice A n c] w' (ClonePost l n w') from fun w' hb => clone_post w' A n c l ((Ha.out.below HBw5.out).more HBw5.out.size |>.below hb |>.more hb.size) (lt400 HG.out).1)
        have H2 := Lib.hid (show ∀ w', Below w5.heap.size w5 w' → Calls Try.prog 51 #[.slice A' n' c'] w' (ClonePost l' n' w') from fun w' hb => clone_post w' A' n' c' l' ((Hh.out.below HBw5.out).more HBw5.out.size |>.below hb |>.more hb.size) (lt400 HG.out).2)
        go_region_with (first
          | (go_at_call_of 51 (Value.slice A n c); refine (H1.out _ ?_).mono ?_; (first | exact (Below.refl _ _).drew | exact hbx); rintro e wa ⟨A1, c1, rfl, hs1, hba⟩; (first | (have hba0 := hbx.size; have hbx := hbx.trans (hba.mono hbx.size)) | (have hba0 := Nat.le_refl w5.heap.size; have hbx : Below w5.heap.size w5 wa := (Below.refl _ _).drew.trans hba)); have m2 := (HM5.out.below hbx hzM).cell 2 _ rfl; have m3 := (HM5.out.below hbx hzM).cell 3 _ rfl; have f2 := (HM5.out.below hbx hzM).free 2; have f3 := (HM5.out.below hbx hzM).free 3)
          | (go_at_call_of 51 (Value.slice A' n' c'); refine (H2.out _ ?_).mono ?_; (first | exact (Below.refl _ _).drew | exact hbx); rintro e wb ⟨A2, c2, rfl, hs2, hbb⟩; (first | (have hbb0 := hbx.size; have hbx := hbx.trans (hbb.mono hbx.size)) | (have hbb0 := Nat.le_refl w5.heap.size; have hbx : Below w5.heap.size w5 wb := (Below.refl _ _).drew.trans hbb)); have m2 := (HM5.out.below hbx hzM).cell 2 _ rfl; have m3 := (HM5.out.below hbx hzM).cell 3 _ rfl; have f2 := (HM5.out.below hbx hzM).free 2; have f3 := (HM5.out.below hbx hzM).free 3))
        all_goals
          go_wp2_with fail
          go_meet
          first
            | exact (docut_mk HBw5.out HM5.out HE5.out HR5.out hbx (own_below hs1 hbb (Nat.le_refl _)) hs2 hba0 hbb0 (by omega)).1
            | exact (docut_mk HBw5.out HM5.out HE5.out HR5.out hbx (own_below hs1 hbb (Nat.le_refl _)) hs2 hba0 hbb0 (by omega)).2
            | exact (docut_mk HBw5.out HM5.out HE5.out HR5.out hbx hs1 (own_below hs2 hba (Nat.le_refl _)) hba0 hbb0 (by omega)).1
            | exact (docut_mk HBw5.out HM5.out HE5.out HR5.out hbx hs1 (own_below hs2 hba (Nat.le_refl _)) hba0 hbb0 (by omega)).2
      case rest =>
        obtain ⟨A1, n1, c1, A2, n2, c2, hM, hE, hR, hs1, hs2, hbw, hz⟩ := hcut
        have hP : doF ⟨g, t, l, l', f⟩ ⟨k, v, ec⟩ = doF0 ⟨g, t, l, l', f⟩ ⟨k, v, ec⟩ := by unfold doF; rw [← HF.out, ← HG.out, if_neg (by omega), if_neg (by omega)]
        have hl4 := lt400 HG.out
        have hek := checkF_zero HF.out.symm
        have m0 := hM.cell 0 _ rfl
        have m1 := hM.cell 1 _ rfl
        have m2 := hM.cell 2 _ rfl
        have m3 := hM.cell 3 _ rfl
        have m4 := hM.cell 4 _ rfl
        have mf0 := hM.free 0
        have mf1 := hM.free 1
        have mf2 := hM.free 2
        have mf3 := hM.free 3
        have mf4 := hM.free 4
        have e0 := hE.cell 0 _ rfl
        have e1 := hE.cell 1 _ rfl
        have e2 := hE.cell 2 _ rfl
        have r0 := hR.cell 0 _ rfl
        have r1 := hR.cell 1 _ rfl
        have r2 := hR.cell 2 _ rfl
        have r3 := hR.cell 3 _ rfl
        have r4 := hR.cell 4 _ rfl
        have rf0 := hR.free 0
        have rf1 := hR.free 1
        have rf2 := hR.free 2
        have rf3 := hR.free 3
        have rf4 := hR.free 4
        have HM := Lib.hid hM
        have HE := Lib.hid hE
        have HRR := Lib.hid hR
        have Hs1 := Lib.hid hs1
        have Hs2 := Lib.hid hs2
        have HBw := Lib.hid hbw
        have HPP := Lib.hid hP
        have Hl4 := Lib.hid hl4
        have Hek := Lib.hid hek
        have k16 : 1 ≤ k ∧ k ≤ 6 := ⟨hek.1, hek.2.1⟩
        clear hek
        clear hM hE hR hs1 hs2 hbw hP hl4
        by_cases k1 : k = 1
        · subst k1
          go_wp2
          refine bodyPost_ret (results_cell_two Try.results22 _ _ (w.heap.size + 1 + 1) 46 #[.int .i64 v, .int .i64 0, .slice A1 n1 c1, .slice A2 n2 c2, .int .i64 f] (0, 0) _ (.int .i64 0) rfl rfl (blk_set5 ((HRR.out.far (p := ⟨w.heap.size, 0, none⟩) (by simp; omega) _).far (p := ⟨w.heap.size, 1, none⟩) (by simp; omega) _) _ _ _ _ _) Try.underlying46 rfl (by kernel_rfl)) rfl ?_
          refine DoPost.good (m := ⟨v, 0, l, l', f⟩) (by rw [HPP.out]; rfl) (ownsRow_setCell_below (ownsRow_setCell_below Hs1.out (by show w.heap.size < _; omega) _) (by show w.heap.size < _; omega) _) (ownsRow_setCell_below (ownsRow_setCell_below Hs2.out (by show w.heap.size < _; omega) _) (by show w.heap.size < _; omega) _) ?_ ?_ ((HBw.out.setCell (Nat.le_refl _) _).setCell (Nat.le_refl _) _) (by simp [World.setCell]; omega) _ _ _ _ _
          · exact Nat.le_trans Hl4.out.1 (by decide)
          · exact Nat.le_trans Hl4.out.2 (by decide)
        · have hk : k = 2 ∨ k = 3 ∨ k = 4 ∨ k = 5 ∨ k = 6 := by omega
          clear k1 k16
          rcases hk with rfl | rfl | rfl | rfl | rfl
          · by_cases ht : 2000 ≤ t
            · have HPX := Lib.hid (HPP.out.trans (show doF0 ⟨g, t, l, l', f⟩ ⟨2, v, ec⟩ = (19, zeroMem) by simp [doF0, ht]))
              go_wp2
              refine bodyPost_ret (results_cell_two Try.results22 _ _ (w.heap.size + 1 + 1) 46 zeroMv (0, 0) _ (.int .i64 19) rfl rfl (blk_set5 HRR.out _ _ _ _ _) Try.underlying46 rfl (by kernel_rfl)) rfl ?_
              exact DoPost.bad (x := 19) HPX.out (below_set5 HBw.out (by omega) _ _ _ _ _)
            · have ht' : t < 2000 := by omega
              have ht0 : 0 ≤ t := (rightF_zero HG.out.symm).2.1
              have HPX := Lib.hid (HPP.out.trans (show doF0 ⟨g, t, l, l', f⟩ ⟨2, v, ec⟩ = (0, ⟨g, t + 1, l, l', f⟩) by simp [doF0, ht]))
              clear ht
              go_wp2
              refine bodyPost_ret (results_cell_two Try.results22 _ _ (w.heap.size + 1 + 1) 46 #[.int .i64 g, .int .i64 (t + 1), .slice A1 n1 c1, .slice A2 n2 c2, .int .i64 f] (0, 0) _ (.int .i64 0) rfl rfl (blk_set5 (HRR.out.far (p := ⟨w.heap.size, 1, none⟩) (by simp; omega) _) _ _ _ _ _) Try.underlying46 rfl (by kernel_rfl)) rfl ?_
              exact DoPost.good (m := ⟨g, t + 1, l, l', f⟩) HPX.out (ownsRow_setCell_below Hs1.out (by show w.heap.size < _; omega) _) (ownsRow_setCell_below Hs2.out (by show w.heap.size < _; omega) _) (Nat.le_trans Hl4.out.1 (by decide)) (Nat.le_trans Hl4.out.2 (by decide)) (HBw.out.setCell (Nat.le_refl _) _) (by simp [World.setCell]; omega) _ _ _ _ _
          · have hl1 := (SlC.own Hs1.out).parts.1
            by_cases hn0 : n1 = 0
            · have hl0 : l = [] := List.eq_nil_of_length_eq_zero (hl1.trans hn0)
              have HPX := Lib.hid (HPP.out.trans (show doF0 ⟨g, t, l, l', f⟩ ⟨3, v, ec⟩ = (0, ⟨g, t, minusC ec l', l', f⟩) by simp [doF0, hl0]))
              subst hn0
              have hec : ec.length ≤ 400 := (cellsF_zero Hek.out.2.2.2.2.2.2).1
              have HX := Lib.hid (minus_any wc (.slice D p d) (.slice A2 n2 c2) ec l' ((He.out.below HBw.out).more HBw.out.size) (SlC.own Hs2.out) (by omega) (Nat.le_trans Hl4.out.2 (by decide)))
              have hml : (minusC ec l').length ≤ 400 := Nat.le_trans (List.length_filter_le _ _) (Nat.le_trans (sort_len _) hec)
              have Hml := Lib.hid hml
              clear hl1 hl0 hec hml
              go_wp2_with fail
              refine HX.out.mono ?_
              rintro e w8 ⟨A8, n8, c8, rfl, hl8, ho8, hb8⟩
              have HM8 := Lib.hid (HM.out.below hb8 (by omega))
              have HR8 := Lib.hid (HRR.out.below hb8 (by omega))
              have Ho8 := Lib.hid ho8
              have Hb8 := Lib.hid (HBw.out.trans (hb8.mono HBw.out.size))
              have Hs8 := Lib.hid (own_below Hs2.out hb8 (Nat.le_refl _))
              have hz8 := hb8.size
              clear ho8 hb8 hl8 m0 m1 m2 m3 m4 mf0 mf1 mf2 mf3 mf4 r0 r1 r2 r3 r4 rf0 rf1 rf2 rf3 rf4 e0 e1 e2 HX
              have m0 := HM8.out.cell 0 _ rfl
              have m1 := HM8.out.cell 1 _ rfl
              have m2 := HM8.out.cell 2 _ rfl
              have m3 := HM8.out.cell 3 _ rfl
              have m4 := HM8.out.cell 4 _ rfl
              have mf2 := HM8.out.free 2
              have r0 := HR8.out.cell 0 _ rfl
              have r1 := HR8.out.cell 1 _ rfl
              have r2 := HR8.out.cell 2 _ rfl
              have r3 := HR8.out.cell 3 _ rfl
              have r4 := HR8.out.cell 4 _ rfl
              have rf0 := HR8.out.free 0
              have rf1 := HR8.out.free 1
              have rf2 := HR8.out.free 2
              have rf3 := HR8.out.free 3
              have rf4 := HR8.out.free 4
              go_wp2
              refine bodyPost_ret (results_cell_two Try.results22 _ _ (w.heap.size + 1 + 1) 46 #[.int .i64 g, .int .i64 t, .slice A8 n8 c8, .slice A2 n2 c2, .int .i64 f] (0, 0) _ (.int .i64 0) rfl rfl (blk_set5 (HR8.out.far (p := ⟨w.heap.size, 2, none⟩) (by simp; omega) _) _ _ _ _ _) Try.underlying46 rfl (by kernel_rfl)) rfl ?_
              exact DoPost.good (m := ⟨g, t, minusC ec l', l', f⟩) HPX.out (ownsRow_setCell_below (own_mono Ho8.out (by omega)) (by show w.heap.size < _; omega) _) (ownsRow_setCell_below Hs8.out (by show w.heap.size < _; omega) _) (Nat.le_trans Hml.out (by decide)) (Nat.le_trans Hl4.out.2 (by decide)) (Hb8.out.setCell (Nat.le_refl _) _) (by simp [World.setCell]; omega) _ _ _ _ _
            · have hl0 : l ≠ [] := fun h => hn0 (by rw [← hl1, h]; rfl)
              have HPX := Lib.hid (HPP.out.trans (show doF0 ⟨g, t, l, l', f⟩ ⟨3, v, ec⟩ = (7, zeroMem) by simp [doF0, hl0]))
              have hn1 : (0 : Int) < (n1 : Int) := by omega
              clear hl1 hn0 hl0
              go_wp2
              refine bodyPost_ret (results_cell_two Try.results22 _ _ (w.heap.size + 1 + 1) 46 zeroMv (0, 0) _ (.int .i64 7) rfl rfl (blk_set5 HRR.out _ _ _ _ _) Try.underlying46 rfl (by kernel_rfl)) rfl ?_
              exact DoPost.bad (x := 7) HPX.out (below_set5 HBw.out (by omega) _ _ _ _ _)
          · have HJ := Lib.hid (join_any wc (.slice A2 n2 c2) (.slice A1 n1 c1) l' l (SlC.own Hs2.out) (SlC.own Hs1.out) (by have := Hl4.out; omega))
            obtain ⟨J, hJ⟩ : ∃ J, J = joinC l' l := ⟨_, rfl⟩
            have hJl : J.length ≤ 800 := by rw [hJ]; exact Nat.le_trans (sort_len _) (by rw [List.length_append]; have := Hl4.out; omega)
            rw [← hJ] at HJ
            have HJJ := Lib.hid hJ
            clear hJ
            go_wp2_with fail
            refine HJ.out.mono ?_
            rintro e w8 ⟨A8, n8, c8, rfl, hl8, ho8, hb8⟩
            have HM8 := Lib.hid (HM.out.below hb8 (by omega))
            have HR8 := Lib.hid (HRR.out.below hb8 (by omega))
            have HE8 := Lib.hid (HE.out.below hb8 (by omega))
            have Hs18 := Lib.hid (own_below Hs1.out hb8 (Nat.le_refl _))
            have Hs28 := Lib.hid (own_below Hs2.out hb8 (Nat.le_refl _))
            have Hb8 := Lib.hid (HBw.out.trans (hb8.mono HBw.out.size))
            have hz8 := hb8.size
            obtain ⟨A9, c9, he9, _, _, hr9⟩ := own_rd ho8
            injection he9 with q1 _ q3
            subst q1 q3
            obtain ⟨Q, hQ⟩ : ∃ Q, Q = cellsF J := ⟨_, rfl⟩
            have HC9 := grid_any w8 A8 n8 c8 J hl8 hr9
            rw [← hQ] at HC9
            have HC9 := Lib.hid HC9
            have HQ := Lib.hid hQ
            have Ho8 := Lib.hid ho8
            have Hbb := Lib.hid hb8
            clear ho8 hb8 hl8 hr9 hQ m0 m1 m2 m3 m4 mf0 mf1 mf2 mf3 mf4 r0 r1 r2 r3 r4 rf0 rf1 rf2 rf3 rf4 e0 e1 e2 HJ
            go_wp2_with fail
            refine HC9.out.mono ?_
            rintro e w9 ⟨rfl, hb9⟩
            have hb9' := Hbb.out.trans (hb9.mono Hbb.out.size)
            have HM9 := Lib.hid (HM.out.below hb9' (by omega))
            have HR9 := Lib.hid (HRR.out.below hb9' (by omega))
            have HE9 := Lib.hid (HE.out.below hb9' (by omega))
            have Hs19 := Lib.hid (own_below Hs1.out hb9' (Nat.le_refl _))
            have Hs29 := Lib.hid (own_below Hs2.out hb9' (Nat.le_refl _))
            have Hb9 := Lib.hid (HBw.out.trans (hb9'.mono HBw.out.size))
            have hz9 := hb9'.size
            have Ho9 := Lib.hid (own_below Ho8.out hb9 (Nat.le_refl _))
            clear hb9 hb9' HC9
            have m0 := HM9.out.cell 0 _ rfl
            have m1 := HM9.out.cell 1 _ rfl
            have m2 := HM9.out.cell 2 _ rfl
            have m3 := HM9.out.cell 3 _ rfl
            have m4 := HM9.out.cell 4 _ rfl
            have mf2 := HM9.out.free 2
            have mf3 := HM9.out.free 3
            have r0 := HR9.out.cell 0 _ rfl
            have r1 := HR9.out.cell 1 _ rfl
            have r2 := HR9.out.cell 2 _ rfl
            have r3 := HR9.out.cell 3 _ rfl
            have r4 := HR9.out.cell 4 _ rfl
            have rf0 := HR9.out.free 0
            have rf1 := HR9.out.free 1
            have rf2 := HR9.out.free 2
            have rf3 := HR9.out.free 3
            have rf4 := HR9.out.free 4
            by_cases hQ0 : Q = 0
            · subst hQ0
              have HPX := Lib.hid (HPP.out.trans (show doF0 ⟨g, t, l, l', f⟩ ⟨4, v, ec⟩ = (0, ⟨g, t, [], J, f⟩) by simp [doF0, ← HJJ.out, ← HQ.out]))
              go_wp2
              refine bodyPost_ret (results_cell_two Try.results22 _ _ (w.heap.size + 1 + 1) 46 #[.int .i64 g, .int .i64 t, .slice none 0 0, .slice A8 n8 c8, .int .i64 f] (0, 0) _ (.int .i64 0) rfl rfl (blk_set5 ((HR9.out.far (p := ⟨w.heap.size, 3, none⟩) (by simp; omega) _).far (p := ⟨w.heap.size, 2, none⟩) (by simp; omega) _) _ _ _ _ _) Try.underlying46 rfl (by kernel_rfl)) rfl ?_
              exact DoPost.good (m := ⟨g, t, [], J, f⟩) HPX.out (World.ownsRow_nil _ _ _ _) (ownsRow_setCell_below (ownsRow_setCell_below (own_mono Ho9.out (by omega)) (by show w.heap.size < _; omega) _) (by show w.heap.size < _; omega) _) (by simp) (Nat.le_trans hJl (by decide)) ((Hb9.out.setCell (Nat.le_refl _) _).setCell (Nat.le_refl _) _) (by simp [World.setCell]; omega) _ _ _ _ _
            · have hQb : ((Q : Int) != 0) = true := by simp; omega
              have HPX := Lib.hid (HPP.out.trans (show doF0 ⟨g, t, l, l', f⟩ ⟨4, v, ec⟩ = (6, zeroMem) by simp [doF0, ← HJJ.out, ← HQ.out, hQ0]))
              clear hQ0
              go_wp2
              refine bodyPost_ret (results_cell_two Try.results22 _ _ (w.heap.size + 1 + 1) 46 zeroMv (0, 0) _ (.int .i64 6) rfl rfl (blk_set5 HR9.out _ _ _ _ _) Try.underlying46 rfl (by kernel_rfl)) rfl ?_
              exact DoPost.bad (x := 6) HPX.out (below_set5 Hb9.out (by omega) _ _ _ _ _)
          · have hec : ec.length ≤ 400 := (cellsF_zero Hek.out.2.2.2.2.2.2).1
            have HW := Lib.hid (within_any wc (.slice D p d) (.slice A2 n2 c2) ec l' ((He.out.below HBw.out).more HBw.out.size) (SlC.own Hs2.out) (by omega) (Nat.le_trans Hl4.out.2 (by decide)))
            obtain ⟨q, hq⟩ : ∃ q, q = withinC ec l' := ⟨_, rfl⟩
            rw [← hq] at HW
            have Hq := Lib.hid hq
            clear hq
            go_wp2_with fail
            refine HW.out.mono ?_
            rintro e w8 ⟨rfl, hb8⟩
            have HM8 := Lib.hid (HM.out.below hb8 (by omega))
            have HR8 := Lib.hid (HRR.out.below hb8 (by omega))
            have HE8 := Lib.hid (HE.out.below hb8 (by omega))
            have Hs18 := Lib.hid (own_below Hs1.out hb8 (Nat.le_refl _))
            have Hs28 := Lib.hid (own_below Hs2.out hb8 (Nat.le_refl _))
            have Hb8 := Lib.hid (HBw.out.trans (hb8.mono HBw.out.size))
            have hz8 := hb8.size
            have HX := Lib.hid (minus_any w8 (.slice A2 n2 c2) (.slice D p d) l' ec (SlC.own Hs28.out) ((He.out.below Hb8.out).more Hb8.out.size) (Nat.le_trans Hl4.out.2 (by decide)) (by omega))
            have Hbb := Lib.hid hb8
            clear hb8 m0 m1 m2 m3 m4 mf0 mf1 mf2 mf3 mf4 r0 r1 r2 r3 r4 rf0 rf1 rf2 rf3 rf4 e0 e1 e2 HW
            have m0 := HM8.out.cell 0 _ rfl
            have m1 := HM8.out.cell 1 _ rfl
            have m2 := HM8.out.cell 2 _ rfl
            have m3 := HM8.out.cell 3 _ rfl
            have m4 := HM8.out.cell 4 _ rfl
            have mf3 := HM8.out.free 3
            have r0 := HR8.out.cell 0 _ rfl
            have r1 := HR8.out.cell 1 _ rfl
            have r2 := HR8.out.cell 2 _ rfl
            have r3 := HR8.out.cell 3 _ rfl
            have r4 := HR8.out.cell 4 _ rfl
            have rf0 := HR8.out.free 0
            have rf1 := HR8.out.free 1
            have rf2 := HR8.out.free 2
            have rf3 := HR8.out.free 3
            have rf4 := HR8.out.free 4
            have e0 := HE8.out.cell 0 _ rfl
            have e1 := HE8.out.cell 1 _ rfl
            have e2 := HE8.out.cell 2 _ rfl
            cases q
            · have HPX := Lib.hid (HPP.out.trans (show doF0 ⟨g, t, l, l', f⟩ ⟨5, v, ec⟩ = (4, zeroMem) by unfold doF0; rw [← Hq.out]; rfl))
              go_wp2
              refine bodyPost_ret (results_cell_two Try.results22 _ _ (w.heap.size + 1 + 1) 46 zeroMv (0, 0) _ (.int .i64 4) rfl rfl (blk_set5 HR8.out _ _ _ _ _) Try.underlying46 rfl (by kernel_rfl)) rfl ?_
              exact DoPost.bad (x := 4) HPX.out (below_set5 Hb8.out (by omega) _ _ _ _ _)
            · have HPX := Lib.hid (HPP.out.trans (show doF0 ⟨g, t, l, l', f⟩ ⟨5, v, ec⟩ = (0, ⟨g, t, l, minusC l' ec, f⟩) by unfold doF0; rw [← Hq.out]; rfl))
              have Hml := Lib.hid (show (minusC l' ec).length ≤ 400 from Nat.le_trans (List.length_filter_le _ _) (Nat.le_trans (sort_len _) Hl4.out.2))
              go_wp2_with fail
              refine HX.out.mono ?_
              rintro e w9 ⟨A9, n9, c9, rfl, hl9, ho9, hb9⟩
              have hb9' := Hbb.out.trans (hb9.mono Hbb.out.size)
              have HM9 := Lib.hid (HM.out.below hb9' (by omega))
              have HR9 := Lib.hid (HRR.out.below hb9' (by omega))
              have HE9 := Lib.hid (HE.out.below hb9' (by omega))
              have Hs19 := Lib.hid (own_below Hs1.out hb9' (Nat.le_refl _))
              have Hs29 := Lib.hid (own_below Hs2.out hb9' (Nat.le_refl _))
              have Hb9 := Lib.hid (HBw.out.trans (hb9'.mono HBw.out.size))
              have hz9 := hb9'.size
              have Ho9 := Lib.hid ho9
              clear hb9 hb9' HX ho9 hl9 m0 m1 m2 m3 m4 mf3 r0 r1 r2 r3 r4 rf0 rf1 rf2 rf3 rf4 e0 e1 e2
              have m0 := HM9.out.cell 0 _ rfl
              have m1 := HM9.out.cell 1 _ rfl
              have m2 := HM9.out.cell 2 _ rfl
              have m3 := HM9.out.cell 3 _ rfl
              have m4 := HM9.out.cell 4 _ rfl
              have mf3 := HM9.out.free 3
              have r0 := HR9.out.cell 0 _ rfl
              have r1 := HR9.out.cell 1 _ rfl
              have r2 := HR9.out.cell 2 _ rfl
              have r3 := HR9.out.cell 3 _ rfl
              have r4 := HR9.out.cell 4 _ rfl
              have rf0 := HR9.out.free 0
              have rf1 := HR9.out.free 1
              have rf2 := HR9.out.free 2
              have rf3 := HR9.out.free 3
              have rf4 := HR9.out.free 4
              go_wp2
              refine bodyPost_ret (results_cell_two Try.results22 _ _ (w.heap.size + 1 + 1) 46 #[.int .i64 g, .int .i64 t, .slice A1 n1 c1, .slice A9 n9 c9, .int .i64 f] (0, 0) _ (.int .i64 0) rfl rfl (blk_set5 (HR9.out.far (p := ⟨w.heap.size, 3, none⟩) (by simp; omega) _) _ _ _ _ _) Try.underlying46 rfl (by kernel_rfl)) rfl ?_
              exact DoPost.good (m := ⟨g, t, l, minusC l' ec, f⟩) HPX.out (ownsRow_setCell_below Hs19.out (by show w.heap.size < _; omega) _) (ownsRow_setCell_below (own_mono Ho9.out (by omega)) (by show w.heap.size < _; omega) _) (Nat.le_trans Hl4.out.1 (by decide)) (Nat.le_trans Hml.out (by decide)) (Hb9.out.setCell (Nat.le_refl _) _) (by simp [World.setCell]; omega) _ _ _ _ _
          · have HPX := Lib.hid (HPP.out.trans (show doF0 ⟨g, t, l, l', f⟩ ⟨6, v, ec⟩ = (0, ⟨g, t, l, l', wrap64 (f + 1)⟩) by simp [doF0, IntKind.wrap_i64, wrap64]))
            go_wp2
            refine bodyPost_ret (results_cell_two Try.results22 _ _ (w.heap.size + 1 + 1) 46 #[.int .i64 g, .int .i64 t, .slice A1 n1 c1, .slice A2 n2 c2, .int .i64 (wrap64 (f + 1))] (0, 0) _ (.int .i64 0) rfl rfl (blk_set5 (HRR.out.far (p := ⟨w.heap.size, 4, none⟩) (by simp; omega) _) _ _ _ _ _) Try.underlying46 rfl (by kernel_rfl)) rfl ?_
            exact DoPost.good (m := ⟨g, t, l, l', wrap64 (f + 1)⟩) HPX.out (ownsRow_setCell_below Hs1.out (by show w.heap.size < _; omega) _) (ownsRow_setCell_below Hs2.out (by show w.heap.size < _; omega) _) (Nat.le_trans Hl4.out.1 (by decide)) (Nat.le_trans Hl4.out.2 (by decide)) (HBw.out.setCell (Nat.le_refl _) _) (by simp [World.setCell]; omega) _ _ _ _ _
    · have hGb : ((G : Int) != 0) = true := by simp; omega
      have r0 := hR5.cell 0 _ rfl
      have r1 := hR5.cell 1 _ rfl
      have r2 := hR5.cell 2 _ rfl
      have r3 := hR5.cell 3 _ rfl
      have r4 := hR5.cell 4 _ rfl
      have f0 := hR5.free 0
      have f1 := hR5.free 1
      have f2 := hR5.free 2
      have f3 := hR5.free 3
      have f4 := hR5.free 4
      have HR5 := Lib.hid hR5
      have HP := Lib.hid (show doF ⟨g, t, l, l', f⟩ ⟨k, v, ec⟩ = (G, zeroMem) by unfold doF; rw [← HF.out, ← HG.out, if_neg (by omega), if_pos (by omega)])
      clear hM5 hE5 hR5 hG0
      go_wp2_with fail
      refine bodyPost_ret (results_cell_two Try.results22 _ _ (w.heap.size + 1 + 1) 46 zeroMv (0, 0) _ (.int .i64 (G : Int)) rfl rfl (blk_set5 HR5.out _ _ _ _ _) Try.underlying46 rfl (by kernel_rfl)) rfl ?_
      exact DoPost.bad HP.out (below_set5 HBw5.out (by omega) _ _ _ _ _)
  · have hFb : ((F : Int) != 0) = true := by simp; omega
    have r0 := hR4.cell 0 _ rfl
    have r1 := hR4.cell 1 _ rfl
    have r2 := hR4.cell 2 _ rfl
    have r3 := hR4.cell 3 _ rfl
    have r4 := hR4.cell 4 _ rfl
    have f0 := hR4.free 0
    have f1 := hR4.free 1
    have f2 := hR4.free 2
    have f3 := hR4.free 3
    have f4 := hR4.free 4
    have HR4 := Lib.hid hR4
    have HP := Lib.hid (show doF ⟨g, t, l, l', f⟩ ⟨k, v, ec⟩ = (F, zeroMem) by unfold doF; rw [← HF.out, if_pos (by omega)])
    clear hM4 hE4 hR4 hF0
    go_wp2_with fail
    refine bodyPost_ret (results_cell_two Try.results22 _ _ (w.heap.size + 1 + 1) 46 zeroMv (0, 0) _ (.int .i64 (F : Int)) rfl rfl (blk_set5 HR4.out _ _ _ _ _) Try.underlying46 rfl (by kernel_rfl)) rfl ?_
    exact DoPost.bad HP.out (below_set5 HBw4.out (by omega) _ _ _ _ _)
end Go.Proofs.Ytaahpjjffggaiaa
