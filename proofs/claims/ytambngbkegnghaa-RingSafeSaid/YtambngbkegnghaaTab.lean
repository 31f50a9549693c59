/- A table of leases: what it is in memory and as plain data; (*Table).at. Conditions: those typed. -/
import Derived.Test.YtambngbkegnghaaSets
import Derived.Test.YtambngbkegnghaaMakeCells
import Derived.Test.YtambngbkegnghaaInts
namespace Go.Proofs.Ytambngbkegnghaa
open Go.RowKit Go.Gy
set_option linter.unusedVariables false
/-- the cells of each arm; the arms that wait, each with its cells -/
abbrev Tab := List (List Cell) × List (Int × List Cell)
def encW (x : Int × Value) : List Value := [.int .i64 x.1, x.2]
theorem encW_len (x : Int × Value) : (encW x).length = 2 := rfl
/-- a slice of cells that lies apart from the table's own three blocks -/
def Held (w : World) (p hb : Nat) (wv v : Value) (r : List Cell) : Prop := SlC w w.heap.size v r ∧ (0 < r.length → ∀ g, v.ownBlock = some g → g ≠ p ∧ g ≠ hb ∧ wv.ownBlock ≠ some g)
theorem Held.below {w w' : World} {p hb : Nat} {wv v : Value} {r : List Cell} (h : Held w p hb wv v r) (hb' : Below w.heap.size w w') : Held w' p hb wv v r := ⟨(h.1.below hb').more hb'.size, h.2⟩
structure TabX (w : World) (B p : Nat) (st : Tab) (X : List (Value × List Cell)) (hb : Nat) (vs : List Value) (wv : Value) (wl : List (Int × Value)) : Prop where
  pB : B ≤ p
  hB : B ≤ hb
  blk : Blk w p 75 #[.slice (some ⟨hb, 0, none⟩) vs.length vs.length, wv]
  hblk : Blk w hb 24 vs.toArray
  row : w.ownsRow B 77 2 wv wl.length (wl.flatMap encW)
  hlen : vs.length = st.1.length
  has : ∀ (i : Nat) v r, vs[i]? = some v → st.1[i]? = some r → Held w p hb wv v r
  wlen : wl.length = st.2.length
  wts : ∀ (i : Nat) (x : Int × Value) (y : Int × List Cell), wl[i]? = some x → st.2[i]? = some y → x.1 = y.1 ∧ Held w p hb wv x.2 y.2
  ext : ∀ x ∈ X, Held w p hb wv x.1 x.2
def TabAt (w : World) (B p : Nat) (st : Tab) (X : List (Value × List Cell)) : Prop := ∃ hb vs wv wl, TabX w B p st X hb vs wv wl
theorem TabX.below {w w' : World} {B p : Nat} {st : Tab} {X : List (Value × List Cell)} {hb : Nat} {vs : List Value} {wv : Value} {wl : List (Int × Value)} (h : TabX w B p st X hb vs wv wl) (hw : Below w.heap.size w w') : TabX w' B p st X hb vs wv wl :=
  ⟨h.pB, h.hB, h.blk.below hw h.blk.lt, h.hblk.below hw h.hblk.lt, own_below h.row hw (Nat.le_refl _), h.hlen, fun i v r h1 h2 => (h.has i v r h1 h2).below hw, h.wlen, fun i x y h1 h2 => ⟨(h.wts i x y h1 h2).1, (h.wts i x y h1 h2).2.below hw⟩, fun x hx => (h.ext x hx).below hw⟩
theorem TabAt.below {w w' : World} {B p : Nat} {st : Tab} {X : List (Value × List Cell)} (h : TabAt w B p st X) (hw : Below w.heap.size w w') : TabAt w' B p st X := by
  obtain ⟨hb, vs, wv, wl, h⟩ := h
  exact ⟨hb, vs, wv, wl, h.below hw⟩
theorem TabAt.sub {w : World} {B p : Nat} {st : Tab} {X X' : List (Value × List Cell)} (h : TabAt w B p st X) (hx : ∀ x ∈ X', x ∈ X) : TabAt w B p st X' := by
  obtain ⟨hb, vs, wv, wl, h⟩ := h
  exact ⟨hb, vs, wv, wl, h.pB, h.hB, h.blk, h.hblk, h.row, h.hlen, h.has, h.wlen, h.wts, fun x hx' => h.ext x (hx x hx')⟩
theorem TabAt.slc {w : World} {B p : Nat} {st : Tab} {X : List (Value × List Cell)} (h : TabAt w B p st X) {x : Value × List Cell} (hx : x ∈ X) : SlC w w.heap.size x.1 x.2 := by
  obtain ⟨hb, vs, wv, wl, h⟩ := h
  exact (h.ext x hx).1
/-- a row that a call has made lies apart from what was there before it -/
theorem Held.fresh {w w' : World} {p hb n : Nat} {wv v : Value} {r : List Cell} (hp : p < w.heap.size) (hh : hb < w.heap.size) (hw : ∀ g, wv.ownBlock = some g → g < w.heap.size)
    (h : w'.ownsRow w.heap.size 39 2 v n (r.flatMap encC)) : Held w' p hb wv v r :=
  ⟨SlC.own h, fun _ g hg => by
    have := (h.lt g hg).1
    refine ⟨by omega, by omega, fun h' => ?_⟩
    have := hw g h'
    omega⟩
theorem TabX.lts {w : World} {B p : Nat} {st : Tab} {X : List (Value × List Cell)} {hb : Nat} {vs : List Value} {wv : Value} {wl : List (Int × Value)} (h : TabX w B p st X hb vs wv wl) : p < w.heap.size ∧ hb < w.heap.size ∧ (∀ g, wv.ownBlock = some g → g < w.heap.size) :=
  ⟨h.blk.lt, h.hblk.lt, fun g hg => (h.row.lt g hg).2⟩
theorem TabAt.add {w w' : World} {B p n : Nat} {st : Tab} {X : List (Value × List Cell)} {v : Value} {r : List Cell} (h : TabAt w B p st X) (hw : Below w.heap.size w w') (hv : w'.ownsRow w.heap.size 39 2 v n (r.flatMap encC)) : TabAt w' B p st ((v, r) :: X) := by
  obtain ⟨hb, vs, wv, wl, h⟩ := h
  obtain ⟨h1, h2, h3⟩ := h.lts
  have h' := h.below hw
  refine ⟨hb, vs, wv, wl, h'.pB, h'.hB, h'.blk, h'.hblk, h'.row, h'.hlen, h'.has, h'.wlen, h'.wts, fun x hx => ?_⟩
  rcases List.mem_cons.1 hx with rfl | hx
  · exact Held.fresh h1 h2 h3 hv
  · exact h'.ext x hx
/-- the place of an arm among those that wait -/
def atF (st : Tab) (arm : Int) : Int := match st.2.findIdx? (fun x => decide (x.1 = arm)) with
  | some i => i
  | none => -1
set_option maxRecDepth 100000 in
theorem clo_at (w : World) (gb : Nat) (a arm : Int) (u : Value) (hg : gb < w.heap.size) (hc : w.cell? ⟨gb, 0, none⟩ = some (.int .i64 arm)) (A : Option Addr) (n c : Nat) (hu : u = .slice A n c) :
    Calls Try.prog 68 #[.agg #[.int .i64 a, u], .pointer (some ⟨gb, 0, none⟩)] w (HasPost (decide (a = arm)) w) := by
  subst hu
  have hb : ∀ X, Below w.heap.size w (w.alloc X) := fun X => (Below.refl _ _).alloc (Nat.le_refl _) _
  have h1 : ∀ X, (w.alloc X).cell? ⟨gb, 0, none⟩ = some (.int .i64 arm) := fun X => ((hb X).cell (p := ⟨gb, 0, none⟩) hg).trans hc
  have HB := Lib.hid hb
  clear hb
  by_cases he : a = arm
  · subst he
    rw [decide_eq_true rfl]
    go_enter Try.func68, Try.ntmps68
    go_wp2
    go_ret
    exact ⟨rfl, HB.out _⟩
  · rw [decide_eq_false he]
    have hb1 : (a == arm) = false := by simpa using he
    go_enter Try.func68, Try.ntmps68
    go_wp2
    go_ret
    exact ⟨rfl, HB.out _⟩
end Go.Proofs.Ytambngbkegnghaa
