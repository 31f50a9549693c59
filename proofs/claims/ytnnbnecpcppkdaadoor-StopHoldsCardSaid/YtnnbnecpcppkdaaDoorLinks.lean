/- Slices of links; arms. Conditions: those typed. -/
import Derived.Test.YtnnbnecpcppkdaaDoorSmallQ
import Derived.Test.YtnnbnecpcppkdaaDoorPolyC
import Derived.Test.YtnnbnecpcppkdaaDoorPts
import Derived.Test.YtnnbnecpcppkdaaDoorStopA
import Derived.Test.YtnnbnecpcppkdaaDoorFeelS
namespace Go.Proofs.YtnnbnecpcppkdaaDoor
open Go.RowKit Go.Gy
set_option linter.unusedVariables false
theorem encK_length (k : Lk) : (encK k).length = 16 := rfl
/-- the sixteen cells of a link, from o on in block b -/
def LkC (w : World) (b o : Nat) (k : Lk) : Prop := w.cell? ⟨b, o, none⟩ = some (.bool k.len.neg) ∧ w.cell? ⟨b, o + 1, none⟩ = some (.string k.len.num) ∧ w.cell? ⟨b, o + 2, none⟩ = some (.string k.len.den) ∧ w.cell? ⟨b, o + 3, none⟩ = some (.bool k.low.neg) ∧ w.cell? ⟨b, o + 4, none⟩ = some (.string k.low.num) ∧ w.cell? ⟨b, o + 5, none⟩ = some (.string k.low.den) ∧ w.cell? ⟨b, o + 6, none⟩ = some (.bool k.high.neg) ∧ w.cell? ⟨b, o + 7, none⟩ = some (.string k.high.num) ∧ w.cell? ⟨b, o + 8, none⟩ = some (.string k.high.den) ∧ w.cell? ⟨b, o + 9, none⟩ = some (.bool k.speed.neg) ∧ w.cell? ⟨b, o + 10, none⟩ = some (.string k.speed.num) ∧ w.cell? ⟨b, o + 11, none⟩ = some (.string k.speed.den) ∧ w.cell? ⟨b, o + 12, none⟩ = some (.bool k.brake.neg) ∧ w.cell? ⟨b, o + 13, none⟩ = some (.string k.brake.num) ∧ w.cell? ⟨b, o + 14, none⟩ = some (.string k.brake.den) ∧ w.cell? ⟨b, o + 15, none⟩ = some (k.shape)
theorem LkC.below {w w' : World} {B b o : Nat} {k : Lk} (h : LkC w b o k) (hb : Below B w w') (hlt : b < B) : LkC w' b o k := by
  obtain ⟨e0, e1, e2, e3, e4, e5, e6, e7, e8, e9, e10, e11, e12, e13, e14, e15⟩ := h
  exact ⟨(hb.cell (p := ⟨b, o, none⟩) hlt).trans e0, (hb.cell (p := ⟨b, o + 1, none⟩) hlt).trans e1, (hb.cell (p := ⟨b, o + 2, none⟩) hlt).trans e2, (hb.cell (p := ⟨b, o + 3, none⟩) hlt).trans e3, (hb.cell (p := ⟨b, o + 4, none⟩) hlt).trans e4, (hb.cell (p := ⟨b, o + 5, none⟩) hlt).trans e5, (hb.cell (p := ⟨b, o + 6, none⟩) hlt).trans e6, (hb.cell (p := ⟨b, o + 7, none⟩) hlt).trans e7, (hb.cell (p := ⟨b, o + 8, none⟩) hlt).trans e8, (hb.cell (p := ⟨b, o + 9, none⟩) hlt).trans e9, (hb.cell (p := ⟨b, o + 10, none⟩) hlt).trans e10, (hb.cell (p := ⟨b, o + 11, none⟩) hlt).trans e11, (hb.cell (p := ⟨b, o + 12, none⟩) hlt).trans e12, (hb.cell (p := ⟨b, o + 13, none⟩) hlt).trans e13, (hb.cell (p := ⟨b, o + 14, none⟩) hlt).trans e14, (hb.cell (p := ⟨b, o + 15, none⟩) hlt).trans e15⟩
/-- a slice of links, read below block B -/
def SlL (w : World) (B : Nat) (v : Value) (r : List Lk) : Prop := ∃ A n c, v = .slice A n c ∧ r.length = n ∧ n ≤ c ∧ (A = none → c = 0) ∧ Rd w B 16 A n (r.flatMap encK)
theorem SlL.below {w w' : World} {B : Nat} {v : Value} {r : List Lk} (h : SlL w B v r) (hb : Below B w w') : SlL w' B v r := by
  obtain ⟨A, n, c, h1, h2, h3, h4, h5⟩ := h
  exact ⟨A, n, c, h1, h2, h3, h4, h5.below hb⟩
theorem SlL.more {w : World} {B B' : Nat} {v : Value} {r : List Lk} (h : SlL w B v r) (hB : B ≤ B') : SlL w B' v r := by
  obtain ⟨A, n, c, h1, h2, h3, h4, h5⟩ := h
  exact ⟨A, n, c, h1, h2, h3, h4, h5.more hB⟩
theorem SlL.own {w : World} {base n : Nat} {v : Value} {r : List Lk} (h : w.ownsRow base 28 16 v n (r.flatMap encK)) : SlL w w.heap.size v r := by
  have hl : r.length = n := by
    have := h.1
    rw [flat_length encK_length] at this
    omega
  obtain ⟨A, c, rfl, h1, _, h2⟩ := own_rd h
  exact ⟨A, n, c, rfl, hl, h1, fun hA => (own_none h hA).2, h2⟩
theorem Rd.lnk {w : World} {B n i : Nat} {A : Option Addr} {r : List Lk} (h : Rd w B 16 A n (r.flatMap encK)) {k : Lk} (hx : r[i]? = some k) : ∃ b o, A = some ⟨b, o, none⟩ ∧ b < B ∧ LkC w b (o + i * 16) k := by
  have hk : i < r.length := (List.getElem?_eq_some_iff.1 hx).1
  have hn : 0 < n := by have := h.1; rw [flat_length encK_length] at this; omega
  obtain ⟨b, o, hA, hb, hc⟩ := h.2 hn
  have key := fun j u (hu : (encK k)[j]? = some u) => hc _ u (flat_get r encK_length i k hx j u hu)
  refine ⟨b, o, hA, hb, ?_, ?_, ?_, ?_, ?_, ?_, ?_, ?_, ?_, ?_, ?_, ?_, ?_, ?_, ?_, ?_⟩
  · have := key 0 _ rfl; rwa [Nat.add_zero] at this
  · have := key 1 _ rfl; rwa [← Nat.add_assoc] at this
  · have := key 2 _ rfl; rwa [← Nat.add_assoc] at this
  · have := key 3 _ rfl; rwa [← Nat.add_assoc] at this
  · have := key 4 _ rfl; rwa [← Nat.add_assoc] at this
  · have := key 5 _ rfl; rwa [← Nat.add_assoc] at this
  · have := key 6 _ rfl; rwa [← Nat.add_assoc] at this
  · have := key 7 _ rfl; rwa [← Nat.add_assoc] at this
  · have := key 8 _ rfl; rwa [← Nat.add_assoc] at this
  · have := key 9 _ rfl; rwa [← Nat.add_assoc] at this
  · have := key 10 _ rfl; rwa [← Nat.add_assoc] at this
  · have := key 11 _ rfl; rwa [← Nat.add_assoc] at this
  · have := key 12 _ rfl; rwa [← Nat.add_assoc] at this
  · have := key 13 _ rfl; rwa [← Nat.add_assoc] at this
  · have := key 14 _ rfl; rwa [← Nat.add_assoc] at this
  · have := key 15 _ rfl; rwa [← Nat.add_assoc] at this
/-- an arm; its links with their shapes -/
structure Ar where
  name : ByteArray
  p : P2
  half : Bool
  t : Q3
  v : Value
  L : List (Lk × List P2)
def Ar.ks (a : Ar) : List Lk := a.L.map (·.1)
theorem Ar.ks_len (a : Ar) : a.ks.length = a.L.length := List.length_map _
theorem Ar.ks_get (a : Ar) (i : Nat) : a.ks[i]? = (a.L[i]?).map (·.1) := List.getElem?_map
def Ar.val (a : Ar) : Value := .agg #[.string a.name, .bool a.p.x.neg, .string a.p.x.num, .string a.p.x.den, .bool a.p.y.neg, .string a.p.y.num, .string a.p.y.den, .bool a.half, .bool a.t.neg, .string a.t.num, .string a.t.den, a.v]
/-- where it lies -/
def Ar.At (a : Ar) (w : World) (B : Nat) : Prop := SlL w B a.v a.ks ∧ ∀ x ∈ a.L, SlP w B x.1.shape x.2
def Ar.le (a : Ar) (N : Nat) : Prop := a.p.le N ∧ a.t.le N ∧ a.name.size ≤ N ∧ ∀ x ∈ a.L, x.1.le N ∧ (∀ y ∈ x.2, y.le N) ∧ x.2.length ≤ N
theorem Ar.le.more {a : Ar} {N M : Nat} (h : a.le N) (hM : N ≤ M) : a.le M := ⟨h.1.more hM, h.2.1.more hM, Nat.le_trans h.2.2.1 hM, fun x hx => ⟨(h.2.2.2 x hx).1.more hM, fun y hy => ((h.2.2.2 x hx).2.1 y hy).more hM, Nat.le_trans (h.2.2.2 x hx).2.2 hM⟩⟩
theorem Ar.At.below {a : Ar} {w w' : World} {B : Nat} (h : a.At w B) (hb : Below B w w') : a.At w' B := ⟨h.1.below hb, fun x hx => (h.2 x hx).below hb⟩
theorem Ar.At.more {a : Ar} {w : World} {B B' : Nat} (h : a.At w B) (hB : B ≤ B') : a.At w B' := ⟨h.1.more hB, fun x hx => (h.2 x hx).more hB⟩
theorem Ar.At.up {a : Ar} {w w' : World} (h : a.At w w.heap.size) (hb : Below w.heap.size w w') : a.At w' w'.heap.size := (h.below hb).more hb.size
/-- what arm.check says of a link -/
def LinkGood (k : Lk) : Prop := AllSmall [k.len, k.low, k.high, k.speed, k.brake] ∧ 0 < k.len.q ∧ k.low.q < k.high.q ∧ 0 < k.speed.q ∧ 0 < k.brake.q
def PtsSmall (l : List P2) : Prop := ∀ p ∈ l, AllSmall [p.x, p.y]
def LinkE (k : Lk) (l : List P2) (e : Int) : Prop :=
  (¬ LinkGood k ∧ e = 1) ∨ (LinkGood k ∧ ∃ c, CheckIs l 8 c ∧ ((c ≠ 0 ∧ e = c) ∨ (c = 0 ∧ ¬ PtsSmall l ∧ e = 1) ∨ (c = 0 ∧ PtsSmall l ∧ e = 0)))
theorem LinkE.uniq {k : Lk} {l : List P2} {e e' : Int} (h : LinkE k l e) (h' : LinkE k l e') : e = e' := by
  rcases h with ⟨h1, h2⟩ | ⟨h1, c, h2, h3⟩
  · rcases h' with ⟨g1, g2⟩ | ⟨g1, _⟩
    · omega
    · exact absurd g1 h1
  · rcases h' with ⟨g1, g2⟩ | ⟨g1, c', g2, g3⟩
    · exact absurd h1 g1
    · obtain rfl := h2.uniq g2
      rcases h3 with ⟨a1, a2⟩ | ⟨a1, a2, a3⟩ | ⟨a1, a2, a3⟩
      all_goals
        rcases g3 with ⟨b1, b2⟩ | ⟨b1, b2, b3⟩ | ⟨b1, b2, b3⟩
        all_goals first | omega | (exact absurd ‹PtsSmall l› ‹¬ PtsSmall l›)
theorem LinkE.zero {k : Lk} {l : List P2} {e : Int} (h : LinkE k l e) (he : e = 0) : LinkGood k ∧ CheckIs l 8 0 ∧ PtsSmall l := by
  rcases h with ⟨h1, h2⟩ | ⟨h1, c, h2, ⟨h3, h4⟩ | ⟨h3, h4, h5⟩ | ⟨h3, h4, h5⟩⟩
  · omega
  · omega
  · omega
  · subst h3; exact ⟨h1, h2, h4⟩
theorem CheckIs.ok8 {l : List P2} (h : CheckIs l 8 0) : 3 ≤ l.length ∧ l.length ≤ 8 ∧ Conv l := by
  rcases h with ⟨h1, h2⟩ | ⟨h1, h2, h3⟩ | ⟨h1, h2, h3, h4⟩ | ⟨h1, h2, h3, h4⟩
  · omega
  · omega
  · omega
  · exact ⟨h2, by omega, h3⟩
theorem CheckIs.total (l : List P2) (most : Int) : ∃ e, CheckIs l most e := by
  by_cases h1 : (l.length : Int) > most
  · exact ⟨2, .inl ⟨h1, rfl⟩⟩
  · by_cases h2 : l.length < 3
    · exact ⟨3, .inr (.inl ⟨h1, h2, rfl⟩)⟩
    · by_cases h3 : Conv l
      · exact ⟨0, .inr (.inr (.inr ⟨h1, by omega, h3, rfl⟩))⟩
      · exact ⟨3, .inr (.inr (.inl ⟨h1, by omega, h3, rfl⟩))⟩
theorem LinkE.total (k : Lk) (l : List P2) : ∃ e, LinkE k l e := by
  by_cases h1 : LinkGood k
  · obtain ⟨c, hc⟩ := CheckIs.total l 8
    by_cases h2 : c = 0
    · by_cases h3 : PtsSmall l
      · exact ⟨0, .inr ⟨h1, c, hc, .inr (.inr ⟨h2, h3, rfl⟩)⟩⟩
      · exact ⟨1, .inr ⟨h1, c, hc, .inr (.inl ⟨h2, h3, rfl⟩)⟩⟩
    · exact ⟨c, .inr ⟨h1, c, hc, .inl ⟨h2, rfl⟩⟩⟩
  · exact ⟨1, .inl ⟨h1, rfl⟩⟩
end Go.Proofs.YtnnbnecpcppkdaaDoor
