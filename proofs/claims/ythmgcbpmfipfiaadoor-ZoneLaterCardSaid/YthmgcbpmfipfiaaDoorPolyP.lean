/- The polygons of gantmake.Poly: convex, and their boxes hold the origin; gantmake.Poly. Conditions: those typed. -/
import Derived.Test.YthmgcbpmfipfiaaDoorPolyM
import Derived.Test.YthmgcbpmfipfiaaDoorPolyB
namespace Go.Proofs.YthmgcbpmfipfiaaDoor
open Go.RowKit Go.Gy
set_option linter.unusedVariables false
def areaZ (a b c : Int × Int) : Int := (b.1 - a.1) * (c.2 - a.2) - (b.2 - a.2) * (c.1 - a.1)
def convB (zs : List (Int × Int)) : Bool := (List.range zs.length).all fun i => (List.range zs.length).all fun k => decide (k < 2) ||
  (match zs[i]?, zs[(i + 1) % zs.length]?, zs[(i + k) % zs.length]? with
   | some a, some b, some c => decide (0 < areaZ a b c)
   | _, _, _ => false)
set_option maxRecDepth 100000 in
theorem conv_all : ((List.range 6).all fun a => (List.range 6).all fun b => (List.range 13).all fun s =>
    let a : Int := (a : Int) + 1
    let b : Int := (b : Int) + 1
    convB [(-a, -b), (a, -b), (a, b), (-a, b)] && convB [(-a, -b), (a, -b), ((s : Int) - a, b)] && convB [(-a - 1, -b - 1), (a, -b - 1), (a + 1, -b), (a + 1, b), (-a - 1, b)] && convB [(-a, 0), (0, -b), (a, 0), (0, b)]) = true := by decide +kernel
theorem polyZ_conv {zs : List (Int × Int)} (h : PolyZ zs) : convB zs = true := by
  obtain ⟨a, b, s, ha, hb, hs, h⟩ := h
  have hc := conv_all
  rw [List.all_eq_true] at hc
  have h1 := hc (a - 1).toNat (List.mem_range.2 (by omega))
  rw [List.all_eq_true] at h1
  have h2 := h1 (b - 1).toNat (List.mem_range.2 (by omega))
  rw [List.all_eq_true] at h2
  have h3 := h2 s.toNat (List.mem_range.2 (by omega))
  rw [show (((a - 1).toNat : Nat) : Int) = a - 1 by omega, show (((b - 1).toNat : Nat) : Int) = b - 1 by omega, show ((s.toNat : Nat) : Int) = s by omega, show a - 1 + 1 = a by omega, show b - 1 + 1 = b by omega] at h3
  simp only [Bool.and_eq_true] at h3
  obtain ⟨⟨⟨g1, g2⟩, g3⟩, g4⟩ := h3
  rcases h with rfl | rfl | rfl | rfl
  · exact g1
  · exact g2
  · exact g3
  · exact g4
theorem mk4 (x : Int) : mkRat x 4 = (x : Rat) * (1 / 4) := by
  rw [Rat.mkRat_eq_div, Rat.div_def, show (((4 : Nat) : Rat))⁻¹ = 1 / 4 from by decide +kernel]
theorem area_pt {p q r : P2} {a b c : Int × Int} (hp : PtIs p a.1 a.2) (hq : PtIs q b.1 b.2) (hr : PtIs r c.1 c.2) : areaQ p q r = (areaZ a b c : Rat) * (1 / 16) := by
  unfold areaQ areaZ
  rw [hp.1, hp.2.1, hq.1, hq.2.1, hr.1, hr.2.1, mk4, mk4, mk4, mk4, mk4, mk4, Rat.intCast_sub, Rat.intCast_mul, Rat.intCast_mul, Rat.intCast_sub, Rat.intCast_sub, Rat.intCast_sub, Rat.intCast_sub]
  grind
theorem area_pos {p q r : P2} {a b c : Int × Int} (hp : PtIs p a.1 a.2) (hq : PtIs q b.1 b.2) (hr : PtIs r c.1 c.2) (h : 0 < areaZ a b c) : 0 < areaQ p q r := by
  rw [area_pt hp hq hr]
  have h1 : ((0 : Int) : Rat) < (areaZ a b c : Rat) := Rat.intCast_lt_intCast.mpr h
  have h0 : ((0 : Int) : Rat) = 0 := rfl
  rw [h0] at h1
  grind
theorem PtsOf.len : ∀ {l : List P2} {zs : List (Int × Int)}, PtsOf l zs → l.length = zs.length
  | [], [], _ => rfl
  | _ :: _, _ :: _, h => by rw [List.length_cons, List.length_cons, PtsOf.len h.2]
  | [], _ :: _, h => False.elim h
  | _ :: _, [], h => False.elim h
theorem PtsOf.get : ∀ {l : List P2} {zs : List (Int × Int)}, PtsOf l zs → ∀ {i : Nat} {p : P2}, l[i]? = some p → ∃ z, zs[i]? = some z ∧ PtIs p z.1 z.2
  | [], _, _, _, _, hi => by simp at hi
  | p :: l, z :: zs, h, 0, q, hi => by
    simp only [List.getElem?_cons_zero, Option.some.injEq] at hi
    subst hi
    exact ⟨z, rfl, h.1⟩
  | p :: l, z :: zs, h, i + 1, q, hi => PtsOf.get h.2 (i := i) (by simpa using hi)
  | _ :: _, [], h, _, _, _ => False.elim h
theorem polyZ_len {zs : List (Int × Int)} (h : PolyZ zs) : 3 ≤ zs.length ∧ zs.length ≤ 5 := by
  obtain ⟨a, b, s, _, _, _, rfl | rfl | rfl | rfl⟩ := h <;> exact ⟨by simp, by simp⟩
theorem PolyIs.conv {l : List P2} (h : PolyIs l) : Conv l := by
  obtain ⟨zs, hz, hl⟩ := h
  have hc := polyZ_conv hz
  have hlen := hl.len
  unfold convB at hc
  rw [List.all_eq_true] at hc
  intro i k hi hk2 hk a b c ha hb hcc
  have h1 := hc i (List.mem_range.2 (by omega))
  rw [List.all_eq_true] at h1
  have h2 := h1 k (List.mem_range.2 (by omega))
  rw [decide_eq_false (by omega : ¬ k < 2), Bool.false_or] at h2
  rw [hlen] at hb hcc
  obtain ⟨za, ea, pa⟩ := hl.get ha
  obtain ⟨zb, eb, pb⟩ := hl.get hb
  obtain ⟨zc, ec, pc⟩ := hl.get hcc
  rw [ea, eb, ec] at h2
  exact area_pos pa pb pc (of_decide_eq_true h2)
theorem PolyIs.len {l : List P2} (h : PolyIs l) : 3 ≤ l.length ∧ l.length ≤ 5 := by
  obtain ⟨zs, hz, hl⟩ := h
  rw [hl.len]
  exact polyZ_len hz
theorem PolyIs.le {l : List P2} (h : PolyIs l) : ∀ p ∈ l, p.le 1 := by
  obtain ⟨zs, hz, hl⟩ := h
  intro p hp
  obtain ⟨i, hi, rfl⟩ := List.getElem_of_mem hp
  obtain ⟨z, _, hpt⟩ := hl.get (List.getElem?_eq_getElem hi)
  exact hpt.2.2.2
theorem PolyIs.check {l : List P2} (h : PolyIs l) {e : Int} (he : CheckIs l 8 e) : e = 0 := by
  have h1 := h.len
  rcases he with ⟨h2, _⟩ | ⟨_, h2, _⟩ | ⟨_, _, h2, _⟩ | ⟨_, _, _, h2⟩
  · omega
  · omega
  · exact absurd h.conv h2
  · exact h2
theorem foldl_min_le (f : P2 → Rat) : ∀ (t : List P2) (m : Rat), t.foldl (fun m p => minQ m (f p)) m ≤ m ∧ ∀ p ∈ t, t.foldl (fun m p => minQ m (f p)) m ≤ f p
  | [], m => ⟨Rat.le_refl, fun p hp => by cases hp⟩
  | q :: t, m => by
    have ih := foldl_min_le f t (minQ m (f q))
    have h1 : minQ m (f q) ≤ m ∧ minQ m (f q) ≤ f q := by unfold minQ; split <;> constructor <;> grind
    rw [List.foldl_cons]
    refine ⟨Rat.le_trans ih.1 h1.1, fun p hp => ?_⟩
    rcases List.mem_cons.1 hp with rfl | hp
    · exact Rat.le_trans ih.1 h1.2
    · exact ih.2 p hp
theorem foldl_max_ge (f : P2 → Rat) : ∀ (t : List P2) (m : Rat), m ≤ t.foldl (fun m p => maxQ m (f p)) m ∧ ∀ p ∈ t, f p ≤ t.foldl (fun m p => maxQ m (f p)) m
  | [], m => ⟨Rat.le_refl, fun p hp => by cases hp⟩
  | q :: t, m => by
    have ih := foldl_max_ge f t (maxQ m (f q))
    have h1 : m ≤ maxQ m (f q) ∧ f q ≤ maxQ m (f q) := by unfold maxQ; split <;> constructor <;> grind
    rw [List.foldl_cons]
    refine ⟨Rat.le_trans h1.1 ih.1, fun p hp => ?_⟩
    rcases List.mem_cons.1 hp with rfl | hp
    · exact Rat.le_trans h1.2 ih.1
    · exact ih.2 p hp
/-- each point is in the box -/
theorem BoxIs.has {l : List P2} {y : B4} (h : BoxIs l y) : ∀ p ∈ l, y.a.q ≤ p.x.q ∧ y.b.q ≤ p.y.q ∧ p.x.q ≤ y.c.q ∧ p.y.q ≤ y.d.q := by
  cases l with
  | nil => intro p hp; cases hp
  | cons a t =>
    have h : (y.a.q, y.b.q, y.c.q, y.d.q) = boxQ a t := h
    injection h with h1 h
    injection h with h2 h
    injection h with h3 h4
    intro p hp
    have g1 := foldl_min_le (fun p => p.x.q) t a.x.q
    have g2 := foldl_min_le (fun p => p.y.q) t a.y.q
    have g3 := foldl_max_ge (fun p => p.x.q) t a.x.q
    have g4 := foldl_max_ge (fun p => p.y.q) t a.y.q
    rw [← h1] at g1
    rw [← h2] at g2
    rw [← h3] at g3
    rw [← h4] at g4
    rcases List.mem_cons.1 hp with rfl | hp
    · exact ⟨g1.1, g2.1, g3.1, g4.1⟩
    · exact ⟨g1.2 p hp, g2.2 p hp, g3.2 p hp, g4.2 p hp⟩
theorem mk4_le {x : Int} (h : x ≤ 0) : mkRat x 4 ≤ 0 := by
  rw [mk4]
  have h1 : (x : Rat) ≤ ((0 : Int) : Rat) := Rat.intCast_le_intCast.mpr h
  have h0 : ((0 : Int) : Rat) = 0 := rfl
  grind
theorem mk4_ge {x : Int} (h : 0 ≤ x) : 0 ≤ mkRat x 4 := by
  rw [mk4]
  have h1 : ((0 : Int) : Rat) ≤ (x : Rat) := Rat.intCast_le_intCast.mpr h
  have h0 : ((0 : Int) : Rat) = 0 := rfl
  grind
/-- the box of such a polygon holds the origin -/
theorem PolyIs.origin {l : List P2} (h : PolyIs l) {y : B4} (hy : BoxIs l y) : y.a.q ≤ 0 ∧ y.b.q ≤ 0 ∧ 0 ≤ y.c.q ∧ 0 ≤ y.d.q := by
  obtain ⟨zs, hz, hl⟩ := h
  have hget : ∀ (i : Nat) (z : Int × Int), zs[i]? = some z → ∃ p ∈ l, PtIs p z.1 z.2 := by
    intro i z hi
    have hlt : i < l.length := by rw [hl.len]; exact (List.getElem?_eq_some_iff.1 hi).1
    obtain ⟨z', h1, h2⟩ := hl.get (List.getElem?_eq_getElem hlt)
    rw [hi] at h1
    cases h1
    exact ⟨_, List.getElem_mem hlt, h2⟩
  have key : ∀ (i j k : Nat) (x0 y0 x1 y1 x2 y2 : Int), zs[i]? = some (x0, y0) → zs[j]? = some (x1, y1) → zs[k]? = some (x2, y2) → x0 ≤ 0 → y0 ≤ 0 → 0 ≤ x1 → 0 ≤ y2 → y.a.q ≤ 0 ∧ y.b.q ≤ 0 ∧ 0 ≤ y.c.q ∧ 0 ≤ y.d.q := by
    intro i j k x0 y0 x1 y1 x2 y2 h0 h1 h2 g0 g1 g2 g3
    obtain ⟨p0, m0, e0⟩ := hget _ _ h0
    obtain ⟨p1, m1, e1⟩ := hget _ _ h1
    obtain ⟨p2, m2, e2⟩ := hget _ _ h2
    have b0 := hy.has p0 m0
    have b1 := hy.has p1 m1
    have b2 := hy.has p2 m2
    rw [e0.1, e0.2.1] at b0
    rw [e1.1] at b1
    rw [e2.2.1] at b2
    exact ⟨Rat.le_trans b0.1 (mk4_le g0), Rat.le_trans b0.2.1 (mk4_le g1), Rat.le_trans (mk4_ge g2) b1.2.2.1, Rat.le_trans (mk4_ge g3) b2.2.2.2⟩
  obtain ⟨a, b, s, ha, hb, hs, rfl | rfl | rfl | rfl⟩ := hz
  · exact key 0 1 3 _ _ _ _ _ _ rfl rfl rfl (by omega) (by omega) (by omega) (by omega)
  · exact key 0 1 2 _ _ _ _ _ _ rfl rfl rfl (by omega) (by omega) (by omega) (by omega)
  · exact key 0 1 4 _ _ _ _ _ _ rfl rfl rfl (by omega) (by omega) (by omega) (by omega)
  · exact key 0 1 3 _ _ _ _ _ _ rfl rfl rfl (by omega) (by omega) (by omega) (by omega)
set_option maxRecDepth 100000 in
set_option maxHeartbeats 4000000 in
theorem polyMake (w : World) (v : Value) (l : List Int) (hv : SlI w w.heap.size v l) (hl : l.length ≤ 140737488355328) :
    Calls Tryd.prog 48 #[v] w fun e w' => ∃ (v' : Value) (l' : List P2), e = .returned v' ∧ PolyIs l' ∧ SlP w' w'.heap.size v' l' ∧ Below w.heap.size w w' := by
  obtain ⟨A, m, c, rfl, hvr⟩ := id hv
  clear hvr
  have hJ := (In.start w).alloc 119 #[.slice A m c]
  have hst : StrAt (w.alloc (.cells #[.slice A m c] 119)) w.heap.size w.heap.size := ⟨_, l, hJ.blkAt (k := 0) rfl, hv.below hJ.bel, hl⟩
  have HP := Lib.hid (poly_any _ w.heap.size w.heap.size hst (Nat.le_refl _))
  have hbel := hJ.bel
  clear hv hl hst hJ
  go_enter Tryd.func48, Tryd.ntmps48
  go_wp2_with fail
  refine HP.out.mono ?_
  rintro e wn ⟨v', l', rfl, hP, hS, ⟨_, g1, g2, g3, g4, g5⟩⟩
  have hend : Below w.heap.size w wn := hbel.trans ⟨g1, g2, g3, g4, fun k hk => g5 k (by rw [World.size_alloc]; omega) (by intro h; injection h with h; omega)⟩
  have Hs := Lib.hid hS
  clear hS HP hbel g1 g2 g3 g4 g5
  go_wp2
  go_ret
  exact ⟨v', l', rfl, hP, Hs.out, hend⟩
end Go.Proofs.YthmgcbpmfipfiaaDoor
