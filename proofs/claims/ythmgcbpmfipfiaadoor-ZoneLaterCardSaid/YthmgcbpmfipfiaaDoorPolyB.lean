/- poly.Check, poly.Box. Conditions: those typed. -/
import Derived.Test.YthmgcbpmfipfiaaDoorPolyC
import Derived.Test.YthmgcbpmfipfiaaDoorZoneB
import Derived.Test.YthmgcbpmfipfiaaDoorMean
namespace Go.Proofs.YthmgcbpmfipfiaaDoor
open Go.RowKit Go.Gy
set_option linter.unusedVariables false
set_option maxRecDepth 100000 in
set_option maxHeartbeats 4000000 in
theorem checkR (w : World) (hT : TabW w) (v : Value) (l : List P2) {N B : Nat} (hv : SlP w B v l) (hB : B ≤ w.heap.size) (hl : ∀ x ∈ l, x.le N) (hN : 1 ≤ N ∧ N ≤ 68719476736) :
    ∃ e : Int, CheckIs l 8 e ∧ Hid (∀ W, Below w.heap.size w W → Calls Tryd.prog 55 #[v] W fun r w' => r = .returned (.int .i64 e) ∧ Below W.heap.size W w') := by
  obtain ⟨e, he⟩ : ∃ e, CheckIs l 8 e := by
    by_cases h1 : (l.length : Int) > 8
    · exact ⟨2, .inl ⟨h1, rfl⟩⟩
    · by_cases h2 : l.length < 3
      · exact ⟨3, .inr (.inl ⟨h1, h2, rfl⟩)⟩
      · rcases Classical.em (Conv l) with h3 | h3
        · exact ⟨0, .inr (.inr (.inr ⟨h1, by omega, h3, rfl⟩))⟩
        · exact ⟨3, .inr (.inr (.inl ⟨h1, by omega, h3, rfl⟩))⟩
  refine ⟨e, he, Lib.hid fun W0 hW0 => ?_⟩
  have HC : Hid (Calls Tryd.prog 85 #[v, .int .i64 8] W0 fun r w' => r = .returned (.int .i64 e) ∧ Below W0.heap.size W0 w') :=
    Lib.hid ((check_at W0 (tabs w hT hW0) v l ((hv.below (hW0.mono hB)).more (Nat.le_trans hB hW0.size)) hl hN 8 (by decide)).mono fun r w' ⟨e', h1, h2, h3⟩ => ⟨by rw [h1, he.uniq h2], h3⟩)
  clear hT hv he hW0
  obtain ⟨ee, hee⟩ : ∃ ee, ee = e := ⟨_, rfl⟩
  go_enter Tryd.func55, Tryd.ntmps55
  go_wp2_with fail
  refine HC.out.mono ?_
  rintro r wn ⟨rfl, hb⟩
  go_wp2
  go_ret
  exact ⟨rfl, hb⟩
theorem SlP.drop {w : World} {B n c k : Nat} {A : Option Addr} {l : List P2} (h : SlP w B (.slice A n c) l) (hk : k ≤ n) : SlP w B (.slice (if c = k then A else A.map (·.add (k * 6))) (n - k) (c - k)) (l.drop k) := by
  obtain ⟨A', n', c', he, h1, h2, h3, h4⟩ := h
  injection he with e1 e2 e3
  subst e1 e2 e3
  refine ⟨_, n - k, c - k, rfl, by rw [List.length_drop, h1], by omega, fun e => ?_, ?_, fun h0 => ?_⟩
  · split at e
    · omega
    · cases A with
      | none => have := h3 rfl; omega
      | some a => cases e
  · rw [flat_length encP_length, List.length_drop, h1]
  · obtain ⟨b, o, rfl, hb, hc⟩ := h4.2 (by omega)
    rw [if_neg (by omega)]
    refine ⟨b, o + k * 6, (by show some ((⟨b, o, none⟩ : Addr).add (k * 6)) = _; rw [add_none]), hb, fun j u hu => ?_⟩
    rw [flat_drop encP_length, List.getElem?_drop] at hu
    rw [Nat.add_assoc]
    exact hc (k * 6 + j) u hu
set_option maxRecDepth 100000 in
theorem size_pt6 (w : World) : (sizeOf (Tryd.prog.elem 68)).run Tryd.prog w = .ok 6 w := by
  obtain ⟨i, hi⟩ : ∃ i, Tryd.prog.info? (Tryd.prog.elem 68) = some i := ⟨_, rfl⟩
  exact (run_sizeOf (w := w) hi).trans (congrArg (fun n => Result.ok n w) (by kernel_rfl))
section
variable {ops : Array Oper} {rest : List Oper} {o : Oper} {a : Act} {w : World} {Q : Exit → Act → World → Prop}
/-- x = l[k:] -/
theorem wpList_pts_from (hgd : o.guard = none) (s x : Operand) (ho : o.op = .slice 68 s (some x) none none) (A : Option Addr) (n c k B : Nat) (l : List P2) (hk : k ≤ n) (hs : a.eval s = .slice A n c) (hx : a.eval x = .int .i64 (k : Int)) {w0 : World} (hl : SlP w0 B (.slice A n c) l)
    (h : ∀ A' n' c', SlP w0 B (.slice A' n' c') (l.drop k) → wpList Tryd.prog ops Q rest (a.put o.dst (.slice A' n' c')) w) : wpList Tryd.prog ops Q (o :: rest) a w :=
  wpList_plain hgd fun _ hK => by
    have hu : Tryd.prog.underlying 68 = some (.slice (Tryd.prog.elem 68)) := by kernel_rfl
    have hr := run_slice_l (P := Tryd.prog) (w := w) 68 A n c hu .i64 (k : Int) (by omega) (by omega)
    rw [size_pt6 w] at hr
    simp only [Result.andThen, sliced, Int.toNat_natCast] at hr
    unfold Oper.wp execOp
    simp only [ho, hs, hx, Option.map_none, Option.map_some, run_sliceAt_slice w 68 _ _ _ _ hu, hr, Sem.run_bind, Sem.run_pure, Result.andThen_ok]
    exact hK _ _ (h _ _ _ (hl.drop hk))
end
theorem In.low6 {w W : World} {a b : List (Nat × TypeId × Array Value)} {g : Nat} {t : TypeId} {x0 x1 x2 x3 x4 x5 x6 x7 x8 x9 x10 x11 : Value} (h : In w (a ++ (g, t, #[x0, x1, x2, x3, x4, x5, x6, x7, x8, x9, x10, x11]) :: b) W) (u0 u1 u2 u3 u4 u5 : Value) : In w (a ++ (g, t, #[u0, u1, u2, u3, u4, u5, x6, x7, x8, x9, x10, x11]) :: b) ((((((W.setCell ⟨g, 0, none⟩ u0).setCell ⟨g, 1, none⟩ u1).setCell ⟨g, 2, none⟩ u2).setCell ⟨g, 3, none⟩ u3).setCell ⟨g, 4, none⟩ u4).setCell ⟨g, 5, none⟩ u5) := by
  replace h : In w (a ++ (g, t, #[u0, x1, x2, x3, x4, x5, x6, x7, x8, x9, x10, x11]) :: b) (W.setCell ⟨g, 0, none⟩ u0) := h.set 0 u0
  replace h : In w (a ++ (g, t, #[u0, u1, x2, x3, x4, x5, x6, x7, x8, x9, x10, x11]) :: b) ((W.setCell ⟨g, 0, none⟩ u0).setCell ⟨g, 1, none⟩ u1) := h.set 1 u1
  replace h : In w (a ++ (g, t, #[u0, u1, u2, x3, x4, x5, x6, x7, x8, x9, x10, x11]) :: b) (((W.setCell ⟨g, 0, none⟩ u0).setCell ⟨g, 1, none⟩ u1).setCell ⟨g, 2, none⟩ u2) := h.set 2 u2
  replace h : In w (a ++ (g, t, #[u0, u1, u2, u3, x4, x5, x6, x7, x8, x9, x10, x11]) :: b) ((((W.setCell ⟨g, 0, none⟩ u0).setCell ⟨g, 1, none⟩ u1).setCell ⟨g, 2, none⟩ u2).setCell ⟨g, 3, none⟩ u3) := h.set 3 u3
  replace h : In w (a ++ (g, t, #[u0, u1, u2, u3, u4, x5, x6, x7, x8, x9, x10, x11]) :: b) (((((W.setCell ⟨g, 0, none⟩ u0).setCell ⟨g, 1, none⟩ u1).setCell ⟨g, 2, none⟩ u2).setCell ⟨g, 3, none⟩ u3).setCell ⟨g, 4, none⟩ u4) := h.set 4 u4
  replace h : In w (a ++ (g, t, #[u0, u1, u2, u3, u4, u5, x6, x7, x8, x9, x10, x11]) :: b) ((((((W.setCell ⟨g, 0, none⟩ u0).setCell ⟨g, 1, none⟩ u1).setCell ⟨g, 2, none⟩ u2).setCell ⟨g, 3, none⟩ u3).setCell ⟨g, 4, none⟩ u4).setCell ⟨g, 5, none⟩ u5) := h.set 5 u5
  exact h
theorem In.high6 {w W : World} {a b : List (Nat × TypeId × Array Value)} {g : Nat} {t : TypeId} {x0 x1 x2 x3 x4 x5 x6 x7 x8 x9 x10 x11 : Value} (h : In w (a ++ (g, t, #[x0, x1, x2, x3, x4, x5, x6, x7, x8, x9, x10, x11]) :: b) W) (u0 u1 u2 u3 u4 u5 : Value) : In w (a ++ (g, t, #[x0, x1, x2, x3, x4, x5, u0, u1, u2, u3, u4, u5]) :: b) ((((((W.setCell ⟨g, 6, none⟩ u0).setCell ⟨g, 7, none⟩ u1).setCell ⟨g, 8, none⟩ u2).setCell ⟨g, 9, none⟩ u3).setCell ⟨g, 10, none⟩ u4).setCell ⟨g, 11, none⟩ u5) := by
  replace h : In w (a ++ (g, t, #[x0, x1, x2, x3, x4, x5, u0, x7, x8, x9, x10, x11]) :: b) (W.setCell ⟨g, 6, none⟩ u0) := h.set 6 u0
  replace h : In w (a ++ (g, t, #[x0, x1, x2, x3, x4, x5, u0, u1, x8, x9, x10, x11]) :: b) ((W.setCell ⟨g, 6, none⟩ u0).setCell ⟨g, 7, none⟩ u1) := h.set 7 u1
  replace h : In w (a ++ (g, t, #[x0, x1, x2, x3, x4, x5, u0, u1, u2, x9, x10, x11]) :: b) (((W.setCell ⟨g, 6, none⟩ u0).setCell ⟨g, 7, none⟩ u1).setCell ⟨g, 8, none⟩ u2) := h.set 8 u2
  replace h : In w (a ++ (g, t, #[x0, x1, x2, x3, x4, x5, u0, u1, u2, u3, x10, x11]) :: b) ((((W.setCell ⟨g, 6, none⟩ u0).setCell ⟨g, 7, none⟩ u1).setCell ⟨g, 8, none⟩ u2).setCell ⟨g, 9, none⟩ u3) := h.set 9 u3
  replace h : In w (a ++ (g, t, #[x0, x1, x2, x3, x4, x5, u0, u1, u2, u3, u4, x11]) :: b) (((((W.setCell ⟨g, 6, none⟩ u0).setCell ⟨g, 7, none⟩ u1).setCell ⟨g, 8, none⟩ u2).setCell ⟨g, 9, none⟩ u3).setCell ⟨g, 10, none⟩ u4) := h.set 10 u4
  replace h : In w (a ++ (g, t, #[x0, x1, x2, x3, x4, x5, u0, u1, u2, u3, u4, u5]) :: b) ((((((W.setCell ⟨g, 6, none⟩ u0).setCell ⟨g, 7, none⟩ u1).setCell ⟨g, 8, none⟩ u2).setCell ⟨g, 9, none⟩ u3).setCell ⟨g, 10, none⟩ u4).setCell ⟨g, 11, none⟩ u5) := h.set 11 u5
  exact h
/-- the box of the first k of the others behind the first -/
def boxQ (a : P2) (t : List P2) : Rat × Rat × Rat × Rat := (t.foldl (fun m p => minQ m p.x.q) a.x.q, t.foldl (fun m p => minQ m p.y.q) a.y.q, t.foldl (fun m p => maxQ m p.x.q) a.x.q, t.foldl (fun m p => maxQ m p.y.q) a.y.q)
theorem boxQ_snoc (a : P2) (t : List P2) (p : P2) : boxQ a (t ++ [p]) = (minQ (boxQ a t).1 p.x.q, minQ (boxQ a t).2.1 p.y.q, maxQ (boxQ a t).2.2.1 p.x.q, maxQ (boxQ a t).2.2.2 p.y.q) := by
  unfold boxQ; simp only [List.foldl_append, List.foldl_cons, List.foldl_nil]
def BoxIs (l : List P2) (y : B4) : Prop := match l with
  | [] => y.a.q = 0 ∧ y.b.q = 0 ∧ y.c.q = 0 ∧ y.d.q = 0
  | a :: t => (y.a.q, y.b.q, y.c.q, y.d.q) = boxQ a t
def B4.can (y : B4) : Prop := y.a.can ∧ y.b.can ∧ y.c.can ∧ y.d.can
theorem B4.can.eq {x y : B4} (hx : x.can) (hy : y.can) (h : (x.a.q, x.b.q, x.c.q, x.d.q) = (y.a.q, y.b.q, y.c.q, y.d.q)) : x = y := by
  injection h with h1 h
  injection h with h2 h
  injection h with h3 h4
  obtain ⟨xa, xb, xc, xd⟩ := x
  obtain ⟨ya, yb, yc, yd⟩ := y
  obtain rfl : xa = ya := hx.1.eq hy.1 h1
  obtain rfl : xb = yb := hx.2.1.eq hy.2.1 h2
  obtain rfl : xc = yc := hx.2.2.1.eq hy.2.2.1 h3
  obtain rfl : xd = yd := hx.2.2.2.eq hy.2.2.2 h4
  rfl
/-- the loop: block g holds the box of the first point and k others -/
def BxRel (w : World) (g g0 : Nat) (a : P2) (t : List P2) (N : Nat) (v : Value) (wr : World) : Prop :=
  ∃ (k : Nat) (y : B4), k ≤ t.length ∧ v = .int .i64 k ∧ (y.a.q, y.b.q, y.c.q, y.d.q) = boxQ a (t.take k) ∧ y.can ∧ y.le N ∧ In w [(g, 64, #[.bool y.a.neg, .string y.a.num, .string y.a.den, .bool y.b.neg, .string y.b.num, .string y.b.den, .bool y.c.neg, .string y.c.num, .string y.c.den, .bool y.d.neg, .string y.d.num, .string y.d.den]), (g0, 64, #[.bool false, .string { data := #[] }, .string { data := #[] }, .bool false, .string { data := #[] }, .string { data := #[] }, .bool false, .string { data := #[] }, .string { data := #[] }, .bool false, .string { data := #[] }, .string { data := #[] }])] wr
set_option maxRecDepth 100000 in
set_option maxHeartbeats 8000000 in
theorem box_at (w : World) (hT : TabW w) (v : Value) (l : List P2) {N : Nat} (hv : SlP w w.heap.size v l) (hl : ∀ x ∈ l, x.le N) (hN : 1 ≤ N ∧ N ≤ 68719476736) (hlen : l.length ≤ 4611686018427387904) :
    Calls Tryd.prog 47 #[v] w fun r w' => ∃ y : B4, r = .returned (.agg #[.bool y.a.neg, .string y.a.num, .string y.a.den, .bool y.b.neg, .string y.b.num, .string y.b.den, .bool y.c.neg, .string y.c.num, .string y.c.den, .bool y.d.neg, .string y.d.num, .string y.d.den]) ∧ BoxIs l y ∧ y.can ∧ y.le (N + 10) ∧ Below w.heap.size w w' := by
  have HT := Lib.hid hT
  obtain ⟨z, zx, zy, cz, lz, AZ⟩ := addV w hT ⟨⟨false, { data := #[] }, { data := #[] }⟩, ⟨false, { data := #[] }, { data := #[] }⟩⟩ ⟨⟨false, { data := #[] }, { data := #[] }⟩, ⟨false, { data := #[] }, { data := #[] }⟩⟩ (N := 1) (M := 1) ⟨⟨by decide, by decide⟩, by decide, by decide⟩ ⟨⟨by decide, by decide⟩, by decide, by decide⟩
  have hz0 : (⟨false, { data := #[] }, { data := #[] }⟩ : Q3).q = 0 := by decide +kernel
  rw [hz0] at zx zy
  have hzx : z.x.q = 0 := by rw [zx]; exact Rat.add_zero 0
  have hzy : z.y.q = 0 := by rw [zy]; exact Rat.add_zero 0
  simp only at AZ
  have hI := (In.start w).alloc 64 #[.bool false, .string { data := #[] }, .string { data := #[] }, .bool false, .string { data := #[] }, .string { data := #[] }, .bool false, .string { data := #[] }, .string { data := #[] }, .bool false, .string { data := #[] }, .string { data := #[] }]
  obtain ⟨A, n, c, rfl, hln, hnc, hA, hrd⟩ := hv
  subst hln
  have HRD := Lib.hid hrd
  have HSL := Lib.hid (show SlP w w.heap.size (.slice A l.length c) l from ⟨A, l.length, c, rfl, rfl, hnc, hA, hrd⟩)
  clear hrd zx zy hT hz0
  cases l with
  | nil =>
    have HB := Lib.hid (show BoxIs [] ⟨z.x, z.y, z.x, z.y⟩ from ⟨hzx, hzy, hzx, hzy⟩)
    clear hzx hzy
    go_enter Tryd.func47, Tryd.ntmps47
    go_upto_region 1 with (fail)
    generalize World.alloc _ _ = W1 at hI ⊢
    go_wp2_with fail
    refine (AZ.out _ hI.bel).mono ?_
    rintro e wn ⟨rfl, hb⟩
    replace hI := hI.call hb
    clear hb
    replace hI := hI.alloc 58 #[.bool z.x.neg, .string z.x.num, .string z.x.den, .bool z.y.neg, .string z.y.num, .string z.y.den]
    obtain ⟨g3, hg3⟩ : ∃ g, g = wn.heap.size := ⟨_, rfl⟩
    go_upto_region 2 with (fail)
    rw [← hg3] at hI ⊢
    generalize World.alloc _ _ = W2 at hI ⊢
    clear hg3
    have fx := hI.facts
    simp only [factsOf, cellsOf, Nat.zero_add, Nat.reduceAdd] at fx
    have hJ := hI.tail
    clear hI
    have hS0 := hJ.take (a := [_])
    have HK := Lib.hid (hJ.all12 (a := []) (.bool z.x.neg) (.string z.x.num) (.string z.x.den) (.bool z.y.neg) (.string z.y.num) (.string z.y.den) (.bool z.x.neg) (.string z.x.num) (.string z.x.den) (.bool z.y.neg) (.string z.y.num) (.string z.y.den))
    have hfx := hS0.facts
    simp only [factsOf, cellsOf, Nat.zero_add, Nat.reduceAdd] at hfx
    have hfz := fun i => hS0.free (k := 0) (i := i) rfl
    clear hS0 hJ
    go_wp2_with fail
    clear hfx hfz fx
    have hK := HK.out
    clear HK
    generalize World.setCell _ _ _ = W9 at hK ⊢
    refine bodyPost_ret (results_cell_row Tryd.results47 _ _ (w.heap.size) 64 _ (0, 0) _ rfl (hK.blkAt (k := 0) rfl) Tryd.underlying64 rfl (by kernel_rfl)) rfl ?_
    exact ⟨⟨z.x, z.y, z.x, z.y⟩, rfl, HB.out, ⟨cz.1, cz.2, cz.1, cz.2⟩, ⟨lz.1.more (by omega), lz.2.more (by omega), lz.1.more (by omega), lz.2.more (by omega)⟩, hK.bel⟩
  | cons a t =>
    have hal : a.le N := hl a List.mem_cons_self
    obtain ⟨f, fx, fy, cf, lf, AF⟩ := addV w HT.out a z hal lz
    rw [hzx, Rat.add_zero] at fx
    rw [hzy, Rat.add_zero] at fy
    have HFX := Lib.hid fx
    have HFY := Lib.hid fy
    obtain ⟨b, o, rfl, hbB, e0, e1, e2, e3, e4, e5⟩ := Rd.pt (k := 0) HRD.out rfl
    rw [Nat.zero_mul, Nat.add_zero] at e0 e1 e2 e3 e4 e5
    have E := Lib.hid (fun W (hW : Below w.heap.size w W) => (⟨Nat.lt_of_lt_of_le hbB hW.size, (hW.cell (p := ⟨b, o, none⟩) hbB).trans e0, (hW.cell (p := ⟨b, o + 1, none⟩) hbB).trans e1, (hW.cell (p := ⟨b, o + 2, none⟩) hbB).trans e2, (hW.cell (p := ⟨b, o + 3, none⟩) hbB).trans e3, (hW.cell (p := ⟨b, o + 4, none⟩) hbB).trans e4, (hW.cell (p := ⟨b, o + 5, none⟩) hbB).trans e5⟩ : And _ (And _ (And _ (And _ (And _ (And _ _)))))))
    have hi0 : (0 : Int) < (t.length : Int) + 1 := by omega
    have hi1 : (0 : Int) < (((a :: t).length : Nat) : Int) := by rw [List.length_cons]; omega
    have hi2 : ¬ (t.length : Int) + 1 = 0 := by omega
    have hi3 : ((t.length : Int) + 1 == 0) = false := by simpa using hi2
    clear e0 e1 e2 e3 e4 e5 fx fy hzx hzy hA
    go_enter Tryd.func47, Tryd.ntmps47
    go_upto_region 1 with (fail)
    generalize World.alloc _ _ = W1 at hI ⊢
    go_wp2_with fail
    refine (AZ.out _ hI.bel).mono ?_
    rintro e wn ⟨rfl, hb⟩
    replace hI := hI.call hb
    clear hb
    replace hI := hI.alloc 58 #[.bool z.x.neg, .string z.x.num, .string z.x.den, .bool z.y.neg, .string z.y.num, .string z.y.den]
    obtain ⟨g3, hg3⟩ : ∃ g, g = wn.heap.size := ⟨_, rfl⟩
    go_upto_region 2 with (fail)
    rw [← hg3] at hI ⊢
    generalize World.alloc _ _ = W2 at hI ⊢
    clear hg3
    go_upto_region 4 with (fail)
    refine wp_region_in_float 5 _ 58 #[.bool false, .string { data := #[] }, .string { data := #[] }, .bool false, .string { data := #[] }, .string { data := #[] }] hI (by kernel_rfl) (by kernel_rfl) rfl ?_
    simp only [List.take_succ_cons, List.take_zero, List.drop_succ_cons, List.drop_zero]
    repeat (first
      | (refine wpSeq_off (by rfl) ?_; try simp only [Act.put, List.setIfInBounds_toArray, List.set_cons_zero, List.set_cons_succ])
      | (refine wpSeq_val (v := ?_) (by rfl) (fun W hS => ?_) ?_
         rotate_left
         · (have fx := hS.facts; simp only [factsOf, cellsOf, Nat.zero_add, Nat.reduceAdd] at fx; have fy0 := E.out W hS.bel; clear hS; go_simp; first | done | with_reducible rfl)
         try simp only [Act.put, List.setIfInBounds_toArray, List.set_cons_zero, List.set_cons_succ]))
    refine wpSeq_call (v := .agg #[.bool f.x.neg, .string f.x.num, .string f.x.den, .bool f.y.neg, .string f.y.num, .string f.y.den]) (by rfl) (fun W hS => ?_) (fun W hS => (AF.out W hS.bel)) ?_
    · (clear hS; go_simp; done)
    try simp only [Act.put, List.setIfInBounds_toArray, List.set_cons_zero, List.set_cons_succ]
    repeat (first
      | (refine wpSeq_off (by rfl) ?_; try simp only [Act.put, List.setIfInBounds_toArray, List.set_cons_zero, List.set_cons_succ])
      | (refine wpSeq_val (v := ?_) (by rfl) (fun W hS => ?_) ?_
         rotate_left
         · (have fx := hS.facts; simp only [factsOf, cellsOf, Nat.zero_add, Nat.reduceAdd] at fx; have fy0 := E.out W hS.bel; clear hS; go_simp; first | done | with_reducible rfl)
         try simp only [Act.put, List.setIfInBounds_toArray, List.set_cons_zero, List.set_cons_succ]))
    refine wpSeq_nil ⟨rfl, fun W hS => ?_, fun g W hI => ?_⟩
    · go_simp
    simp only [List.setIfInBounds_toArray, List.set_cons_zero, List.set_cons_succ]
    have hS1 := hI.take (a := [_])
    have fx := hS1.facts
    simp only [factsOf, cellsOf, Nat.zero_add, Nat.reduceAdd] at fx
    have hfz := fun i => hS1.free (k := 0) (i := i) rfl
    have HX := Lib.hid (hI.all6 (a := []) (.bool f.x.neg) (.string f.x.num) (.string f.x.den) (.bool f.y.neg) (.string f.y.num) (.string f.y.den))
    clear hS1 hI
    go_upto_region 5 with (fail)
    have hI : In w (_ :: _) _ := HX.out
    clear HX fx hfz
    generalize World.setCell _ _ _ = W3 at hI ⊢
    have fx := hI.facts
    simp only [factsOf, cellsOf, Nat.zero_add, Nat.reduceAdd] at fx
    replace hI := (hI.tail.tail).alloc 64 #[.bool f.x.neg, .string f.x.num, .string f.x.den, .bool f.y.neg, .string f.y.num, .string f.y.den, .bool f.x.neg, .string f.x.num, .string f.x.den, .bool f.y.neg, .string f.y.num, .string f.y.den]
    obtain ⟨g5, hg5⟩ : ∃ g, g = W3.heap.size := ⟨_, rfl⟩
    go_upto_region 6 with (fail)
    rw [← hg5] at hI ⊢
    generalize World.alloc _ _ = W4 at hI ⊢
    clear hg5 fx
    have hst := Lib.hid (show BxRel w g5 w.heap.size a t (N + 10) (.int .i64 0) W4 from ⟨0, ⟨f.x, f.y, f.x, f.y⟩, Nat.zero_le _, rfl, by rw [List.take_zero]; unfold boxQ; simp only [List.foldl_nil]; rw [HFX.out, HFY.out], ⟨cf.1, cf.2, cf.1, cf.2⟩, ⟨lf.1.more (by omega), lf.2.more (by omega), lf.1.more (by omega), lf.2.more (by omega)⟩, hI⟩)
    clear hI
    go_wp2_with (first | (refine wpList_pts_from rfl (.tmp 25) (.const (.int .i64 1)) rfl (some ⟨b, o, none⟩) _ c 1 w.heap.size (a :: t) (by simp) rfl rfl HSL.out ?_; intro A' n' c' hs'))
    obtain ⟨A2, n2, c2, he2, hln2, hnc2, hA2, hrd2⟩ := hs'
    injection he2 with e1 e2 e3
    subst e1 e2 e3
    rw [List.drop_succ_cons, List.drop_zero] at hln2 hrd2
    subst hln2
    have HRT := Lib.hid hrd2
    clear hrd2 hA2
    go_loopw [28] (fun v wr => BxRel w g5 w.heap.size a t (N + 10) v wr) (fun v _ => t.length - (intOf v).toNat)
    case atStart => exact hst.out
    case round =>
      clear hst
      obtain ⟨k, y, hk, rfl, hyq, hyc, hyl, hI⟩ := hrel
      by_cases hkn : k < t.length
      · have hk1 : (k : Int) < (t.length : Int) := by omega
        have hk2 : 0 ≤ (k : Int) ∧ (k : Int) < (t.length : Int) := by omega
        have hwk : IntKind.i64.wrap ((k : Int) + 1) = (k : Int) + 1 := by rw [IntKind.wrap_i64]; simp only [List.length_cons] at hlen; omega
        obtain ⟨p, hp⟩ : ∃ a, t[k]? = some a := ⟨_, List.getElem?_eq_getElem hkn⟩
        have hpl : p.le (N + 10) := (hl p (List.mem_cons_of_mem _ (List.mem_of_getElem? hp))).more (by omega)
        obtain ⟨b', o', rfl, hb', e0, e1, e2, e3, e4, e5⟩ := Rd.pt HRT.out hp
        have d0 := (hI.bel.cell (p := ⟨b', o' + k * 6, none⟩) hb').trans e0
        have d1 := (hI.bel.cell (p := ⟨b', o' + k * 6 + 1, none⟩) hb').trans e1
        have d2 := (hI.bel.cell (p := ⟨b', o' + k * 6 + 2, none⟩) hb').trans e2
        have d3 := (hI.bel.cell (p := ⟨b', o' + k * 6 + 3, none⟩) hb').trans e3
        have d4 := (hI.bel.cell (p := ⟨b', o' + k * 6 + 4, none⟩) hb').trans e4
        have d5 := (hI.bel.cell (p := ⟨b', o' + k * 6 + 5, none⟩) hb').trans e5
        have hbn : b' < wr.heap.size := Nat.lt_of_lt_of_le hb' hI.bel.size
        obtain ⟨za, qa, ca, la, MA⟩ := minR w HT.out y.a p.x hyl.1 hpl.1
        obtain ⟨zb, qb, cb, lb, MB⟩ := minR w HT.out y.b p.y hyl.2.1 hpl.2
        obtain ⟨zc, qc, cc, lc, MC⟩ := maxR w HT.out y.c p.x hyl.2.2.1 hpl.1
        obtain ⟨zd, qd, cd, ld, MD⟩ := maxR w HT.out y.d p.y hyl.2.2.2 hpl.2
        have htk : t.take (k + 1) = t.take k ++ [p] := by rw [List.take_add_one, hp]; rfl
        have HN := Lib.hid (show ∀ W, In w [(g5, 64, #[.bool za.neg, .string za.num, .string za.den, .bool zb.neg, .string zb.num, .string zb.den, .bool zc.neg, .string zc.num, .string zc.den, .bool zd.neg, .string zd.num, .string zd.den]), (w.heap.size, 64, #[.bool false, .string { data := #[] }, .string { data := #[] }, .bool false, .string { data := #[] }, .string { data := #[] }, .bool false, .string { data := #[] }, .string { data := #[] }, .bool false, .string { data := #[] }, .string { data := #[] }])] W → BxRel w g5 w.heap.size a t (N + 10) (.int .i64 ((k : Int) + 1)) W from fun W hW =>
          ⟨k + 1, ⟨za, zb, zc, zd⟩, hkn, by simp, by
            rw [htk, boxQ_snoc, ← hyq]
            simp only
            rw [qa, qb, qc, qd], ⟨ca, cb, cc, cd⟩, ⟨la.more (by omega), lb.more (by omega), lc.more (by omega), ld.more (by omega)⟩, hW⟩)
        clear hyq hyc htk qa qb qc qd ca cb cc cd la lb lc ld e0 e1 e2 e3 e4 e5 hp
        replace hI := hI.alloc 58 #[.bool p.x.neg, .string p.x.num, .string p.x.den, .bool p.y.neg, .string p.y.num, .string p.y.den]
        obtain ⟨g7, hg7⟩ : ∃ g, g = wr.heap.size := ⟨_, rfl⟩
        go_upto_region 9 with (fail)
        rw [← hg7] at hI ⊢
        generalize World.alloc _ _ = W5 at hI ⊢
        clear hg7 d0 d1 d2 d3 d4 d5 hbn
        refine wp_region_in_tail 14 hI (by kernel_rfl) (by kernel_rfl) ?_
        simp only [List.take_succ_cons, List.take_zero, List.drop_succ_cons, List.drop_zero]
        repeat (first
          | (refine wpSeq_off (by rfl) ?_; try simp only [Act.put, List.setIfInBounds_toArray, List.set_cons_zero, List.set_cons_succ])
          | (refine wpSeq_val (v := ?_) (by rfl) (fun W hS => ?_) ?_
             rotate_left
             · (have fx := hS.facts; simp only [factsOf, cellsOf, Nat.zero_add, Nat.reduceAdd] at fx; clear hS; go_simp; first | done | with_reducible rfl)
             try simp only [Act.put, List.setIfInBounds_toArray, List.set_cons_zero, List.set_cons_succ]))
        refine wpSeq_call (v := .agg #[.bool za.neg, .string za.num, .string za.den]) (by rfl) (fun W hS => ?_) (fun W hS => (MA.out W hS.bel)) ?_
        · (clear hS; go_simp; done)
        try simp only [Act.put, List.setIfInBounds_toArray, List.set_cons_zero, List.set_cons_succ]
        repeat (first
          | (refine wpSeq_off (by rfl) ?_; try simp only [Act.put, List.setIfInBounds_toArray, List.set_cons_zero, List.set_cons_succ])
          | (refine wpSeq_val (v := ?_) (by rfl) (fun W hS => ?_) ?_
             rotate_left
             · (have fx := hS.facts; simp only [factsOf, cellsOf, Nat.zero_add, Nat.reduceAdd] at fx; clear hS; go_simp; first | done | with_reducible rfl)
             try simp only [Act.put, List.setIfInBounds_toArray, List.set_cons_zero, List.set_cons_succ]))
        refine wpSeq_call (v := .agg #[.bool zb.neg, .string zb.num, .string zb.den]) (by rfl) (fun W hS => ?_) (fun W hS => (MB.out W hS.bel)) ?_
        · (clear hS; go_simp; done)
        try simp only [Act.put, List.setIfInBounds_toArray, List.set_cons_zero, List.set_cons_succ]
        repeat (first
          | (refine wpSeq_off (by rfl) ?_; try simp only [Act.put, List.setIfInBounds_toArray, List.set_cons_zero, List.set_cons_succ])
          | (refine wpSeq_val (v := ?_) (by rfl) (fun W hS => ?_) ?_
             rotate_left
             · (have fx := hS.facts; simp only [factsOf, cellsOf, Nat.zero_add, Nat.reduceAdd] at fx; clear hS; go_simp; first | done | with_reducible rfl)
             try simp only [Act.put, List.setIfInBounds_toArray, List.set_cons_zero, List.set_cons_succ]))
        refine wpSeq_nil (fun W hS => ?_)
        have hS1 := (hS.drop (a := [_])).take (a := [_])
        have fx := hS1.facts
        simp only [factsOf, cellsOf, Nat.zero_add, Nat.reduceAdd] at fx
        have hfz := fun i => hS1.free (k := 0) (i := i) rfl
        have HX := Lib.hid (hS.low6 (a := [_]) (.bool za.neg) (.string za.num) (.string za.den) (.bool zb.neg) (.string zb.num) (.string zb.den))
        clear hS1 hS hI
        go_upto_region 10 with (fail)
        have hI : In w (_ :: _ :: _) _ := HX.out
        clear HX fx hfz
        generalize World.setCell _ _ _ = W6 at hI ⊢
        refine wp_region_in_tail 14 hI (by kernel_rfl) (by kernel_rfl) ?_
        simp only [List.take_succ_cons, List.take_zero, List.drop_succ_cons, List.drop_zero]
        repeat (first
          | (refine wpSeq_off (by rfl) ?_; try simp only [Act.put, List.setIfInBounds_toArray, List.set_cons_zero, List.set_cons_succ])
          | (refine wpSeq_val (v := ?_) (by rfl) (fun W hS => ?_) ?_
             rotate_left
             · (have fx := hS.facts; simp only [factsOf, cellsOf, Nat.zero_add, Nat.reduceAdd] at fx; clear hS; go_simp; first | done | with_reducible rfl)
             try simp only [Act.put, List.setIfInBounds_toArray, List.set_cons_zero, List.set_cons_succ]))
        refine wpSeq_call (v := .agg #[.bool zc.neg, .string zc.num, .string zc.den]) (by rfl) (fun W hS => ?_) (fun W hS => (MC.out W hS.bel)) ?_
        · (clear hS; go_simp; done)
        try simp only [Act.put, List.setIfInBounds_toArray, List.set_cons_zero, List.set_cons_succ]
        repeat (first
          | (refine wpSeq_off (by rfl) ?_; try simp only [Act.put, List.setIfInBounds_toArray, List.set_cons_zero, List.set_cons_succ])
          | (refine wpSeq_val (v := ?_) (by rfl) (fun W hS => ?_) ?_
             rotate_left
             · (have fx := hS.facts; simp only [factsOf, cellsOf, Nat.zero_add, Nat.reduceAdd] at fx; clear hS; go_simp; first | done | with_reducible rfl)
             try simp only [Act.put, List.setIfInBounds_toArray, List.set_cons_zero, List.set_cons_succ]))
        refine wpSeq_call (v := .agg #[.bool zd.neg, .string zd.num, .string zd.den]) (by rfl) (fun W hS => ?_) (fun W hS => (MD.out W hS.bel)) ?_
        · (clear hS; go_simp; done)
        try simp only [Act.put, List.setIfInBounds_toArray, List.set_cons_zero, List.set_cons_succ]
        repeat (first
          | (refine wpSeq_off (by rfl) ?_; try simp only [Act.put, List.setIfInBounds_toArray, List.set_cons_zero, List.set_cons_succ])
          | (refine wpSeq_val (v := ?_) (by rfl) (fun W hS => ?_) ?_
             rotate_left
             · (have fx := hS.facts; simp only [factsOf, cellsOf, Nat.zero_add, Nat.reduceAdd] at fx; clear hS; go_simp; first | done | with_reducible rfl)
             try simp only [Act.put, List.setIfInBounds_toArray, List.set_cons_zero, List.set_cons_succ]))
        refine wpSeq_nil (fun W hS => ?_)
        have hS1 := (hS.drop (a := [_])).take (a := [_])
        have fx := hS1.facts
        simp only [factsOf, cellsOf, Nat.zero_add, Nat.reduceAdd] at fx
        have hfz := fun i => hS1.free (k := 0) (i := i) rfl
        have HX := Lib.hid (HN.out _ (In.tail (hS.high6 (a := [_]) (.bool zc.neg) (.string zc.num) (.string zc.den) (.bool zd.neg) (.string zd.num) (.string zd.den))))
        clear hS1 hS hI
        go_wp2_with fail
        go_roundw
        case rel => exact HX.out
        case measure => simp [intOf]; omega
      · obtain rfl : k = t.length := by omega
        have hk1 : ¬ (t.length : Int) < (t.length : Int) := by omega
        have HB := Lib.hid (show BoxIs (a :: t) y from by show _ = boxQ a t; rw [hyq, List.take_length])
        have HYC := Lib.hid hyc
        clear hyq hyc
        have fx := hI.facts
        simp only [factsOf, cellsOf, Nat.zero_add, Nat.reduceAdd] at fx
        have hJ := hI.tail
        clear hI
        have hS0 := hJ.take (a := [_])
        have HK := Lib.hid (hJ.all12 (a := []) (.bool y.a.neg) (.string y.a.num) (.string y.a.den) (.bool y.b.neg) (.string y.b.num) (.string y.b.den) (.bool y.c.neg) (.string y.c.num) (.string y.c.den) (.bool y.d.neg) (.string y.d.num) (.string y.d.den))
        have hfz := fun i => hS0.free (k := 0) (i := i) rfl
        clear hS0 hJ
        go_wp2_with fail
        clear hfz fx
        have hK := HK.out
        clear HK
        generalize World.setCell _ _ _ = W9 at hK ⊢
        refine bodyPost_ret (results_cell_row Tryd.results47 _ _ (w.heap.size) 64 _ (0, 0) _ rfl (hK.blkAt (k := 0) rfl) Tryd.underlying64 rfl (by kernel_rfl)) rfl ?_
        exact ⟨y, rfl, HB.out, HYC.out, hyl, hK.bel⟩
end Go.Proofs.YthmgcbpmfipfiaaDoor
