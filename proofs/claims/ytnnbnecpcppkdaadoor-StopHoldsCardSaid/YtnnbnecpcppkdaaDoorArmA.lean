/- gantmake.rectangle, and what gantmake.arm keeps. Conditions: those typed. -/
import Derived.Test.YtnnbnecpcppkdaaDoorInv
import Derived.Test.YtnnbnecpcppkdaaDoorPolyM
import Derived.Test.YtnnbnecpcppkdaaDoorStopA
namespace Go.Proofs.YtnnbnecpcppkdaaDoor
open Go.RowKit Go.Gy
set_option linter.unusedVariables false
set_option maxRecDepth 100000 in
set_option maxHeartbeats 4000000 in
theorem rect_any (w : World) (x y u v : Int) (hx : -250 ≤ x ∧ x ≤ 250) (hy : -250 ≤ y ∧ y ≤ 250) (hu : -250 ≤ u ∧ u ≤ 250) (hv : -250 ≤ v ∧ v ≤ 250) :
    Calls Tryd.prog 98 #[.int .i64 x, .int .i64 y, .int .i64 u, .int .i64 v] w fun e w' => ∃ (g : Nat) (l : List P2), e = .returned (.slice (some ⟨g, 0, none⟩) 4 4) ∧ PtsOf l [(x, y), (u, y), (u, v), (x, v)] ∧ w.heap.size ≤ g ∧ Blk w' g 30 (l.flatMap encP).toArray ∧ Below w.heap.size w w' := by
  obtain ⟨p1, i1, A1⟩ := atR x y hx hy
  obtain ⟨p2, i2, A2⟩ := atR u y hu hy
  obtain ⟨p3, i3, A3⟩ := atR u v hu hv
  obtain ⟨p4, i4, A4⟩ := atR x v hx hv
  have HP := Lib.hid (show PtsOf [p1, p2, p3, p4] [(x, y), (u, y), (u, v), (x, v)] from ⟨i1, i2, i3, i4, trivial⟩)
  have hI := In.start w
  clear i1 i2 i3 i4
  go_enter Tryd.func98, Tryd.ntmps98
  go_wp2_with fail
  refine (A1.out _).mono ?_
  rintro e wn ⟨rfl, hb⟩
  replace hI := hI.call hb
  clear hb
  go_wp2_with fail
  refine (A2.out _).mono ?_
  rintro e wn ⟨rfl, hb⟩
  replace hI := hI.call hb
  clear hb
  go_wp2_with fail
  refine (A3.out _).mono ?_
  rintro e wn ⟨rfl, hb⟩
  replace hI := hI.call hb
  clear hb
  go_wp2_with fail
  refine (A4.out _).mono ?_
  rintro e wn ⟨rfl, hb⟩
  replace hI := hI.call hb
  clear hb
  have Hs := Lib.hid (Blk.new wn 30 ([p1, p2, p3, p4].flatMap encP).toArray)
  have hge := hI.bel.size
  have hbel := (hI.skip (.cells ([p1, p2, p3, p4].flatMap encP).toArray 30)).bel
  clear hI
  go_wp2
  go_ret
  exact ⟨_, _, rfl, HP.out, hge, Hs.out, hbel⟩
theorem In.mid10 {w W : World} {a b : List (Nat × TypeId × Array Value)} {g : Nat} {t : TypeId} {x0 x1 x2 x3 x4 x5 x6 x7 x8 x9 x10 x11 : Value} (h : In w (a ++ (g, t, #[x0, x1, x2, x3, x4, x5, x6, x7, x8, x9, x10, x11]) :: b) W) (u0 u1 u2 u3 u4 u5 u6 u7 u8 u9 : Value) : In w (a ++ (g, t, #[x0, u0, u1, u2, u3, u4, u5, u6, u7, u8, u9, x11]) :: b) ((((((((((W.setCell ⟨g, 1, none⟩ u0).setCell ⟨g, 2, none⟩ u1).setCell ⟨g, 3, none⟩ u2).setCell ⟨g, 4, none⟩ u3).setCell ⟨g, 5, none⟩ u4).setCell ⟨g, 6, none⟩ u5).setCell ⟨g, 7, none⟩ u6).setCell ⟨g, 8, none⟩ u7).setCell ⟨g, 9, none⟩ u8).setCell ⟨g, 10, none⟩ u9) := by
  replace h : In w (a ++ (g, t, #[x0, u0, x2, x3, x4, x5, x6, x7, x8, x9, x10, x11]) :: b) (W.setCell ⟨g, 1, none⟩ u0) := h.set 1 u0
  replace h : In w (a ++ (g, t, #[x0, u0, u1, x3, x4, x5, x6, x7, x8, x9, x10, x11]) :: b) ((W.setCell ⟨g, 1, none⟩ u0).setCell ⟨g, 2, none⟩ u1) := h.set 2 u1
  replace h : In w (a ++ (g, t, #[x0, u0, u1, u2, x4, x5, x6, x7, x8, x9, x10, x11]) :: b) (((W.setCell ⟨g, 1, none⟩ u0).setCell ⟨g, 2, none⟩ u1).setCell ⟨g, 3, none⟩ u2) := h.set 3 u2
  replace h : In w (a ++ (g, t, #[x0, u0, u1, u2, u3, x5, x6, x7, x8, x9, x10, x11]) :: b) ((((W.setCell ⟨g, 1, none⟩ u0).setCell ⟨g, 2, none⟩ u1).setCell ⟨g, 3, none⟩ u2).setCell ⟨g, 4, none⟩ u3) := h.set 4 u3
  replace h : In w (a ++ (g, t, #[x0, u0, u1, u2, u3, u4, x6, x7, x8, x9, x10, x11]) :: b) (((((W.setCell ⟨g, 1, none⟩ u0).setCell ⟨g, 2, none⟩ u1).setCell ⟨g, 3, none⟩ u2).setCell ⟨g, 4, none⟩ u3).setCell ⟨g, 5, none⟩ u4) := h.set 5 u4
  replace h : In w (a ++ (g, t, #[x0, u0, u1, u2, u3, u4, u5, x7, x8, x9, x10, x11]) :: b) ((((((W.setCell ⟨g, 1, none⟩ u0).setCell ⟨g, 2, none⟩ u1).setCell ⟨g, 3, none⟩ u2).setCell ⟨g, 4, none⟩ u3).setCell ⟨g, 5, none⟩ u4).setCell ⟨g, 6, none⟩ u5) := h.set 6 u5
  replace h : In w (a ++ (g, t, #[x0, u0, u1, u2, u3, u4, u5, u6, x8, x9, x10, x11]) :: b) (((((((W.setCell ⟨g, 1, none⟩ u0).setCell ⟨g, 2, none⟩ u1).setCell ⟨g, 3, none⟩ u2).setCell ⟨g, 4, none⟩ u3).setCell ⟨g, 5, none⟩ u4).setCell ⟨g, 6, none⟩ u5).setCell ⟨g, 7, none⟩ u6) := h.set 7 u6
  replace h : In w (a ++ (g, t, #[x0, u0, u1, u2, u3, u4, u5, u6, u7, x9, x10, x11]) :: b) ((((((((W.setCell ⟨g, 1, none⟩ u0).setCell ⟨g, 2, none⟩ u1).setCell ⟨g, 3, none⟩ u2).setCell ⟨g, 4, none⟩ u3).setCell ⟨g, 5, none⟩ u4).setCell ⟨g, 6, none⟩ u5).setCell ⟨g, 7, none⟩ u6).setCell ⟨g, 8, none⟩ u7) := h.set 8 u7
  replace h : In w (a ++ (g, t, #[x0, u0, u1, u2, u3, u4, u5, u6, u7, u8, x10, x11]) :: b) (((((((((W.setCell ⟨g, 1, none⟩ u0).setCell ⟨g, 2, none⟩ u1).setCell ⟨g, 3, none⟩ u2).setCell ⟨g, 4, none⟩ u3).setCell ⟨g, 5, none⟩ u4).setCell ⟨g, 6, none⟩ u5).setCell ⟨g, 7, none⟩ u6).setCell ⟨g, 8, none⟩ u7).setCell ⟨g, 9, none⟩ u8) := h.set 9 u8
  replace h : In w (a ++ (g, t, #[x0, u0, u1, u2, u3, u4, u5, u6, u7, u8, u9, x11]) :: b) ((((((((((W.setCell ⟨g, 1, none⟩ u0).setCell ⟨g, 2, none⟩ u1).setCell ⟨g, 3, none⟩ u2).setCell ⟨g, 4, none⟩ u3).setCell ⟨g, 5, none⟩ u4).setCell ⟨g, 6, none⟩ u5).setCell ⟨g, 7, none⟩ u6).setCell ⟨g, 8, none⟩ u7).setCell ⟨g, 9, none⟩ u8).setCell ⟨g, 10, none⟩ u9) := h.set 10 u9
  exact h
/-- over w0: the blocks of ls, and the stream at b, which is none of them -/
structure InS (w0 : World) (B b : Nat) (ls : List (Nat × TypeId × Array Value)) (W : World) : Prop extends In w0 ls W where
  st : StrAt W B b
  off : ∀ x ∈ ls, x.1 ≠ b
theorem StrAt.set1 {W : World} {B b g i : Nat} {u : Value} (h : StrAt W B b) (hg : b ≠ g) (hB : B ≤ g) : StrAt (W.setCell ⟨g, i, none⟩ u) B b := by
  obtain ⟨v, l, h1, h2, h3⟩ := h
  refine ⟨v, l, h1.far hg u, ?_, h3⟩
  obtain ⟨A, n, c, e1, e2, e3, e4, e5⟩ := h2
  exact ⟨A, n, c, e1, e2, e3, e4, e5.keep fun c' o hc => World.cell?_setCell_far _ _ _ _ (by show g ≠ c'; omega)⟩
theorem InS.mid10 {w W : World} {B b : Nat} {ls : List (Nat × TypeId × Array Value)} {g : Nat} {t : TypeId} {x0 x1 x2 x3 x4 x5 x6 x7 x8 x9 x10 x11 : Value} (hB : B ≤ g) (h : InS w B b ((g, t, #[x0, x1, x2, x3, x4, x5, x6, x7, x8, x9, x10, x11]) :: ls) W) (u0 u1 u2 u3 u4 u5 u6 u7 u8 u9 : Value) :
    InS w B b ((g, t, #[x0, u0, u1, u2, u3, u4, u5, u6, u7, u8, u9, x11]) :: ls) ((((((((((W.setCell ⟨g, 1, none⟩ u0).setCell ⟨g, 2, none⟩ u1).setCell ⟨g, 3, none⟩ u2).setCell ⟨g, 4, none⟩ u3).setCell ⟨g, 5, none⟩ u4).setCell ⟨g, 6, none⟩ u5).setCell ⟨g, 7, none⟩ u6).setCell ⟨g, 8, none⟩ u7).setCell ⟨g, 9, none⟩ u8).setCell ⟨g, 10, none⟩ u9) := by
  have hg : b ≠ g := fun e => h.off _ List.mem_cons_self e.symm
  refine ⟨In.mid10 (a := []) h.toIn u0 u1 u2 u3 u4 u5 u6 u7 u8 u9, ?_, fun x hx => ?_⟩
  · exact (((((((((h.st.set1 hg hB).set1 hg hB).set1 hg hB).set1 hg hB).set1 hg hB).set1 hg hB).set1 hg hB).set1 hg hB).set1 hg hB).set1 hg hB
  · rcases List.mem_cons.1 hx with rfl | hx
    · exact hg.symm
    · exact h.off x (List.mem_cons_of_mem _ hx)
section
variable {w0 W W' : World} {B b : Nat} {ls : List (Nat × TypeId × Array Value)}
theorem InS.callS (hB : B ≤ b) (h : InS w0 B b ls W) (hb : Below W.heap.size W W') : InS w0 B b ls W' := ⟨h.toIn.call hb, h.st.below hb (by have := h.st.lt; omega), h.off⟩
theorem InS.nextS (hw : w0.heap.size ≤ b) (h : InS w0 B b ls W) (hs : StrAt W' B b) (hg : W.grownBy W' (some b)) : InS w0 B b ls W' := ⟨h.toIn.next hg hw h.off, hs, h.off⟩
theorem InS.allocS (hB : B ≤ b) (h : InS w0 B b ls W) (t : TypeId) (cs : Array Value) : InS w0 B b ((W.heap.size, t, cs) :: ls) (W.alloc (.cells cs t)) :=
  ⟨h.toIn.alloc t cs, h.st.below ((Below.refl _ _).alloc (Nat.le_refl _) _) (by have := h.st.lt; omega), fun x hx => by
    rcases List.mem_cons.1 hx with rfl | hx
    · have := h.st.lt; simp only; omega
    · exact h.off x hx⟩
end
theorem InS.skipS {w0 W : World} {B b : Nat} {ls : List (Nat × TypeId × Array Value)} (hB : B ≤ b) (h : InS w0 B b ls W) (o : Obj) : InS w0 B b ls (W.alloc o) :=
  ⟨h.toIn.skip o, h.st.below ((Below.refl _ _).alloc (Nat.le_refl _) _) (by have := h.st.lt; omega), h.off⟩
theorem wp_region_inS {P : Program} {w0 w : World} {B b : Nat} {ls : List (Nat × TypeId × Array Value)} {id : Nat} {Q : Exit → Act → World → Prop} {a : Act} {l : List Oper} (n : Nat) (F : Nat → Value → World → Prop) (hI : InS w0 B b ls w) (hm : P.follows .mixedOrders = true) (hB : Region.invB .any l.toArray n = true)
    (hstep : ∀ (i : Nat) (o : Oper), i < n → l[i]? = some o → ∀ (vs : Nat → Value) (W : World), InS w0 B b ls W → (∀ e ∈ o.after, Region.binds .any e = true → F e.on (vs e.on) W) →
      Region.wanted o (yielded l.toArray (lexA l vs i a).tmps) = true ∧ StepE P (lexA l vs i a).eval o W (fun v W' => InS w0 B b ls W' ∧ F i v W' ∧ ∀ j u, F j u W → F j u W'))
    (hfin : ∀ (vs : Nat → Value) (W : World), InS w0 B b ls W → (∀ i, i < n → F i (vs i) W) → wpList P l.toArray Q (l.drop n) (lexA l vs n a) W) : (Code.region id l.toArray true).wp P Q a w :=
  wp_region_inv n (InS w0 B b ls) F hm hB ⟨hI.toIn.drew, hI.st, hI.off⟩ hstep hfin
/-- what the operations of 'a.Base = ..' yield -/
def BaseF (n : Int) (b : Nat) (i : Nat) (v : Value) (W : World) : Prop :=
  match i with
  | 0 => v = .int .i64 n
  | 1 => v = .int .i64 (40 * n)
  | 2 => ∃ p : P2, v = .agg #[.bool p.x.neg, .string p.x.num, .string p.x.den, .bool p.y.neg, .string p.y.num, .string p.y.den] ∧ PtIs p (40 * n) 0
  | 3 => ∃ g, v = .slice (some ⟨g, 0, none⟩) 4 4 ∧ Blk W g 3 #[.int .i64 0, .int .i64 1, .int .i64 (-1), .int .i64 1] ∧ g ≠ b
  | 4 => v = .pointer (some ⟨b, 0, none⟩)
  | 5 => ∃ r : Nat, v = .int .i64 (r : Int) ∧ r < 4
  | 6 => ∃ g r, v = .pointer (some ⟨g, r, none⟩) ∧ Blk W g 3 #[.int .i64 0, .int .i64 1, .int .i64 (-1), .int .i64 1] ∧ g ≠ b ∧ r < 4
  | 7 => ∃ x : Int, v = .int .i64 x ∧ -1 ≤ x ∧ x ≤ 1
  | 8 => v = .pointer (some ⟨b, 0, none⟩)
  | 9 => ∃ r : Int, v = .int .i64 r ∧ 0 ≤ r ∧ r < 3
  | 10 => ∃ d : Nat, v = .int .i64 (d : Int) ∧ 1 ≤ d ∧ d ≤ 3
  | 11 => ∃ z : Q3, v = .agg #[.bool z.neg, .string z.num, .string z.den] ∧ z.can ∧ z.le 1
  | 12 => ∃ z : Q3, v = .agg #[.bool false, .bool z.neg, .string z.num, .string z.den] ∧ z.can ∧ z.le 1
  | 13 => ∃ (p : P2) (z : Q3), v = .agg #[.bool p.x.neg, .string p.x.num, .string p.x.den, .bool p.y.neg, .string p.y.num, .string p.y.den, .bool false, .bool z.neg, .string z.num, .string z.den] ∧ PtIs p (40 * n) 0 ∧ z.can ∧ z.le 1
  | _ => True
theorem BaseF.keep {n : Int} {b : Nat} {W W' : World} (h : ∀ (g : Nat) (t : TypeId) (cs : Array Value), g ≠ b → Blk W g t cs → Blk W' g t cs) : ∀ j u, BaseF n b j u W → BaseF n b j u W' := by
  intro j u hF
  rcases j with _ | _ | _ | _ | _ | _ | _ | _ | _ | _ | _ | _ | _ | _ | j
  all_goals try exact hF
  · obtain ⟨g, h1, h2, h3⟩ := hF; exact ⟨g, h1, h g _ _ h3 h2, h3⟩
  · obtain ⟨g, r, h1, h2, h3⟩ := hF; exact ⟨g, r, h1, h g _ _ h3.1 h2, h3⟩
theorem BaseF.below {n : Int} {b : Nat} {W W' : World} (hb : Below W.heap.size W W') : ∀ j u, BaseF n b j u W → BaseF n b j u W' := BaseF.keep fun g t cs _ hk => hk.below hb hk.lt
theorem BaseF.next {n : Int} {b : Nat} {W W' : World} (hg : W.grownBy W' (some b)) : ∀ j u, BaseF n b j u W → BaseF n b j u W' := BaseF.keep fun g t cs hne hk => by
  obtain ⟨_, _, _, _, g5⟩ := hg
  exact (g5 g hk.lt (fun e => hne (Option.some.inj e))).trans hk
set_option maxRecDepth 100000 in
theorem info_link : (Tryd.prog.info? 28).map (fun i => (i.zero, i.size, i.bytes)) = some (some (.agg #[.bool false, .string { data := #[] }, .string { data := #[] }, .bool false, .string { data := #[] }, .string { data := #[] }, .bool false, .string { data := #[] }, .string { data := #[] }, .bool false, .string { data := #[] }, .string { data := #[] }, .bool false, .string { data := #[] }, .string { data := #[] }, .slice none 0 0]), 16, 224) := by kernel_rfl
/-- a link that gantmake.arm makes; its shape stands at lo or above -/
def LinkIs (lo : Nat) (k : Lk) (W : World) : Prop := ∃ (c a e d f : Int) (g : Nat) (l : List P2) (zs : List (Int × Int)), (0 ≤ c ∧ c ≤ 3) ∧ (0 ≤ a ∧ a ≤ 5) ∧ (0 ≤ e ∧ e ≤ 5) ∧ (0 ≤ d ∧ d ≤ 7) ∧ (0 ≤ f ∧ f ≤ 19) ∧
  (k.len.q = mkRat (4 + 2 * c) 4 ∧ k.low.q = mkRat (-1 - a) 3 ∧ k.high.q = mkRat (1 + e) 3 ∧ k.speed.q = mkRat 1 (4 + d).toNat ∧ k.brake.q = mkRat 1 (10 + f).toNat) ∧ (k.len.can ∧ k.low.can ∧ k.high.can ∧ k.speed.can ∧ k.brake.can) ∧ (k.len.le 1 ∧ k.low.le 1 ∧ k.high.le 1 ∧ k.speed.le 1 ∧ k.brake.le 1) ∧
  k.shape = .slice (some ⟨g, 0, none⟩) l.length l.length ∧ lo ≤ g ∧ Blk W g 30 (l.flatMap encP).toArray ∧ PtsOf l zs ∧
  (zs = [(-1, -1), (4 + 2 * c + 1, -1), (4 + 2 * c + 1, 1), (-1, 1)] ∨ zs = [(-1, -1), (4 + 2 * c + 1, 0), (-1, 1)])
theorem LinkIs.keep {lo : Nat} {k : Lk} {W W' : World} (h : LinkIs lo k W) (hk : ∀ (g : Nat) (cs : Array Value), lo ≤ g → Blk W g 30 cs → Blk W' g 30 cs) : LinkIs lo k W' := by
  obtain ⟨c, a, e, d, f, g, l, zs, h1, h2, h3, h4, h5, h6, h7, h8, h9, h10, h11, h12⟩ := h
  exact ⟨c, a, e, d, f, g, l, zs, h1, h2, h3, h4, h5, h6, h7, h8, h9, h10, hk g _ h10 h11, h12⟩
theorem own_nextA {w w' : World} {base b : Nat} {e : TypeId} {size n : Nat} {v : Value} {xs : List Value} (h : w.ownsRow base e size v n xs) (hb : b < base) (hg : w.grownBy w' (some b)) : w'.ownsRow base e size v n xs :=
  h.kept hg (by
    cases hv : v.ownBlock with
    | none => exact .inl rfl
    | some g =>
      right
      intro he
      injection he with he
      have := (h.lt g hv).1
      omega)
theorem of_link (n : Int) (D : Nat) (hn : n.natAbs ≤ 255) (h1 : 0 < D) (h2 : D ≤ 255) : ∃ z : Q3, z.q = mkRat n D ∧ z.can ∧ z.le 1 ∧ ∀ w, Calls Tryd.prog 62 #[.int .i64 n, .int .i64 D] w fun e w' => e = .returned (.agg #[.bool z.neg, .string z.num, .string z.den]) ∧ Below w.heap.size w w' := by
  have hz : qz (mkRat n D) ≤ 1 := by
    refine Nat.le_trans (qz_mk _ _) ?_
    have h1 := (natL_len_le n.natAbs 1).mpr (by omega)
    have h2 := (natL_len_le D 1).mpr (by omega)
    omega
  obtain ⟨z, q1, c1, l1⟩ := tri (mkRat n D) 1 hz
  refine ⟨z, q1, c1, l1, fun w => ?_⟩
  have hO := makeOf_any w n D h1 (by omega) (by omega)
  rw [← q1, c1.qv] at hO
  exact hO
/-- InS, and ks links in an own row v that starts at lo or above -/
structure InL (w0 : World) (B b lo : Nat) (v : Value) (ks : List Lk) (ls : List (Nat × TypeId × Array Value)) (W : World) : Prop extends InS w0 B b ls W where
  own : W.ownsRow lo 28 16 v ks.length (ks.flatMap encK)
  lk : ∀ k ∈ ks, LinkIs lo k W
  lo1 : lo ≤ W.heap.size
  lob : b < lo
  oa : ∀ x ∈ ls, v.ownBlock ≠ some x.1
theorem LinkIs.below {lo : Nat} {k : Lk} {W W' : World} (h : LinkIs lo k W) (hb : Below W.heap.size W W') : LinkIs lo k W' := h.keep fun g cs _ hk => hk.below hb hk.lt
theorem LinkIs.next {lo b : Nat} {k : Lk} {W W' : World} (h : LinkIs lo k W) (hl : b < lo) (hg : W.grownBy W' (some b)) : LinkIs lo k W' := h.keep fun g cs hge hk => by
  obtain ⟨_, _, _, _, g5⟩ := hg
  exact (g5 g hk.lt (fun e => by have := Option.some.inj e; omega)).trans hk
section
variable {w0 W W' : World} {B b lo : Nat} {v : Value} {ks : List Lk} {ls : List (Nat × TypeId × Array Value)}
theorem InL.call (hB : B ≤ b) (h : InL w0 B b lo v ks ls W) (hb : Below W.heap.size W W') : InL w0 B b lo v ks ls W' :=
  ⟨h.toInS.callS hB hb, own_below h.own hb (Nat.le_refl _), fun k hk => (h.lk k hk).below hb, Nat.le_trans h.lo1 hb.size, h.lob, h.oa⟩
theorem InL.next (hw : w0.heap.size ≤ b) (h : InL w0 B b lo v ks ls W) (hs : StrAt W' B b) (hg : W.grownBy W' (some b)) : InL w0 B b lo v ks ls W' :=
  ⟨h.toInS.nextS hw hs hg, own_nextA h.own h.lob hg, fun k hk => (h.lk k hk).next h.lob hg, by have := h.lo1; obtain ⟨_, _, _, g4, _⟩ := hg; omega, h.lob, h.oa⟩
theorem InL.alloc (hB : B ≤ b) (h : InL w0 B b lo v ks ls W) (t : TypeId) (cs : Array Value) : InL w0 B b lo v ks ((W.heap.size, t, cs) :: ls) (W.alloc (.cells cs t)) :=
  ⟨h.toInS.allocS hB t cs, h.own.alloc _, fun k hk => (h.lk k hk).below ((Below.refl _ _).alloc (Nat.le_refl _) _), by have := h.lo1; rw [World.size_alloc]; omega, h.lob, fun x hx => by
    rcases List.mem_cons.1 hx with rfl | hx
    · intro e
      have := (h.own.lt _ e).2
      simp only at this; omega
    · exact h.oa x hx⟩
theorem InL.skip (hB : B ≤ b) (h : InL w0 B b lo v ks ls W) (o : Obj) : InL w0 B b lo v ks ls (W.alloc o) :=
  ⟨h.toInS.skipS hB o, h.own.alloc _, fun k hk => (h.lk k hk).below ((Below.refl _ _).alloc (Nat.le_refl _) _), by have := h.lo1; rw [World.size_alloc]; omega, h.lob, h.oa⟩
end
theorem grown_set (W : World) (g i : Nat) (u : Value) : W.grownBy (W.setCell ⟨g, i, none⟩ u) (some g) := by
  exact ⟨rfl, rfl, rfl, (by rw [World.size_setCell]; exact Nat.le_refl _), fun k _ hk => Below.heap_setCell _ _ _ k (fun e => hk (by rw [e]))⟩
theorem InL.set0 {w0 W : World} {B b lo g : Nat} {t : TypeId} {cs : Array Value} {v : Value} {ks : List Lk} {ls : List (Nat × TypeId × Array Value)} (hB : B ≤ g) (ht : t ≠ 30) (h : InL w0 B b lo v ks ((g, t, cs) :: ls) W) (i : Nat) (u : Value) :
    InL w0 B b lo v ks ((g, t, cs.setIfInBounds i u) :: ls) (W.setCell ⟨g, i, none⟩ u) := by
  have hbg : b ≠ g := fun e => h.off _ List.mem_cons_self e.symm
  have hbk := h.blk _ List.mem_cons_self
  refine ⟨⟨In.set (a := []) h.toIn i u, h.st.set1 hbg hB, fun x hx => ?_⟩, h.own.kept (grown_set W g i u) (.inr (h.oa _ List.mem_cons_self)), fun k hk => (h.lk k hk).keep fun g' cs' _ hk' => hk'.far (fun e => ?_) u, by rw [World.size_setCell]; exact h.lo1, h.lob, fun x hx => ?_⟩
  · rcases List.mem_cons.1 hx with rfl | hx
    · exact h.off (g, t, cs) List.mem_cons_self
    · exact h.off x (List.mem_cons_of_mem _ hx)
  · subst e
    have := hk'.symm.trans hbk
    injection this with this
    injection this with _ h2
    exact ht h2.symm
  · rcases List.mem_cons.1 hx with rfl | hx
    · exact h.oa (g, t, cs) List.mem_cons_self
    · exact h.oa x (List.mem_cons_of_mem _ hx)
theorem InL.tail {w0 W : World} {B b lo : Nat} {v : Value} {ks : List Lk} {x : Nat × TypeId × Array Value} {ls : List (Nat × TypeId × Array Value)} (h : InL w0 B b lo v ks (x :: ls) W) : InL w0 B b lo v ks ls W :=
  ⟨⟨h.toIn.tail, h.st, fun y hy => h.off y (List.mem_cons_of_mem _ hy)⟩, h.own, h.lk, h.lo1, h.lob, fun y hy => h.oa y (List.mem_cons_of_mem _ hy)⟩
theorem StrAt.belowL {W W' : World} {B b lo : Nat} (h : StrAt W B b) (hb : Below lo W W') (hl : b < lo) (hB : B ≤ lo) : StrAt W' B b := by
  obtain ⟨v, l, h1, h2, h3⟩ := h
  exact ⟨v, l, h1.below hb hl, h2.below (hb.mono hB), h3⟩
theorem own_type {w : World} {base g n size : Nat} {e : TypeId} {v : Value} {xs : List Value} (h : w.ownsRow base e size v n xs) (hg : v.ownBlock = some g) {t : TypeId} {cs : Array Value} (hk : Blk w g t cs) : t = e := by
  obtain ⟨hl, ⟨hv, _⟩ | ⟨g', cap', cur, hv, _, hh, _⟩⟩ := h
  · subst hv; cases hg
  · subst hv
    injection hg with hg
    subst hg
    have := hk.symm.trans hh
    injection this with this
    injection this with _ h2
theorem InL.push {w0 W W' : World} {B b lo : Nat} {v v' : Value} {ks : List Lk} {ls : List (Nat × TypeId × Array Value)} {k : Lk} {n : Nat} (hB : B ≤ b) (h : InL w0 B b lo v ks ls W) (hk : LinkIs lo k W) (hlt : ∀ x ∈ ls, x.1 < lo) (hw : w0.heap.size ≤ lo)
    (hn : W'.ownsRow lo 28 16 v' n (ks.flatMap encK ++ encK k)) (hnk : n = (ks ++ [k]).length) (hb : Below lo W W') (hg : W.grownBy W' v.ownBlock) : InL w0 B b lo v' (ks ++ [k]) ls W' := by
  have keep : ∀ k', LinkIs lo k' W → LinkIs lo k' W' := fun k' hk' => hk'.keep fun g cs hge hbk => by
    obtain ⟨_, _, _, _, g5⟩ := hg
    refine (g5 g hbk.lt (fun e => ?_)).trans hbk
    have := own_type h.own e.symm hbk
    exact absurd this (by decide)
  refine ⟨⟨h.toIn.callB hb hw hlt, h.st.belowL hb h.lob (by have := h.lob; omega), h.off⟩, ?_, ?_, Nat.le_trans h.lo1 hb.size, h.lob, fun x hx e => ?_⟩
  · rw [← hnk, List.flatMap_append]
    simpa using hn
  · intro k' hk'
    rcases List.mem_append.1 hk' with hk' | hk'
    · exact keep k' (h.lk k' hk')
    · rcases List.mem_cons.1 hk' with rfl | hk'
      · exact keep k' hk
      · cases hk'
  · have h1 := (hn.lt _ e).1
    have h2 := hlt x hx
    omega
theorem grown_trans2 {W W1 W2 : World} {g : Nat} (h : W.grownBy W1 (some g)) (h2 : W1.grownBy W2 (some g)) : W.grownBy W2 (some g) := by
  obtain ⟨a1, a2, a3, a4, a5⟩ := h
  obtain ⟨b1, b2, b3, b4, b5⟩ := h2
  exact ⟨b1.trans a1, b2.trans a2, b3.trans a3, Nat.le_trans a4 b4, fun k hk hne => (b5 k (Nat.lt_of_lt_of_le hk a4) hne).trans (a5 k hk hne)⟩
theorem grown12 (W : World) (g : Nat) (u0 u1 u2 u3 u4 u5 u6 u7 u8 u9 u10 u11 : Value) : W.grownBy ((((((((((((W.setCell ⟨g, 0, none⟩ u0).setCell ⟨g, 1, none⟩ u1).setCell ⟨g, 2, none⟩ u2).setCell ⟨g, 3, none⟩ u3).setCell ⟨g, 4, none⟩ u4).setCell ⟨g, 5, none⟩ u5).setCell ⟨g, 6, none⟩ u6).setCell ⟨g, 7, none⟩ u7).setCell ⟨g, 8, none⟩ u8).setCell ⟨g, 9, none⟩ u9).setCell ⟨g, 10, none⟩ u10).setCell ⟨g, 11, none⟩ u11) (some g) := by
  refine grown_trans2 ?_ (grown_set _ g 11 u11)
  refine grown_trans2 ?_ (grown_set _ g 10 u10)
  refine grown_trans2 ?_ (grown_set _ g 9 u9)
  refine grown_trans2 ?_ (grown_set _ g 8 u8)
  refine grown_trans2 ?_ (grown_set _ g 7 u7)
  refine grown_trans2 ?_ (grown_set _ g 6 u6)
  refine grown_trans2 ?_ (grown_set _ g 5 u5)
  refine grown_trans2 ?_ (grown_set _ g 4 u4)
  refine grown_trans2 ?_ (grown_set _ g 3 u3)
  refine grown_trans2 ?_ (grown_set _ g 2 u2)
  refine grown_trans2 ?_ (grown_set _ g 1 u1)
  exact grown_set W g 0 u0
theorem InL.all12 {w0 W : World} {B b lo g : Nat} {t : TypeId} {x0 x1 x2 x3 x4 x5 x6 x7 x8 x9 x10 x11 : Value} {v : Value} {ks : List Lk} {ls : List (Nat × TypeId × Array Value)} (hB : B ≤ g) (ht : t ≠ 30) (h : InL w0 B b lo v ks ((g, t, #[x0, x1, x2, x3, x4, x5, x6, x7, x8, x9, x10, x11]) :: ls) W) (u0 u1 u2 u3 u4 u5 u6 u7 u8 u9 u10 u11 : Value) :
    InL w0 B b lo v ks ((g, t, #[u0, u1, u2, u3, u4, u5, u6, u7, u8, u9, u10, u11]) :: ls) ((((((((((((W.setCell ⟨g, 0, none⟩ u0).setCell ⟨g, 1, none⟩ u1).setCell ⟨g, 2, none⟩ u2).setCell ⟨g, 3, none⟩ u3).setCell ⟨g, 4, none⟩ u4).setCell ⟨g, 5, none⟩ u5).setCell ⟨g, 6, none⟩ u6).setCell ⟨g, 7, none⟩ u7).setCell ⟨g, 8, none⟩ u8).setCell ⟨g, 9, none⟩ u9).setCell ⟨g, 10, none⟩ u10).setCell ⟨g, 11, none⟩ u11) := by
  have hbg : b ≠ g := fun e => h.off _ List.mem_cons_self e.symm
  have hbk := h.blk _ List.mem_cons_self
  refine ⟨⟨In.all12 (a := []) h.toIn u0 u1 u2 u3 u4 u5 u6 u7 u8 u9 u10 u11, ?_, fun x hx => ?_⟩, h.own.kept (grown12 W g u0 u1 u2 u3 u4 u5 u6 u7 u8 u9 u10 u11) (.inr (h.oa _ List.mem_cons_self)), fun k hk => (h.lk k hk).keep fun g' cs' _ hk' => ?_, by simp only [World.size_setCell]; exact h.lo1, h.lob, fun x hx => ?_⟩
  · exact ((((((((((((h.st.set1 hbg hB).set1 hbg hB).set1 hbg hB).set1 hbg hB).set1 hbg hB).set1 hbg hB).set1 hbg hB).set1 hbg hB).set1 hbg hB).set1 hbg hB).set1 hbg hB).set1 hbg hB)
  · rcases List.mem_cons.1 hx with rfl | hx
    · exact hbg.symm
    · exact h.off x (List.mem_cons_of_mem _ hx)
  · obtain ⟨_, _, _, _, g5⟩ := grown12 W g u0 u1 u2 u3 u4 u5 u6 u7 u8 u9 u10 u11
    refine (g5 g' hk'.lt (fun e => ?_)).trans hk'
    injection e with e
    subst e
    have := hk'.symm.trans hbk
    injection this with this
    injection this with _ h2
    exact ht h2.symm
  · rcases List.mem_cons.1 hx with rfl | hx
    · exact h.oa (g, t, #[x0, x1, x2, x3, x4, x5, x6, x7, x8, x9, x10, x11]) List.mem_cons_self
    · exact h.oa x (List.mem_cons_of_mem _ hx)
theorem PtsOf.len2 : ∀ {l : List P2} {zs : List (Int × Int)}, PtsOf l zs → l.length = zs.length
  | [], [], _ => rfl
  | _ :: _, _ :: _, h => by rw [List.length_cons, List.length_cons, PtsOf.len2 h.2]
  | [], _ :: _, h => False.elim h
  | _ :: _, [], h => False.elim h
end Go.Proofs.YtnnbnecpcppkdaaDoor
