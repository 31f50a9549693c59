/- gantmake.rectangle, and what gantmake.arm keeps. gantmake.arm. gantmake.Arm. Conditions: those typed. -/
import Derived.Test.YtnnbnecpcppkdaaDoorInv
import Derived.Test.YtnnbnecpcppkdaaDoorPolyM
import Derived.Test.YtnnbnecpcppkdaaDoorStopA
import Derived.Test.YtnnbnecpcppkdaaDoorArmChk
namespace Go.Proofs.YtnnbnecpcppkdaaDoor
open Go.RowKit Go.Gy
set_option linter.unusedVariables false
set_option maxRecDepth 100000 in
set_option maxHeartbeats 4000000 in
theorem rect_any (w : World) (x y u v : Int) (hx : -250 ≤ x ∧ x ≤ 250) (hy : -250 ≤ y ∧ y ≤ 250) (hu : -250 ≤ u ∧ u ≤ 250) (hv : -250 ≤ v ∧ v ≤ 250) :
    Calls Tryd.prog 98 #[.int .i64 x, .int .i64 y, .int .i64 u, .int .i64 v] w fun e w' => ∃ (g : Nat) (l : List P2), e = .returned (.slice (some ⟨g, 0, none⟩) 4 4) ∧ PtsOf l [(x, y), (u, y), (u, v), (x, v)] ∧ w.heap.size ≤ g ∧ Blk w' g 30 (l.flatMap encP).toArray ∧ Below w.heap.size w w' := by
  obtain ⟨p1, i1, A1⟩ := atR x y hx hy
  obtain ⟨p2, i2, A2⟩ := atR u y hu hy
  obtain ⟨p3, i3, A3⟩ := atR u v hu hv
  obtain ⟨p4, i4, A4⟩ := atR x v hx hv
  have HP := Lib.hid (show PtsOf [p1, p2, p3, p4] [(x, y), (u, y), (u, v), (x, v)] from ⟨i1, i2, i3, i4, trivial⟩)
  have hI := In.start w
  clear i1 i2 i3 i4
  go_enter Tryd.func98, Tryd.ntmps98
  go_wp2_with fail
  refine (A1.out _).mono ?_
  rintro e wn ⟨rfl, hb⟩
  replace hI := hI.call hb
  clear hb
  go_wp2_with fail
  refine (A2.out _).mono ?_
  rintro e wn ⟨rfl, hb⟩
  replace hI := hI.call hb
  clear hb
  go_wp2_with fail
  refine (A3.out _).mono ?_
  rintro e wn ⟨rfl, hb⟩
  replace hI := hI.call hb
  clear hb
  go_wp2_with fail
  refine (A4.out _).mono ?_
  rintro e wn ⟨rfl, hb⟩
  replace hI := hI.call hb
  clear hb
  have Hs := Lib.hid (Blk.new wn 30 ([p1, p2, p3, p4].flatMap encP).toArray)
  have hge := hI.bel.size
  have hbel := (hI.skip (.cells ([p1, p2, p3, p4].flatMap encP).toArray 30)).bel
  clear hI
  go_wp2
  go_ret
  exact ⟨_, _, rfl, HP.out, hge, Hs.out, hbel⟩
theorem In.mid10 {w W : World} {a b : List (Nat × TypeId × Array Value)} {g : Nat} {t : TypeId} {x0 x1 x2 x3 x4 x5 x6 x7 x8 x9 x10 x11 : Value} (h : In w (a ++ (g, t, #[x0, x1, x2, x3, x4, x5, x6, x7, x8, x9, x10, x11]) :: b) W) (u0 u1 u2 u3 u4 u5 u6 u7 u8 u9 : Value) : In w (a ++ (g, t, #[x0, u0, u1, u2, u3, u4, u5, u6, u7, u8, u9, x11]) :: b) ((((((((((W.setCell ⟨g, 1, none⟩ u0).setCell ⟨g, 2, none⟩ u1).setCell ⟨g, 3, none⟩ u2).setCell ⟨g, 4, none⟩ u3).setCell ⟨g, 5, none⟩ u4).setCell ⟨g, 6, none⟩ u5).setCell ⟨g, 7, none⟩ u6).setCell ⟨g, 8, none⟩ u7).setCell ⟨g, 9, none⟩ u8).setCell ⟨g, 10, none⟩ u9) := by
  replace h : In w (a ++ (g, t, #[x0, u0, x2, x3, x4, x5, x6, x7, x8, x9, x10, x11]) :: b) (W.setCell ⟨g, 1, none⟩ u0) := h.set 1 u0
  replace h : In w (a ++ (g, t, #[x0, u0, u1, x3, x4, x5, x6, x7, x8, x9, x10, x11]) :: b) ((W.setCell ⟨g, 1, none⟩ u0).setCell ⟨g, 2, none⟩ u1) := h.set 2 u1
  replace h : In w (a ++ (g, t, #[x0, u0, u1, u2, x4, x5, x6, x7, x8, x9, x10, x11]) :: b) (((W.setCell ⟨g, 1, none⟩ u0).setCell ⟨g, 2, none⟩ u1).setCell ⟨g, 3, none⟩ u2) := h.set 3 u2
  replace h : In w (a ++ (g, t, #[x0, u0, u1, u2, u3, x5, x6, x7, x8, x9, x10, x11]) :: b) ((((W.setCell ⟨g, 1, none⟩ u0).setCell ⟨g, 2, none⟩ u1).setCell ⟨g, 3, none⟩ u2).setCell ⟨g, 4, none⟩ u3) := h.set 4 u3
  replace h : In w (a ++ (g, t, #[x0, u0, u1, u2, u3, u4, x6, x7, x8, x9, x10, x11]) :: b) (((((W.setCell ⟨g, 1, none⟩ u0).setCell ⟨g, 2, none⟩ u1).setCell ⟨g, 3, none⟩ u2).setCell ⟨g, 4, none⟩ u3).setCell ⟨g, 5, none⟩ u4) := h.set 5 u4
  replace h : In w (a ++ (g, t, #[x0, u0, u1, u2, u3, u4, u5, x7, x8, x9, x10, x11]) :: b) ((((((W.setCell ⟨g, 1, none⟩ u0).setCell ⟨g, 2, none⟩ u1).setCell ⟨g, 3, none⟩ u2).setCell ⟨g, 4, none⟩ u3).setCell ⟨g, 5, none⟩ u4).setCell ⟨g, 6, none⟩ u5) := h.set 6 u5
  replace h : In w (a ++ (g, t, #[x0, u0, u1, u2, u3, u4, u5, u6, x8, x9, x10, x11]) :: b) (((((((W.setCell ⟨g, 1, none⟩ u0).setCell ⟨g, 2, none⟩ u1).setCell ⟨g, 3, none⟩ u2).setCell ⟨g, 4, none⟩ u3).setCell ⟨g, 5, none⟩ u4).setCell ⟨g, 6, none⟩ u5).setCell ⟨g, 7, none⟩ u6) := h.set 7 u6
  replace h : In w (a ++ (g, t, #[x0, u0, u1, u2, u3, u4, u5, u6, u7, x9, x10, x11]) :: b) ((((((((W.setCell ⟨g, 1, none⟩ u0).setCell ⟨g, 2, none⟩ u1).setCell ⟨g, 3, none⟩ u2).setCell ⟨g, 4, none⟩ u3).setCell ⟨g, 5, none⟩ u4).setCell ⟨g, 6, none⟩ u5).setCell ⟨g, 7, none⟩ u6).setCell ⟨g, 8, none⟩ u7) := h.set 8 u7
  replace h : In w (a ++ (g, t, #[x0, u0, u1, u2, u3, u4, u5, u6, u7, u8, x10, x11]) :: b) (((((((((W.setCell ⟨g, 1, none⟩ u0).setCell ⟨g, 2, none⟩ u1).setCell ⟨g, 3, none⟩ u2).setCell ⟨g, 4, none⟩ u3).setCell ⟨g, 5, none⟩ u4).setCell ⟨g, 6, none⟩ u5).setCell ⟨g, 7, none⟩ u6).setCell ⟨g, 8, none⟩ u7).setCell ⟨g, 9, none⟩ u8) := h.set 9 u8
  replace h : In w (a ++ (g, t, #[x0, u0, u1, u2, u3, u4, u5, u6, u7, u8, u9, x11]) :: b) ((((((((((W.setCell ⟨g, 1, none⟩ u0).setCell ⟨g, 2, none⟩ u1).setCell ⟨g, 3, none⟩ u2).setCell ⟨g, 4, none⟩ u3).setCell ⟨g, 5, none⟩ u4).setCell ⟨g, 6, none⟩ u5).setCell ⟨g, 7, none⟩ u6).setCell ⟨g, 8, none⟩ u7).setCell ⟨g, 9, none⟩ u8).setCell ⟨g, 10, none⟩ u9) := h.set 10 u9
  exact h
/-- over w0: the blocks of ls, and the stream at b, which is none of them -/
structure InS (w0 : World) (B b : Nat) (ls : List (Nat × TypeId × Array Value)) (W : World) : Prop extends In w0 ls W where
  st : StrAt W B b
  off : ∀ x ∈ ls, x.1 ≠ b
theorem StrAt.set1 {W : World} {B b g i : Nat} {u : Value} (h : StrAt W B b) (hg : b ≠ g) (hB : B ≤ g) : StrAt (W.setCell ⟨g, i, none⟩ u) B b := by
  obtain ⟨v, l, h1, h2, h3⟩ := h
  refine ⟨v, l, h1.far hg u, ?_, h3⟩
  obtain ⟨A, n, c, e1, e2, e3, e4, e5⟩ := h2
  exact ⟨A, n, c, e1, e2, e3, e4, e5.keep fun c' o hc => World.cell?_setCell_far _ _ _ _ (by show g ≠ c'; omega)⟩
theorem InS.mid10 {w W : World} {B b : Nat} {ls : List (Nat × TypeId × Array Value)} {g : Nat} {t : TypeId} {x0 x1 x2 x3 x4 x5 x6 x7 x8 x9 x10 x11 : Value} (hB : B ≤ g) (h : InS w B b ((g, t, #[x0, x1, x2, x3, x4, x5, x6, x7, x8, x9, x10, x11]) :: ls) W) (u0 u1 u2 u3 u4 u5 u6 u7 u8 u9 : Value) :
    InS w B b ((g, t, #[x0, u0, u1, u2, u3, u4, u5, u6, u7, u8, u9, x11]) :: ls) ((((((((((W.setCell ⟨g, 1, none⟩ u0).setCell ⟨g, 2, none⟩ u1).setCell ⟨g, 3, none⟩ u2).setCell ⟨g, 4, none⟩ u3).setCell ⟨g, 5, none⟩ u4).setCell ⟨g, 6, none⟩ u5).setCell ⟨g, 7, none⟩ u6).setCell ⟨g, 8, none⟩ u7).setCell ⟨g, 9, none⟩ u8).setCell ⟨g, 10, none⟩ u9) := by
  have hg : b ≠ g := fun e => h.off _ List.mem_cons_self e.symm
  refine ⟨In.mid10 (a := []) h.toIn u0 u1 u2 u3 u4 u5 u6 u7 u8 u9, ?_, fun x hx => ?_⟩
  · exact (((((((((h.st.set1 hg hB).set1 hg hB).set1 hg hB).set1 hg hB).set1 hg hB).set1 hg hB).set1 hg hB).set1 hg hB).set1 hg hB).set1 hg hB
  · rcases List.mem_cons.1 hx with rfl | hx
    · exact hg.symm
    · exact h.off x (List.mem_cons_of_mem _ hx)
section
variable {w0 W W' : World} {B b : Nat} {ls : List (Nat × TypeId × Array Value)}
theorem InS.callS (hB : B ≤ b) (h : InS w0 B b ls W) (hb : Below W.heap.size W W') : InS w0 B b ls W' := ⟨h.toIn.call hb, h.st.below hb (by have := h.st.lt; omega), h.off⟩
theorem InS.nextS (hw : w0.heap.size ≤ b) (h : InS w0 B b ls W) (hs : StrAt W' B b) (hg : W.grownBy W' (some b)) : InS w0 B b ls W' := ⟨h.toIn.next hg hw h.off, hs, h.off⟩
theorem InS.allocS (hB : B ≤ b) (h : InS w0 B b ls W) (t : TypeId) (cs : Array Value) : InS w0 B b ((W.heap.size, t, cs) :: ls) (W.alloc (.cells cs t)) :=
  ⟨h.toIn.alloc t cs, h.st.below ((Below.refl _ _).alloc (Nat.le_refl _) _) (by have := h.st.lt; omega), fun x hx => by
    rcases List.mem_cons.1 hx with rfl | hx
    · have := h.st.lt; simp only; omega
    · exact h.off x hx⟩
end
theorem InS.skipS {w0 W : World} {B b : Nat} {ls : List (Nat × TypeId × Array Value)} (hB : B ≤ b) (h : InS w0 B b ls W) (o : Obj) : InS w0 B b ls (W.alloc o) :=
  ⟨h.toIn.skip o, h.st.below ((Below.refl _ _).alloc (Nat.le_refl _) _) (by have := h.st.lt; omega), h.off⟩
theorem wp_region_inS {P : Program} {w0 w : World} {B b : Nat} {ls : List (Nat × TypeId × Array Value)} {id : Nat} {Q : Exit → Act → World → Prop} {a : Act} {l : List Oper} (n : Nat) (F : Nat → Value → World → Prop) (hI : InS w0 B b ls w) (hm : P.follows .mixedOrders = true) (hB : Region.invB .any l.toArray n = true)
    (hstep : ∀ (i : Nat) (o : Oper), i < n → l[i]? = some o → ∀ (vs : Nat → Value) (W : World), InS w0 B b ls W → (∀ e ∈ o.after, Region.binds .any e = true → F e.on (vs e.on) W) →
      Region.wanted o (yielded l.toArray (lexA l vs i a).tmps) = true ∧ StepE P (lexA l vs i a).eval o W (fun v W' => InS w0 B b ls W' ∧ F i v W' ∧ ∀ j u, F j u W → F j u W'))
    (hfin : ∀ (vs : Nat → Value) (W : World), InS w0 B b ls W → (∀ i, i < n → F i (vs i) W) → wpList P l.toArray Q (l.drop n) (lexA l vs n a) W) : (Code.region id l.toArray true).wp P Q a w :=
  wp_region_inv n (InS w0 B b ls) F hm hB ⟨hI.toIn.drew, hI.st, hI.off⟩ hstep hfin
/-- what the operations of 'a.Base = ..' yield -/
def BaseF (n : Int) (b : Nat) (i : Nat) (v : Value) (W : World) : Prop :=
  match i with
  | 0 => v = .int .i64 n
  | 1 => v = .int .i64 (40 * n)
  | 2 => ∃ p : P2, v = .agg #[.bool p.x.neg, .string p.x.num, .string p.x.den, .bool p.y.neg, .string p.y.num, .string p.y.den] ∧ PtIs p (40 * n) 0
  | 3 => ∃ g, v = .slice (some ⟨g, 0, none⟩) 4 4 ∧ Blk W g 3 #[.int .i64 0, .int .i64 1, .int .i64 (-1), .int .i64 1] ∧ g ≠ b
  | 4 => v = .pointer (some ⟨b, 0, none⟩)
  | 5 => ∃ r : Nat, v = .int .i64 (r : Int) ∧ r < 4
  | 6 => ∃ g r, v = .pointer (some ⟨g, r, none⟩) ∧ Blk W g 3 #[.int .i64 0, .int .i64 1, .int .i64 (-1), .int .i64 1] ∧ g ≠ b ∧ r < 4
  | 7 => ∃ x : Int, v = .int .i64 x ∧ -1 ≤ x ∧ x ≤ 1
  | 8 => v = .pointer (some ⟨b, 0, none⟩)
  | 9 => ∃ r : Int, v = .int .i64 r ∧ 0 ≤ r ∧ r < 3
  | 10 => ∃ d : Nat, v = .int .i64 (d : Int) ∧ 1 ≤ d ∧ d ≤ 3
  | 11 => ∃ z : Q3, v = .agg #[.bool z.neg, .string z.num, .string z.den] ∧ z.can ∧ z.le 1
  | 12 => ∃ z : Q3, v = .agg #[.bool false, .bool z.neg, .string z.num, .string z.den] ∧ z.can ∧ z.le 1
  | 13 => ∃ (p : P2) (z : Q3), v = .agg #[.bool p.x.neg, .string p.x.num, .string p.x.den, .bool p.y.neg, .string p.y.num, .string p.y.den, .bool false, .bool z.neg, .string z.num, .string z.den] ∧ PtIs p (40 * n) 0 ∧ z.can ∧ z.le 1
  | _ => True
theorem BaseF.keep {n : Int} {b : Nat} {W W' : World} (h : ∀ (g : Nat) (t : TypeId) (cs : Array Value), g ≠ b → Blk W g t cs → Blk W' g t cs) : ∀ j u, BaseF n b j u W → BaseF n b j u W' := by
  intro j u hF
  rcases j with _ | _ | _ | _ | _ | _ | _ | _ | _ | _ | _ | _ | _ | _ | j
  all_goals try exact hF
  · obtain ⟨g, h1, h2, h3⟩ := hF; exact ⟨g, h1, h g _ _ h3 h2, h3⟩
  · obtain ⟨g, r, h1, h2, h3⟩ := hF; exact ⟨g, r, h1, h g _ _ h3.1 h2, h3⟩
theorem BaseF.below {n : Int} {b : Nat} {W W' : World} (hb : Below W.heap.size W W') : ∀ j u, BaseF n b j u W → BaseF n b j u W' := BaseF.keep fun g t cs _ hk => hk.below hb hk.lt
theorem BaseF.next {n : Int} {b : Nat} {W W' : World} (hg : W.grownBy W' (some b)) : ∀ j u, BaseF n b j u W → BaseF n b j u W' := BaseF.keep fun g t cs hne hk => by
  obtain ⟨_, _, _, _, g5⟩ := hg
  exact (g5 g hk.lt (fun e => hne (Option.some.inj e))).trans hk
set_option maxRecDepth 100000 in
theorem info_link : (Tryd.prog.info? 28).map (fun i => (i.zero, i.size, i.bytes)) = some (some (.agg #[.bool false, .string { data := #[] }, .string { data := #[] }, .bool false, .string { data := #[] }, .string { data := #[] }, .bool false, .string { data := #[] }, .string { data := #[] }, .bool false, .string { data := #[] }, .string { data := #[] }, .bool false, .string { data := #[] }, .string { data := #[] }, .slice none 0 0]), 16, 224) := by kernel_rfl
/-- a link that gantmake.arm makes; its shape stands at lo or above -/
def LinkIs (lo : Nat) (k : Lk) (W : World) : Prop := ∃ (c a e d f : Int) (g : Nat) (l : List P2) (zs : List (Int × Int)), (0 ≤ c ∧ c ≤ 3) ∧ (0 ≤ a ∧ a ≤ 5) ∧ (0 ≤ e ∧ e ≤ 5) ∧ (0 ≤ d ∧ d ≤ 7) ∧ (0 ≤ f ∧ f ≤ 19) ∧
  (k.len.q = mkRat (4 + 2 * c) 4 ∧ k.low.q = mkRat (-1 - a) 3 ∧ k.high.q = mkRat (1 + e) 3 ∧ k.speed.q = mkRat 1 (4 + d).toNat ∧ k.brake.q = mkRat 1 (10 + f).toNat) ∧ (k.len.can ∧ k.low.can ∧ k.high.can ∧ k.speed.can ∧ k.brake.can) ∧ (k.len.le 1 ∧ k.low.le 1 ∧ k.high.le 1 ∧ k.speed.le 1 ∧ k.brake.le 1) ∧
  k.shape = .slice (some ⟨g, 0, none⟩) l.length l.length ∧ lo ≤ g ∧ Blk W g 30 (l.flatMap encP).toArray ∧ PtsOf l zs ∧
  (zs = [(-1, -1), (4 + 2 * c + 1, -1), (4 + 2 * c + 1, 1), (-1, 1)] ∨ zs = [(-1, -1), (4 + 2 * c + 1, 0), (-1, 1)])
theorem LinkIs.keep {lo : Nat} {k : Lk} {W W' : World} (h : LinkIs lo k W) (hk : ∀ (g : Nat) (cs : Array Value), lo ≤ g → Blk W g 30 cs → Blk W' g 30 cs) : LinkIs lo k W' := by
  obtain ⟨c, a, e, d, f, g, l, zs, h1, h2, h3, h4, h5, h6, h7, h8, h9, h10, h11, h12⟩ := h
  exact ⟨c, a, e, d, f, g, l, zs, h1, h2, h3, h4, h5, h6, h7, h8, h9, h10, hk g _ h10 h11, h12⟩
theorem own_nextA {w w' : World} {base b : Nat} {e : TypeId} {size n : Nat} {v : Value} {xs : List Value} (h : w.ownsRow base e size v n xs) (hb : b < base) (hg : w.grownBy w' (some b)) : w'.ownsRow base e size v n xs :=
  h.kept hg (by
    cases hv : v.ownBlock with
    | none => exact .inl rfl
    | some g =>
      right
      intro he
      injection he with he
      have := (h.lt g hv).1
      omega)
theorem of_link (n : Int) (D : Nat) (hn : n.natAbs ≤ 255) (h1 : 0 < D) (h2 : D ≤ 255) : ∃ z : Q3, z.q = mkRat n D ∧ z.can ∧ z.le 1 ∧ ∀ w, Calls Tryd.prog 62 #[.int .i64 n, .int .i64 D] w fun e w' => e = .returned (.agg #[.bool z.neg, .string z.num, .string z.den]) ∧ Below w.heap.size w w' := by
  have hz : qz (mkRat n D) ≤ 1 := by
    refine Nat.le_trans (qz_mk _ _) ?_
    have h1 := (natL_len_le n.natAbs 1).mpr (by omega)
    have h2 := (natL_len_le D 1).mpr (by omega)
    omega
  obtain ⟨z, q1, c1, l1⟩ := tri (mkRat n D) 1 hz
  refine ⟨z, q1, c1, l1, fun w => ?_⟩
  have hO := makeOf_any w n D h1 (by omega) (by omega)
  rw [← q1, c1.qv] at hO
  exact hO
/-- InS, and ks links in an own row v that starts at lo or above -/
structure InL (w0 : World) (B b lo : Nat) (v : Value) (ks : List Lk) (ls : List (Nat × TypeId × Array Value)) (W : World) : Prop extends InS w0 B b ls W where
  own : W.ownsRow lo 28 16 v ks.length (ks.flatMap encK)
  lk : ∀ k ∈ ks, LinkIs lo k W
  lo1 : lo ≤ W.heap.size
  lob : b < lo
  oa : ∀ x ∈ ls, v.ownBlock ≠ some x.1
theorem LinkIs.below {lo : Nat} {k : Lk} {W W' : World} (h : LinkIs lo k W) (hb : Below W.heap.size W W') : LinkIs lo k W' := h.keep fun g cs _ hk => hk.below hb hk.lt
theorem LinkIs.next {lo b : Nat} {k : Lk} {W W' : World} (h : LinkIs lo k W) (hl : b < lo) (hg : W.grownBy W' (some b)) : LinkIs lo k W' := h.keep fun g cs hge hk => by
  obtain ⟨_, _, _, _, g5⟩ := hg
  exact (g5 g hk.lt (fun e => by have := Option.some.inj e; omega)).trans hk
section
variable {w0 W W' : World} {B b lo : Nat} {v : Value} {ks : List Lk} {ls : List (Nat × TypeId × Array Value)}
theorem InL.call (hB : B ≤ b) (h : InL w0 B b lo v ks ls W) (hb : Below W.heap.size W W') : InL w0 B b lo v ks ls W' :=
  ⟨h.toInS.callS hB hb, own_below h.own hb (Nat.le_refl _), fun k hk => (h.lk k hk).below hb, Nat.le_trans h.lo1 hb.size, h.lob, h.oa⟩
theorem InL.next (hw : w0.heap.size ≤ b) (h : InL w0 B b lo v ks ls W) (hs : StrAt W' B b) (hg : W.grownBy W' (some b)) : InL w0 B b lo v ks ls W' :=
  ⟨h.toInS.nextS hw hs hg, own_nextA h.own h.lob hg, fun k hk => (h.lk k hk).next h.lob hg, by have := h.lo1; obtain ⟨_, _, _, g4, _⟩ := hg; omega, h.lob, h.oa⟩
theorem InL.alloc (hB : B ≤ b) (h : InL w0 B b lo v ks ls W) (t : TypeId) (cs : Array Value) : InL w0 B b lo v ks ((W.heap.size, t, cs) :: ls) (W.alloc (.cells cs t)) :=
  ⟨h.toInS.allocS hB t cs, h.own.alloc _, fun k hk => (h.lk k hk).below ((Below.refl _ _).alloc (Nat.le_refl _) _), by have := h.lo1; rw [World.size_alloc]; omega, h.lob, fun x hx => by
    rcases List.mem_cons.1 hx with rfl | hx
    · intro e
      have := (h.own.lt _ e).2
      simp only at this; omega
    · exact h.oa x hx⟩
theorem InL.skip (hB : B ≤ b) (h : InL w0 B b lo v ks ls W) (o : Obj) : InL w0 B b lo v ks ls (W.alloc o) :=
  ⟨h.toInS.skipS hB o, h.own.alloc _, fun k hk => (h.lk k hk).below ((Below.refl _ _).alloc (Nat.le_refl _) _), by have := h.lo1; rw [World.size_alloc]; omega, h.lob, h.oa⟩
end
theorem grown_set (W : World) (g i : Nat) (u : Value) : W.grownBy (W.setCell ⟨g, i, none⟩ u) (some g) := by
  exact ⟨rfl, rfl, rfl, (by rw [World.size_setCell]; exact Nat.le_refl _), fun k _ hk => Below.heap_setCell _ _ _ k (fun e => hk (by rw [e]))⟩
theorem InL.set0 {w0 W : World} {B b lo g : Nat} {t : TypeId} {cs : Array Value} {v : Value} {ks : List Lk} {ls : List (Nat × TypeId × Array Value)} (hB : B ≤ g) (ht : t ≠ 30) (h : InL w0 B b lo v ks ((g, t, cs) :: ls) W) (i : Nat) (u : Value) :
    InL w0 B b lo v ks ((g, t, cs.setIfInBounds i u) :: ls) (W.setCell ⟨g, i, none⟩ u) := by
  have hbg : b ≠ g := fun e => h.off _ List.mem_cons_self e.symm
  have hbk := h.blk _ List.mem_cons_self
  refine ⟨⟨In.set (a := []) h.toIn i u, h.st.set1 hbg hB, fun x hx => ?_⟩, h.own.kept (grown_set W g i u) (.inr (h.oa _ List.mem_cons_self)), fun k hk => (h.lk k hk).keep fun g' cs' _ hk' => hk'.far (fun e => ?_) u, by rw [World.size_setCell]; exact h.lo1, h.lob, fun x hx => ?_⟩
  · rcases List.mem_cons.1 hx with rfl | hx
    · exact h.off (g, t, cs) List.mem_cons_self
    · exact h.off x (List.mem_cons_of_mem _ hx)
  · subst e
    have := hk'.symm.trans hbk
    injection this with this
    injection this with _ h2
    exact ht h2.symm
  · rcases List.mem_cons.1 hx with rfl | hx
    · exact h.oa (g, t, cs) List.mem_cons_self
    · exact h.oa x (List.mem_cons_of_mem _ hx)
theorem InL.tail {w0 W : World} {B b lo : Nat} {v : Value} {ks : List Lk} {x : Nat × TypeId × Array Value} {ls : List (Nat × TypeId × Array Value)} (h : InL w0 B b lo v ks (x :: ls) W) : InL w0 B b lo v ks ls W :=
  ⟨⟨h.toIn.tail, h.st, fun y hy => h.off y (List.mem_cons_of_mem _ hy)⟩, h.own, h.lk, h.lo1, h.lob, fun y hy => h.oa y (List.mem_cons_of_mem _ hy)⟩
theorem StrAt.belowL {W W' : World} {B b lo : Nat} (h : StrAt W B b) (hb : Below lo W W') (hl : b < lo) (hB : B ≤ lo) : StrAt W' B b := by
  obtain ⟨v, l, h1, h2, h3⟩ := h
  exact ⟨v, l, h1.below hb hl, h2.below (hb.mono hB), h3⟩
theorem own_type {w : World} {base g n size : Nat} {e : TypeId} {v : Value} {xs : List Value} (h : w.ownsRow base e size v n xs) (hg : v.ownBlock = some g) {t : TypeId} {cs : Array Value} (hk : Blk w g t cs) : t = e := by
  obtain ⟨hl, ⟨hv, _⟩ | ⟨g', cap', cur, hv, _, hh, _⟩⟩ := h
  · subst hv; cases hg
  · subst hv
    injection hg with hg
    subst hg
    have := hk.symm.trans hh
    injection this with this
    injection this with _ h2
theorem InL.push {w0 W W' : World} {B b lo : Nat} {v v' : Value} {ks : List Lk} {ls : List (Nat × TypeId × Array Value)} {k : Lk} {n : Nat} (hB : B ≤ b) (h : InL w0 B b lo v ks ls W) (hk : LinkIs lo k W) (hlt : ∀ x ∈ ls, x.1 < lo) (hw : w0.heap.size ≤ lo)
    (hn : W'.ownsRow lo 28 16 v' n (ks.flatMap encK ++ encK k)) (hnk : n = (ks ++ [k]).length) (hb : Below lo W W') (hg : W.grownBy W' v.ownBlock) : InL w0 B b lo v' (ks ++ [k]) ls W' := by
  have keep : ∀ k', LinkIs lo k' W → LinkIs lo k' W' := fun k' hk' => hk'.keep fun g cs hge hbk => by
    obtain ⟨_, _, _, _, g5⟩ := hg
    refine (g5 g hbk.lt (fun e => ?_)).trans hbk
    have := own_type h.own e.symm hbk
    exact absurd this (by decide)
  refine ⟨⟨h.toIn.callB hb hw hlt, h.st.belowL hb h.lob (by have := h.lob; omega), h.off⟩, ?_, ?_, Nat.le_trans h.lo1 hb.size, h.lob, fun x hx e => ?_⟩
  · rw [← hnk, List.flatMap_append]
    simpa using hn
  · intro k' hk'
    rcases List.mem_append.1 hk' with hk' | hk'
    · exact keep k' (h.lk k' hk')
    · rcases List.mem_cons.1 hk' with rfl | hk'
      · exact keep k' hk
      · cases hk'
  · have h1 := (hn.lt _ e).1
    have h2 := hlt x hx
    omega
theorem grown_trans2 {W W1 W2 : World} {g : Nat} (h : W.grownBy W1 (some g)) (h2 : W1.grownBy W2 (some g)) : W.grownBy W2 (some g) := by
  obtain ⟨a1, a2, a3, a4, a5⟩ := h
  obtain ⟨b1, b2, b3, b4, b5⟩ := h2
  exact ⟨b1.trans a1, b2.trans a2, b3.trans a3, Nat.le_trans a4 b4, fun k hk hne => (b5 k (Nat.lt_of_lt_of_le hk a4) hne).trans (a5 k hk hne)⟩
theorem grown12 (W : World) (g : Nat) (u0 u1 u2 u3 u4 u5 u6 u7 u8 u9 u10 u11 : Value) : W.grownBy ((((((((((((W.setCell ⟨g, 0, none⟩ u0).setCell ⟨g, 1, none⟩ u1).setCell ⟨g, 2, none⟩ u2).setCell ⟨g, 3, none⟩ u3).setCell ⟨g, 4, none⟩ u4).setCell ⟨g, 5, none⟩ u5).setCell ⟨g, 6, none⟩ u6).setCell ⟨g, 7, none⟩ u7).setCell ⟨g, 8, none⟩ u8).setCell ⟨g, 9, none⟩ u9).setCell ⟨g, 10, none⟩ u10).setCell ⟨g, 11, none⟩ u11) (some g) := by
  refine grown_trans2 ?_ (grown_set _ g 11 u11)
  refine grown_trans2 ?_ (grown_set _ g 10 u10)
  refine grown_trans2 ?_ (grown_set _ g 9 u9)
  refine grown_trans2 ?_ (grown_set _ g 8 u8)
  refine grown_trans2 ?_ (grown_set _ g 7 u7)
  refine grown_trans2 ?_ (grown_set _ g 6 u6)
  refine grown_trans2 ?_ (grown_set _ g 5 u5)
  refine grown_trans2 ?_ (grown_set _ g 4 u4)
  refine grown_trans2 ?_ (grown_set _ g 3 u3)
  refine grown_trans2 ?_ (grown_set _ g 2 u2)
  refine grown_trans2 ?_ (grown_set _ g 1 u1)
  exact grown_set W g 0 u0
theorem InL.all12 {w0 W : World} {B b lo g : Nat} {t : TypeId} {x0 x1 x2 x3 x4 x5 x6 x7 x8 x9 x10 x11 : Value} {v : Value} {ks : List Lk} {ls : List (Nat × TypeId × Array Value)} (hB : B ≤ g) (ht : t ≠ 30) (h : InL w0 B b lo v ks ((g, t, #[x0, x1, x2, x3, x4, x5, x6, x7, x8, x9, x10, x11]) :: ls) W) (u0 u1 u2 u3 u4 u5 u6 u7 u8 u9 u10 u11 : Value) :
    InL w0 B b lo v ks ((g, t, #[u0, u1, u2, u3, u4, u5, u6, u7, u8, u9, u10, u11]) :: ls) ((((((((((((W.setCell ⟨g, 0, none⟩ u0).setCell ⟨g, 1, none⟩ u1).setCell ⟨g, 2, none⟩ u2).setCell ⟨g, 3, none⟩ u3).setCell ⟨g, 4, none⟩ u4).setCell ⟨g, 5, none⟩ u5).setCell ⟨g, 6, none⟩ u6).setCell ⟨g, 7, none⟩ u7).setCell ⟨g, 8, none⟩ u8).setCell ⟨g, 9, none⟩ u9).setCell ⟨g, 10, none⟩ u10).setCell ⟨g, 11, none⟩ u11) := by
  have hbg : b ≠ g := fun e => h.off _ List.mem_cons_self e.symm
  have hbk := h.blk _ List.mem_cons_self
  refine ⟨⟨In.all12 (a := []) h.toIn u0 u1 u2 u3 u4 u5 u6 u7 u8 u9 u10 u11, ?_, fun x hx => ?_⟩, h.own.kept (grown12 W g u0 u1 u2 u3 u4 u5 u6 u7 u8 u9 u10 u11) (.inr (h.oa _ List.mem_cons_self)), fun k hk => (h.lk k hk).keep fun g' cs' _ hk' => ?_, by simp only [World.size_setCell]; exact h.lo1, h.lob, fun x hx => ?_⟩
  · exact ((((((((((((h.st.set1 hbg hB).set1 hbg hB).set1 hbg hB).set1 hbg hB).set1 hbg hB).set1 hbg hB).set1 hbg hB).set1 hbg hB).set1 hbg hB).set1 hbg hB).set1 hbg hB).set1 hbg hB)
  · rcases List.mem_cons.1 hx with rfl | hx
    · exact hbg.symm
    · exact h.off x (List.mem_cons_of_mem _ hx)
  · obtain ⟨_, _, _, _, g5⟩ := grown12 W g u0 u1 u2 u3 u4 u5 u6 u7 u8 u9 u10 u11
    refine (g5 g' hk'.lt (fun e => ?_)).trans hk'
    injection e with e
    subst e
    have := hk'.symm.trans hbk
    injection this with this
    injection this with _ h2
    exact ht h2.symm
  · rcases List.mem_cons.1 hx with rfl | hx
    · exact h.oa (g, t, #[x0, x1, x2, x3, x4, x5, x6, x7, x8, x9, x10, x11]) List.mem_cons_self
    · exact h.oa x (List.mem_cons_of_mem _ hx)
theorem PtsOf.len2 : ∀ {l : List P2} {zs : List (Int × Int)}, PtsOf l zs → l.length = zs.length
  | [], [], _ => rfl
  | _ :: _, _ :: _, h => by rw [List.length_cons, List.length_cons, PtsOf.len2 h.2]
  | [], _ :: _, h => False.elim h
  | _ :: _, [], h => False.elim h
end Go.Proofs.YtnnbnecpcppkdaaDoor
namespace Go.Proofs.YtnnbnecpcppkdaaDoor
open Go.RowKit Go.Gy
set_option linter.unusedVariables false
/-- the loop: k links are made, their row is v -/
def ArRel (w0 : World) (B b g4 gs g5 : Nat) (names : Array Value) (p : P2) (z : Q3) (m : Int) (i : Value) (wr : World) : Prop :=
  ∃ (ks : List Lk) (v : Value), (ks.length : Int) ≤ m ∧ i = .int .i64 ks.length ∧ 
    InL w0 B b (g5 + 1) v ks [(g5, 37, #[.string { data := #[111, 110, 101] }, .bool p.x.neg, .string p.x.num, .string p.x.den, .bool p.y.neg, .string p.y.num, .string p.y.den, .bool false, .bool z.neg, .string z.num, .string z.den, v]), (gs, 9, names), (g4, 37, #[.string { data := #[] }, .bool false, .string { data := #[] }, .string { data := #[] }, .bool false, .string { data := #[] }, .string { data := #[] }, .bool false, .bool false, .string { data := #[] }, .string { data := #[] }, .slice none 0 0])] wr
def ArmPost (w0 : World) (B b : Nat) (e : Ending) (w' : World) : Prop := ∃ (p : P2) (z : Q3) (v : Value) (ks : List Lk) (lo : Nat),
  e = .returned (.agg #[.string { data := #[111, 110, 101] }, .bool p.x.neg, .string p.x.num, .string p.x.den, .bool p.y.neg, .string p.y.num, .string p.y.den, .bool false, .bool z.neg, .string z.num, .string z.den, v]) ∧ PtIs p 0 0 ∧ (z.can ∧ z.le 1) ∧ (1 ≤ ks.length ∧ ks.length ≤ 3) ∧ w0.heap.size ≤ lo ∧ InL w0 B b lo v ks [] w'
set_option maxRecDepth 100000 in
set_option maxHeartbeats 8000000 in
theorem arm_any (w0 w : World) (B b : Nat) (h0 : InS w0 B b [] w) (hB : B ≤ b) (hw : w0.heap.size ≤ b) :
    Calls Tryd.prog 64 #[.pointer (some ⟨b, 0, none⟩), .int .i64 0] w (ArmPost w0 B b) := by
  have h1 := h0.allocS hB 37 #[.string { data := #[] }, .bool false, .string { data := #[] }, .string { data := #[] }, .bool false, .string { data := #[] }, .string { data := #[] }, .bool false, .bool false, .string { data := #[] }, .string { data := #[] }, .slice none 0 0]
  have h2 := h1.allocS hB 9 #[.string { data := #[111, 110, 101] }, .string { data := #[116, 119, 111] }, .string { data := #[116, 104, 114, 101, 101] }, .string { data := #[102, 111, 117, 114] }]
  have h3 := h2.allocS hB 37 #[.string { data := #[111, 110, 101] }, .bool false, .string { data := #[] }, .string { data := #[] }, .bool false, .string { data := #[] }, .string { data := #[] }, .bool false, .bool false, .string { data := #[] }, .string { data := #[] }, .slice none 0 0]
  rw [World.size_alloc, World.size_alloc] at h3
  have hb0 := h0.st.lt
  have hw3 : w0.heap.size ≤ w.heap.size + 1 + 1 + 1 := by have := h0.toIn.bel.size; omega
  clear h1 h2 h0
  go_enter Tryd.func64, Tryd.ntmps64
  go_upto_region 2 with (fail)
  generalize World.alloc _ _ = W1 at h3 ⊢
  refine wp_region_inS 14 (BaseF 0 b) h3 (by kernel_rfl) (by kernel_rfl) ?_ ?_
  · intro i o hi ho vs W hI hdep
    rcases i with _ | _ | _ | _ | _ | _ | _ | _ | _ | _ | _ | _ | _ | _ | i
    all_goals first | omega | skip
    all_goals (simp only [List.getElem?_cons_succ, List.getElem?_cons_zero, Option.some.injEq] at ho; subst ho)
    · refine ⟨rfl, .inl ⟨.int .i64 0, W, ?_, hI, rfl, fun j u h => h⟩⟩
      unfold lexA
      simp only [putAll, preI, Nat.reduceLT, Nat.reduceAdd, decide_false, Bool.false_eq_true, if_false]
      go_simp
    · have d0 : vs 0 = .int .i64 0 := hdep ⟨0, .data⟩ (by simp) rfl
      have hw0 : IntKind.i64.wrap 0 = 0 := by decide
      refine ⟨rfl, .inl ⟨.int .i64 0, W, ?_, hI, rfl, fun j u h => h⟩⟩
      unfold lexA
      simp only [putAll, preI, Nat.reduceLT, Nat.reduceAdd, decide_true, decide_false, Bool.false_eq_true, if_true, if_false, Act.put, List.setIfInBounds_toArray, List.set_cons_zero, List.set_cons_succ]
      go_simp
    · have d1 : vs 1 = .int .i64 0 := hdep ⟨1, .data⟩ (by simp) rfl
      obtain ⟨p, hp, A⟩ := atR 0 0 (by omega) (by omega)
      refine ⟨rfl, .inr ⟨_, _, ?_, (A.out W).mono fun e W' ⟨he, hb⟩ => ⟨_, he, hI.callS hB hb, ⟨p, rfl, hp⟩, BaseF.below hb⟩⟩⟩
      unfold lexA
      simp only [putAll, preI, Nat.reduceLT, Nat.reduceAdd, decide_true, decide_false, Bool.false_eq_true, if_true, if_false, Act.put, List.setIfInBounds_toArray, List.set_cons_zero, List.set_cons_succ]
      go_simp
    · refine ⟨rfl, .inl ⟨.slice (some ⟨W.heap.size, 0, none⟩) 4 4, W.alloc (.cells #[.int .i64 0, .int .i64 1, .int .i64 (-1), .int .i64 1] 3), ?_, hI.skipS hB _, ⟨W.heap.size, rfl, Blk.new _ _ _, by have := hI.st.lt; omega⟩, BaseF.below ((Below.refl _ _).alloc (Nat.le_refl _) _)⟩⟩
      unfold lexA
      simp only [putAll, preI, Nat.reduceLT, Nat.reduceAdd, decide_true, decide_false, Bool.false_eq_true, if_true, if_false, Act.put, List.setIfInBounds_toArray, List.set_cons_zero, List.set_cons_succ]
      go_simp
    · refine ⟨rfl, .inl ⟨.pointer (some ⟨b, 0, none⟩), W, ?_, hI, rfl, fun j u h => h⟩⟩
      unfold lexA
      simp only [putAll, preI, Nat.reduceLT, Nat.reduceAdd, decide_true, decide_false, Bool.false_eq_true, if_true, if_false, Act.put, List.setIfInBounds_toArray, List.set_cons_zero, List.set_cons_succ]
      go_simp
    · have d4 : vs 4 = .pointer (some ⟨b, 0, none⟩) := hdep ⟨4, .data⟩ (by simp) rfl
      refine ⟨rfl, .inr ⟨_, _, ?_, (next_any W B b 4 hI.st hB (by decide) (by decide)).mono fun e W' ⟨r, he, r0, r1, hst, hg, _⟩ => ⟨_, he, hI.nextS hw hst hg, ⟨r.toNat, by rw [Int.toNat_of_nonneg r0], by omega⟩, BaseF.next hg⟩⟩⟩
      unfold lexA
      simp only [putAll, preI, Nat.reduceLT, Nat.reduceAdd, decide_true, decide_false, Bool.false_eq_true, if_true, if_false, Act.put, List.setIfInBounds_toArray, List.set_cons_zero, List.set_cons_succ]
      go_simp
    · obtain ⟨g, d3, hk, hne⟩ : ∃ g, vs 3 = .slice (some ⟨g, 0, none⟩) 4 4 ∧ Blk W g 3 #[.int .i64 0, .int .i64 1, .int .i64 (-1), .int .i64 1] ∧ g ≠ b := hdep ⟨3, .data⟩ (by simp) rfl
      obtain ⟨r, d5, hr⟩ : ∃ r : Nat, vs 5 = .int .i64 (r : Int) ∧ r < 4 := hdep ⟨5, .data⟩ (by simp) rfl
      have hr2 : 0 ≤ (r : Int) ∧ (r : Int) < 4 := by omega
      have hr3 : (r : Int) < 4 := by omega
      refine ⟨rfl, .inl ⟨.pointer (some ⟨g, r, none⟩), W, ?_, hI, ⟨g, r, rfl, hk, hne, hr⟩, fun j u h => h⟩⟩
      clear hk
      unfold lexA
      simp only [putAll, preI, Nat.reduceLT, Nat.reduceAdd, decide_true, decide_false, Bool.false_eq_true, if_true, if_false, Act.put, List.setIfInBounds_toArray, List.set_cons_zero, List.set_cons_succ]
      go_simp
    · obtain ⟨g, r, d6, hk, hne, hr⟩ : ∃ g r, vs 6 = .pointer (some ⟨g, r, none⟩) ∧ Blk W g 3 #[.int .i64 0, .int .i64 1, .int .i64 (-1), .int .i64 1] ∧ g ≠ b ∧ r < 4 := hdep ⟨6, .data⟩ (by simp) rfl
      obtain ⟨x, hx, hx1⟩ : ∃ x : Int, W.cell? ⟨g, r, none⟩ = some (.int .i64 x) ∧ -1 ≤ x ∧ x ≤ 1 := by
        rcases r with _ | _ | _ | _ | r
        · exact ⟨0, hk.cell 0 _ rfl, by decide, by decide⟩
        · exact ⟨1, hk.cell 1 _ rfl, by decide, by decide⟩
        · exact ⟨-1, hk.cell 2 _ rfl, by decide, by decide⟩
        · exact ⟨1, hk.cell 3 _ rfl, by decide, by decide⟩
        · omega
      refine ⟨rfl, .inl ⟨.int .i64 x, W, ?_, hI, ⟨x, rfl, hx1⟩, fun j u h => h⟩⟩
      clear hk
      unfold lexA
      simp only [putAll, preI, Nat.reduceLT, Nat.reduceAdd, decide_true, decide_false, Bool.false_eq_true, if_true, if_false, Act.put, List.setIfInBounds_toArray, List.set_cons_zero, List.set_cons_succ]
      go_simp
    · refine ⟨rfl, .inl ⟨.pointer (some ⟨b, 0, none⟩), W, ?_, hI, rfl, fun j u h => h⟩⟩
      unfold lexA
      simp only [putAll, preI, Nat.reduceLT, Nat.reduceAdd, decide_true, decide_false, Bool.false_eq_true, if_true, if_false, Act.put, List.setIfInBounds_toArray, List.set_cons_zero, List.set_cons_succ]
      go_simp
    · have d8 : vs 8 = .pointer (some ⟨b, 0, none⟩) := hdep ⟨8, .data⟩ (by simp) rfl
      refine ⟨rfl, .inr ⟨_, _, ?_, (next_any W B b 3 hI.st hB (by decide) (by decide)).mono fun e W' ⟨r, he, r0, r1, hst, hg, _⟩ => ⟨_, he, hI.nextS hw hst hg, ⟨r, rfl, r0, r1⟩, BaseF.next hg⟩⟩⟩
      unfold lexA
      simp only [putAll, preI, Nat.reduceLT, Nat.reduceAdd, decide_true, decide_false, Bool.false_eq_true, if_true, if_false, Act.put, List.setIfInBounds_toArray, List.set_cons_zero, List.set_cons_succ]
      go_simp
    · obtain ⟨r, d9, r0, r1⟩ : ∃ r : Int, vs 9 = .int .i64 r ∧ 0 ≤ r ∧ r < 3 := hdep ⟨9, .data⟩ (by simp) rfl
      obtain ⟨d, hd⟩ : ∃ d : Nat, 1 + r = d := ⟨(1 + r).toNat, by omega⟩
      have hwr : IntKind.i64.wrap (1 + r) = (d : Int) := by rw [IntKind.wrap_i64]; omega
      refine ⟨rfl, .inl ⟨.int .i64 (d : Int), W, ?_, hI, ⟨d, rfl, by omega, by omega⟩, fun j u h => h⟩⟩
      clear hd
      unfold lexA
      simp only [putAll, preI, Nat.reduceLT, Nat.reduceAdd, decide_true, decide_false, Bool.false_eq_true, if_true, if_false, Act.put, List.setIfInBounds_toArray, List.set_cons_zero, List.set_cons_succ]
      go_simp
    · obtain ⟨x, d7, x0, x1⟩ : ∃ x : Int, vs 7 = .int .i64 x ∧ -1 ≤ x ∧ x ≤ 1 := hdep ⟨7, .data⟩ (by simp) rfl
      obtain ⟨d, d10, e0, e1⟩ : ∃ d : Nat, vs 10 = .int .i64 (d : Int) ∧ 1 ≤ d ∧ d ≤ 3 := hdep ⟨10, .data⟩ (by simp) rfl
      have hz : qz (mkRat x d) ≤ 1 := by
        refine Nat.le_trans (qz_mk _ _) ?_
        have h1 := (natL_len_le x.natAbs 1).mpr (by omega)
        have h2 := (natL_len_le d 1).mpr (by omega)
        omega
      obtain ⟨z, q1, c1, l1⟩ := tri (mkRat x d) 1 hz
      have hO := makeOf_any W x d (by omega) (by omega) (by omega)
      rw [← q1, c1.qv] at hO
      refine ⟨rfl, .inr ⟨_, _, ?_, hO.mono fun e W' ⟨he, hb⟩ => ⟨_, he, hI.callS hB hb, ⟨z, rfl, c1, l1⟩, BaseF.below hb⟩⟩⟩
      clear q1 c1 l1 hz hO
      unfold lexA
      simp only [putAll, preI, Nat.reduceLT, Nat.reduceAdd, decide_true, decide_false, Bool.false_eq_true, if_true, if_false, Act.put, List.setIfInBounds_toArray, List.set_cons_zero, List.set_cons_succ]
      go_simp
    · obtain ⟨z, d11, cz, lz⟩ : ∃ z : Q3, vs 11 = .agg #[.bool z.neg, .string z.num, .string z.den] ∧ z.can ∧ z.le 1 := hdep ⟨11, .data⟩ (by simp) rfl
      refine ⟨rfl, .inl ⟨.agg #[.bool false, .bool z.neg, .string z.num, .string z.den], W, ?_, hI, ⟨z, rfl, cz, lz⟩, fun j u h => h⟩⟩
      clear cz lz
      unfold lexA
      simp only [putAll, preI, Nat.reduceLT, Nat.reduceAdd, decide_true, decide_false, Bool.false_eq_true, if_true, if_false, Act.put, List.setIfInBounds_toArray, List.set_cons_zero, List.set_cons_succ]
      go_simp
    · obtain ⟨p, d2, hp⟩ : ∃ p : P2, vs 2 = .agg #[.bool p.x.neg, .string p.x.num, .string p.x.den, .bool p.y.neg, .string p.y.num, .string p.y.den] ∧ PtIs p (40 * 0) 0 := hdep ⟨2, .data⟩ (by simp) rfl
      obtain ⟨z, d12, cz, lz⟩ : ∃ z : Q3, vs 12 = .agg #[.bool false, .bool z.neg, .string z.num, .string z.den] ∧ z.can ∧ z.le 1 := hdep ⟨12, .data⟩ (by simp) rfl
      refine ⟨rfl, .inl ⟨.agg #[.bool p.x.neg, .string p.x.num, .string p.x.den, .bool p.y.neg, .string p.y.num, .string p.y.den, .bool false, .bool z.neg, .string z.num, .string z.den], W, ?_, hI, ⟨p, z, rfl, hp, cz, lz⟩, fun j u h => h⟩⟩
      clear cz lz hp
      unfold lexA
      simp only [putAll, preI, Nat.reduceLT, Nat.reduceAdd, decide_true, decide_false, Bool.false_eq_true, if_true, if_false, Act.put, List.setIfInBounds_toArray, List.set_cons_zero, List.set_cons_succ]
      go_simp
  · intro vs W hI hF
    obtain ⟨p, z, d13, hp, cz, lz⟩ : ∃ (p : P2) (z : Q3), vs 13 = .agg #[.bool p.x.neg, .string p.x.num, .string p.x.den, .bool p.y.neg, .string p.y.num, .string p.y.den, .bool false, .bool z.neg, .string z.num, .string z.den] ∧ PtIs p (40 * 0) 0 ∧ z.can ∧ z.le 1 := hF 13 (by decide)
    unfold lexA
    simp only [putAll, preI, Nat.reduceLT, Nat.reduceAdd, decide_true, decide_false, Bool.false_eq_true, if_true, if_false, Act.put, List.setIfInBounds_toArray, List.set_cons_zero, List.set_cons_succ, List.drop_succ_cons, List.drop_zero]
    rw [d13]
    clear hF h3
    have hS1 := hI.toIn.take (a := [_])
    have fx := hS1.facts
    simp only [factsOf, cellsOf, Nat.zero_add, Nat.reduceAdd] at fx
    have hfz := fun i => hS1.free (k := 0) (i := i) rfl
    have hbw := hI.st.lt
    have HX := Lib.hid (hI.mid10 (by omega) (.bool p.x.neg) (.string p.x.num) (.string p.x.den) (.bool p.y.neg) (.string p.y.num) (.string p.y.den) (.bool false) (.bool z.neg) (.string z.num) (.string z.den))
    clear hS1
    go_upto_region 3 with (fail)
    have hI2 : InS w0 B b (_ :: _ :: _ :: _) _ := HX.out
    clear HX fx hfz hI
    generalize World.setCell _ _ _ = W2 at hI2 ⊢
    have hI := hI2
    clear hI2 hbw
    go_wp2_with fail
    refine (next_any W2 B b 3 hI.st hB (by decide) (by decide)).mono ?_
    rintro e wn ⟨r, rfl, r0, r1, hst, hg, _⟩
    replace hI := hI.nextS hw hst hg
    clear hst hg
    have hwr : IntKind.i64.wrap (1 + r) = 1 + r := by rw [IntKind.wrap_i64]; omega
    have Hp := Lib.hid hp
    have Hz := Lib.hid (And.intro cz lz)
    clear hp cz lz
    have hsz := hI.toIn.bel.size
    have hnw := (hI.toIn.blk _ List.mem_cons_self).lt
    have HI := Lib.hid hI
    clear hI
    go_wp2_with fail
    go_loopw [31] (fun i wr => ArRel w0 B b w.heap.size (w.heap.size + 1) (w.heap.size + 1 + 1) #[.string { data := #[111, 110, 101] }, .string { data := #[116, 119, 111] }, .string { data := #[116, 104, 114, 101, 101] }, .string { data := #[102, 111, 117, 114] }] p z (1 + r) i wr) (fun i _ => (1 + r).toNat - (intOf i).toNat)
    case atStart => exact ⟨[], .slice none 0 0, by simp; omega, rfl, ⟨HI.out, ⟨rfl, .inl ⟨rfl, rfl⟩⟩, (fun k hk => absurd hk List.not_mem_nil), hnw, by omega, fun x _ e => by cases e⟩⟩
    case round =>
      obtain ⟨wq, rfl⟩ : ∃ wq, wq = wr := ⟨_, rfl⟩
      obtain ⟨ks, v, hk, rfl, hL⟩ := hrel
      by_cases hm : (ks.length : Int) < 1 + r
      · go_wp2_with fail
        refine (next_any _ B b 4 hL.st hB (by omega) (by omega)).mono ?_
        rintro e wn ⟨c, rfl, c0, c1, hst2, hg, _⟩
        replace hL := hL.next hw hst2 hg
        clear hst2 hg
        have k1 : IntKind.i64.wrap (2 * c) = 2 * c := by rw [IntKind.wrap_i64]; omega
        have k2 : IntKind.i64.wrap (4 + 2 * c) = 4 + 2 * c := by rw [IntKind.wrap_i64]; omega
        have k3 : IntKind.i64.wrap (4 + 2 * c + 1) = 4 + 2 * c + 1 := by rw [IntKind.wrap_i64]; omega
        obtain ⟨z1, q1, c1, l1, O1⟩ := of_link (4 + 2 * c) 4 (by omega) (by omega) (by omega)
        replace O1 := Lib.hid O1
        have Z1 := Lib.hid (And.intro q1 (And.intro c1 l1))
        clear q1 c1 l1
        go_wp2_with fail
        refine (O1.out _).mono ?_
        rintro e wn ⟨rfl, hb⟩
        replace hL := hL.call hB hb
        clear hb
        go_wp2_with fail
        refine (next_any _ B b 6 hL.st hB (by omega) (by omega)).mono ?_
        rintro e wn ⟨a, rfl, a0, a1, hst2, hg, _⟩
        replace hL := hL.next hw hst2 hg
        clear hst2 hg
        have k4 : IntKind.i64.wrap (-1 - a) = -1 - a := by rw [IntKind.wrap_i64]; omega
        obtain ⟨z2, q1, c1, l1, O2⟩ := of_link (-1 - a) 3 (by omega) (by omega) (by omega)
        replace O2 := Lib.hid O2
        have Z2 := Lib.hid (And.intro q1 (And.intro c1 l1))
        clear q1 c1 l1
        go_wp2_with fail
        refine (O2.out _).mono ?_
        rintro e wn ⟨rfl, hb⟩
        replace hL := hL.call hB hb
        clear hb
        go_wp2_with fail
        refine (next_any _ B b 6 hL.st hB (by omega) (by omega)).mono ?_
        rintro e wn ⟨x, rfl, x0, x1, hst2, hg, _⟩
        replace hL := hL.next hw hst2 hg
        clear hst2 hg
        have k5 : IntKind.i64.wrap (1 + x) = 1 + x := by rw [IntKind.wrap_i64]; omega
        obtain ⟨z3, q1, c1, l1, O3⟩ := of_link (1 + x) 3 (by omega) (by omega) (by omega)
        replace O3 := Lib.hid O3
        have Z3 := Lib.hid (And.intro q1 (And.intro c1 l1))
        clear q1 c1 l1
        go_wp2_with fail
        refine (O3.out _).mono ?_
        rintro e wn ⟨rfl, hb⟩
        replace hL := hL.call hB hb
        clear hb
        go_wp2_with fail
        refine (next_any _ B b 8 hL.st hB (by omega) (by omega)).mono ?_
        rintro e wn ⟨d, rfl, d0, d1, hst2, hg, _⟩
        replace hL := hL.next hw hst2 hg
        clear hst2 hg
        obtain ⟨D, hD⟩ : ∃ D : Nat, 4 + d = D := ⟨(4 + d).toNat, by omega⟩
        have k6 : IntKind.i64.wrap (4 + d) = (D : Int) := by rw [IntKind.wrap_i64]; omega
        obtain ⟨z4, q1, c1, l1, O4⟩ := of_link 1 D (by omega) (by omega) (by omega)
        replace O4 := Lib.hid O4
        have Z4 := Lib.hid (And.intro q1 (And.intro c1 l1))
        clear q1 c1 l1
        go_wp2_with fail
        refine (O4.out _).mono ?_
        rintro e wn ⟨rfl, hb⟩
        replace hL := hL.call hB hb
        clear hb
        go_wp2_with fail
        refine (next_any _ B b 20 hL.st hB (by omega) (by omega)).mono ?_
        rintro e wn ⟨f, rfl, f0, f1, hst2, hg, _⟩
        replace hL := hL.next hw hst2 hg
        clear hst2 hg
        obtain ⟨F, hF⟩ : ∃ F : Nat, 10 + f = F := ⟨(10 + f).toNat, by omega⟩
        have k7 : IntKind.i64.wrap (10 + f) = (F : Int) := by rw [IntKind.wrap_i64]; omega
        obtain ⟨z5, q1, c1, l1, O5⟩ := of_link 1 F (by omega) (by omega) (by omega)
        replace O5 := Lib.hid O5
        have Z5 := Lib.hid (And.intro q1 (And.intro c1 l1))
        clear q1 c1 l1
        go_wp2_with fail
        refine (O5.out _).mono ?_
        rintro e wn ⟨rfl, hb⟩
        replace hL := hL.call hB hb
        clear hb
        go_wp2_with fail
        have hlo := hL.lo1
        refine (rect_any _ (-1) (-1) (4 + 2 * c + 1) 1 (by omega) (by omega) (by omega) (by omega)).mono ?_
        rintro e wn ⟨g, l, rfl, hp, hge, hs, hb⟩
        replace hL := hL.call hB hb
        clear hb
        replace hlo : w.heap.size + 1 + 1 + 1 ≤ g := by omega
        clear hge
        have Hs := Lib.hid hs
        have Hp := Lib.hid hp
        have hgl := hs.lt
        clear hs hp
        have HL := Lib.hid (hL.alloc hB 28 #[.bool z1.neg, .string z1.num, .string z1.den, .bool z2.neg, .string z2.num, .string z2.den, .bool z3.neg, .string z3.num, .string z3.den, .bool z4.neg, .string z4.num, .string z4.den, .bool z5.neg, .string z5.num, .string z5.den, .slice (some ⟨g, 0, none⟩) 4 4])
        clear hL
        go_upto_region 7 with (fail)
        have hL := HL.out
        clear HL
        have hgl' : g < (wn.alloc (.cells #[.bool z1.neg, .string z1.num, .string z1.den, .bool z2.neg, .string z2.num, .string z2.den, .bool z3.neg, .string z3.num, .string z3.den, .bool z4.neg, .string z4.num, .string z4.den, .bool z5.neg, .string z5.num, .string z5.den, .slice (some ⟨g, 0, none⟩) 4 4] 28)).heap.size := by rw [World.size_alloc]; omega
        have Hs2 := Lib.hid (Hs.out.below ((Below.refl wn.heap.size wn).alloc (Nat.le_refl _) (.cells #[.bool z1.neg, .string z1.num, .string z1.den, .bool z2.neg, .string z2.num, .string z2.den, .bool z3.neg, .string z3.num, .string z3.den, .bool z4.neg, .string z4.num, .string z4.den, .bool z5.neg, .string z5.num, .string z5.den, .slice (some ⟨g, 0, none⟩) 4 4] 28)) hgl)
        clear Hs
        generalize hbx : wn.heap.size = bx at hL hgl ⊢
        generalize World.alloc _ _ = W5 at hL Hs2 hgl' ⊢
        clear hbx
        go_wp2_with fail
        refine (next_any W5 B b 3 hL.st hB (by omega) (by omega)).mono ?_
        rintro e wn ⟨y, rfl, y0, y1, hst2, hg, hse⟩
        clear hse
        have hlb := hL.lob
        have Hs := Lib.hid (show Blk wn g 30 (l.flatMap encP).toArray from by
          obtain ⟨_, _, _, _, g5⟩ := hg
          exact (g5 g hgl' (fun e => by have := Option.some.inj e; omega)).trans Hs2.out)
        replace hL := hL.next hw hst2 hg
        clear hst2 hg Hs2
        by_cases hy : y = 2
        · subst hy
          obtain ⟨p1, i1, A1⟩ := atR (-1) (-1) (by omega) (by omega)
          obtain ⟨p2, i2, A2⟩ := atR (4 + 2 * c + 1) 0 (by omega) (by omega)
          obtain ⟨p3, i3, A3⟩ := atR (-1) 1 (by omega) (by omega)
          have HP := Lib.hid (show PtsOf [p1, p2, p3] [(-1, -1), (4 + 2 * c + 1, 0), (-1, 1)] from ⟨i1, i2, i3, trivial⟩)
          clear i1 i2 i3
          go_wp2_with fail
          refine (A1.out _).mono ?_
          rintro e wn ⟨rfl, hb⟩
          replace hL := hL.call hB hb
          clear hb
          go_wp2_with fail
          refine (A2.out _).mono ?_
          rintro e wn ⟨rfl, hb⟩
          replace hL := hL.call hB hb
          clear hb
          go_wp2_with fail
          refine (A3.out _).mono ?_
          rintro e wn ⟨rfl, hb⟩
          replace hL := hL.call hB hb
          clear hb
          have hL2 := hL.skip hB (.cells #[.bool p1.x.neg, .string p1.x.num, .string p1.x.den, .bool p1.y.neg, .string p1.y.num, .string p1.y.den, .bool p2.x.neg, .string p2.x.num, .string p2.x.den, .bool p2.y.neg, .string p2.y.num, .string p2.y.den, .bool p3.x.neg, .string p3.x.num, .string p3.x.den, .bool p3.y.neg, .string p3.y.num, .string p3.y.den] 30)
          have hne8 : bx ≠ wn.heap.size := by have := hL.toIn.lt (k := 0) rfl; omega
          have HN := Lib.hid (show Blk (wn.alloc (.cells #[.bool p1.x.neg, .string p1.x.num, .string p1.x.den, .bool p1.y.neg, .string p1.y.num, .string p1.y.den, .bool p2.x.neg, .string p2.x.num, .string p2.x.den, .bool p2.y.neg, .string p2.y.num, .string p2.y.den, .bool p3.x.neg, .string p3.x.num, .string p3.x.den, .bool p3.y.neg, .string p3.y.num, .string p3.y.den] 30)) wn.heap.size 30 ([p1, p2, p3].flatMap encP).toArray from Blk.new wn 30 ([p1, p2, p3].flatMap encP).toArray)
          have hT2 := hL2.toIn.take (a := [_])
          have fx := hT2.facts
          simp only [factsOf, cellsOf, Nat.zero_add, Nat.reduceAdd] at fx
          have hfz := fun i => hT2.free (k := 0) (i := i) rfl
          have hbB : B ≤ bx := by have := hL.lo1; omega
          have HX := Lib.hid (hL2.set0 hbB (by decide) 15 (.slice (some ⟨wn.heap.size, 0, none⟩) 3 3))
          have hblt := hT2.lt (k := 0) rfl
          have HNX := Lib.hid (HN.out.far (p := ⟨bx, 15, none⟩) (show wn.heap.size ≠ bx from fun e => hne8 e.symm) (.slice (some ⟨wn.heap.size, 0, none⟩) 3 3))
          have hgw : w.heap.size + 1 + 1 + 1 ≤ wn.heap.size := hL.lo1
          clear hT2 hL2 hL HN
          go_upto_region 9 with (fail)
          have hL := HX.out
          have HN := Lib.hid HNX.out
          simp only [List.setIfInBounds_toArray, List.set_cons_succ, List.set_cons_zero] at hL
          clear HX HNX fx hfz hblt
          generalize hgn : wn.heap.size = gn at hL HN hgw ⊢
          generalize World.setCell _ _ _ = W6 at hL HN ⊢
          clear hgn
          have LK := Lib.hid (show LinkIs (w.heap.size + 1 + 1 + 1) ⟨z1, z2, z3, z4, z5, .slice (some ⟨gn, 0, none⟩) 3 3⟩ W6 from
            ⟨c, a, x, d, f, gn, [p1, p2, p3], [(-1, -1), (4 + 2 * c + 1, 0), (-1, 1)], by omega, by omega, by omega, by omega, by omega, ⟨Z1.out.1, Z2.out.1, Z3.out.1, by rw [hD]; exact Z4.out.1, by rw [hF]; exact Z5.out.1⟩, ⟨Z1.out.2.1, Z2.out.2.1, Z3.out.2.1, Z4.out.2.1, Z5.out.2.1⟩, ⟨Z1.out.2.2, Z2.out.2.2, Z3.out.2.2, Z4.out.2.2, Z5.out.2.2⟩, rfl, hgw, HN.out, HP.out, .inr rfl⟩)
          have hT := hL.toIn.take (a := [_, _])
          have fx := hT.facts
          simp only [factsOf, cellsOf, Nat.zero_add, Nat.reduceAdd] at fx
          have HPU := Lib.hid (fun v6 w6 h1 h2 h3 => hL.tail.push (k := ⟨z1, z2, z3, z4, z5, .slice (some ⟨gn, 0, none⟩) 3 3⟩) (v' := v6) (W' := w6) (n := ks.length + 1) hB LK.out (by
            intro y hy
            rcases List.mem_cons.1 hy with rfl | hy
            · show w.heap.size + 1 + 1 < _; omega
            · rcases List.mem_cons.1 hy with rfl | hy
              · show w.heap.size + 1 < _; omega
              · rcases List.mem_cons.1 hy with rfl | hy
                · show w.heap.size < _; omega
                · cases hy) hw3 h1 (by simp) h2 h3)
          have hbase : w.heap.size + 1 + 1 + 1 ≤ W6.heap.size := hL.lo1
          have hmx : ks.length + 1 ≤ 3 := by omega
          have hwk : IntKind.i64.wrap ((ks.length : Int) + 1) = (ks.length : Int) + 1 := by rw [IntKind.wrap_i64]; omega
          have Hown := Lib.hid hL.own
          clear hT hL
          obtain ⟨i0, hi0, hi1⟩ := Option.map_eq_some_iff.1 info_link
          injection hi1 with hz0 hi1
          injection hi1 with hz1 hz2
          go_wp2_with (at_builtin; refine wpList_pushG rfl (.tmp 70) (.tmp 72) 35 rfl (w.heap.size + 1 + 1 + 1) 28 i0 (.agg #[.bool false, .string { data := #[] }, .string { data := #[] }, .bool false, .string { data := #[] }, .string { data := #[] }, .bool false, .string { data := #[] }, .string { data := #[] }, .bool false, .string { data := #[] }, .string { data := #[] }, .bool false, .string { data := #[] }, .string { data := #[] }, .slice none 0 0]) 16 224 Tryd.underlying35 hi0 hz0 hz1 hz2 rfl (by omega) _ ks.length _ rfl Hown.out [.bool z1.neg, .string z1.num, .string z1.den, .bool z2.neg, .string z2.num, .string z2.den, .bool z3.neg, .string z3.num, .string z3.den, .bool z4.neg, .string z4.num, .string z4.den, .bool z5.neg, .string z5.num, .string z5.den, .slice (some ⟨gn, 0, none⟩) 3 3] rfl rfl (by simp [Value.oneCell']) (by unfold maxLen; omega) (by omega) hbase ?_; intro v6 w6 hn6 hb6 hg6 hsh; obtain ⟨gq, cq, rfl, _, _⟩ := hsh; have hL6 := HPU.out _ w6 hn6 hb6 hg6; have hS6 := hL6.toIn.take (a := [_]); have fx6 := hS6.facts; simp only [factsOf, cellsOf, Nat.zero_add, Nat.reduceAdd] at fx6; have hz6 := fun i => hS6.free (k := 0) (i := i) rfl; have HL6 := Lib.hid (hL6.set0 (by omega) (by decide) 11 (.slice (some ⟨gq, 0, none⟩) (ks.length + 1) cq)); clear hS6 hL6 hn6 hb6 hg6)
          clear fx6 hz6 fx hi0 hz0 hz1 hz2 HPU Hown
          have hL7 := HL6.out
          simp only [List.setIfInBounds_toArray, List.set_cons_succ, List.set_cons_zero] at hL7
          clear HL6
          generalize World.setCell _ _ _ = W8 at hL7 ⊢
          have HX := Lib.hid hL7
          clear hL7
          go_roundw
          case rel => exact ⟨ks ++ [⟨z1, z2, z3, z4, z5, .slice (some ⟨gn, 0, none⟩) 3 3⟩], .slice (some ⟨gq, 0, none⟩) (ks.length + 1) cq, by simp; omega, by simp, by simpa using HX.out⟩
          case measure => simp [intOf]; omega
        · have hy2 : (y == 2) = false := by simpa using hy
          have hg4 : l.length = 4 := Hp.out.len2
          have LK := Lib.hid (show LinkIs (w.heap.size + 1 + 1 + 1) ⟨z1, z2, z3, z4, z5, .slice (some ⟨g, 0, none⟩) 4 4⟩ wn from
            ⟨c, a, x, d, f, g, l, [(-1, -1), (4 + 2 * c + 1, -1), (4 + 2 * c + 1, 1), (-1, 1)], by omega, by omega, by omega, by omega, by omega, ⟨Z1.out.1, Z2.out.1, Z3.out.1, by rw [hD]; exact Z4.out.1, by rw [hF]; exact Z5.out.1⟩, ⟨Z1.out.2.1, Z2.out.2.1, Z3.out.2.1, Z4.out.2.1, Z5.out.2.1⟩, ⟨Z1.out.2.2, Z2.out.2.2, Z3.out.2.2, Z4.out.2.2, Z5.out.2.2⟩, by rw [hg4], hlo, Hs.out, Hp.out, .inl rfl⟩)
          clear hg4
          have hT := hL.toIn.take (a := [_, _])
          have fx := hT.facts
          simp only [factsOf, cellsOf, Nat.zero_add, Nat.reduceAdd] at fx
          have HPU := Lib.hid (fun v6 w6 h1 h2 h3 => hL.tail.push (k := ⟨z1, z2, z3, z4, z5, .slice (some ⟨g, 0, none⟩) 4 4⟩) (v' := v6) (W' := w6) (n := ks.length + 1) hB LK.out (by
            intro y hy
            rcases List.mem_cons.1 hy with rfl | hy
            · show w.heap.size + 1 + 1 < _; omega
            · rcases List.mem_cons.1 hy with rfl | hy
              · show w.heap.size + 1 < _; omega
              · rcases List.mem_cons.1 hy with rfl | hy
                · show w.heap.size < _; omega
                · cases hy) hw3 h1 (by simp) h2 h3)
          have hbase : w.heap.size + 1 + 1 + 1 ≤ wn.heap.size := hL.lo1
          have hmx : ks.length + 1 ≤ 3 := by omega
          have hwk : IntKind.i64.wrap ((ks.length : Int) + 1) = (ks.length : Int) + 1 := by rw [IntKind.wrap_i64]; omega
          have Hown := Lib.hid hL.own
          clear hT hL
          obtain ⟨i0, hi0, hi1⟩ := Option.map_eq_some_iff.1 info_link
          injection hi1 with hz0 hi1
          injection hi1 with hz1 hz2
          go_wp2_with (at_builtin; refine wpList_pushG rfl (.tmp 70) (.tmp 72) 35 rfl (w.heap.size + 1 + 1 + 1) 28 i0 (.agg #[.bool false, .string { data := #[] }, .string { data := #[] }, .bool false, .string { data := #[] }, .string { data := #[] }, .bool false, .string { data := #[] }, .string { data := #[] }, .bool false, .string { data := #[] }, .string { data := #[] }, .bool false, .string { data := #[] }, .string { data := #[] }, .slice none 0 0]) 16 224 Tryd.underlying35 hi0 hz0 hz1 hz2 rfl (by omega) _ ks.length _ rfl Hown.out [.bool z1.neg, .string z1.num, .string z1.den, .bool z2.neg, .string z2.num, .string z2.den, .bool z3.neg, .string z3.num, .string z3.den, .bool z4.neg, .string z4.num, .string z4.den, .bool z5.neg, .string z5.num, .string z5.den, .slice (some ⟨g, 0, none⟩) 4 4] rfl rfl (by simp [Value.oneCell']) (by unfold maxLen; omega) (by omega) hbase ?_; intro v6 w6 hn6 hb6 hg6 hsh; obtain ⟨gq, cq, rfl, _, _⟩ := hsh; have hL6 := HPU.out _ w6 hn6 hb6 hg6; have hS6 := hL6.toIn.take (a := [_]); have fx6 := hS6.facts; simp only [factsOf, cellsOf, Nat.zero_add, Nat.reduceAdd] at fx6; have hz6 := fun i => hS6.free (k := 0) (i := i) rfl; have HL6 := Lib.hid (hL6.set0 (by omega) (by decide) 11 (.slice (some ⟨gq, 0, none⟩) (ks.length + 1) cq)); clear hS6 hL6 hn6 hb6 hg6)
          clear fx6 hz6 fx hi0 hz0 hz1 hz2 HPU Hown
          have hL7 := HL6.out
          simp only [List.setIfInBounds_toArray, List.set_cons_succ, List.set_cons_zero] at hL7
          clear HL6
          generalize World.setCell _ _ _ = W8 at hL7 ⊢
          have HX := Lib.hid hL7
          clear hL7
          go_roundw
          case rel => exact ⟨ks ++ [⟨z1, z2, z3, z4, z5, .slice (some ⟨g, 0, none⟩) 4 4⟩], .slice (some ⟨gq, 0, none⟩) (ks.length + 1) cq, by simp; omega, by simp, by simpa using HX.out⟩
          case measure => simp [intOf]; omega
      · have hkr : (ks.length : Int) = 1 + r := by omega
        have h13 : 1 ≤ ks.length ∧ ks.length ≤ 3 := by omega
        obtain ⟨gq, cq, rfl, _, _⟩ := own_shape hL.own (by omega)
        have hT := hL.toIn.take (a := [_])
        have fx := hT.facts
        simp only [factsOf, cellsOf, Nat.zero_add, Nat.reduceAdd] at fx
        have hL2 := hL.tail.tail
        have hT2 := hL2.toIn.take (a := [_])
        have fx2 := hT2.facts
        simp only [factsOf, cellsOf, Nat.zero_add, Nat.reduceAdd] at fx2
        have hfz := fun i => hT2.free (k := 0) (i := i) rfl
        have HK := Lib.hid (hL2.all12 (by omega) (by decide) (.string { data := #[111, 110, 101] }) (.bool p.x.neg) (.string p.x.num) (.string p.x.den) (.bool p.y.neg) (.string p.y.num) (.string p.y.den) (.bool false) (.bool z.neg) (.string z.num) (.string z.den) (.slice (some ⟨gq, 0, none⟩) ks.length cq))
        clear hT hT2 hL2 hL
        go_wp2_with fail
        clear fx fx2 hfz
        have hK := HK.out
        clear HK
        generalize World.setCell _ _ _ = W9 at hK ⊢
        refine bodyPost_ret (results_cell_row Tryd.results64 _ _ (w.heap.size) 37 _ (0, 0) _ rfl (hK.toIn.blkAt (k := 0) rfl) Tryd.underlying37 rfl (by kernel_rfl)) rfl ?_
        exact ⟨p, z, _, ks, _, rfl, Hp.out, Hz.out, h13, hw3, hK.tail⟩
end Go.Proofs.YtnnbnecpcppkdaaDoor
namespace Go.Proofs.YtnnbnecpcppkdaaDoor
open Go.RowKit Go.Gy
set_option linter.unusedVariables false
/-- a link that gantmake.arm makes, with its shape -/
def GenLk (k : Lk) (l : List P2) : Prop := ∃ (c a e d f : Int) (zs : List (Int × Int)), (0 ≤ c ∧ c ≤ 3) ∧ (0 ≤ a ∧ a ≤ 5) ∧ (0 ≤ e ∧ e ≤ 5) ∧ (0 ≤ d ∧ d ≤ 7) ∧ (0 ≤ f ∧ f ≤ 19) ∧
  (k.len.q = mkRat (4 + 2 * c) 4 ∧ k.low.q = mkRat (-1 - a) 3 ∧ k.high.q = mkRat (1 + e) 3 ∧ k.speed.q = mkRat 1 (4 + d).toNat ∧ k.brake.q = mkRat 1 (10 + f).toNat) ∧ (k.len.can ∧ k.low.can ∧ k.high.can ∧ k.speed.can ∧ k.brake.can) ∧ (k.len.le 1 ∧ k.low.le 1 ∧ k.high.le 1 ∧ k.speed.le 1 ∧ k.brake.le 1) ∧
  PtsOf l zs ∧ (zs = [(-1, -1), (4 + 2 * c + 1, -1), (4 + 2 * c + 1, 1), (-1, 1)] ∨ zs = [(-1, -1), (4 + 2 * c + 1, 0), (-1, 1)])
/-- an arm that gantmake.Arm makes -/
structure GenAr (a : Ar) : Prop where
  nm : a.name = { data := #[111, 110, 101] }
  p : PtIs a.p 0 0
  half : a.half = false
  t : a.t.can ∧ a.t.le 1
  len : 1 ≤ a.L.length ∧ a.L.length ≤ 3
  lk : ∀ x ∈ a.L, GenLk x.1 x.2
theorem SlP.blk {w : World} {g : Nat} {t : TypeId} {l : List P2} (h : Blk w g t (l.flatMap encP).toArray) : SlP w w.heap.size (.slice (some ⟨g, 0, none⟩) l.length l.length) l :=
  ⟨_, _, _, rfl, rfl, Nat.le_refl _, (fun h => by cases h), flat_length encP_length l, fun _ => ⟨g, 0, rfl, h.lt, fun j u hu => by
    rw [Nat.zero_add]
    exact h.cell j u (by simpa using hu)⟩⟩
theorem LinkIs.gen {lo : Nat} {k : Lk} {w : World} (h : LinkIs lo k w) : ∃ l, SlP w w.heap.size k.shape l ∧ GenLk k l := by
  obtain ⟨c, a, e, d, f, g, l, zs, h1, h2, h3, h4, h5, h6, h7, h8, h9, h10, h11, h12, h13⟩ := h
  exact ⟨l, by rw [h9]; exact SlP.blk h11, c, a, e, d, f, zs, h1, h2, h3, h4, h5, h6, h7, h8, h12, h13⟩
theorem links_gen {lo : Nat} {w : World} : ∀ {ks : List Lk}, (∀ k ∈ ks, LinkIs lo k w) → ∃ L : List (Lk × List P2), L.map (·.1) = ks ∧ ∀ x ∈ L, SlP w w.heap.size x.1.shape x.2 ∧ GenLk x.1 x.2
  | [], _ => ⟨[], rfl, fun x hx => by cases hx⟩
  | k :: ks, h => by
    obtain ⟨L, h1, h2⟩ := links_gen (ks := ks) fun k' hk => h k' (List.mem_cons_of_mem _ hk)
    obtain ⟨l, h3, h4⟩ := (h k List.mem_cons_self).gen
    refine ⟨(k, l) :: L, by rw [List.map_cons, h1], fun x hx => ?_⟩
    rcases List.mem_cons.1 hx with rfl | hx
    · exact ⟨h3, h4⟩
    · exact h2 x hx
def ArmMk (w : World) (e : Ending) (w' : World) : Prop := ∃ a : Ar, e = .returned a.val ∧ GenAr a ∧ a.At w' w'.heap.size ∧ Below w.heap.size w w'
set_option maxRecDepth 100000 in
set_option maxHeartbeats 4000000 in
theorem armMake (w : World) (v : Value) (l : List Int) (hv : SlI w w.heap.size v l) (hl : l.length ≤ 140737488355328) :
    Calls Tryd.prog 15 #[v] w (ArmMk w) := by
  obtain ⟨A, m, c, rfl, hvr⟩ := id hv
  clear hvr
  have hI := (In.start w).alloc 37 #[.string { data := #[] }, .bool false, .string { data := #[] }, .string { data := #[] }, .bool false, .string { data := #[] }, .string { data := #[] }, .bool false, .bool false, .string { data := #[] }, .string { data := #[] }, .slice none 0 0]
  have hsz := World.size_alloc w (.cells #[.string { data := #[] }, .bool false, .string { data := #[] }, .string { data := #[] }, .bool false, .string { data := #[] }, .string { data := #[] }, .bool false, .bool false, .string { data := #[] }, .string { data := #[] }, .slice none 0 0] 37)
  go_enter Tryd.func15, Tryd.ntmps15
  go_upto_region 1 with (fail)
  generalize World.alloc _ _ = w1 at hI hsz ⊢
  have hb1 : Below w1.heap.size w1 (w1.alloc (.cells #[.slice A m c] 103)) := (Below.refl _ _).alloc (Nat.le_refl _) _
  have hst : StrAt (w1.alloc (.cells #[.slice A m c] 103)) w.heap.size w1.heap.size := ⟨_, l, Blk.new _ _ _, hv.below (hI.bel.trans (hb1.mono (by omega))), hl⟩
  have h0 : InS w1 w.heap.size w1.heap.size [] (w1.alloc (.cells #[.slice A m c] 103)) := ⟨⟨hb1, by simp, by simp, by simp⟩, hst, by simp⟩
  have HP := Lib.hid (arm_any w1 _ w.heap.size w1.heap.size h0 (by omega) (Nat.le_refl _))
  have HZ := Lib.hid hsz
  clear hv hl hst h0 hb1 hsz
  go_wp2_with fail
  refine HP.out.mono ?_
  rintro e wn ⟨p, z, v, ks, lo, rfl, hp, hz, hlen, hlo, hL⟩
  obtain ⟨gq, cq, rfl, _, _⟩ := own_shape hL.own (by omega)
  have hsz := HZ.out
  replace hI := hI.call hL.toIn.bel
  have hT := hI.take (a := [_]) (b := [])
  have fx := hT.facts
  simp only [factsOf, cellsOf, Nat.zero_add, Nat.reduceAdd] at fx
  have hfz := fun i => hT.free (k := 0) (i := i) rfl
  have HK := Lib.hid (hT.all12 (a := []) (.string { data := #[111, 110, 101] }) (.bool p.x.neg) (.string p.x.num) (.string p.x.den) (.bool p.y.neg) (.string p.y.num) (.string p.y.den) (.bool false) (.bool z.neg) (.string z.num) (.string z.den) (.slice (some ⟨gq, 0, none⟩) ks.length cq))
  have hG := grown12 wn w.heap.size (.string { data := #[111, 110, 101] }) (.bool p.x.neg) (.string p.x.num) (.string p.x.den) (.bool p.y.neg) (.string p.y.num) (.string p.y.den) (.bool false) (.bool z.neg) (.string z.num) (.string z.den) (.slice (some ⟨gq, 0, none⟩) ks.length cq)
  have HO := Lib.hid (hL.own.kept hG (.inr (fun e => by have := (hL.own.lt _ e).1; omega)))
  have HL := Lib.hid (fun k hk => (hL.lk k hk).keep (fun g cs hge hbk => by
    obtain ⟨_, _, _, _, g5⟩ := hG
    exact (g5 g hbk.lt (fun e => by have := Option.some.inj e; omega)).trans hbk))
  have Hp := Lib.hid hp
  have Hz := Lib.hid hz
  clear hT hI hL HP hG hp hz hsz
  go_wp2_with fail
  clear fx hfz
  have hK := HK.out
  have hO := HO.out
  have hLK := HL.out
  clear HK HO HL
  generalize World.setCell _ _ _ = W9 at hK hO hLK ⊢
  refine bodyPost_ret (results_cell_row Tryd.results15 _ _ (w.heap.size) 37 _ (0, 0) _ rfl (hK.blkAt (k := 0) rfl) Tryd.underlying37 rfl (by kernel_rfl)) rfl ?_
  obtain ⟨L, hLm, hLx⟩ := links_gen hLK
  subst hLm
  refine ⟨⟨{ data := #[111, 110, 101] }, p, false, z, _, L⟩, rfl, ⟨rfl, Hp.out, rfl, Hz.out, by rw [List.length_map] at hlen; exact hlen, fun x hx => (hLx x hx).2⟩, ⟨SlL.own (by exact hO), fun x hx => (hLx x hx).1⟩, hK.bel⟩
end Go.Proofs.YtnnbnecpcppkdaaDoor
