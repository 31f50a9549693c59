/- As Inv, with a property of a result and of those for which its operation waits. slices.Clone at numbers; a number stored into an own row. What gantmake.Arm makes is taken by arm.Check. Conditions: those typed. -/
import Derived.Test.YtnnbnecpcppkdaaDoorInv
import Derived.Test.YtnnbnecpcppkdaaDoorConfX
import Derived.Test.YtnnbnecpcppkdaaDoorArmMk
import Derived.Test.YtnnbnecpcppkdaaDoorCtlBase
import Derived.Test.YtnnbnecpcppkdaaDoorArmChk
namespace Go.Proofs.YtnnbnecpcppkdaaDoor
open Go Go.RowKit
set_option linter.unusedVariables false
section
variable {P : Program} {ops : Array Oper} {md : Region.Mode}
theorem wpAny_inv2 {Q : Exit → Act → World → Prop} {l : List Oper} (a0 : Act) (n : Nat) (B : World → Prop) (F : Nat → Value → World → Prop) (R : Nat → (Nat → Value) → Value → Prop)
    (hloc : ∀ (i : Nat) (o : Oper) (vs vs' : Nat → Value) (v : Value), l[i]? = some o → (∀ e ∈ o.after, Region.binds md e = true → vs e.on = vs' e.on) → R i vs v → R i vs' v)
    (hB : Region.invB md l.toArray n = true)
    (hstep : ∀ (i : Nat) (o : Oper), i < n → l[i]? = some o → ∀ (vs : Nat → Value) (W : World), B W → (∀ e ∈ o.after, Region.binds md e = true → F e.on (vs e.on) W) →
      Region.wanted o (yielded l.toArray (lexA l vs i a0).tmps) = true ∧ StepE P (lexA l vs i a0).eval o W (fun v W' => B W' ∧ F i v W' ∧ R i vs v ∧ ∀ j u, F j u W → F j u W'))
    (hfin : ∀ (vs : Nat → Value) (W : World), B W → (∀ i, i < n → F i (vs i) W) → (∀ i, i < n → R i vs (vs i)) → wpList P l.toArray Q (l.drop n) (lexA l vs n a0) W) :
    ∀ (f : Nat) (listed : Array Bool) (s : Nat → Bool) (vs : Nat → Value) (W : World), HeadInv md l.toArray n listed → (∀ j, s j = listed.getD j false) → cntI s n = f → B W → (∀ j, j < n → s j = true → F j (vs j) W ∧ R j vs (vs j)) →
      wpAny P md l.toArray Q (f + (l.toArray.size - n)) listed (putAll s vs l 0 a0) W := by
  simp only [Region.invB, Bool.and_eq_true, decide_eq_true_eq] at hB
  obtain ⟨⟨⟨⟨⟨⟨hsel, hn⟩, hs⟩, hc⟩, ht⟩, hdp⟩, hcan⟩ := hB
  obtain ⟨t1, t2, t3⟩ := Region.textB_spec ht
  have hn' : n < l.length := by simpa using hn
  intro f
  induction f with
  | zero =>
    intro listed s vs W inv hsl hcnt hBW hF
    have hall := cntI_zero n hcnt
    have hsn : ∀ j, s j = decide (j < n) := by
      intro j
      by_cases hj : j < n
      · rw [hall j hj, decide_eq_true hj]
      · rw [decide_eq_false hj, hsl j]
        by_cases hj2 : j < l.toArray.size
        · exact getD_both (inv.tail j (by omega) hj2)
        · simp [Array.getElem?_eq_none (show listed.size ≤ j by rw [inv.size]; omega)]
    have hlc : listed = ((List.range l.toArray.size).map fun j => decide (j < n)).toArray := by
      apply Array.ext
      · rw [inv.size]; simp
      · intro j h1 h2
        have h3 := hsl j
        rw [hsn j] at h3
        simp [h1] at h3
        simp [← h3]
    have hact : putAll s vs l 0 a0 = lexA l vs n a0 := putAll_congr l 0 a0 fun j _ => ⟨hsn j, rfl⟩
    have hdl : (l.drop n).length = l.toArray.size - n := by simp
    rw [Nat.zero_add, hact]
    have := wpAny_of_seq (md := md) (Q' := Q) (l.drop n) n listed (lexA l vs n a0) W (fun j => by simp [List.getElem?_drop]) (by rw [hdl, hlc]; exact hcan) (hfin vs W hBW (fun i hi => (hF i hi (hall i hi)).1) (fun i hi => (hF i hi (hall i hi)).2))
    rwa [hdl] at this
  | succ f ih =>
    intro listed s vs W inv hsl hcnt hBW hF
    obtain ⟨i0, hi0, hsi0, hbef⟩ := cntI_first n (by rw [hcnt]; omega)
    have hun : ∀ i, i < l.toArray.size → s i = false → listed.getD i true = false := fun i hi h => getD_in (by rw [inv.size]; exact hi) (by rw [← hsl i]; exact h)
    have hi0' : listed.getD i0 true = false := hun i0 (by simp; omega) hsi0
    have hrd : i0 ∈ Region.ready md l.toArray listed := by
      refine mem_ready.2 ⟨hi0', _, (by rw [List.getElem?_toArray]; exact List.getElem?_eq_getElem (show i0 < l.length by omega)), fun e he hb => ?_⟩
      rw [← hsl]
      exact hbef _ (Region.depB_spec hdp i0 _ (List.getElem?_eq_getElem (by omega)) e he hb)
    rw [show f + 1 + (l.toArray.size - n) = (f + (l.toArray.size - n)) + 1 by omega]
    refine ⟨fun h => (by rw [h] at hrd; cases hrd), fun i hi => ?_⟩
    have hin : i < n := by
      rcases Nat.lt_or_ge i n with h | h
      · exact h
      · exact absurd hi (tailW_waits hs hc hn inv _ i0 rfl hi0 hi0' i h)
    obtain ⟨hiun, o, ho, hdep⟩ := mem_ready.1 hi
    have hol : l[i]? = some o := by simpa using ho
    have hsi : s i = false := by rw [hsl i]; exact getD_both hiun
    have hdepF : ∀ e ∈ o.after, Region.binds md e = true → F e.on (vs e.on) W := fun e he hb => by
      have h1 : s e.on = true := by rw [hsl]; exact hdep e he hb
      have h2 : e.on < i := t1 i o hol e he hb (by
        rcases Nat.lt_or_ge e.on l.length with h | h
        · exact h
        · rw [hsl] at h1
          simp [Array.getElem?_eq_none (show listed.size ≤ e.on by rw [inv.size]; simpa using h)] at h1)
      exact (hF _ (by omega) h1).1
    obtain ⟨hw, hst⟩ := hstep i o hin hol vs W hBW hdepF
    have hG : ∀ {β : Type} (G : Act → β), (∀ (b : Act) (x : Option Tmp) v, (∀ d, x = some d → d ∉ o.looksAt l.toArray) → G (b.put x v) = G b) → G (putAll s vs l 0 a0) = G (lexA l vs i a0) := fun G hG => by
      refine putAll_lex G vs l a0 t2 hsi fun j hj hji oj hoj b v => hG b oj.dst v (t3 i j o oj hol hoj (Ne.symm hji) ?_)
      by_cases hjl : j < i
      · refine .inr fun e he hb heq => hj ?_
        rw [← heq] at hjl ⊢
        rw [hsl, hdep e he hb, decide_eq_true hjl]
      · exact .inl hjl
    have e1 : execOp (putAll s vs l 0 a0).eval o = execOp (lexA l vs i a0).eval o := hG (fun b => execOp b.eval o) fun b x v hx => execOp_put o (fun cs b' => Region.noSelect_spec hsel i o cs b' ho) b x v hx
    have e2 : Region.wanted o (yielded l.toArray (putAll s vs l 0 a0).tmps) = true := by
      rw [hG (fun b => Region.wanted o (yielded l.toArray b.tmps)) fun b x v hx => wanted_put o b x v hx]
      exact hw
    have hnext : ∀ v W', B W' → F i v W' → R i vs v → (∀ j u, F j u W → F j u W') → wpAny P md l.toArray Q (f + (l.toArray.size - n)) (listed.setIfInBounds i true) ((putAll s vs l 0 a0).put o.dst v) W' := fun v W' k1 k2 kr k3 => by
      rw [putAll_set s vs i v hsi l 0 a0 o (Nat.zero_le _) (by simpa using hol) t2]
      refine ih _ _ _ W' (inv.set hi hin) (fun j => ?_) (by have := cntI_set hsi n hin; omega) k1 (fun j hj hsj => ?_)
      · by_cases hji : j = i
        · subst hji
          rw [updI_same]
          have : j < listed.size := by rw [inv.size]; simp; omega
          simp [this]
        · rw [updI_ne s true hji, hsl j, getD_set_ne false (Ne.symm hji)]
      · by_cases hji : j = i
        · subst hji
          rw [updI_same]
          exact ⟨k2, hloc j o vs _ v hol (fun e he hb => (updI_ne vs v (fun h => by
            have h1 : s e.on = true := by rw [hsl]; exact hdep e he hb
            rw [h, hsi] at h1
            cases h1)).symm) kr⟩
        · rw [updI_ne vs v hji]
          rw [updI_ne s true hji] at hsj
          have hjl : j < l.length := by omega
          refine ⟨k3 j _ (hF j hj hsj).1, hloc j _ vs _ _ (List.getElem?_eq_getElem hjl) (fun e he hb => (updI_ne vs v (fun h => ?_)).symm) (hF j hj hsj).2⟩
          have h1 : s e.on = true := by rw [hsl]; exact inv.closed j _ (by rw [List.getElem?_toArray]; exact List.getElem?_eq_getElem hjl) (by rw [← hsl]; exact hsj) e he hb
          rw [h, hsi] at h1
          cases h1
    unfold Go.wpOp
    simp only [ho, e2, if_true]
    refine .inl ?_
    unfold Oper.wp
    rw [e1]
    rcases hst with ⟨v, W', hr, k1, k2, kr, k3⟩ | ⟨f', args, hr, hC⟩
    · rw [hr]; exact hnext v W' k1 k2 kr k3
    · rw [hr]
      refine hC.mono ?_
      rintro e W' ⟨v, rfl, k1, k2, kr, k3⟩
      exact hnext v W' k1 k2 kr k3
/-- the law: the first n operations, in whatever order, each with a property F of its own; then the others, in one order -/
theorem wp_region_inv2 {id : Nat} {Q : Exit → Act → World → Prop} {a : Act} {w : World} {l : List Oper} (n : Nat) (B : World → Prop) (F : Nat → Value → World → Prop) (R : Nat → (Nat → Value) → Value → Prop)
    (hloc : ∀ (i : Nat) (o : Oper) (vs vs' : Nat → Value) (v : Value), l[i]? = some o → (∀ e ∈ o.after, Region.binds .any e = true → vs e.on = vs' e.on) → R i vs v → R i vs' v) (hm : P.follows .mixedOrders = true) (hB : Region.invB .any l.toArray n = true) (hS : B w.drew)
    (hstep : ∀ (i : Nat) (o : Oper), i < n → l[i]? = some o → ∀ (vs : Nat → Value) (W : World), B W → (∀ e ∈ o.after, Region.binds .any e = true → F e.on (vs e.on) W) →
      Region.wanted o (yielded l.toArray (lexA l vs i a).tmps) = true ∧ StepE P (lexA l vs i a).eval o W (fun v W' => B W' ∧ F i v W' ∧ R i vs v ∧ ∀ j u, F j u W → F j u W'))
    (hfin : ∀ (vs : Nat → Value) (W : World), B W → (∀ i, i < n → F i (vs i) W) → (∀ i, i < n → R i vs (vs i)) → wpList P l.toArray Q (l.drop n) (lexA l vs n a) W) : (Code.region id l.toArray true).wp P Q a w := by
  have hB' := hB
  simp only [Region.invB, Bool.and_eq_true, decide_eq_true_eq] at hB
  obtain ⟨⟨⟨⟨⟨⟨hsel, hn⟩, hs⟩, hc⟩, ht⟩, hdp⟩, hcan⟩ := hB
  have hn' : n < l.length := by simpa using hn
  have inv0 : HeadInv .any l.toArray n (Array.replicate l.toArray.size false) :=
    ⟨by simp, fun j oj _ hl => (by rw [getD_replicate_false] at hl; cases hl), fun t _ ht => getD_in (by simpa using ht) (getD_replicate_false _ _)⟩
  refine wp_region_any hm ?_
  have hcnt : ∀ m, cntI (fun _ => false) m = m := fun m => by
    induction m with
    | zero => rfl
    | succ m ih => unfold cntI; rw [ih]; rfl
  have := wpAny_inv2 (P := P) (Q := Q) a n B F R hloc hB' hstep hfin n (Array.replicate l.toArray.size false) (fun _ => false) (fun _ => undef) w.drew inv0 (fun j => (getD_replicate_false _ _).symm) (hcnt n) hS (fun j _ h => by cases h)
  rw [show n + (l.toArray.size - n) = l.toArray.size by simp; omega] at this
  have h0 : ∀ (l : List Oper) (k : Nat) (b : Act), putAll (fun _ => false) (fun _ => undef) l k b = b := by
    intro l
    induction l with
    | nil => intro k b; rfl
    | cons o l ih => intro k b; unfold putAll; simpa using ih (k + 1) b
  rw [h0] at this
  exact this
end
end Go.Proofs.YtnnbnecpcppkdaaDoor
namespace Go.Proofs.YtnnbnecpcppkdaaDoor
open Go.RowKit Go.Gy
set_option linter.unusedVariables false
def CloneIs (w : World) (l : List Q3) (e : Ending) (w' : World) : Prop := ∃ v', e = .returned v' ∧ w'.ownsRow w.heap.size 25 3 v' l.length (l.flatMap encQ) ∧ Below w.heap.size w w'
theorem encQ_one (l : List Q3) : ∀ u ∈ l.flatMap encQ, u.oneCell' = true := by
  intro u hu
  obtain ⟨x, _, hx⟩ := List.mem_flatMap.1 hu
  simp only [encQ, List.mem_cons, List.not_mem_nil, or_false] at hx
  rcases hx with rfl | rfl | rfl <;> rfl
set_option maxRecDepth 100000 in
set_option maxHeartbeats 2000000 in
theorem clone_rats (w : World) (v : Value) (l : List Q3) (hx : SlQ w w.heap.size v l) (hb : l.length ≤ 1099511627776) :
    Calls Tryd.prog 76 #[v] w (CloneIs w l) := by
  obtain ⟨i0, hi, hi1⟩ := Option.map_eq_some_iff.1 info_rat
  injection hi1 with hz0 hi1
  injection hi1 with hz1 hz2
  obtain ⟨A, n, c, rfl, hxl, hnc, hA, hr⟩ := hx
  have he := fun w => Lib.run_eql_slice_nil (P := Tryd.prog) w 48 25 A n c 0 0 Tryd.underlying48
  cases A with
  | none =>
    have hc := hA rfl
    subst hc
    obtain rfl : n = 0 := by omega
    have hx0 : l = [] := List.eq_nil_of_length_eq_zero hxl
    subst hx0
    have HX := Lib.hid (show CloneIs w [] (.returned (.slice none 0 0)) w from ⟨_, rfl, World.ownsRow_nil _ _ _ _, Below.refl _ _⟩)
    clear hr hA hnc hxl
    go_enter Tryd.func76, Tryd.ntmps76
    go_wp2
    go_ret
    exact HX.out
  | some ad =>
    clear hA
    subst hxl
    go_enter Tryd.func76, Tryd.ntmps76
    go_wp2_with (at_builtin; refine wpList_extend rfl (.tmp 5) (.tmp 6) 48 rfl w.heap.size 25 i0 (.agg #[.bool false, .string { data := #[] }, .string { data := #[] }]) 3 40 Tryd.underlying48 hi hz0 hz1 hz2 rfl (by omega) _ _ _ rfl (World.ownsRow_lit w #[] 0 (Nat.le_refl _) (by omega) rfl) (some ad) l.length c w.heap.size (l.flatMap encQ) rfl (fun h => by cases h) (hr.alloc (Nat.le_refl _) _) (encQ_one l) (by unfold maxLen; omega) (by omega) (by simp) ?_; intro v1 w1 hown1 hb1)
    have HX := Lib.hid (show CloneIs w l (.returned v1) w1 from ⟨_, rfl, by simpa using hown1, ((Below.refl _ _).alloc (Nat.le_refl _) _).trans hb1⟩)
    obtain ⟨A1, c1, rfl, _, _, _⟩ := own_rd hown1
    clear hown1 hb1
    go_wp2
    go_ret
    exact HX.out
theorem set3 (q : Q3) : ∀ (l : List Q3) (i : Nat), i < l.length → (((l.flatMap encQ).set (i * 3) (.bool q.neg)).set (i * 3 + 1) (.string q.num)).set (i * 3 + 2) (.string q.den) = (l.set i q).flatMap encQ
  | [], i, h => absurd h (Nat.not_lt_zero i)
  | x :: l, 0, _ => by simp [encQ]
  | x :: l, i + 1, h => by
    have ih := set3 q l i (by simpa using h)
    rw [List.flatMap_cons, List.set_cons_succ, List.flatMap_cons, ← ih]
    simp only [encQ, List.cons_append, List.nil_append]
    rw [show (i + 1) * 3 = i * 3 + 1 + 1 + 1 by omega]
    simp only [List.set_cons_succ, show i * 3 + 1 + 1 + 1 + 1 = (i * 3 + 1) + 1 + 1 + 1 by omega, show i * 3 + 1 + 1 + 1 + 2 = (i * 3 + 2) + 1 + 1 + 1 by omega]
theorem own_set3 {w : World} {base g cap n : Nat} {e : TypeId} {l : List Q3} (h : w.ownsRow base e 3 (.slice (some ⟨g, 0, none⟩) n cap) n (l.flatMap encQ)) {i : Nat} (hi : i < l.length) (q : Q3) :
    (((w.setCell ⟨g, i * 3, none⟩ (.bool q.neg)).setCell ⟨g, i * 3 + 1, none⟩ (.string q.num)).setCell ⟨g, i * 3 + 2, none⟩ (.string q.den)).ownsRow base e 3 (.slice (some ⟨g, 0, none⟩) n cap) n ((l.set i q).flatMap encQ) := by
  rw [← set3 q l i hi]
  exact (((h.stored (i * 3) (.bool q.neg)).1.stored (i * 3 + 1) (.string q.num)).1.stored (i * 3 + 2) (.string q.den)).1
theorem grown3 (W : World) (g a b c : Nat) (x y z : Value) : W.grownBy (((W.setCell ⟨g, a, none⟩ x).setCell ⟨g, b, none⟩ y).setCell ⟨g, c, none⟩ z) (some g) :=
  grown_trans2 (grown_trans2 (grown_set W g a x) (grown_set _ g b y)) (grown_set _ g c z)
end Go.Proofs.YtnnbnecpcppkdaaDoor
namespace Go.Proofs.YtnnbnecpcppkdaaDoor
open Go.RowKit Go.Gy
set_option linter.unusedVariables false
theorem Q3.can.good2 {x : Q3} (h : x.can) : GoodR x.neg x.num x.den := by
  rw [h]
  exact parts_good _
theorem small1 {x : Q3} (h : x.can) (l : x.le 1) : SmallP x := by
  have h1 : x.num.size ≤ 1 := l.1
  have h2 : x.den.size ≤ 1 := l.2
  have b1 : sval x.num < 256 := by
    have := bval_lt x.num.data.toList
    exact Nat.lt_of_lt_of_le this (Nat.le_trans (Nat.pow_le_pow_right (by omega) (show x.num.data.toList.length ≤ 1 by simpa using h1)) (by decide))
  have b2 : sval x.den < 256 := by
    have := bval_lt x.den.data.toList
    exact Nat.lt_of_lt_of_le this (Nat.le_trans (Nat.pow_le_pow_right (by omega) (show x.den.data.toList.length ≤ 1 by simpa using h2)) (by decide))
  exact ⟨by omega, by omega, h.good2, by omega, by omega⟩
def areaZ (a b c : Int × Int) : Int := (b.1 - a.1) * (c.2 - a.2) - (b.2 - a.2) * (c.1 - a.1)
def convB (zs : List (Int × Int)) : Bool := (List.range zs.length).all fun i => (List.range zs.length).all fun k => decide (k < 2) ||
  (match zs[i]?, zs[(i + 1) % zs.length]?, zs[(i + k) % zs.length]? with
   | some a, some b, some c => decide (0 < areaZ a b c)
   | _, _, _ => false)
theorem mk4 (x : Int) : mkRat x 4 = (x : Rat) * (1 / 4) := by
  rw [Rat.mkRat_eq_div, Rat.div_def, show (((4 : Nat) : Rat))⁻¹ = 1 / 4 from by decide +kernel]
theorem area_pt {p q r : P2} {a b c : Int × Int} (hp : PtIs p a.1 a.2) (hq : PtIs q b.1 b.2) (hr : PtIs r c.1 c.2) : areaQ p q r = (areaZ a b c : Rat) * (1 / 16) := by
  unfold areaQ areaZ
  rw [hp.1, hp.2.1, hq.1, hq.2.1, hr.1, hr.2.1, mk4, mk4, mk4, mk4, mk4, mk4, Rat.intCast_sub, Rat.intCast_mul, Rat.intCast_mul, Rat.intCast_sub, Rat.intCast_sub, Rat.intCast_sub, Rat.intCast_sub]
  grind
theorem area_pos {p q r : P2} {a b c : Int × Int} (hp : PtIs p a.1 a.2) (hq : PtIs q b.1 b.2) (hr : PtIs r c.1 c.2) (h : 0 < areaZ a b c) : 0 < areaQ p q r := by
  rw [area_pt hp hq hr]
  have h1 : ((0 : Int) : Rat) < (areaZ a b c : Rat) := Rat.intCast_lt_intCast.mpr h
  have h0 : ((0 : Int) : Rat) = 0 := rfl
  rw [h0] at h1
  grind
theorem PtsOf.get : ∀ {l : List P2} {zs : List (Int × Int)}, PtsOf l zs → ∀ {i : Nat} {p : P2}, l[i]? = some p → ∃ z, zs[i]? = some z ∧ PtIs p z.1 z.2
  | [], _, _, _, _, hi => by simp at hi
  | p :: l, z :: zs, h, 0, q, hi => by
    simp only [List.getElem?_cons_zero, Option.some.injEq] at hi
    subst hi
    exact ⟨z, rfl, h.1⟩
  | p :: l, z :: zs, h, i + 1, q, hi => PtsOf.get h.2 (i := i) (by simpa using hi)
  | _ :: _, [], h, _, _, _ => False.elim h
theorem conv_shape {c : Int} (hc : 0 ≤ c ∧ c ≤ 3) {zs : List (Int × Int)} (h : zs = [(-1, -1), (4 + 2 * c + 1, -1), (4 + 2 * c + 1, 1), (-1, 1)] ∨ zs = [(-1, -1), (4 + 2 * c + 1, 0), (-1, 1)]) : convB zs = true := by
  have h4 : c = 0 ∨ c = 1 ∨ c = 2 ∨ c = 3 := by omega
  rcases h4 with rfl | rfl | rfl | rfl <;> rcases h with rfl | rfl <;> decide +kernel
theorem conv_of {l : List P2} {zs : List (Int × Int)} (hl : PtsOf l zs) (hc : convB zs = true) : Conv l := by
  have hlen := hl.len2
  unfold convB at hc
  rw [List.all_eq_true] at hc
  intro i k hi hk2 hk a b c ha hb hcc
  have h1 := hc i (List.mem_range.2 (by omega))
  rw [List.all_eq_true] at h1
  have h2 := h1 k (List.mem_range.2 (by omega))
  rw [decide_eq_false (by omega : ¬ k < 2), Bool.false_or] at h2
  rw [hlen] at hb hcc
  obtain ⟨za, ea, pa⟩ := hl.get ha
  obtain ⟨zb, eb, pb⟩ := hl.get hb
  obtain ⟨zc, ec, pc⟩ := hl.get hcc
  rw [ea, eb, ec] at h2
  exact area_pos pa pb pc (of_decide_eq_true h2)
theorem len_pos (c : Int) (hc : 0 ≤ c ∧ c ≤ 3) : 0 < mkRat (4 + 2 * c) 4 := by
  have h4 : c = 0 ∨ c = 1 ∨ c = 2 ∨ c = 3 := by omega
  rcases h4 with rfl | rfl | rfl | rfl <;> decide +kernel
theorem sp_pos (d : Int) (hd : 0 ≤ d ∧ d ≤ 7) : 0 < mkRat 1 (4 + d).toNat := by
  have h8 : d = 0 ∨ d = 1 ∨ d = 2 ∨ d = 3 ∨ d = 4 ∨ d = 5 ∨ d = 6 ∨ d = 7 := by omega
  rcases h8 with rfl | rfl | rfl | rfl | rfl | rfl | rfl | rfl <;> decide +kernel
theorem low_neg (a : Int) (h : 0 ≤ a ∧ a ≤ 5) : mkRat (-1 - a) 3 < 0 := by
  have h6 : a = 0 ∨ a = 1 ∨ a = 2 ∨ a = 3 ∨ a = 4 ∨ a = 5 := by omega
  rcases h6 with rfl | rfl | rfl | rfl | rfl | rfl <;> decide +kernel
theorem high_pos (a : Int) (h : 0 ≤ a ∧ a ≤ 5) : 0 < mkRat (1 + a) 3 := by
  have h6 : a = 0 ∨ a = 1 ∨ a = 2 ∨ a = 3 ∨ a = 4 ∨ a = 5 := by omega
  rcases h6 with rfl | rfl | rfl | rfl | rfl | rfl <;> decide +kernel
theorem PtsOf.all {l : List P2} {zs : List (Int × Int)} (h : PtsOf l zs) : ∀ p ∈ l, p.can ∧ p.le 1 := by
  intro p hp
  obtain ⟨i, hi, rfl⟩ := List.getElem_of_mem hp
  obtain ⟨z, _, hpt⟩ := h.get (List.getElem?_eq_getElem hi)
  exact ⟨hpt.2.2.1, hpt.2.2.2⟩
theorem GenLk.ok {k : Lk} {l : List P2} (h : GenLk k l) : LinkE k l 0 := by
  have hbr := h.brake.1
  obtain ⟨c, a, e, d, f, zs, hc, ha, he, hd, hf, ⟨q1, q2, q3, q4, q5⟩, ⟨c1, c2, c3, c4, c5⟩, ⟨l1, l2, l3, l4, l5⟩, hp, hz⟩ := h
  refine .inr ⟨⟨?_, ?_, ?_, ?_, hbr⟩, 0, ?_, .inr (.inr ⟨rfl, ?_, rfl⟩)⟩
  · intro x hx
    simp only [List.mem_cons, List.not_mem_nil, or_false] at hx
    rcases hx with rfl | rfl | rfl | rfl | rfl
    · exact small1 c1 l1
    · exact small1 c2 l2
    · exact small1 c3 l3
    · exact small1 c4 l4
    · exact small1 c5 l5
  · rw [q1]; exact len_pos c hc
  · rw [q2, q3]
    have h1 := low_neg a ha
    have h2 := high_pos e he
    grind
  · rw [q4]; exact sp_pos d hd
  · have hl : l.length = 3 ∨ l.length = 4 := by
      have := hp.len2
      rcases hz with rfl | rfl
      · exact .inr this
      · exact .inl this
    exact .inr (.inr (.inr ⟨by omega, by omega, conv_of hp (conv_shape hc hz), rfl⟩))
  · intro p hpm x hx
    obtain ⟨h1, h2⟩ := hp.all p hpm
    simp only [List.mem_cons, List.not_mem_nil, or_false] at hx
    rcases hx with rfl | rfl
    · exact small1 h1.1 h2.1
    · exact small1 h1.2 h2.2
theorem GenAr.ok {a : Ar} (h : GenAr a) : ArmE a 0 := by
  have hl := h.len
  refine .inr (.inr (.inr ⟨?_, hl.2, by omega, ⟨?_, ?_⟩, LinksE.ok fun x hx => (h.lk x hx).ok⟩))
  · rw [h.nm]
    refine ⟨fun i hi => ?_, by decide, by decide⟩
    have h3 : i = 0 ∨ i = 1 ∨ i = 2 := by
      have : i < 3 := hi
      omega
    rcases h3 with rfl | rfl | rfl
    · exact (by decide : 97 ≤ (111 : Nat) ∧ (111 : Nat) ≤ 122)
    · exact (by decide : 97 ≤ (110 : Nat) ∧ (110 : Nat) ≤ 122)
    · exact (by decide : 97 ≤ (101 : Nat) ∧ (101 : Nat) ≤ 122)
  · intro x hx
    simp only [List.mem_cons, List.not_mem_nil, or_false] at hx
    rcases hx with rfl | rfl | rfl
    · exact small1 h.p.2.2.1.1 h.p.2.2.2.1
    · exact small1 h.p.2.2.1.2 h.p.2.2.2.2
    · exact small1 h.t.1 h.t.2
  · rw [h.half]
    intro hh
    cases hh.1
theorem GenLk.le {k : Lk} {l : List P2} (h : GenLk k l) : k.le 1 ∧ (∀ y ∈ l, y.le 1) ∧ l.length ≤ 4 := by
  obtain ⟨c, a, e, d, f, zs, _, _, _, _, _, _, _, hl, hp, hz⟩ := h
  refine ⟨hl, fun y hy => (hp.all y hy).2, ?_⟩
  have := hp.len2
  rcases hz with rfl | rfl
  · exact Nat.le_of_eq this
  · rw [this]; simp
theorem GenAr.le {a : Ar} (h : GenAr a) : a.le 4 := by
  refine ⟨⟨h.p.2.2.2.1.more (by decide), h.p.2.2.2.2.more (by decide)⟩, h.t.2.more (by decide), by rw [h.nm]; decide, fun x hx => ?_⟩
  obtain ⟨h1, h2, h3⟩ := (h.lk x hx).le
  exact ⟨h1.more (by decide), fun y hy => ⟨(h2 y hy).1.more (by decide), (h2 y hy).2.more (by decide)⟩, h3⟩
end Go.Proofs.YtnnbnecpcppkdaaDoor
