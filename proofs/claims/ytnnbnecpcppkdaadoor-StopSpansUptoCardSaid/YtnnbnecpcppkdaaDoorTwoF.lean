/- A region that draws and makes two blocks at any time. Conditions: those typed. -/
import Derived.Test.YtnnbnecpcppkdaaDoorSeqIn
namespace Go.Proofs.YtnnbnecpcppkdaaDoor
open Go Go.RowKit
set_option linter.unusedVariables false
section
variable {P : Program} {ops : Array Oper} {md : Region.Mode} {S : World → Prop}
/-- as wpAnyV, with two operations (numbers fl and fl + 1) that make memory at any time -/
def wpAnyX (P : Program) (md : Region.Mode) (ops : Array Oper) (T : Option Value → Option Value → World → Prop) (n fl : Nat) (L : Array Bool → Act → Option Value → Option Value → Prop) : Nat → Array Bool → Act → Option Value → Option Value → Prop
  | 0, listed, a, x, y => L listed a x y
  | f + 1, listed, a, x, y =>
    Region.ready md ops listed ≠ [] ∧ ∀ i ∈ Region.ready md ops listed, i < n ∧ ∃ o, ops[i]? = some o ∧
      ((i = fl ∧ x = none ∧ Region.wanted o (yielded ops a.tmps) = true ∧ (∀ w, T x y w → ∃ v w', (execOp a.eval o).run P w = .ok (.value v) w' ∧ T (some v) y w') ∧ ∀ v, wpAnyX P md ops T n fl L f (listed.setIfInBounds i true) (a.put o.dst v) (some v) y) ∨
       (i = fl + 1 ∧ y = none ∧ Region.wanted o (yielded ops a.tmps) = true ∧ (∀ w, T x y w → ∃ v w', (execOp a.eval o).run P w = .ok (.value v) w' ∧ T x (some v) w') ∧ ∀ v, wpAnyX P md ops T n fl L f (listed.setIfInBounds i true) (a.put o.dst v) x (some v)) ∨
       (i ≠ fl ∧ i ≠ fl + 1 ∧ ∃ v, YieldsS P ops (T x y) o v a ∧ wpAnyX P md ops T n fl L f (listed.setIfInBounds i true) (a.put o.dst v) x y))
theorem wpAny_of_X {T : Option Value → Option Value → World → Prop} (hT : ∀ x y, Lasts (T x y)) {n fl g : Nat} {L : Array Bool → Act → Option Value → Option Value → Prop} {Q' : Exit → Act → World → Prop} (hL : ∀ listed a x y w, T x y w → L listed a x y → wpAny P md ops Q' g listed a w) :
    ∀ (f : Nat) (listed : Array Bool) (a : Act) (x y : Option Value) (w : World), T x y w → wpAnyX P md ops T n fl L f listed a x y → wpAny P md ops Q' (f + g) listed a w
  | 0, listed, a, x, y, w, hS, h => by rw [Nat.zero_add]; exact hL _ _ _ _ _ hS h
  | f + 1, listed, a, x, y, w, hS, h => by
    rw [show f + 1 + g = (f + g) + 1 by omega]
    refine ⟨fun h0 => absurd h0 h.1, fun i hi => ?_⟩
    obtain ⟨_, o, ho, ⟨_, _, hw, hr, hn⟩ | ⟨_, _, hw, hr, hn⟩ | ⟨_, _, v, hy, hn⟩⟩ := h.2 i hi
    · obtain ⟨v, w', hr', hT'⟩ := hr w hS
      unfold Go.wpOp
      simp only [ho, hw, if_true]
      refine .inl ?_
      unfold Oper.wp
      rw [hr']
      exact wpAny_of_X hT hL f _ _ _ _ _ hT' (hn v)
    · obtain ⟨v, w', hr', hT'⟩ := hr w hS
      unfold Go.wpOp
      simp only [ho, hw, if_true]
      refine .inl ?_
      unfold Oper.wp
      rw [hr']
      exact wpAny_of_X hT hL f _ _ _ _ _ hT' (hn v)
    · exact hy.wpOp ho (hT x y) hS fun w' hS' => wpAny_of_X hT hL f _ _ _ _ w' hS' hn
theorem wpAnyX_first {T : Option Value → Option Value → World → Prop} (hw1 : ∀ v y w, T (some v) y w → T none y w) (hw2 : ∀ x v w, T x (some v) w → T x none w) {n fl i : Nat} {oi : Oper} {v : Value} {L : Array Bool → Act → Option Value → Option Value → Prop} (hi : ops[i]? = some oi) (hif : i ≠ fl ∧ i ≠ fl + 1) (hsel : ∀ (j : Nat) (o : Oper) cs b, ops[j]? = some o → o.op ≠ .select cs b)
    (hs : Region.sinkB md ops n = true) (hc : Region.chainB md ops n = true) (hn : n < ops.size) (hin : i < n)
    (hdone : ∀ listed a x y, L listed a x y → ∀ j ∈ Region.ready md ops listed, n ≤ j) :
    ∀ (f : Nat) (listed : Array Bool) (a : Act) (x y : Option Value), HeadInv md ops n listed →
      (∀ j oj, ops[j]? = some oj → j ≠ i → listed.getD j true = false → (∀ e ∈ oj.after, Region.binds md e = true → e.on ≠ i) → oi.apart ops oj = true) →
      i ∈ Region.ready md ops listed → YieldsS P ops (T x y) oi v a →
      wpAnyX P md ops T n fl L f (listed.setIfInBounds i true) (a.put oi.dst v) x y → wpAnyX P md ops T n fl L (f + 1) listed a x y := by
  intro f
  induction f with
  | zero =>
    intro listed a x y inv _ hr hy H
    have hun := (mem_ready.1 hr).1
    refine ⟨fun h => (by rw [h] at hr; cases hr), fun j hj => ?_⟩
    have hjn : j < n := by
      rcases Nat.lt_or_ge j n with h | h
      · exact h
      · exact absurd hj (tail_waits hs hc hn inv _ i rfl hin hun j h)
    refine ⟨hjn, ?_⟩
    by_cases hji : j = i
    · subst hji; exact ⟨oi, hi, .inr (.inr ⟨hif.1, hif.2, v, hy, H⟩)⟩
    · have := hdone _ _ _ _ H j (ready_mono hj hji)
      omega
  | succ f ih =>
    intro listed a x y inv hfree hr hy H
    have hun := (mem_ready.1 hr).1
    refine ⟨fun h => (by rw [h] at hr; cases hr), fun j hj => ?_⟩
    have hjn : j < n := by
      rcases Nat.lt_or_ge j n with h | h
      · exact h
      · exact absurd hj (tail_waits hs hc hn inv _ i rfl hin hun j h)
    refine ⟨hjn, ?_⟩
    by_cases hji : j = i
    · subst hji; exact ⟨oi, hi, .inr (.inr ⟨hif.1, hif.2, v, hy, H⟩)⟩
    · obtain ⟨oj, hoj, hcase⟩ := (H.2 j (ready_mono hj hji)).2
      obtain ⟨hjun, oj', hoj', hall⟩ := mem_ready.1 hj
      have : oj' = oj := Option.some.inj (hoj'.symm.trans hoj)
      subst this
      have hnot : ∀ e ∈ oj'.after, Region.binds md e = true → e.on ≠ i := fun e he hb heq => by
        have h1 := hall e he hb
        rw [heq, getD_both hun] at h1
        cases h1
      obtain ⟨h1, h2, h3⟩ := Oper.apart_spec (hfree j oj' hoj hji hjun hnot)
      have hfree' : ∀ k ok, ops[k]? = some ok → k ≠ i → (listed.setIfInBounds j true).getD k true = false →
          (∀ e ∈ ok.after, Region.binds md e = true → e.on ≠ i) → oi.apart ops ok = true := fun k ok hk hki hun hno => by
        refine hfree k ok hk hki ?_ hno
        by_cases hjk : j = k
        · subst hjk; exact hjun
        · rw [getD_set_ne true hjk] at hun; exact hun
      refine ⟨oj', hoj, ?_⟩
      rcases hcase with ⟨hjf, hx0, hw, hrun, hn'⟩ | ⟨hjf, hy0, hw, hrun, hn'⟩ | ⟨hj1, hj2, vj, hyj, hn'⟩
      · refine .inl ⟨hjf, hx0, by rw [← wanted_put oj' a oi.dst v h1]; exact hw, fun w hw' => ?_, fun u => ?_⟩
        · rw [← execOp_put oj' (fun cs b => hsel j oj' cs b hoj) a oi.dst v h1]
          exact hrun w hw'
        · refine ih (listed.setIfInBounds j true) _ _ _ (inv.set hj hjn) hfree' (ready_mono hr (Ne.symm hji)) ((hy.weak (fun w hw => by rw [hx0]; exact hw1 u y w hw)).of_same (execOp_put oi (fun cs b => hsel i oi cs b hi) a oj'.dst u h3) (wanted_put oi a oj'.dst u h3)) ?_
          rw [Array.setIfInBounds_comm _ _ hji, ← Act.put_comm a v u h2]
          exact hn' u
      · refine .inr (.inl ⟨hjf, hy0, by rw [← wanted_put oj' a oi.dst v h1]; exact hw, fun w hw' => ?_, fun u => ?_⟩)
        · rw [← execOp_put oj' (fun cs b => hsel j oj' cs b hoj) a oi.dst v h1]
          exact hrun w hw'
        · refine ih (listed.setIfInBounds j true) _ _ _ (inv.set hj hjn) hfree' (ready_mono hr (Ne.symm hji)) ((hy.weak (fun w hw => by rw [hy0]; exact hw2 x u w hw)).of_same (execOp_put oi (fun cs b => hsel i oi cs b hi) a oj'.dst u h3) (wanted_put oi a oj'.dst u h3)) ?_
          rw [Array.setIfInBounds_comm _ _ hji, ← Act.put_comm a v u h2]
          exact hn' u
      · refine .inr (.inr ⟨hj1, hj2, vj, hyj.of_same (execOp_put oj' (fun cs b => hsel j oj' cs b hoj) a oi.dst v h1).symm (wanted_put oj' a oi.dst v h1).symm, ih (listed.setIfInBounds j true) _ _ _ (inv.set hj hjn) hfree' (ready_mono hr (Ne.symm hji)) (hy.of_same (execOp_put oi (fun cs b => hsel i oi cs b hi) a oj'.dst vj h3) (wanted_put oi a oj'.dst vj h3)) ?_⟩)
        rw [Array.setIfInBounds_comm _ _ hji, ← Act.put_comm a v vj h2]
        exact hn'
def Region.twoAt (md : Region.Mode) (ops : Array Oper) (g fl : Nat) (listed : Array Bool) : Bool :=
  decide (Region.ready md ops listed = [fl, fl + 1]) && decide (Region.ready md ops (listed.setIfInBounds fl true) = [fl + 1]) && decide (Region.ready md ops (listed.setIfInBounds (fl + 1) true) = [fl]) &&
    Region.seqB md ops g (fl + 2) ((listed.setIfInBounds fl true).setIfInBounds (fl + 1) true)
def Region.lexTwo (md : Region.Mode) (ops : Array Oper) (g fl : Nat) : Nat → Nat → Array Bool → Bool
  | 0, k, listed => decide (k = fl) && Region.twoAt md ops g fl listed
  | f + 1, k, listed => (Region.ready md ops listed).contains k && Region.free md ops listed k && Region.lexTwo md ops g fl f (k + 1) (listed.setIfInBounds k true)
def Region.twoB (md : Region.Mode) (ops : Array Oper) (fl : Nat) : Bool :=
  Region.noSelect ops && decide (fl + 2 < ops.size) && Region.sinkB md ops (fl + 2) && Region.chainB md ops (fl + 2) && Region.lexTwo md ops (ops.size - (fl + 2)) fl fl 0 (Array.replicate ops.size false)
/-- what two operations that make memory, side by side, want -/
def TwoMake (P : Program) (ops : Array Oper) (T : Option Value → Option Value → World → Prop) (o1 o2 : Oper) (K : Act → Value → Value → Prop) (a : Act) : Prop :=
  Region.wanted o1 (yielded ops a.tmps) = true ∧ Region.wanted o2 (yielded ops a.tmps) = true ∧
  (∀ y w, T none y w → ∃ v w', (execOp a.eval o1).run P w = .ok (.value v) w' ∧ T (some v) y w') ∧ (∀ x w, T x none w → ∃ v w', (execOp a.eval o2).run P w = .ok (.value v) w' ∧ T x (some v) w') ∧
  ∀ v1 v2, K ((a.put o1.dst v1).put o2.dst v2) v1 v2
theorem wpAnyX_lex {T : Option Value → Option Value → World → Prop} (hw1 : ∀ v y w, T (some v) y w → T none y w) (hw2 : ∀ x v w, T x (some v) w → T x none w) {fl g : Nat} {Lq : Act → Value → Value → Prop} (hsel : Region.noSelect ops = true) (hs : Region.sinkB md ops (fl + 2) = true) (hc : Region.chainB md ops (fl + 2) = true) (hn : fl + 2 < ops.size) (o1 o2 : Oper) (ho1 : ops[fl]? = some o1) (ho2 : ops[fl + 1]? = some o2)
    (hap : o1.apart ops o2 = true ∧ o2.apart ops o1 = true) :
    ∀ (l : List Oper) (k : Nat) (listed : Array Bool) (a : Act), (∀ j, j < l.length → l[j]? = ops[k + j]?) → k + l.length = fl → HeadInv md ops (fl + 2) listed →
    Region.lexTwo md ops g fl l.length k listed = true → wpSeq P ops (T none none) (TwoMake P ops T o1 o2 Lq) l a →
    wpAnyX P md ops T (fl + 2) fl (fun listed' a' x y => Region.seqB md ops g (fl + 2) listed' = true ∧ ∃ v1 v2, x = some v1 ∧ y = some v2 ∧ Lq a' v1 v2) (l.length + 2) listed a none none
  | [], k, listed, a, _, hk, inv, hB, h => by
    simp only [List.length_nil, Region.lexTwo, Region.twoAt, Bool.and_eq_true, decide_eq_true_eq] at hB
    obtain ⟨_, ⟨⟨hr0, hr1⟩, hr2⟩, hseq⟩ := hB
    obtain ⟨g1, g2, g3, g4, g5⟩ := h
    obtain ⟨p1, p2, p3⟩ := Oper.apart_spec hap.1
    have hcomm : (listed.setIfInBounds (fl + 1) true).setIfInBounds fl true = (listed.setIfInBounds fl true).setIfInBounds (fl + 1) true := Array.setIfInBounds_comm _ _ (by omega)
    refine ⟨fun h0 => (by rw [h0] at hr0; cases hr0), fun i hi => ?_⟩
    rw [hr0] at hi
    have hi2 : i = fl ∨ i = fl + 1 := by simpa using hi
    rcases hi2 with rfl | rfl
    · refine ⟨by omega, o1, ho1, .inl ⟨rfl, rfl, g1, fun w hw => g3 none w hw, fun v => ?_⟩⟩
      refine ⟨fun h0 => (by rw [h0] at hr1; cases hr1), fun j hj => ?_⟩
      rw [hr1] at hj
      have hj2 : j = i + 1 := by simpa using hj
      subst hj2
      refine ⟨by omega, o2, ho2, .inr (.inl ⟨rfl, rfl, by rw [wanted_put o2 a o1.dst v p1]; exact g2, fun w hw => ?_, fun v2 => ⟨hseq, v, v2, rfl, rfl, g5 v v2⟩⟩)⟩
      rw [execOp_put o2 (fun cs b => Region.noSelect_spec hsel _ o2 cs b ho2) a o1.dst v p1]
      exact g4 (some v) w hw
    · refine ⟨by omega, o2, ho2, .inr (.inl ⟨rfl, rfl, g2, fun w hw => g4 none w hw, fun v2 => ?_⟩)⟩
      refine ⟨fun h0 => (by rw [h0] at hr2; cases hr2), fun j hj => ?_⟩
      rw [hr2] at hj
      have hj2 : j = fl := by simpa using hj
      subst hj2
      refine ⟨by omega, o1, ho1, .inl ⟨rfl, rfl, by rw [wanted_put o1 a o2.dst v2 p3]; exact g1, fun w hw => ?_, fun v => ⟨by rw [hcomm]; exact hseq, v, v2, rfl, rfl, by rw [← Act.put_comm a v v2 p2]; exact g5 v v2⟩⟩⟩
      rw [execOp_put o1 (fun cs b => Region.noSelect_spec hsel _ o1 cs b ho1) a o2.dst v2 p3]
      exact g3 (some v2) w hw
  | o :: l, k, listed, a, hl, hk, inv, hB, h => by
    have h0 : ops[k]? = some o := by simpa using (hl 0 (by simp)).symm
    simp only [List.length_cons, Region.lexTwo, Bool.and_eq_true] at hB
    obtain ⟨⟨hr, hf⟩, hB'⟩ := hB
    have hkn : k < fl := by simp only [List.length_cons] at hk; omega
    have hr' : k ∈ Region.ready md ops listed := by simpa using hr
    obtain ⟨v, hy, hK⟩ := h
    exact wpAnyX_first hw1 hw2 h0 ⟨by omega, by omega⟩ (Region.noSelect_spec hsel) hs hc hn (by omega) (fun listed' a' x y hL => seqB_ready hL.1) (l.length + 2) listed a none none inv (Region.free_spec h0 hf) hr' hy
      (wpAnyX_lex hw1 hw2 hsel hs hc hn o1 o2 ho1 ho2 hap l (k + 1) _ _ (fun j hj => by have := hl (j + 1) (by simp; omega); simpa [Nat.add_assoc, Nat.add_comm 1 j] using this) (by simp only [List.length_cons] at hk; omega) (inv.set hr' (by omega)) hB' hK)
/-- a region whose first fl operations yield so, whose operations fl and fl + 1 make memory at any time, and whose others come behind all of them in one order -/
theorem wp_region_seq_two {id : Nat} {Q : Exit → Act → World → Prop} {a : Act} {w : World} {l : List Oper} (T : Option Value → Option Value → World → Prop) (hT : ∀ x y, Lasts (T x y)) (hw1 : ∀ v y w, T (some v) y w → T none y w) (hw2 : ∀ x v w, T x (some v) w → T x none w) (fl : Nat) (o1 o2 : Oper)
    (hm : P.follows .mixedOrders = true) (hB : Region.twoB .any l.toArray fl = true) (ho1 : l[fl]? = some o1) (ho2 : l[fl + 1]? = some o2) (hap : (o1.apart l.toArray o2 && o2.apart l.toArray o1) = true) (hS : T none none w.drew)
    (h : wpSeq P l.toArray (T none none) (TwoMake P l.toArray T o1 o2 (fun a' v1 v2 => ∀ W, T (some v1) (some v2) W → wpList P l.toArray Q (l.drop (fl + 2)) a' W)) (l.take fl) a) : (Code.region id l.toArray true).wp P Q a w := by
  simp only [Region.twoB, Bool.and_eq_true, decide_eq_true_eq] at hB
  obtain ⟨⟨⟨⟨hsel, hn⟩, hs⟩, hc⟩, hlex⟩ := hB
  have hn' : fl + 2 < l.length := by simpa using hn
  have htl : (l.take fl).length = fl := by simp; omega
  have hdl : (l.drop (fl + 2)).length = l.toArray.size - (fl + 2) := by simp
  have inv0 : HeadInv .any l.toArray (fl + 2) (Array.replicate l.toArray.size false) :=
    ⟨by simp, fun j oj _ hl => (by rw [getD_replicate_false] at hl; cases hl), fun t _ ht => getD_in (by simpa using ht) (getD_replicate_false _ _)⟩
  have H := wpAnyX_lex (md := .any) hw1 hw2 (g := l.toArray.size - (fl + 2)) (Lq := fun a' v1 v2 => ∀ W, T (some v1) (some v2) W → wpList P l.toArray Q (l.drop (fl + 2)) a' W) hsel hs hc hn o1 o2 (by simpa using ho1) (by simpa using ho2) (by simpa using hap) (l.take fl) 0 _ a (fun j hj => by
    have hj' : j < fl := by rw [htl] at hj; exact hj
    simp [hj']) (by simpa using htl) inv0 (by rw [htl]; exact hlex) h
  refine wp_region_any hm ?_
  have := wpAny_of_X (Q' := Q) hT (g := l.toArray.size - (fl + 2)) (fun listed a' x y W hS' hL => by
    obtain ⟨hseq, v1, v2, rfl, rfl, hK⟩ := hL
    have := wpAny_of_seq (md := .any) (Q' := Q) (l.drop (fl + 2)) (fl + 2) listed a' W (fun j => by simp [List.getElem?_drop]) (by rw [hdl]; exact hseq) (hK W hS')
    rwa [hdl] at this) _ _ _ _ _ _ hS H
  rw [htl, show fl + 2 + (l.toArray.size - (fl + 2)) = l.toArray.size by omega] at this
  exact this
end
theorem In.swap {w W : World} {x y : Nat × TypeId × Array Value} {l : List (Nat × TypeId × Array Value)} (h : In w (x :: y :: l) W) : In w (y :: x :: l) W :=
  ⟨h.bel, fun z hz => h.blk z (by simp only [List.mem_cons] at hz ⊢; rcases hz with h | h | h; exact .inr (.inl h); exact .inl h; exact .inr (.inr h)),
    fun z hz => h.new z (by simp only [List.mem_cons] at hz ⊢; rcases hz with h | h | h; exact .inr (.inl h); exact .inl h; exact .inr (.inr h)), by
    have := h.apart
    simp only [List.map_cons, List.nodup_cons, List.mem_cons, not_or] at this ⊢
    exact ⟨⟨fun e => this.1.1 e.symm, this.2.1⟩, this.1.2, this.2.2⟩⟩
def InT (w0 : World) (ls : List (Nat × TypeId × Array Value)) (t1 : TypeId) (c1 : Array Value) (t2 : TypeId) (c2 : Array Value) (x y : Option Value) (W : World) : Prop :=
  match x, y with
  | none, none => In w0 ls W
  | some v, none => ∃ g, v = .pointer (some ⟨g, 0, none⟩) ∧ In w0 ((g, t1, c1) :: ls) W
  | none, some u => ∃ g, u = .pointer (some ⟨g, 0, none⟩) ∧ In w0 ((g, t2, c2) :: ls) W
  | some v, some u => ∃ g1 g2, v = .pointer (some ⟨g1, 0, none⟩) ∧ u = .pointer (some ⟨g2, 0, none⟩) ∧ In w0 ((g2, t2, c2) :: (g1, t1, c1) :: ls) W
section
variable {P : Program} {w0 w : World} {ls : List (Nat × TypeId × Array Value)}
theorem wp_region_in_two {id : Nat} {Q : Exit → Act → World → Prop} {a : Act} {l : List Oper} (fl : Nat) (o1 o2 : Oper) (t1 : TypeId) (c1 : Array Value) (t2 : TypeId) (c2 : Array Value) (hI : In w0 ls w) (hm : P.follows .mixedOrders = true) (hB : Region.twoB .any l.toArray fl = true)
    (ho1 : l[fl]? = some o1) (ho2 : l[fl + 1]? = some o2) (hap : (o1.apart l.toArray o2 && o2.apart l.toArray o1) = true)
    (h : wpSeq P l.toArray (In w0 ls) (fun a' => Region.wanted o1 (yielded l.toArray a'.tmps) = true ∧ Region.wanted o2 (yielded l.toArray a'.tmps) = true ∧
      (∀ w, (execOp a'.eval o1).run P w = .ok (.value (.pointer (some ⟨w.heap.size, 0, none⟩))) (w.alloc (.cells c1 t1))) ∧ (∀ w, (execOp a'.eval o2).run P w = .ok (.value (.pointer (some ⟨w.heap.size, 0, none⟩))) (w.alloc (.cells c2 t2))) ∧
      ∀ g1 g2 W, In w0 ((g2, t2, c2) :: (g1, t1, c1) :: ls) W → wpList P l.toArray Q (l.drop (fl + 2)) ((a'.put o1.dst (.pointer (some ⟨g1, 0, none⟩))).put o2.dst (.pointer (some ⟨g2, 0, none⟩))) W) (l.take fl) a) : (Code.region id l.toArray true).wp P Q a w := by
  refine wp_region_seq_two (InT w0 ls t1 c1 t2 c2) (fun x y W W' h hb => ?_) (fun v y W h => ?_) (fun x v W h => ?_) fl o1 o2 hm hB ho1 ho2 hap hI.drew (wpSeq_mono (fun a' h => ?_) h)
  · rcases x with _ | v <;> rcases y with _ | u
    · exact In.call h hb
    · obtain ⟨g, e, h⟩ := h; exact ⟨g, e, h.call hb⟩
    · obtain ⟨g, e, h⟩ := h; exact ⟨g, e, h.call hb⟩
    · obtain ⟨g1, g2, e1, e2, h⟩ := h; exact ⟨g1, g2, e1, e2, h.call hb⟩
  · rcases y with _ | u
    · obtain ⟨g, e, h⟩ := h; exact h.tail
    · obtain ⟨g1, g2, e1, e2, h⟩ := h; exact ⟨g2, e2, h.swap.tail⟩
  · rcases x with _ | u
    · obtain ⟨g, e, h⟩ := h; exact h.tail
    · obtain ⟨g1, g2, e1, e2, h⟩ := h; exact ⟨g1, e1, h.tail⟩
  · obtain ⟨k1, k2, k3, k4, k5⟩ := h
    refine ⟨k1, k2, fun y W hW => ⟨_, _, k3 W, ?_⟩, fun x W hW => ⟨_, _, k4 W, ?_⟩, fun v1 v2 W hW => ?_⟩
    · rcases y with _ | u
      · exact ⟨_, rfl, In.alloc hW t1 c1⟩
      · obtain ⟨g, e, h⟩ := hW; exact ⟨_, g, rfl, e, (h.alloc t1 c1).swap⟩
    · rcases x with _ | u
      · exact ⟨_, rfl, In.alloc hW t2 c2⟩
      · obtain ⟨g, e, h⟩ := hW; exact ⟨g, _, e, rfl, h.alloc t2 c2⟩
    · obtain ⟨g1, g2, rfl, rfl, h⟩ := hW
      exact k5 g1 g2 W h
end
end Go.Proofs.YtnnbnecpcppkdaaDoor
