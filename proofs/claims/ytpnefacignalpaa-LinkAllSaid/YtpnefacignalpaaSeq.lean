/- A region that draws its order, in which every operation (of a head) yields the same value in every world that meets S, and S holds behind it: one walk in the order of the text serves all orders. Conditions: those typed. -/
import Derived.StillTail
import Derived.Deep.RegionHeld
import Derived.Below
namespace Go.Proofs.Ytpnefacignalpaa
open Go Go.RowKit
set_option linter.unusedVariables false
section
variable {P : Program} {ops : Array Oper} {md : Region.Mode} {S : World → Prop}
/-- what stays true where only new memory is made -/
def Lasts (S : World → Prop) : Prop := ∀ w w', S w → Below w.heap.size w w' → S w'
/-- o yields v in every world that meets S, and what was there is as it was -/
def YieldsS (P : Program) (ops : Array Oper) (S : World → Prop) (o : Oper) (v : Value) (a : Act) : Prop :=
  (Region.wanted o (yielded ops a.tmps) = true ∧ ∀ w, S w → (∃ w', (execOp a.eval o).run P w = .ok (.value v) w' ∧ Below w.heap.size w w') ∨ (∃ w', (execOp a.eval o).run P w = .ok .skip w' ∧ v = undef ∧ Below w.heap.size w w') ∨
    ∃ f args, (execOp a.eval o).run P w = .ok (.enter f args) w ∧ Calls P f args w (fun e w'' => e = .returned v ∧ Below w.heap.size w w'')) ∨
  (Region.wanted o (yielded ops a.tmps) = false ∧ v = undef)
theorem YieldsS.weak {S' : World → Prop} {o : Oper} {v : Value} {a : Act} (hy : YieldsS P ops S o v a) (h : ∀ w, S' w → S w) : YieldsS P ops S' o v a := by
  rcases hy with ⟨hw, hv⟩ | hn
  · exact .inl ⟨hw, fun w hw' => hv w (h w hw')⟩
  · exact .inr hn
theorem YieldsS.wpOp {i : Nat} {o : Oper} {v : Value} {a : Act} {w : World} {Q : Exit → Act → World → Prop} (hi : ops[i]? = some o) (hy : YieldsS P ops S o v a) (hl : Lasts S) (hS : S w) {K : Act → World → Prop} (h : ∀ w', S w' → K (a.put o.dst v) w') : wpOp P ops Q i K a w := by
  unfold Go.wpOp
  simp only [hi]
  rcases hy with ⟨hw, hv⟩ | ⟨hw, rfl⟩
  · simp only [hw, if_true]
    refine .inl ?_
    unfold Oper.wp
    rcases hv w hS with ⟨w', hr, hS'⟩ | ⟨w', hr, rfl, hS'⟩ | ⟨f, args, hr, hc⟩
    · rw [hr]; exact h _ (hl _ _ hS hS')
    · rw [hr]; exact h _ (hl _ _ hS hS')
    · rw [hr]
      exact hc.mono fun e w'' ⟨he, hS'⟩ => by subst he; exact h _ (hl _ _ hS hS')
  · simp only [hw, Bool.false_eq_true, if_false]; exact h _ hS
theorem YieldsS.of_same {o : Oper} {v : Value} {a a' : Act} (hy : YieldsS P ops S o v a) (he : execOp a'.eval o = execOp a.eval o)
    (hw : Region.wanted o (yielded ops a'.tmps) = Region.wanted o (yielded ops a.tmps)) : YieldsS P ops S o v a' := by
  unfold YieldsS at *
  rw [he, hw]
  exact hy
/-- the operations one behind the other, in the order of the text -/
def wpSeq (P : Program) (ops : Array Oper) (S : World → Prop) (Q : Act → Prop) : List Oper → Act → Prop
  | [], a => Q a
  | o :: rest, a => ∃ v, YieldsS P ops S o v a ∧ wpSeq P ops S Q rest (a.put o.dst v)
def wpAnyT (P : Program) (md : Region.Mode) (ops : Array Oper) (S : World → Prop) (Q : Act → Prop) : Nat → Array Bool → Act → Prop
  | 0, listed, a => Region.ready md ops listed = [] ∧ Q a
  | f + 1, listed, a => (Region.ready md ops listed = [] → Q a) ∧ ∀ i ∈ Region.ready md ops listed, ∃ o v, ops[i]? = some o ∧ YieldsS P ops S o v a ∧ wpAnyT P md ops S Q f (listed.setIfInBounds i true) (a.put o.dst v)
theorem wpAny_of_T (hl : Lasts S) {Q : Act → Prop} {Q' : Exit → Act → World → Prop} (hQ : ∀ a w, S w → Q a → Q' .normal a w) : ∀ (f : Nat) (listed : Array Bool) (a : Act) (w : World), S w → wpAnyT P md ops S Q f listed a → wpAny P md ops Q' f listed a w
  | 0, _, _, _, hS, h => ⟨h.1, hQ _ _ hS h.2⟩
  | f + 1, _, _, _, hS, h => ⟨fun h0 => hQ _ _ hS (h.1 h0), fun i hi => by
    obtain ⟨o, v, ho, hy, hn⟩ := h.2 i hi
    exact hy.wpOp ho hl hS fun w' hS' => wpAny_of_T hl hQ f _ _ w' hS' hn⟩
theorem wpAnyT_first {Q : Act → Prop} {i : Nat} {oi : Oper} {v : Value} (hi : ops[i]? = some oi) (hsel : ∀ (j : Nat) (o : Oper) cs b, ops[j]? = some o → o.op ≠ .select cs b) :
    ∀ (fuel : Nat) (listed : Array Bool) (a : Act),
      (∀ j oj, ops[j]? = some oj → j ≠ i → listed.getD j true = false → (∀ e ∈ oj.after, Region.binds md e = true → e.on ≠ i) → oi.apart ops oj = true) →
      i ∈ Region.ready md ops listed → YieldsS P ops S oi v a →
      wpAnyT P md ops S Q fuel (listed.setIfInBounds i true) (a.put oi.dst v) → wpAnyT P md ops S Q (fuel + 1) listed a := by
  intro fuel
  induction fuel with
  | zero =>
    intro listed a _ hr hy H
    refine ⟨fun h => (by rw [h] at hr; cases hr), fun j hj => ?_⟩
    by_cases hji : j = i
    · subst hji; exact ⟨oi, v, hi, hy, H⟩
    · have := ready_mono hj hji
      rw [H.1] at this
      cases this
  | succ fuel ih =>
    intro listed a hfree hr hy H
    refine ⟨fun h => (by rw [h] at hr; cases hr), fun j hj => ?_⟩
    by_cases hji : j = i
    · subst hji; exact ⟨oi, v, hi, hy, H⟩
    · obtain ⟨oj, vj, hoj, hyj, hn⟩ := H.2 j (ready_mono hj hji)
      obtain ⟨hjun, oj', hoj', hall⟩ := mem_ready.1 hj
      have : oj' = oj := Option.some.inj (hoj'.symm.trans hoj)
      subst this
      have hnot : ∀ e ∈ oj'.after, Region.binds md e = true → e.on ≠ i := fun e he hb heq => by
        have h1 := hall e he hb
        have h0 := (mem_ready.1 hr).1
        rw [heq] at h1
        rcases Nat.lt_or_ge i listed.size with h' | h'
        · simp [h'] at h0 h1; rw [h0] at h1; cases h1
        · simp [Array.getElem?_eq_none h'] at h1
      obtain ⟨h1, h2, h3⟩ := Oper.apart_spec (hfree j oj' hoj hji hjun hnot)
      have hfree' : ∀ k ok, ops[k]? = some ok → k ≠ i → (listed.setIfInBounds j true).getD k true = false →
          (∀ e ∈ ok.after, Region.binds md e = true → e.on ≠ i) → oi.apart ops ok = true := fun k ok hk hki hun hno => by
        refine hfree k ok hk hki ?_ hno
        by_cases hjk : j = k
        · subst hjk; exact hjun
        · rw [getD_set_ne true hjk] at hun; exact hun
      refine ⟨oj', vj, hoj, hyj.of_same (execOp_put oj' (fun cs b => hsel j oj' cs b hoj) a oi.dst v h1).symm (wanted_put oj' a oi.dst v h1).symm, ih (listed.setIfInBounds j true) _ hfree' (ready_mono hr (Ne.symm hji)) (hy.of_same (execOp_put oi (fun cs b => hsel i oi cs b hi) a oj'.dst vj h3) (wanted_put oi a oj'.dst vj h3)) ?_⟩
      rw [Array.setIfInBounds_comm _ _ hji, ← Act.put_comm a v vj h2]
      exact hn
theorem wpAnyT_lex {Q : Act → Prop} (hs : Region.noSelect ops = true) : ∀ (l : List Oper) (k : Nat) (listed : Array Bool) (a : Act), (∀ j, l[j]? = ops[k + j]?) →
    Region.lexFrom md ops l.length k listed = true → wpSeq P ops S Q l a → wpAnyT P md ops S Q l.length listed a
  | [], _, _, _, _, hB, h => ⟨by simpa [Region.lexFrom] using hB, h⟩
  | o :: l, k, listed, a, hl, hB, h => by
    have h0 : ops[k]? = some o := by simpa using (hl 0).symm
    simp only [List.length_cons, Region.lexFrom, Bool.and_eq_true] at hB
    obtain ⟨⟨hr, hf⟩, hB'⟩ := hB
    obtain ⟨v, hy, hK⟩ := h
    exact wpAnyT_first h0 (Region.noSelect_spec hs) l.length listed a (Region.free_spec h0 hf) (by simpa using hr) hy
      (wpAnyT_lex hs l (k + 1) _ _ (fun j => by have := hl (j + 1); simpa [Nat.add_assoc, Nat.add_comm 1 j] using this) hB' hK)
/-- a region all of whose operations yield so -/
theorem wp_region_seq {id : Nat} {Q : Exit → Act → World → Prop} {a : Act} {w : World} {l : List Oper} (S : World → Prop) (hl : Lasts S) (hm : P.follows .mixedOrders = true) (hB : Region.lexB .any l.toArray = true) (hS : S w.drew)
    (h : wpSeq P l.toArray S (fun a' => ∀ W, S W → Q .normal a' W) l a) : (Code.region id l.toArray true).wp P Q a w := by
  simp only [Region.lexB, Bool.and_eq_true] at hB
  refine wp_region_any hm (wpAny_of_T (S := S) hl (Q := fun a' => ∀ W, S W → Q .normal a' W) (fun _ w hS h => h w hS) _ _ _ _ hS ?_)
  have := wpAnyT_lex (md := .any) (S := S) hB.1 l 0 (Array.replicate l.toArray.size false) a (by simp) (by simpa using hB.2) h
  simpa using this
def wpAnyU (P : Program) (md : Region.Mode) (ops : Array Oper) (S : World → Prop) (n : Nat) (L : Array Bool → Act → Prop) : Nat → Array Bool → Act → Prop
  | 0, listed, a => L listed a
  | f + 1, listed, a =>
    Region.ready md ops listed ≠ [] ∧ ∀ i ∈ Region.ready md ops listed, i < n ∧ ∃ o v, ops[i]? = some o ∧ YieldsS P ops S o v a ∧ wpAnyU P md ops S n L f (listed.setIfInBounds i true) (a.put o.dst v)
theorem wpAny_of_U (hl : Lasts S) {n g : Nat} {L : Array Bool → Act → Prop} {Q' : Exit → Act → World → Prop} (hL : ∀ listed a w, S w → L listed a → wpAny P md ops Q' g listed a w) :
    ∀ (f : Nat) (listed : Array Bool) (a : Act) (w : World), S w → wpAnyU P md ops S n L f listed a → wpAny P md ops Q' (f + g) listed a w
  | 0, listed, a, w, hS, h => by rw [Nat.zero_add]; exact hL _ _ _ hS h
  | f + 1, listed, a, w, hS, h => by
    rw [show f + 1 + g = (f + g) + 1 by omega]
    refine ⟨fun h0 => absurd h0 h.1, fun i hi => ?_⟩
    obtain ⟨_, o, v, ho, hy, hn⟩ := h.2 i hi
    exact hy.wpOp ho hl hS fun w' hS' => wpAny_of_U hl hL f _ _ w' hS' hn
theorem wpAnyU_first {n i : Nat} {oi : Oper} {v : Value} {L : Array Bool → Act → Prop} (hi : ops[i]? = some oi) (hsel : ∀ (j : Nat) (o : Oper) cs b, ops[j]? = some o → o.op ≠ .select cs b)
    (hs : Region.sinkB md ops n = true) (hc : Region.chainB md ops n = true) (hn : n < ops.size) (hin : i < n)
    (hdone : ∀ listed a, L listed a → ∀ j ∈ Region.ready md ops listed, n ≤ j) :
    ∀ (f : Nat) (listed : Array Bool) (a : Act), HeadInv md ops n listed →
      (∀ j oj, ops[j]? = some oj → j ≠ i → listed.getD j true = false → (∀ e ∈ oj.after, Region.binds md e = true → e.on ≠ i) → oi.apart ops oj = true) →
      i ∈ Region.ready md ops listed → YieldsS P ops S oi v a →
      wpAnyU P md ops S n L f (listed.setIfInBounds i true) (a.put oi.dst v) → wpAnyU P md ops S n L (f + 1) listed a := by
  intro f
  induction f with
  | zero =>
    intro listed a inv _ hr hy H
    have hun := (mem_ready.1 hr).1
    refine ⟨fun h => (by rw [h] at hr; cases hr), fun j hj => ?_⟩
    have hjn : j < n := by
      rcases Nat.lt_or_ge j n with h | h
      · exact h
      · exact absurd hj (tail_waits hs hc hn inv _ i rfl hin hun j h)
    refine ⟨hjn, ?_⟩
    by_cases hji : j = i
    · subst hji; exact ⟨oi, v, hi, hy, H⟩
    · have := hdone _ _ H j (ready_mono hj hji)
      omega
  | succ f ih =>
    intro listed a inv hfree hr hy H
    have hun := (mem_ready.1 hr).1
    refine ⟨fun h => (by rw [h] at hr; cases hr), fun j hj => ?_⟩
    have hjn : j < n := by
      rcases Nat.lt_or_ge j n with h | h
      · exact h
      · exact absurd hj (tail_waits hs hc hn inv _ i rfl hin hun j h)
    refine ⟨hjn, ?_⟩
    by_cases hji : j = i
    · subst hji; exact ⟨oi, v, hi, hy, H⟩
    · obtain ⟨oj, vj, hoj, hyj, hn'⟩ := (H.2 j (ready_mono hj hji)).2
      obtain ⟨hjun, oj', hoj', hall⟩ := mem_ready.1 hj
      have : oj' = oj := Option.some.inj (hoj'.symm.trans hoj)
      subst this
      have hnot : ∀ e ∈ oj'.after, Region.binds md e = true → e.on ≠ i := fun e he hb heq => by
        have h1 := hall e he hb
        rw [heq, getD_both hun] at h1
        cases h1
      obtain ⟨h1, h2, h3⟩ := Oper.apart_spec (hfree j oj' hoj hji hjun hnot)
      have hfree' : ∀ k ok, ops[k]? = some ok → k ≠ i → (listed.setIfInBounds j true).getD k true = false →
          (∀ e ∈ ok.after, Region.binds md e = true → e.on ≠ i) → oi.apart ops ok = true := fun k ok hk hki hun hno => by
        refine hfree k ok hk hki ?_ hno
        by_cases hjk : j = k
        · subst hjk; exact hjun
        · rw [getD_set_ne true hjk] at hun; exact hun
      refine ⟨oj', vj, hoj, hyj.of_same (execOp_put oj' (fun cs b => hsel j oj' cs b hoj) a oi.dst v h1).symm (wanted_put oj' a oi.dst v h1).symm, ih (listed.setIfInBounds j true) _ (inv.set hj hjn) hfree' (ready_mono hr (Ne.symm hji)) (hy.of_same (execOp_put oi (fun cs b => hsel i oi cs b hi) a oj'.dst vj h3) (wanted_put oi a oj'.dst vj h3)) ?_⟩
      rw [Array.setIfInBounds_comm _ _ hji, ← Act.put_comm a v vj h2]
      exact hn'
theorem wpAnyU_lex {n g : Nat} {Lq : Act → Prop} (hsel : Region.noSelect ops = true) (hs : Region.sinkB md ops n = true) (hc : Region.chainB md ops n = true) (hn : n < ops.size) :
    ∀ (l : List Oper) (k : Nat) (listed : Array Bool) (a : Act), (∀ j, j < l.length → l[j]? = ops[k + j]?) → k + l.length = n → HeadInv md ops n listed →
    Region.lexHead md ops g l.length k listed = true → wpSeq P ops S Lq l a →
    wpAnyU P md ops S n (fun listed' a' => Region.seqB md ops g n listed' = true ∧ Lq a') l.length listed a
  | [], k, listed, a, _, hk, _, hB, h => by
    have : k = n := by simpa using hk
    subst this
    exact ⟨by simpa [Region.lexHead] using hB, h⟩
  | o :: l, k, listed, a, hl, hk, inv, hB, h => by
    have h0 : ops[k]? = some o := by simpa using (hl 0 (by simp)).symm
    simp only [List.length_cons, Region.lexHead, Bool.and_eq_true] at hB
    obtain ⟨⟨hr, hf⟩, hB'⟩ := hB
    have hkn : k < n := by simp only [List.length_cons] at hk; omega
    have hr' : k ∈ Region.ready md ops listed := by simpa using hr
    obtain ⟨v, hy, hK⟩ := h
    exact wpAnyU_first h0 (Region.noSelect_spec hsel) hs hc hn hkn (fun listed' a' hL => seqB_ready hL.1) l.length listed a inv (Region.free_spec h0 hf) hr' hy
      (wpAnyU_lex hsel hs hc hn l (k + 1) _ _ (fun j hj => by have := hl (j + 1) (by simp; omega); simpa [Nat.add_assoc, Nat.add_comm 1 j] using this) (by simp only [List.length_cons] at hk; omega) (inv.set hr' hkn) hB' hK)
/-- a region whose first n operations yield so, and whose others come behind all of them in one order -/
theorem wp_region_seq_tail {id : Nat} {Q : Exit → Act → World → Prop} {a : Act} {w : World} {l : List Oper} (S : World → Prop) (hl : Lasts S) (n : Nat) (hm : P.follows .mixedOrders = true) (hB : Region.lexTailB .any l.toArray n = true) (hS : S w.drew)
    (h : wpSeq P l.toArray S (fun a' => ∀ W, S W → wpList P l.toArray Q (l.drop n) a' W) (l.take n) a) : (Code.region id l.toArray true).wp P Q a w := by
  simp only [Region.lexTailB, Bool.and_eq_true, decide_eq_true_eq] at hB
  obtain ⟨⟨⟨⟨hsel, hn⟩, hs⟩, hc⟩, hlex⟩ := hB
  have hn' : n < l.length := by simpa using hn
  have htl : (l.take n).length = n := by simp; omega
  have hdl : (l.drop n).length = l.toArray.size - n := by simp
  have inv0 : HeadInv .any l.toArray n (Array.replicate l.toArray.size false) :=
    ⟨by simp, fun j oj _ hl => (by rw [getD_replicate_false] at hl; cases hl), fun t _ ht => getD_in (by simpa using ht) (getD_replicate_false _ _)⟩
  have H := wpAnyU_lex (md := .any) (S := S) (g := l.toArray.size - n) hsel hs hc hn (l.take n) 0 _ a (fun j hj => by
    have hj' : j < n := by rw [htl] at hj; exact hj
    simp [hj']) (by simpa using htl) inv0 (by rw [htl]; exact hlex) h
  refine wp_region_any hm ?_
  have := wpAny_of_U (Q' := Q) (S := S) hl (g := l.toArray.size - n) (fun listed a' W hS' hL => by
    have := wpAny_of_seq (md := .any) (Q' := Q) (l.drop n) n listed a' W (fun j => by simp [List.getElem?_drop]) (by rw [hdl]; exact hL.1) (hL.2 W hS')
    rwa [hdl] at this) _ _ _ _ hS H
  rw [htl, show n + (l.toArray.size - n) = l.toArray.size by omega] at this
  exact this
/-- the same, where one operation (number fl: it makes memory) may come up at any time -/
def wpAnyV (P : Program) (md : Region.Mode) (ops : Array Oper) (T : Value → World → Prop) (n fl : Nat) (L : Array Bool → Act → (World → Prop) → Prop) : Nat → Array Bool → Act → (World → Prop) → Prop
  | 0, listed, a, m => L listed a m
  | f + 1, listed, a, m =>
    Region.ready md ops listed ≠ [] ∧ ∀ i ∈ Region.ready md ops listed, i < n ∧ ∃ o, ops[i]? = some o ∧
      ((i = fl ∧ Region.wanted o (yielded ops a.tmps) = true ∧ (∀ w, m w → ∃ v w', (execOp a.eval o).run P w = .ok (.value v) w' ∧ T v w') ∧ ∀ v, wpAnyV P md ops T n fl L f (listed.setIfInBounds i true) (a.put o.dst v) (T v)) ∨
       (i ≠ fl ∧ ∃ v, YieldsS P ops m o v a ∧ wpAnyV P md ops T n fl L f (listed.setIfInBounds i true) (a.put o.dst v) m))
theorem wpAny_of_V {T : Value → World → Prop} (hT : ∀ v, Lasts (T v)) {n fl g : Nat} {L : Array Bool → Act → (World → Prop) → Prop} {Q' : Exit → Act → World → Prop} (hL : ∀ listed a m w, m w → L listed a m → wpAny P md ops Q' g listed a w) :
    ∀ (f : Nat) (listed : Array Bool) (a : Act) (m : World → Prop) (w : World), Lasts m → m w → wpAnyV P md ops T n fl L f listed a m → wpAny P md ops Q' (f + g) listed a w
  | 0, listed, a, m, w, _, hS, h => by rw [Nat.zero_add]; exact hL _ _ _ _ hS h
  | f + 1, listed, a, m, w, hl, hS, h => by
    rw [show f + 1 + g = (f + g) + 1 by omega]
    refine ⟨fun h0 => absurd h0 h.1, fun i hi => ?_⟩
    obtain ⟨_, o, ho, ⟨_, hw, hr, hn⟩ | ⟨_, v, hy, hn⟩⟩ := h.2 i hi
    · obtain ⟨v, w', hr', hT'⟩ := hr w hS
      unfold Go.wpOp
      simp only [ho, hw, if_true]
      refine .inl ?_
      unfold Oper.wp
      rw [hr']
      exact wpAny_of_V hT hL f _ _ _ _ (hT v) hT' (hn v)
    · exact hy.wpOp ho hl hS fun w' hS' => wpAny_of_V hT hL f _ _ _ w' hl hS' hn
theorem wpAnyV_first {T : Value → World → Prop} {n fl i : Nat} {oi : Oper} {v : Value} {L : Array Bool → Act → (World → Prop) → Prop} (hi : ops[i]? = some oi) (hifl : i ≠ fl) (hsel : ∀ (j : Nat) (o : Oper) cs b, ops[j]? = some o → o.op ≠ .select cs b)
    (hs : Region.sinkB md ops n = true) (hc : Region.chainB md ops n = true) (hn : n < ops.size) (hin : i < n)
    (hdone : ∀ listed a m, L listed a m → ∀ j ∈ Region.ready md ops listed, n ≤ j) :
    ∀ (f : Nat) (listed : Array Bool) (a : Act) (m : World → Prop), HeadInv md ops n listed → (listed.getD fl true = false → ∀ u w, T u w → m w) →
      (∀ j oj, ops[j]? = some oj → j ≠ i → listed.getD j true = false → (∀ e ∈ oj.after, Region.binds md e = true → e.on ≠ i) → oi.apart ops oj = true) →
      i ∈ Region.ready md ops listed → YieldsS P ops m oi v a →
      wpAnyV P md ops T n fl L f (listed.setIfInBounds i true) (a.put oi.dst v) m → wpAnyV P md ops T n fl L (f + 1) listed a m := by
  intro f
  induction f with
  | zero =>
    intro listed a m inv _ _ hr hy H
    have hun := (mem_ready.1 hr).1
    refine ⟨fun h => (by rw [h] at hr; cases hr), fun j hj => ?_⟩
    have hjn : j < n := by
      rcases Nat.lt_or_ge j n with h | h
      · exact h
      · exact absurd hj (tail_waits hs hc hn inv _ i rfl hin hun j h)
    refine ⟨hjn, ?_⟩
    by_cases hji : j = i
    · subst hji; exact ⟨oi, hi, .inr ⟨hifl, v, hy, H⟩⟩
    · have := hdone _ _ _ H j (ready_mono hj hji)
      omega
  | succ f ih =>
    intro listed a m inv hmono hfree hr hy H
    have hun := (mem_ready.1 hr).1
    refine ⟨fun h => (by rw [h] at hr; cases hr), fun j hj => ?_⟩
    have hjn : j < n := by
      rcases Nat.lt_or_ge j n with h | h
      · exact h
      · exact absurd hj (tail_waits hs hc hn inv _ i rfl hin hun j h)
    refine ⟨hjn, ?_⟩
    by_cases hji : j = i
    · subst hji; exact ⟨oi, hi, .inr ⟨hifl, v, hy, H⟩⟩
    · obtain ⟨oj, hoj, hcase⟩ := (H.2 j (ready_mono hj hji)).2
      obtain ⟨hjun, oj', hoj', hall⟩ := mem_ready.1 hj
      have : oj' = oj := Option.some.inj (hoj'.symm.trans hoj)
      subst this
      have hnot : ∀ e ∈ oj'.after, Region.binds md e = true → e.on ≠ i := fun e he hb heq => by
        have h1 := hall e he hb
        rw [heq, getD_both hun] at h1
        cases h1
      obtain ⟨h1, h2, h3⟩ := Oper.apart_spec (hfree j oj' hoj hji hjun hnot)
      have hfree' : ∀ k ok, ops[k]? = some ok → k ≠ i → (listed.setIfInBounds j true).getD k true = false →
          (∀ e ∈ ok.after, Region.binds md e = true → e.on ≠ i) → oi.apart ops ok = true := fun k ok hk hki hun hno => by
        refine hfree k ok hk hki ?_ hno
        by_cases hjk : j = k
        · subst hjk; exact hjun
        · rw [getD_set_ne true hjk] at hun; exact hun
      have hmono' : ∀ m', (j ≠ fl → m' = m) → ((listed.setIfInBounds j true).getD fl true = false → ∀ u w, T u w → m' w) := fun m' hm' hfl => by
        by_cases hjf : j = fl
        · subst hjf
          have hjs : j < listed.size := by
            rw [inv.size]; exact (Array.getElem?_eq_some_iff.1 hoj).1
          simp [hjs] at hfl
        · rw [hm' hjf]
          rw [getD_set_ne true hjf] at hfl
          exact hmono hfl
      refine ⟨oj', hoj, ?_⟩
      rcases hcase with ⟨hjf, hw, hrun, hn'⟩ | ⟨hjf, vj, hyj, hn'⟩
      · have hmT : ∀ u w, T u w → m w := hmono (by rw [← hjf]; exact hjun)
        refine .inl ⟨hjf, by rw [← wanted_put oj' a oi.dst v h1]; exact hw, fun w hw' => ?_, fun u => ?_⟩
        · rw [← execOp_put oj' (fun cs b => hsel j oj' cs b hoj) a oi.dst v h1]
          exact hrun w hw'
        · refine ih (listed.setIfInBounds j true) _ _ (inv.set hj hjn) (hmono' (T u) (fun h => absurd hjf h)) hfree' (ready_mono hr (Ne.symm hji)) ((hy.weak (hmT u)).of_same (execOp_put oi (fun cs b => hsel i oi cs b hi) a oj'.dst u h3) (wanted_put oi a oj'.dst u h3)) ?_
          rw [Array.setIfInBounds_comm _ _ hji, ← Act.put_comm a v u h2]
          exact hn' u
      · refine .inr ⟨hjf, vj, hyj.of_same (execOp_put oj' (fun cs b => hsel j oj' cs b hoj) a oi.dst v h1).symm (wanted_put oj' a oi.dst v h1).symm, ih (listed.setIfInBounds j true) _ _ (inv.set hj hjn) (hmono' m (fun _ => rfl)) hfree' (ready_mono hr (Ne.symm hji)) (hy.of_same (execOp_put oi (fun cs b => hsel i oi cs b hi) a oj'.dst vj h3) (wanted_put oi a oj'.dst vj h3)) ?_⟩
        rw [Array.setIfInBounds_comm _ _ hji, ← Act.put_comm a v vj h2]
        exact hn'
def Region.lexFl (md : Region.Mode) (ops : Array Oper) (g fl : Nat) : Nat → Nat → Array Bool → Bool
  | 0, k, listed => decide (k = fl) && decide (Region.ready md ops listed = [fl]) && Region.seqB md ops g (fl + 1) (listed.setIfInBounds fl true)
  | f + 1, k, listed => (Region.ready md ops listed).contains k && Region.free md ops listed k && Region.lexFl md ops g fl f (k + 1) (listed.setIfInBounds k true)
def Region.flB (md : Region.Mode) (ops : Array Oper) (fl : Nat) : Bool :=
  Region.noSelect ops && decide (fl + 1 < ops.size) && Region.sinkB md ops (fl + 1) && Region.chainB md ops (fl + 1) && Region.lexFl md ops (ops.size - (fl + 1)) fl fl 0 (Array.replicate ops.size false)
theorem wpAnyV_lex {T : Value → World → Prop} (hTS : ∀ v w, T v w → S w) {fl g : Nat} {Lq : Act → (World → Prop) → Prop} (hsel : Region.noSelect ops = true) (hs : Region.sinkB md ops (fl + 1) = true) (hc : Region.chainB md ops (fl + 1) = true) (hn : fl + 1 < ops.size) (of : Oper) (hof : ops[fl]? = some of) :
    ∀ (l : List Oper) (k : Nat) (listed : Array Bool) (a : Act), (∀ j, j < l.length → l[j]? = ops[k + j]?) → k + l.length = fl → HeadInv md ops (fl + 1) listed →
    Region.lexFl md ops g fl l.length k listed = true → wpSeq P ops S (fun a' => Region.wanted of (yielded ops a'.tmps) = true ∧ (∀ w, S w → ∃ v w', (execOp a'.eval of).run P w = .ok (.value v) w' ∧ T v w') ∧ ∀ v, Lq (a'.put of.dst v) (T v)) l a →
    wpAnyV P md ops T (fl + 1) fl (fun listed' a' m => Region.seqB md ops g (fl + 1) listed' = true ∧ Lq a' m) (l.length + 1) listed a S
  | [], k, listed, a, _, hk, inv, hB, h => by
    have hkf : k = fl := by simpa using hk
    subst hkf
    simp only [List.length_nil, Region.lexFl, Bool.and_eq_true, decide_eq_true_eq] at hB
    refine ⟨fun h0 => (by rw [h0] at hB; cases hB.1.2), fun i hi => ?_⟩
    rw [hB.1.2] at hi
    have hik : i = k := by simpa using hi
    subst hik
    exact ⟨Nat.lt_succ_self _, of, hof, .inl ⟨rfl, h.1, h.2.1, fun v => ⟨hB.2, h.2.2 v⟩⟩⟩
  | o :: l, k, listed, a, hl, hk, inv, hB, h => by
    have h0 : ops[k]? = some o := by simpa using (hl 0 (by simp)).symm
    simp only [List.length_cons, Region.lexFl, Bool.and_eq_true] at hB
    obtain ⟨⟨hr, hf⟩, hB'⟩ := hB
    have hkn : k < fl := by simp only [List.length_cons] at hk; omega
    have hr' : k ∈ Region.ready md ops listed := by simpa using hr
    obtain ⟨v, hy, hK⟩ := h
    exact wpAnyV_first h0 (by omega) (Region.noSelect_spec hsel) hs hc hn (by omega) (fun listed' a' m hL => seqB_ready hL.1) (l.length + 1) listed a S inv (fun _ => hTS) (Region.free_spec h0 hf) hr' hy
      (wpAnyV_lex hTS hsel hs hc hn of hof l (k + 1) _ _ (fun j hj => by have := hl (j + 1) (by simp; omega); simpa [Nat.add_assoc, Nat.add_comm 1 j] using this) (by simp only [List.length_cons] at hk; omega) (inv.set hr' (by omega)) hB' hK)
/-- a region whose first fl operations yield so, whose operation number fl makes memory at any time, and whose others come behind all of them in one order -/
theorem wp_region_seq_float {id : Nat} {Q : Exit → Act → World → Prop} {a : Act} {w : World} {l : List Oper} (S : World → Prop) (hl : Lasts S) (T : Value → World → Prop) (hT : ∀ v, Lasts (T v)) (hTS : ∀ v w, T v w → S w) (fl : Nat) (of : Oper) (hm : P.follows .mixedOrders = true) (hB : Region.flB .any l.toArray fl = true) (hof : l[fl]? = some of) (hS : S w.drew)
    (h : wpSeq P l.toArray S (fun a' => Region.wanted of (yielded l.toArray a'.tmps) = true ∧ (∀ w, S w → ∃ v w', (execOp a'.eval of).run P w = .ok (.value v) w' ∧ T v w') ∧ ∀ v, ∀ W, T v W → wpList P l.toArray Q (l.drop (fl + 1)) (a'.put of.dst v) W) (l.take fl) a) : (Code.region id l.toArray true).wp P Q a w := by
  simp only [Region.flB, Bool.and_eq_true, decide_eq_true_eq] at hB
  obtain ⟨⟨⟨⟨hsel, hn⟩, hs⟩, hc⟩, hlex⟩ := hB
  have hn' : fl + 1 < l.length := by simpa using hn
  have htl : (l.take fl).length = fl := by simp; omega
  have hdl : (l.drop (fl + 1)).length = l.toArray.size - (fl + 1) := by simp
  have inv0 : HeadInv .any l.toArray (fl + 1) (Array.replicate l.toArray.size false) :=
    ⟨by simp, fun j oj _ hl => (by rw [getD_replicate_false] at hl; cases hl), fun t _ ht => getD_in (by simpa using ht) (getD_replicate_false _ _)⟩
  have H := wpAnyV_lex (md := .any) (S := S) (T := T) hTS (g := l.toArray.size - (fl + 1)) (Lq := fun a' m => ∀ W, m W → wpList P l.toArray Q (l.drop (fl + 1)) a' W) hsel hs hc hn of (by simpa using hof) (l.take fl) 0 _ a (fun j hj => by
    have hj' : j < fl := by rw [htl] at hj; exact hj
    simp [hj']) (by simpa using htl) inv0 (by rw [htl]; exact hlex) h
  refine wp_region_any hm ?_
  have := wpAny_of_V (Q' := Q) hT (g := l.toArray.size - (fl + 1)) (fun listed a' m W hS' hL => by
    have := wpAny_of_seq (md := .any) (Q' := Q) (l.drop (fl + 1)) (fl + 1) listed a' W (fun j => by simp [List.getElem?_drop]) (by rw [hdl]; exact hL.1) (hL.2 W hS')
    rwa [hdl] at this) _ _ _ _ _ hl hS H
  rw [htl, show fl + 1 + (l.toArray.size - (fl + 1)) = l.toArray.size by omega] at this
  exact this
theorem wpSeq_mono {Q Q' : Act → Prop} (h : ∀ a, Q a → Q' a) : ∀ {l : List Oper} {a : Act}, wpSeq P ops S Q l a → wpSeq P ops S Q' l a
  | [], _, hh => h _ hh
  | _ :: _, _, ⟨v, hy, hh⟩ => ⟨v, hy, wpSeq_mono h hh⟩
theorem wpSeq_nil {Q : Act → Prop} {a : Act} (h : Q a) : wpSeq P ops S Q [] a := h
theorem wpSeq_off {Q : Act → Prop} {o : Oper} {rest : List Oper} {a : Act} (hw : Region.wanted o (yielded ops a.tmps) = false) (h : wpSeq P ops S Q rest (a.put o.dst undef)) : wpSeq P ops S Q (o :: rest) a :=
  ⟨undef, .inr ⟨hw, rfl⟩, h⟩
theorem wpSeq_val {Q : Act → Prop} {o : Oper} {rest : List Oper} {a : Act} {v : Value} (hw : Region.wanted o (yielded ops a.tmps) = true) (h : ∀ w, S w → (execOp a.eval o).run P w = .ok (.value v) w) (hr : wpSeq P ops S Q rest (a.put o.dst v)) : wpSeq P ops S Q (o :: rest) a :=
  ⟨v, .inl ⟨hw, fun w hS => .inl ⟨w, h w hS, Below.refl _ _⟩⟩, hr⟩
theorem wpSeq_skip {Q : Act → Prop} {o : Oper} {rest : List Oper} {a : Act} (hw : Region.wanted o (yielded ops a.tmps) = true) (h : ∀ w, S w → (execOp a.eval o).run P w = .ok .skip w) (hr : wpSeq P ops S Q rest (a.put o.dst undef)) : wpSeq P ops S Q (o :: rest) a :=
  ⟨undef, .inl ⟨hw, fun w hS => .inr (.inl ⟨w, h w hS, rfl, Below.refl _ _⟩)⟩, hr⟩
theorem wpSeq_call {Q : Act → Prop} {o : Oper} {rest : List Oper} {a : Act} {f : FuncId} {args : Array Value} {v : Value} (hw : Region.wanted o (yielded ops a.tmps) = true) (h : ∀ w, S w → (execOp a.eval o).run P w = .ok (.enter f args) w) (hc : ∀ w, S w → Calls P f args w (fun e w' => e = .returned v ∧ Below w.heap.size w w')) (hr : wpSeq P ops S Q rest (a.put o.dst v)) : wpSeq P ops S Q (o :: rest) a :=
  ⟨v, .inl ⟨hw, fun w hS => .inr (.inr ⟨f, args, h w hS, hc w hS⟩)⟩, hr⟩
theorem wpList_of_seq {Q : Exit → Act → World → Prop} (hl : Lasts S) {rest : List Oper} : ∀ {l : List Oper} {a : Act} {w : World}, S w → wpSeq P ops S (fun a' => ∀ W, S W → wpList P ops Q rest a' W) l a → wpList P ops Q (l ++ rest) a w
  | [], _, _, hS, h => h _ hS
  | o :: l, a, w, hS, ⟨v, hy, h⟩ => by
    show wpList P ops Q (o :: (l ++ rest)) a w
    unfold wpList
    rcases hy with ⟨hw, hv⟩ | ⟨hw, rfl⟩
    · rw [if_pos hw]
      refine .inl ?_
      unfold Oper.wp
      rcases hv w hS with ⟨w', hr, hb⟩ | ⟨w', hr, rfl, hb⟩ | ⟨f, args, hr, hc⟩
      · rw [hr]; exact wpList_of_seq hl (hl _ _ hS hb) h
      · rw [hr]; exact wpList_of_seq hl (hl _ _ hS hb) h
      · rw [hr]
        exact hc.mono fun e w'' ⟨he, hb⟩ => by subst he; exact wpList_of_seq hl (hl _ _ hS hb) h
    · rw [if_neg (by rw [hw]; decide)]
      exact wpList_of_seq hl hS h
theorem wp_region_plain {id : Nat} {Q : Exit → Act → World → Prop} {a : Act} {w : World} {l : List Oper} (S : World → Prop) (hl : Lasts S) (n : Nat) (hS : S w)
    (h : wpSeq P l.toArray S (fun a' => ∀ W, S W → wpList P l.toArray Q (l.drop n) a' W) (l.take n) a) : (Code.region id l.toArray false).wp P Q a w :=
  wp_region_lit (by have := wpList_of_seq hl hS h; rwa [List.take_append_drop] at this)
/-! with operations that may come up late: number k of late yields its value in whatever world -/
def wpSeqL (P : Program) (ops : Array Oper) (S : World → Prop) (late : List Nat) (Q : Act → Prop) : Nat → List Oper → Act → Prop
  | _, [], a => Q a
  | k, o :: rest, a => ∃ v, YieldsS P ops S o v a ∧ (late.contains k = true → Yields P ops o v a) ∧ wpSeqL P ops S late Q (k + 1) rest (a.put o.dst v)
def wpAnyW (P : Program) (md : Region.Mode) (ops : Array Oper) (Q' : Exit → Act → World → Prop) (T : Value → World → Prop) (n fl g : Nat) : Nat → Array Bool → Act → (World → Prop) → Prop
  | 0, listed, a, m => (∀ j ∈ Region.ready md ops listed, n ≤ j) ∧ ∀ w, m w → wpAny P md ops Q' g listed a w
  | f + 1, listed, a, m =>
    Region.ready md ops listed ≠ [] ∧ ∀ i ∈ Region.ready md ops listed, ∃ o, ops[i]? = some o ∧
      ((i = fl ∧ Region.wanted o (yielded ops a.tmps) = true ∧ (∀ w, m w → ∃ v w', (execOp a.eval o).run P w = .ok (.value v) w' ∧ T v w') ∧ ∀ v, wpAnyW P md ops Q' T n fl g f (listed.setIfInBounds i true) (a.put o.dst v) (T v)) ∨
       (i ≠ fl ∧ i < n ∧ ∃ v, YieldsS P ops m o v a ∧ wpAnyW P md ops Q' T n fl g f (listed.setIfInBounds i true) (a.put o.dst v) m) ∨
       (n ≤ i ∧ ∀ w, m w → wpOp P ops Q' i (wpAny P md ops Q' (f + g) (listed.setIfInBounds i true)) a w))
theorem wpAny_of_W {T : Value → World → Prop} (hT : ∀ v, Lasts (T v)) {n fl g : Nat} {Q' : Exit → Act → World → Prop} :
    ∀ (f : Nat) (listed : Array Bool) (a : Act) (m : World → Prop) (w : World), Lasts m → m w → wpAnyW P md ops Q' T n fl g f listed a m → wpAny P md ops Q' (f + g) listed a w
  | 0, listed, a, m, w, _, hS, h => by rw [Nat.zero_add]; exact h.2 w hS
  | f + 1, listed, a, m, w, hl, hS, h => by
    rw [show f + 1 + g = (f + g) + 1 by omega]
    refine ⟨fun h0 => absurd h0 h.1, fun i hi => ?_⟩
    obtain ⟨o, ho, ⟨_, hw, hr, hn⟩ | ⟨_, _, v, hy, hn⟩ | ⟨_, hg⟩⟩ := h.2 i hi
    · obtain ⟨v, w', hr', hT'⟩ := hr w hS
      unfold Go.wpOp
      simp only [ho, hw, if_true]
      refine .inl ?_
      unfold Oper.wp
      rw [hr']
      exact wpAny_of_W hT f _ _ _ _ (hT v) hT' (hn v)
    · exact hy.wpOp ho hl hS fun w' hS' => wpAny_of_W hT f _ _ _ w' hl hS' hn
    · exact hg w hS
/-- a strict operation first: nothing of the tail comes up before it -/
theorem wpAnyW_strict {Q' : Exit → Act → World → Prop} {T : Value → World → Prop} {n fl g i : Nat} {oi : Oper} {v : Value} (hi : ops[i]? = some oi) (hifl : i ≠ fl) (hin : i < n) (hfln : fl < n) (hsel : ∀ (j : Nat) (o : Oper) cs b, ops[j]? = some o → o.op ≠ .select cs b)
    (hwait : ∀ listed, HeadInv md ops n listed → listed.getD i true = false → ∀ t, n ≤ t → t ∉ Region.ready md ops listed) :
    ∀ (f : Nat) (listed : Array Bool) (a : Act) (m : World → Prop), HeadInv md ops n listed → (listed.getD fl true = false → ∀ u w, T u w → m w) →
      (∀ j oj, ops[j]? = some oj → j ≠ i → listed.getD j true = false → (∀ e ∈ oj.after, Region.binds md e = true → e.on ≠ i) → oi.apart ops oj = true) →
      i ∈ Region.ready md ops listed → YieldsS P ops m oi v a →
      wpAnyW P md ops Q' T n fl g f (listed.setIfInBounds i true) (a.put oi.dst v) m → wpAnyW P md ops Q' T n fl g (f + 1) listed a m := by
  intro f
  induction f with
  | zero =>
    intro listed a m inv _ _ hr hy H
    have hun := (mem_ready.1 hr).1
    refine ⟨fun h => (by rw [h] at hr; cases hr), fun j hj => ?_⟩
    by_cases hji : j = i
    · subst hji; exact ⟨oi, hi, .inr (.inl ⟨hifl, hin, v, hy, H⟩)⟩
    · exact absurd hj (hwait listed inv hun j (H.1 j (ready_mono hj hji)))
  | succ f ih =>
    intro listed a m inv hmono hfree hr hy H
    have hun := (mem_ready.1 hr).1
    refine ⟨fun h => (by rw [h] at hr; cases hr), fun j hj => ?_⟩
    have hjn : j < n := by
      rcases Nat.lt_or_ge j n with h | h
      · exact h
      · exact absurd hj (hwait listed inv hun j h)
    by_cases hji : j = i
    · subst hji; exact ⟨oi, hi, .inr (.inl ⟨hifl, hin, v, hy, H⟩)⟩
    · obtain ⟨oj, hoj, hcase⟩ := H.2 j (ready_mono hj hji)
      obtain ⟨hjun, oj', hoj', hall⟩ := mem_ready.1 hj
      have : oj' = oj := Option.some.inj (hoj'.symm.trans hoj)
      subst this
      have hnot : ∀ e ∈ oj'.after, Region.binds md e = true → e.on ≠ i := fun e he hb heq => by
        have h1 := hall e he hb
        rw [heq, getD_both hun] at h1
        cases h1
      obtain ⟨h1, h2, h3⟩ := Oper.apart_spec (hfree j oj' hoj hji hjun hnot)
      have hfree' : ∀ k ok, ops[k]? = some ok → k ≠ i → (listed.setIfInBounds j true).getD k true = false →
          (∀ e ∈ ok.after, Region.binds md e = true → e.on ≠ i) → oi.apart ops ok = true := fun k ok hk hki hun hno => by
        refine hfree k ok hk hki ?_ hno
        by_cases hjk : j = k
        · subst hjk; exact hjun
        · rw [getD_set_ne true hjk] at hun; exact hun
      have hmono' : ∀ m', (j ≠ fl → m' = m) → ((listed.setIfInBounds j true).getD fl true = false → ∀ u w, T u w → m' w) := fun m' hm' hfl => by
        by_cases hjf : j = fl
        · subst hjf
          have hjs : j < listed.size := by
            rw [inv.size]; exact (Array.getElem?_eq_some_iff.1 hoj).1
          simp [hjs] at hfl
        · rw [hm' hjf]
          rw [getD_set_ne true hjf] at hfl
          exact hmono hfl
      refine ⟨oj', hoj, ?_⟩
      rcases hcase with ⟨hjf, hw, hrun, hn'⟩ | ⟨hjf, _, vj, hyj, hn'⟩ | ⟨hjn', _⟩
      · have hmT : ∀ u w, T u w → m w := hmono (by rw [← hjf]; exact hjun)
        refine .inl ⟨hjf, by rw [← wanted_put oj' a oi.dst v h1]; exact hw, fun w hw' => ?_, fun u => ?_⟩
        · rw [← execOp_put oj' (fun cs b => hsel j oj' cs b hoj) a oi.dst v h1]
          exact hrun w hw'
        · refine ih (listed.setIfInBounds j true) _ _ (inv.set hj hjn) (hmono' (T u) (fun h => absurd hjf h)) hfree' (ready_mono hr (Ne.symm hji)) ((hy.weak (hmT u)).of_same (execOp_put oi (fun cs b => hsel i oi cs b hi) a oj'.dst u h3) (wanted_put oi a oj'.dst u h3)) ?_
          rw [Array.setIfInBounds_comm _ _ hji, ← Act.put_comm a v u h2]
          exact hn' u
      · refine .inr (.inl ⟨hjf, hjn, vj, hyj.of_same (execOp_put oj' (fun cs b => hsel j oj' cs b hoj) a oi.dst v h1).symm (wanted_put oj' a oi.dst v h1).symm, ih (listed.setIfInBounds j true) _ _ (inv.set hj hjn) (hmono' m (fun _ => rfl)) hfree' (ready_mono hr (Ne.symm hji)) (hy.of_same (execOp_put oi (fun cs b => hsel i oi cs b hi) a oj'.dst vj h3) (wanted_put oi a oj'.dst vj h3)) ?_⟩)
        rw [Array.setIfInBounds_comm _ _ hji, ← Act.put_comm a v vj h2]
        exact hn'
      · omega
theorem YieldsS.of_yields {o : Oper} {v : Value} {a : Act} (hy : Yields P ops o v a) : YieldsS P ops S o v a := by
  rcases hy with ⟨hw, hv⟩ | h
  · exact .inl ⟨hw, fun w _ => .inl ⟨w, hv w, Below.refl _ _⟩⟩
  · exact .inr h
/-- an operation that yields its value in whatever world: first, though the tail may begin before it -/
theorem wpAnyW_late {Q' : Exit → Act → World → Prop} {T : Value → World → Prop} {n fl g i : Nat} {oi : Oper} {v : Value} (hQ : ∀ c a w, Q' (.panic c) (a.put oi.dst v) w → Q' (.panic c) a w) (hi : ops[i]? = some oi) (hifl : i ≠ fl) (hin : i < n) (hfln : fl < n) (hsel : ∀ (j : Nat) (o : Oper) cs b, ops[j]? = some o → o.op ≠ .select cs b) :
    ∀ (f : Nat) (listed : Array Bool) (a : Act) (m : World → Prop), HeadInv md ops n listed →
      (∀ j oj, ops[j]? = some oj → j ≠ i → listed.getD j true = false → (∀ e ∈ oj.after, Region.binds md e = true → e.on ≠ i) → oi.apart ops oj = true) →
      i ∈ Region.ready md ops listed → Yields P ops oi v a →
      wpAnyW P md ops Q' T n fl g f (listed.setIfInBounds i true) (a.put oi.dst v) m → wpAnyW P md ops Q' T n fl g (f + 1) listed a m := by
  intro f
  induction f with
  | zero =>
    intro listed a m inv hfree hr hy H
    have hun := (mem_ready.1 hr).1
    refine ⟨fun h => (by rw [h] at hr; cases hr), fun j hj => ?_⟩
    by_cases hji : j = i
    · subst hji; exact ⟨oi, hi, .inr (.inl ⟨hifl, hin, v, YieldsS.of_yields hy, H⟩)⟩
    · have hjr := ready_mono hj hji
      obtain ⟨hjun, oj, hoj, hall⟩ := mem_ready.1 hj
      have hnot : ∀ e ∈ oj.after, Region.binds md e = true → e.on ≠ i := fun e he hb heq => by
        have h1 := hall e he hb
        rw [heq, getD_both hun] at h1
        cases h1
      have hap := hfree j oj hoj hji hjun hnot
      have hfree' : ∀ k ok, ops[k]? = some ok → k ≠ i → (listed.setIfInBounds j true).getD k true = false →
          (∀ e ∈ ok.after, Region.binds md e = true → e.on ≠ i) → oi.apart ops ok = true := fun k ok hk hki hun' hno => by
        refine hfree k ok hk hki ?_ hno
        by_cases hjk : j = k
        · subst hjk; exact hjun
        · rw [getD_set_ne true hjk] at hun'; exact hun'
      refine ⟨oj, hoj, .inr (.inr ⟨H.1 j hjr, fun w hw => ?_⟩)⟩
      have H2 := H.2 w hw
      cases g with
      | zero => rw [H2.1] at hjr; cases hjr
      | succ g =>
        have h3 := wpOp_put hoj hap (fun cs b => hsel i oi cs b hi) (fun cs b => hsel j oj cs b hoj) hQ hy (H2.2 j hjr)
        refine wpOp_mono (fun a' w' h4 => ?_) h3
        rw [show 0 + (g + 1) = g + 1 by omega]
        refine wpAny_first hi hsel hQ g _ a' w' hfree' (ready_mono hr (Ne.symm hji)) h4.1 ?_
        rw [Array.setIfInBounds_comm _ _ hji]
        exact h4.2
  | succ f ih =>
    intro listed a m inv hfree hr hy H
    have hun := (mem_ready.1 hr).1
    refine ⟨fun h => (by rw [h] at hr; cases hr), fun j hj => ?_⟩
    by_cases hji : j = i
    · subst hji; exact ⟨oi, hi, .inr (.inl ⟨hifl, hin, v, YieldsS.of_yields hy, H⟩)⟩
    · obtain ⟨oj, hoj, hcase⟩ := H.2 j (ready_mono hj hji)
      obtain ⟨hjun, oj', hoj', hall⟩ := mem_ready.1 hj
      have : oj' = oj := Option.some.inj (hoj'.symm.trans hoj)
      subst this
      have hnot : ∀ e ∈ oj'.after, Region.binds md e = true → e.on ≠ i := fun e he hb heq => by
        have h1 := hall e he hb
        rw [heq, getD_both hun] at h1
        cases h1
      have hap := hfree j oj' hoj hji hjun hnot
      obtain ⟨h1, h2, h3⟩ := Oper.apart_spec hap
      have hfree' : ∀ k ok, ops[k]? = some ok → k ≠ i → (listed.setIfInBounds j true).getD k true = false →
          (∀ e ∈ ok.after, Region.binds md e = true → e.on ≠ i) → oi.apart ops ok = true := fun k ok hk hki hun' hno => by
        refine hfree k ok hk hki ?_ hno
        by_cases hjk : j = k
        · subst hjk; exact hjun
        · rw [getD_set_ne true hjk] at hun'; exact hun'
      refine ⟨oj', hoj, ?_⟩
      rcases hcase with ⟨hjf, hw, hrun, hn'⟩ | ⟨hjf, hjn, vj, hyj, hn'⟩ | ⟨hjn', hg⟩
      · have hjn : j < n := by rw [hjf]; exact hfln
        refine .inl ⟨hjf, by rw [← wanted_put oj' a oi.dst v h1]; exact hw, fun w hw' => ?_, fun u => ?_⟩
        · rw [← execOp_put oj' (fun cs b => hsel j oj' cs b hoj) a oi.dst v h1]
          exact hrun w hw'
        · refine ih (listed.setIfInBounds j true) _ _ (inv.set hj hjn) hfree' (ready_mono hr (Ne.symm hji)) (hy.of_same (execOp_put oi (fun cs b => hsel i oi cs b hi) a oj'.dst u h3) (wanted_put oi a oj'.dst u h3)) ?_
          rw [Array.setIfInBounds_comm _ _ hji, ← Act.put_comm a v u h2]
          exact hn' u
      · refine .inr (.inl ⟨hjf, hjn, vj, hyj.of_same (execOp_put oj' (fun cs b => hsel j oj' cs b hoj) a oi.dst v h1).symm (wanted_put oj' a oi.dst v h1).symm, ih (listed.setIfInBounds j true) _ _ (inv.set hj hjn) hfree' (ready_mono hr (Ne.symm hji)) (hy.of_same (execOp_put oi (fun cs b => hsel i oi cs b hi) a oj'.dst vj h3) (wanted_put oi a oj'.dst vj h3)) ?_⟩)
        rw [Array.setIfInBounds_comm _ _ hji, ← Act.put_comm a v vj h2]
        exact hn'
      · refine .inr (.inr ⟨hjn', fun w hw => ?_⟩)
        have h4 := wpOp_put hoj hap (fun cs b => hsel i oi cs b hi) (fun cs b => hsel j oj' cs b hoj) hQ hy (hg w hw)
        refine wpOp_mono (fun a' w' h5 => ?_) h4
        rw [show f + 1 + g = f + g + 1 by omega]
        refine wpAny_first hi hsel hQ (f + g) _ a' w' hfree' (ready_mono hr (Ne.symm hji)) h5.1 ?_
        rw [Array.setIfInBounds_comm _ _ hji]
        exact h5.2
def Region.strictB (md : Region.Mode) (ops : Array Oper) (n : Nat) (late : List Nat) : Bool :=
  (List.range n).all fun i => late.contains i || (List.range (n + 1)).any fun j => decide (i < j) && !late.contains j && Region.waitsFor md ops j i
theorem strict_waits {n : Nat} {late : List Nat} (hs : Region.strictB md ops n late = true) (hc : Region.chainB md ops n = true) (hn : n < ops.size) :
    ∀ (d i : Nat), n - i = d → i < n → late.contains i = false → ∀ listed, HeadInv md ops n listed → listed.getD i true = false → ∀ t, n ≤ t → t ∉ Region.ready md ops listed := by
  intro d
  induction d using Nat.strongRecOn with
  | _ d ih =>
    intro i hd hi hl listed inv hun t ht hr
    obtain ⟨_, ot, hot, hall⟩ := mem_ready.1 hr
    have htlt : t < ops.size := (Array.getElem?_eq_some_iff.1 hot).1
    by_cases htn : t = n
    · subst htn
      have h1 := List.all_eq_true.1 hs i (List.mem_range.2 hi)
      rw [hl, Bool.false_or] at h1
      obtain ⟨j, hj, hj2⟩ := List.any_eq_true.1 h1
      simp only [Bool.and_eq_true, decide_eq_true_eq, Bool.not_eq_true'] at hj2
      obtain ⟨oj, hoj, e, he, hb, hon⟩ := Region.waitsFor_spec hj2.2
      have hjle : j ≤ t := by have := List.mem_range.1 hj; omega
      by_cases hjt : j = t
      · subst hjt
        have : oj = ot := Option.some.inj (hoj.symm.trans hot)
        subst this
        have h2 := hall e he hb
        rw [hon, getD_both hun] at h2
        cases h2
      · cases hlj : listed.getD j false with
        | true =>
          have h2 := inv.closed j oj hoj hlj e he hb
          rw [hon, getD_both hun] at h2
          cases h2
        | false =>
          have hjs : j < listed.size := by rw [inv.size]; omega
          exact ih (t - j) (by omega) j rfl (by omega) hj2.1.2 listed inv (getD_in hjs hlj) t (Nat.le_refl _) hr
    · have h1 := List.all_eq_true.1 hc t (List.mem_range.2 htlt)
      simp only [Bool.or_eq_true, decide_eq_true_eq] at h1
      rcases h1 with h1 | h1
      · omega
      · obtain ⟨o', ho', e, he, hb, hon⟩ := Region.waitsFor_spec h1
        have : o' = ot := Option.some.inj (ho'.symm.trans hot)
        subst this
        have h2 := hall e he hb
        rw [hon, getD_both (inv.tail (t - 1) (by omega) (by omega))] at h2
        cases h2
def Region.lateB (md : Region.Mode) (ops : Array Oper) (fl : Nat) (late : List Nat) : Bool :=
  Region.noSelect ops && decide (fl + 1 < ops.size) && Region.strictB md ops (fl + 1) late && Region.chainB md ops (fl + 1) && Region.lexFl md ops (ops.size - (fl + 1)) fl fl 0 (Array.replicate ops.size false)
theorem wpAnyW_lex {Q' : Exit → Act → World → Prop} (hQ : ∀ c a d v w, Q' (.panic c) (Act.put a d v) w → Q' (.panic c) a w) {T : Value → World → Prop} (hTS : ∀ v w, T v w → S w) {fl g : Nat} {late : List Nat} {tl : List Oper} (htl : ∀ j, tl[j]? = ops[fl + 1 + j]?) (hg : tl.length = g) (hsel : Region.noSelect ops = true) (hs : Region.strictB md ops (fl + 1) late = true) (hc : Region.chainB md ops (fl + 1) = true) (hn : fl + 1 < ops.size) (of : Oper) (hof : ops[fl]? = some of) :
    ∀ (l : List Oper) (k : Nat) (listed : Array Bool) (a : Act), (∀ j, j < l.length → l[j]? = ops[k + j]?) → k + l.length = fl → HeadInv md ops (fl + 1) listed →
    Region.lexFl md ops g fl l.length k listed = true → wpSeqL P ops S late (fun a' => Region.wanted of (yielded ops a'.tmps) = true ∧ (∀ w, S w → ∃ v w', (execOp a'.eval of).run P w = .ok (.value v) w' ∧ T v w') ∧ ∀ v, ∀ w, T v w → wpList P ops Q' tl (a'.put of.dst v) w) k l a →
    wpAnyW P md ops Q' T (fl + 1) fl g (l.length + 1) listed a S
  | [], k, listed, a, _, hk, inv, hB, h => by
    have hkf : k = fl := by simpa using hk
    subst hkf
    simp only [List.length_nil, Region.lexFl, Bool.and_eq_true, decide_eq_true_eq] at hB
    refine ⟨fun h0 => (by rw [h0] at hB; cases hB.1.2), fun i hi => ?_⟩
    rw [hB.1.2] at hi
    have hik : i = k := by simpa using hi
    subst hik
    refine ⟨of, hof, .inl ⟨rfl, h.1, h.2.1, fun v => ⟨seqB_ready hB.2, fun w hw => ?_⟩⟩⟩
    have := wpAny_of_seq (md := md) (Q' := Q') tl (i + 1) _ _ w htl (by rw [hg]; exact hB.2) (h.2.2 v w hw)
    rwa [hg] at this
  | o :: l, k, listed, a, hl, hk, inv, hB, h => by
    have h0 : ops[k]? = some o := by simpa using (hl 0 (by simp)).symm
    simp only [List.length_cons, Region.lexFl, Bool.and_eq_true] at hB
    obtain ⟨⟨hr, hf⟩, hB'⟩ := hB
    have hkn : k < fl := by simp only [List.length_cons] at hk; omega
    have hr' : k ∈ Region.ready md ops listed := by simpa using hr
    obtain ⟨v, hy, hyl, hK⟩ := h
    have rest := wpAnyW_lex hQ hTS htl hg hsel hs hc hn of hof l (k + 1) _ _ (fun j hj => by have := hl (j + 1) (by simp; omega); simpa [Nat.add_assoc, Nat.add_comm 1 j] using this) (by simp only [List.length_cons] at hk; omega) (inv.set hr' (by omega)) hB' hK
    cases hlk : late.contains k with
    | true => exact wpAnyW_late (fun c a w => hQ c a _ _ w) h0 (by omega) (by omega) (Nat.lt_succ_self _) (Region.noSelect_spec hsel) (l.length + 1) listed a S inv (Region.free_spec h0 hf) hr' (hyl hlk) rest
    | false => exact wpAnyW_strict h0 (by omega) (by omega) (Nat.lt_succ_self _) (Region.noSelect_spec hsel) (fun listed' inv' hun t ht => strict_waits hs hc hn _ k rfl (by omega) hlk listed' inv' hun t ht) (l.length + 1) listed a S inv (fun _ => hTS) (Region.free_spec h0 hf) hr' hy rest
/-- as wp_region_seq_float; the operations whose numbers stand in late may come up behind the tail's beginning -/
theorem wp_region_seq_late {id : Nat} {Q : Exit → Act → World → Prop} {a : Act} {w : World} {l : List Oper} (S : World → Prop) (hl : Lasts S) (T : Value → World → Prop) (hT : ∀ v, Lasts (T v)) (hTS : ∀ v w, T v w → S w) (fl : Nat) (late : List Nat) (of : Oper) (hQ : ∀ c a d v w, Q (.panic c) (Act.put a d v) w → Q (.panic c) a w) (hm : P.follows .mixedOrders = true) (hB : Region.lateB .any l.toArray fl late = true) (hof : l[fl]? = some of) (hS : S w.drew)
    (h : wpSeqL P l.toArray S late (fun a' => Region.wanted of (yielded l.toArray a'.tmps) = true ∧ (∀ w, S w → ∃ v w', (execOp a'.eval of).run P w = .ok (.value v) w' ∧ T v w') ∧ ∀ v, ∀ W, T v W → wpList P l.toArray Q (l.drop (fl + 1)) (a'.put of.dst v) W) 0 (l.take fl) a) : (Code.region id l.toArray true).wp P Q a w := by
  simp only [Region.lateB, Bool.and_eq_true, decide_eq_true_eq] at hB
  obtain ⟨⟨⟨⟨hsel, hn⟩, hs⟩, hc⟩, hlex⟩ := hB
  have hn' : fl + 1 < l.length := by simpa using hn
  have htl : (l.take fl).length = fl := by simp; omega
  have hdl : (l.drop (fl + 1)).length = l.toArray.size - (fl + 1) := by simp
  have inv0 : HeadInv .any l.toArray (fl + 1) (Array.replicate l.toArray.size false) :=
    ⟨by simp, fun j oj _ hl => (by rw [getD_replicate_false] at hl; cases hl), fun t _ ht => getD_in (by simpa using ht) (getD_replicate_false _ _)⟩
  have H := wpAnyW_lex (md := .any) (S := S) (T := T) (Q' := Q) hQ hTS (g := l.toArray.size - (fl + 1)) (tl := l.drop (fl + 1)) (fun j => by simp [List.getElem?_drop]) hdl hsel hs hc hn of (by simpa using hof) (l.take fl) 0 _ a (fun j hj => by
    have hj' : j < fl := by rw [htl] at hj; exact hj
    simp [hj']) (by simpa using htl) inv0 (by rw [htl]; exact hlex) h
  refine wp_region_any hm ?_
  have := wpAny_of_W hT _ _ _ _ _ hl hS H
  rw [htl, show fl + 1 + (l.toArray.size - (fl + 1)) = l.toArray.size by omega] at this
  exact this
theorem wpSeqL_nil {late : List Nat} {Q : Act → Prop} {k : Nat} {a : Act} (h : Q a) : wpSeqL P ops S late Q k [] a := h
theorem wpSeqL_mono {late : List Nat} {Q Q' : Act → Prop} (h : ∀ a, Q a → Q' a) : ∀ {k : Nat} {l : List Oper} {a : Act}, wpSeqL P ops S late Q k l a → wpSeqL P ops S late Q' k l a
  | _, [], _, hh => h _ hh
  | _, _ :: _, _, ⟨v, hy, hyl, hh⟩ => ⟨v, hy, hyl, wpSeqL_mono h hh⟩
theorem wpSeqL_off {late : List Nat} {Q : Act → Prop} {k : Nat} {o : Oper} {rest : List Oper} {a : Act} (hw : Region.wanted o (yielded ops a.tmps) = false) (h : wpSeqL P ops S late Q (k + 1) rest (a.put o.dst undef)) : wpSeqL P ops S late Q k (o :: rest) a :=
  ⟨undef, .inr ⟨hw, rfl⟩, fun _ => .inr ⟨hw, rfl⟩, h⟩
theorem wpSeqL_pure {late : List Nat} {Q : Act → Prop} {k : Nat} {o : Oper} {rest : List Oper} {a : Act} {v : Value} (hw : Region.wanted o (yielded ops a.tmps) = true) (h : ∀ w, (execOp a.eval o).run P w = .ok (.value v) w) (hr : wpSeqL P ops S late Q (k + 1) rest (a.put o.dst v)) : wpSeqL P ops S late Q k (o :: rest) a :=
  ⟨v, .inl ⟨hw, fun w _ => .inl ⟨w, h w, Below.refl _ _⟩⟩, fun _ => .inl ⟨hw, h⟩, hr⟩
theorem wpSeqL_val {late : List Nat} {Q : Act → Prop} {k : Nat} {o : Oper} {rest : List Oper} {a : Act} {v : Value} (hw : Region.wanted o (yielded ops a.tmps) = true) (hk : late.contains k = false) (h : ∀ w, S w → (execOp a.eval o).run P w = .ok (.value v) w) (hr : wpSeqL P ops S late Q (k + 1) rest (a.put o.dst v)) : wpSeqL P ops S late Q k (o :: rest) a :=
  ⟨v, .inl ⟨hw, fun w hS => .inl ⟨w, h w hS, Below.refl _ _⟩⟩, fun h1 => (by rw [hk] at h1; cases h1), hr⟩
theorem wpSeqL_call {late : List Nat} {Q : Act → Prop} {k : Nat} {o : Oper} {rest : List Oper} {a : Act} {f : FuncId} {args : Array Value} {v : Value} (hw : Region.wanted o (yielded ops a.tmps) = true) (hk : late.contains k = false) (h : ∀ w, S w → (execOp a.eval o).run P w = .ok (.enter f args) w) (hc : ∀ w, S w → Calls P f args w (fun e w' => e = .returned v ∧ Below w.heap.size w w')) (hr : wpSeqL P ops S late Q (k + 1) rest (a.put o.dst v)) : wpSeqL P ops S late Q k (o :: rest) a :=
  ⟨v, .inl ⟨hw, fun w hS => .inr (.inr ⟨f, args, h w hS, hc w hS⟩)⟩, fun h1 => (by rw [hk] at h1; cases h1), hr⟩
end
end Go.Proofs.Ytpnefacignalpaa
