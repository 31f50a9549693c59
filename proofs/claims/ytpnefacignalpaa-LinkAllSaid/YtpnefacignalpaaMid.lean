/- A region that draws, in which a call with a result that is not known ahead comes behind its first operations, and pure operations behind it. Conditions: those typed. -/
import Derived.Test.YtpnefacignalpaaIn
namespace Go.Proofs.Ytpnefacignalpaa
open Go Go.RowKit
set_option linter.unusedVariables false
section
variable {P : Program} {ops : Array Oper} {md : Region.Mode} {S : World → Prop}
/-- each operation behind number n waits for one from n on -/
def Region.chainW (md : Region.Mode) (ops : Array Oper) (n : Nat) : Bool :=
  (List.range ops.size).all fun t => decide (t ≤ n) || (List.range t).any fun j => decide (n ≤ j) && Region.waitsFor md ops t j
/-- number n alone is ready, and behind it all may come in the order of the text -/
def Region.midAt (md : Region.Mode) (ops : Array Oper) (g n : Nat) (listed : Array Bool) : Bool :=
  decide (Region.ready md ops listed = [n]) && Region.lexFrom md ops g (n + 1) (listed.setIfInBounds n true)
def Region.lexMid (md : Region.Mode) (ops : Array Oper) (g : Nat) : Nat → Nat → Array Bool → Bool
  | 0, k, listed => Region.midAt md ops g k listed
  | f + 1, k, listed => (Region.ready md ops listed).contains k && Region.free md ops listed k && Region.lexMid md ops g f (k + 1) (listed.setIfInBounds k true)
def Region.midB (md : Region.Mode) (ops : Array Oper) (n : Nat) : Bool :=
  Region.noSelect ops && decide (n < ops.size) && Region.sinkB md ops n && Region.chainW md ops n && Region.lexMid md ops (ops.size - (n + 1)) n 0 (Array.replicate ops.size false)
theorem midAt_ready {g k : Nat} {listed : Array Bool} (h : Region.midAt md ops g k listed = true) : ∀ j ∈ Region.ready md ops listed, k ≤ j := by
  intro j hj
  simp only [Region.midAt, Bool.and_eq_true, decide_eq_true_eq] at h
  rw [h.1] at hj
  have : j = k := by simpa using hj
  omega
theorem tailW_waits {n : Nat} {listed : Array Bool} (hs : Region.sinkB md ops n = true) (hc : Region.chainW md ops n = true) (hn : n < ops.size) (inv : HeadInv md ops n listed) :
    ∀ (d i : Nat), n - i = d → i < n → listed.getD i true = false → ∀ t, n ≤ t → t ∉ Region.ready md ops listed := by
  intro d
  induction d using Nat.strongRecOn with
  | _ d ih =>
    intro i hd hi hun t ht hr
    obtain ⟨_, ot, hot, hall⟩ := mem_ready.1 hr
    have htlt : t < ops.size := (Array.getElem?_eq_some_iff.1 hot).1
    by_cases htn : t = n
    · subst htn
      have h1 := List.all_eq_true.1 hs i (List.mem_range.2 hi)
      obtain ⟨j, hj, hj2⟩ := List.any_eq_true.1 h1
      simp only [Bool.and_eq_true, decide_eq_true_eq] at hj2
      obtain ⟨oj, hoj, e, he, hb, hon⟩ := Region.waitsFor_spec hj2.2
      have hjle : j ≤ t := by have := List.mem_range.1 hj; omega
      by_cases hjt : j = t
      · subst hjt
        have : oj = ot := Option.some.inj (hoj.symm.trans hot)
        subst this
        have h2 := hall e he hb
        rw [hon, getD_both hun] at h2
        cases h2
      · cases hl : listed.getD j false with
        | true =>
          have h2 := inv.closed j oj hoj hl e he hb
          rw [hon, getD_both hun] at h2
          cases h2
        | false =>
          have hjs : j < listed.size := by rw [inv.size]; omega
          exact ih (t - j) (by omega) j rfl (by omega) (getD_in hjs hl) t (Nat.le_refl _) hr
    · have h1 := List.all_eq_true.1 hc t (List.mem_range.2 htlt)
      simp only [Bool.or_eq_true, decide_eq_true_eq] at h1
      rcases h1 with h1 | h1
      · omega
      · obtain ⟨j, hj, hj2⟩ := List.any_eq_true.1 h1
        simp only [Bool.and_eq_true, decide_eq_true_eq] at hj2
        obtain ⟨o', ho', e, he, hb, hon⟩ := Region.waitsFor_spec hj2.2
        have : o' = ot := Option.some.inj (ho'.symm.trans hot)
        subst this
        have h2 := hall e he hb
        have hjt : j < t := List.mem_range.1 hj
        have h3 := getD_both (inv.tail j hj2.1 (by omega))
        rw [hon, h3] at h2
        cases h2
theorem wpAnyU_firstW {n i : Nat} {oi : Oper} {v : Value} {L : Array Bool → Act → Prop} (hi : ops[i]? = some oi) (hsel : ∀ (j : Nat) (o : Oper) cs b, ops[j]? = some o → o.op ≠ .select cs b)
    (hs : Region.sinkB md ops n = true) (hc : Region.chainW md ops n = true) (hn : n < ops.size) (hin : i < n)
    (hdone : ∀ listed a, L listed a → ∀ j ∈ Region.ready md ops listed, n ≤ j) :
    ∀ (f : Nat) (listed : Array Bool) (a : Act), HeadInv md ops n listed →
      (∀ j oj, ops[j]? = some oj → j ≠ i → listed.getD j true = false → (∀ e ∈ oj.after, Region.binds md e = true → e.on ≠ i) → oi.apart ops oj = true) →
      i ∈ Region.ready md ops listed → YieldsS P ops S oi v a →
      wpAnyU P md ops S n L f (listed.setIfInBounds i true) (a.put oi.dst v) → wpAnyU P md ops S n L (f + 1) listed a := by
  intro f
  induction f with
  | zero =>
    intro listed a inv _ hr hy H
    have hun := (mem_ready.1 hr).1
    refine ⟨fun h => (by rw [h] at hr; cases hr), fun j hj => ?_⟩
    have hjn : j < n := by
      rcases Nat.lt_or_ge j n with h | h
      · exact h
      · exact absurd hj (tailW_waits hs hc hn inv _ i rfl hin hun j h)
    refine ⟨hjn, ?_⟩
    by_cases hji : j = i
    · subst hji; exact ⟨oi, v, hi, hy, H⟩
    · have := hdone _ _ H j (ready_mono hj hji)
      omega
  | succ f ih =>
    intro listed a inv hfree hr hy H
    have hun := (mem_ready.1 hr).1
    refine ⟨fun h => (by rw [h] at hr; cases hr), fun j hj => ?_⟩
    have hjn : j < n := by
      rcases Nat.lt_or_ge j n with h | h
      · exact h
      · exact absurd hj (tailW_waits hs hc hn inv _ i rfl hin hun j h)
    refine ⟨hjn, ?_⟩
    by_cases hji : j = i
    · subst hji; exact ⟨oi, v, hi, hy, H⟩
    · obtain ⟨oj, vj, hoj, hyj, hn'⟩ := (H.2 j (ready_mono hj hji)).2
      obtain ⟨hjun, oj', hoj', hall⟩ := mem_ready.1 hj
      have : oj' = oj := Option.some.inj (hoj'.symm.trans hoj)
      subst this
      have hnot : ∀ e ∈ oj'.after, Region.binds md e = true → e.on ≠ i := fun e he hb heq => by
        have h1 := hall e he hb
        rw [heq, getD_both hun] at h1
        cases h1
      obtain ⟨h1, h2, h3⟩ := Oper.apart_spec (hfree j oj' hoj hji hjun hnot)
      have hfree' : ∀ k ok, ops[k]? = some ok → k ≠ i → (listed.setIfInBounds j true).getD k true = false →
          (∀ e ∈ ok.after, Region.binds md e = true → e.on ≠ i) → oi.apart ops ok = true := fun k ok hk hki hun hno => by
        refine hfree k ok hk hki ?_ hno
        by_cases hjk : j = k
        · subst hjk; exact hjun
        · rw [getD_set_ne true hjk] at hun; exact hun
      refine ⟨oj', vj, hoj, hyj.of_same (execOp_put oj' (fun cs b => hsel j oj' cs b hoj) a oi.dst v h1).symm (wanted_put oj' a oi.dst v h1).symm, ih (listed.setIfInBounds j true) _ (inv.set hj hjn) hfree' (ready_mono hr (Ne.symm hji)) (hy.of_same (execOp_put oi (fun cs b => hsel i oi cs b hi) a oj'.dst vj h3) (wanted_put oi a oj'.dst vj h3)) ?_⟩
      rw [Array.setIfInBounds_comm _ _ hji, ← Act.put_comm a v vj h2]
      exact hn'
theorem wpAnyU_mid {n g : Nat} {Lq : Act → Prop} (hsel : Region.noSelect ops = true) (hs : Region.sinkB md ops n = true) (hc : Region.chainW md ops n = true) (hn : n < ops.size) :
    ∀ (l : List Oper) (k : Nat) (listed : Array Bool) (a : Act), (∀ j, j < l.length → l[j]? = ops[k + j]?) → k + l.length = n → HeadInv md ops n listed →
    Region.lexMid md ops g l.length k listed = true → wpSeq P ops S Lq l a →
    wpAnyU P md ops S n (fun listed' a' => Region.midAt md ops g n listed' = true ∧ Lq a') l.length listed a
  | [], k, listed, a, _, hk, _, hB, h => by
    have : k = n := by simpa using hk
    subst this
    exact ⟨by simpa [Region.lexMid] using hB, h⟩
  | o :: l, k, listed, a, hl, hk, inv, hB, h => by
    have h0 : ops[k]? = some o := by simpa using (hl 0 (by simp)).symm
    simp only [List.length_cons, Region.lexMid, Bool.and_eq_true] at hB
    obtain ⟨⟨hr, hf⟩, hB'⟩ := hB
    have hkn : k < n := by simp only [List.length_cons] at hk; omega
    have hr' : k ∈ Region.ready md ops listed := by simpa using hr
    obtain ⟨v, hy, hK⟩ := h
    exact wpAnyU_firstW h0 (Region.noSelect_spec hsel) hs hc hn hkn (fun listed' a' hL => midAt_ready hL.1) l.length listed a inv (Region.free_spec h0 hf) hr' hy
      (wpAnyU_mid hsel hs hc hn l (k + 1) _ _ (fun j hj => by have := hl (j + 1) (by simp; omega); simpa [Nat.add_assoc, Nat.add_comm 1 j] using this) (by simp only [List.length_cons] at hk; omega) (inv.set hr' hkn) hB' hK)
/-- a region whose first n operations yield so, whose number n is a call with one of several results, and whose others yield so behind it -/
theorem wp_region_seq_mid {α : Type} {id : Nat} {Q : Exit → Act → World → Prop} {a : Act} {w : World} {l : List Oper} (S : World → Prop) (hl : Lasts S) (val : α → Value) (T : α → World → Prop) (hT : ∀ x, Lasts (T x)) (n : Nat) (o : Oper)
    (hm : P.follows .mixedOrders = true) (hB : Region.midB .any l.toArray n = true) (ho : l[n]? = some o) (hS : S w.drew)
    (h : wpSeq P l.toArray S (fun a' => (Region.wanted o (yielded l.toArray a'.tmps) = true ∧ ∀ W, S W → ∃ f args, (execOp a'.eval o).run P W = .ok (.enter f args) W ∧ Calls P f args W (fun e w'' => ∃ x, e = .returned (val x) ∧ T x w'')) ∧
      ∀ x, wpSeq P l.toArray (T x) (fun a'' => ∀ W, T x W → Q .normal a'' W) (l.drop (n + 1)) (a'.put o.dst (val x))) (l.take n) a) : (Code.region id l.toArray true).wp P Q a w := by
  simp only [Region.midB, Bool.and_eq_true, decide_eq_true_eq] at hB
  obtain ⟨⟨⟨⟨hsel, hn⟩, hs⟩, hc⟩, hlex⟩ := hB
  have hn' : n < l.length := by simpa using hn
  have htl : (l.take n).length = n := by simp; omega
  have hdl : (l.drop (n + 1)).length = l.toArray.size - (n + 1) := by simp
  have inv0 : HeadInv .any l.toArray n (Array.replicate l.toArray.size false) :=
    ⟨by simp, fun j oj _ hl => (by rw [getD_replicate_false] at hl; cases hl), fun t _ ht => getD_in (by simpa using ht) (getD_replicate_false _ _)⟩
  have H := wpAnyU_mid (md := .any) (S := S) (g := l.toArray.size - (n + 1)) hsel hs hc hn (l.take n) 0 _ a (fun j hj => by
    have hj' : j < n := by rw [htl] at hj; exact hj
    simp [hj']) (by simpa using htl) inv0 (by rw [htl]; exact hlex) h
  refine wp_region_any hm ?_
  have := wpAny_of_U (Q' := Q) (S := S) hl (g := l.toArray.size - (n + 1) + 1) (fun listed a' W hS' hL => by
    obtain ⟨hmid, ⟨hw, hcall⟩, hrest⟩ := hL
    simp only [Region.midAt, Bool.and_eq_true, decide_eq_true_eq] at hmid
    refine ⟨fun h1 => (by rw [hmid.1] at h1; cases h1), fun i hi => ?_⟩
    rw [hmid.1] at hi
    have hik : i = n := by simpa using hi
    subst hik
    have h0 : l.toArray[i]? = some o := by simpa using ho
    unfold Go.wpOp
    simp only [h0, hw, if_true]
    refine .inl ?_
    unfold Oper.wp
    obtain ⟨f, args, hr, hC⟩ := hcall W hS'
    rw [hr]
    refine hC.mono ?_
    rintro e w'' ⟨x, rfl, hTx⟩
    have hl2 := wpAnyT_lex (md := .any) (S := T x) hsel (l.drop (i + 1)) (i + 1) _ _ (fun j => by simp [List.getElem?_drop]) (by rw [hdl]; exact hmid.2) (hrest x)
    have := wpAny_of_T (S := T x) (hT x) (Q := fun a'' => ∀ W, T x W → Q .normal a'' W) (Q' := Q) (fun _ w hS h => h w hS) _ _ _ w'' hTx hl2
    rwa [hdl] at this) _ _ _ _ hS H
  rw [htl, show n + (l.toArray.size - (n + 1) + 1) = l.toArray.size by omega] at this
  exact this
end
section
variable {P : Program} {w0 w : World} {ls : List (Nat × TypeId × Array Value)}
theorem wp_region_in_mid {α : Type} {id : Nat} {Q : Exit → Act → World → Prop} {a : Act} {l : List Oper} (n : Nat) (val : α → Value) (T : α → World → Prop) (hT : ∀ x, Lasts (T x)) (o : Oper) (hI : In w0 ls w)
    (hm : P.follows .mixedOrders = true) (hB : Region.midB .any l.toArray n = true) (ho : l[n]? = some o)
    (h : wpSeq P l.toArray (In w0 ls) (fun a' => (Region.wanted o (yielded l.toArray a'.tmps) = true ∧ ∀ W, In w0 ls W → ∃ f args, (execOp a'.eval o).run P W = .ok (.enter f args) W ∧ Calls P f args W (fun e w'' => ∃ x, e = .returned (val x) ∧ T x w'')) ∧
      ∀ x, wpSeq P l.toArray (T x) (fun a'' => ∀ W, T x W → Q .normal a'' W) (l.drop (n + 1)) (a'.put o.dst (val x))) (l.take n) a) : (Code.region id l.toArray true).wp P Q a w :=
  wp_region_seq_mid (In w0 ls) (fun _ _ h hb => h.call hb) val T hT n o hm hB ho hI.drew h
end
end Go.Proofs.Ytpnefacignalpaa
