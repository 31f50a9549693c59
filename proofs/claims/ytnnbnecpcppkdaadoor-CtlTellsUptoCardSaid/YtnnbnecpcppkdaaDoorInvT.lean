/- The general law for a region that draws its order, with one invariant of what is listed, of the results and of the world. As InvJ, for a region that writes a variable at its end which it reads at its beginning. A region that draws and makes two blocks at any time. 'low, high := x, x' in a region that draws, of any type: where loads may come behind the first store. Conditions: those typed. -/
import Derived.Test.YtnnbnecpcppkdaaDoorInv
import Derived.Test.YtnnbnecpcppkdaaDoorSeqIn
import Derived.Test.YtnnbnecpcppkdaaDoorMakeQ
namespace Go.Proofs.YtnnbnecpcppkdaaDoor
open Go Go.RowKit
set_option linter.unusedVariables false
section
variable {P : Program} {ops : Array Oper} {md : Region.Mode}
/-- o, at this act, yields a value and a world that meet K; or is not wanted -/
def StepJ (P : Program) (ops : Array Oper) (a : Act) (o : Oper) (W : World) (K : Value → World → Prop) : Prop :=
  (Region.wanted o (yielded ops a.tmps) = true ∧ (StepE P a.eval o W K ∨ ∃ W', (execOp a.eval o).run P W = .ok .skip W' ∧ K undef W')) ∨ (Region.wanted o (yielded ops a.tmps) = false ∧ K undef W)
theorem StepJ.val {a : Act} {o : Oper} {W W' : World} {K : Value → World → Prop} {v : Value} (hw : Region.wanted o (yielded ops a.tmps) = true) (h : (execOp a.eval o).run P W = .ok (.value v) W') (hK : K v W') : StepJ P ops a o W K := .inl ⟨hw, .inl (.inl ⟨v, W', h, hK⟩)⟩
theorem StepJ.skip {a : Act} {o : Oper} {W W' : World} {K : Value → World → Prop} (hw : Region.wanted o (yielded ops a.tmps) = true) (h : (execOp a.eval o).run P W = .ok .skip W') (hK : K undef W') : StepJ P ops a o W K := .inl ⟨hw, .inr ⟨W', h, hK⟩⟩
theorem StepJ.call {a : Act} {o : Oper} {W : World} {K : Value → World → Prop} {f : FuncId} {args : Array Value} (hw : Region.wanted o (yielded ops a.tmps) = true) (h : (execOp a.eval o).run P W = .ok (.enter f args) W) (hc : Calls P f args W fun e W' => ∃ v, e = .returned v ∧ K v W') : StepJ P ops a o W K := .inl ⟨hw, .inl (.inr ⟨f, args, h, hc⟩)⟩
theorem StepJ.off {a : Act} {o : Oper} {W : World} {K : Value → World → Prop} (hw : Region.wanted o (yielded ops a.tmps) = false) (hK : K undef W) : StepJ P ops a o W K := .inr ⟨hw, hK⟩
theorem wpAny_invJ {Q : Exit → Act → World → Prop} {l : List Oper} (a0 : Act) (n : Nat) (J : (Nat → Bool) → (Nat → Value) → World → Prop)
    (hB : Region.invB md l.toArray n = true)
    (hstep : ∀ (i : Nat) (o : Oper), i < n → l[i]? = some o → ∀ (s : Nat → Bool) (vs : Nat → Value) (W : World), J s vs W → s i = false → (∀ e ∈ o.after, Region.binds md e = true → s e.on = true) →
      StepJ P l.toArray (lexA l vs i a0) o W (fun v W' => J (updI s i true) (updI vs i v) W'))
    (hfin : ∀ (s : Nat → Bool) (vs : Nat → Value) (W : World), (∀ i, i < n → s i = true) → J s vs W → wpList P l.toArray Q (l.drop n) (lexA l vs n a0) W) :
    ∀ (f : Nat) (listed : Array Bool) (s : Nat → Bool) (vs : Nat → Value) (W : World), HeadInv md l.toArray n listed → (∀ j, s j = listed.getD j false) → cntI s n = f → J s vs W →
      wpAny P md l.toArray Q (f + (l.toArray.size - n)) listed (putAll s vs l 0 a0) W := by
  simp only [Region.invB, Bool.and_eq_true, decide_eq_true_eq] at hB
  obtain ⟨⟨⟨⟨⟨⟨hsel, hn⟩, hs⟩, hc⟩, ht⟩, hdp⟩, hcan⟩ := hB
  obtain ⟨t1, t2, t3⟩ := Region.textB_spec ht
  have hn' : n < l.length := by simpa using hn
  intro f
  induction f with
  | zero =>
    intro listed s vs W inv hsl hcnt hJ
    have hall := cntI_zero n hcnt
    have hsn : ∀ j, s j = decide (j < n) := by
      intro j
      by_cases hj : j < n
      · rw [hall j hj, decide_eq_true hj]
      · rw [decide_eq_false hj, hsl j]
        by_cases hj2 : j < l.toArray.size
        · exact getD_both (inv.tail j (by omega) hj2)
        · simp [Array.getElem?_eq_none (show listed.size ≤ j by rw [inv.size]; omega)]
    have hlc : listed = ((List.range l.toArray.size).map fun j => decide (j < n)).toArray := by
      apply Array.ext
      · rw [inv.size]; simp
      · intro j h1 h2
        have h3 := hsl j
        rw [hsn j] at h3
        simp [h1] at h3
        simp [← h3]
    have hact : putAll s vs l 0 a0 = lexA l vs n a0 := putAll_congr l 0 a0 fun j _ => ⟨hsn j, rfl⟩
    have hdl : (l.drop n).length = l.toArray.size - n := by simp
    rw [Nat.zero_add, hact]
    have := wpAny_of_seq (md := md) (Q' := Q) (l.drop n) n listed (lexA l vs n a0) W (fun j => by simp [List.getElem?_drop]) (by rw [hdl, hlc]; exact hcan) (hfin s vs W hall hJ)
    rwa [hdl] at this
  | succ f ih =>
    intro listed s vs W inv hsl hcnt hJ
    obtain ⟨i0, hi0, hsi0, hbef⟩ := cntI_first n (by rw [hcnt]; omega)
    have hun : ∀ i, i < l.toArray.size → s i = false → listed.getD i true = false := fun i hi h => getD_in (by rw [inv.size]; exact hi) (by rw [← hsl i]; exact h)
    have hi0' : listed.getD i0 true = false := hun i0 (by simp; omega) hsi0
    have hrd : i0 ∈ Region.ready md l.toArray listed := by
      refine mem_ready.2 ⟨hi0', _, (by rw [List.getElem?_toArray]; exact List.getElem?_eq_getElem (show i0 < l.length by omega)), fun e he hb => ?_⟩
      rw [← hsl]
      exact hbef _ (Region.depB_spec hdp i0 _ (List.getElem?_eq_getElem (by omega)) e he hb)
    rw [show f + 1 + (l.toArray.size - n) = (f + (l.toArray.size - n)) + 1 by omega]
    refine ⟨fun h => (by rw [h] at hrd; cases hrd), fun i hi => ?_⟩
    have hin : i < n := by
      rcases Nat.lt_or_ge i n with h | h
      · exact h
      · exact absurd hi (tailW_waits hs hc hn inv _ i0 rfl hi0 hi0' i h)
    obtain ⟨hiun, o, ho, hdep⟩ := mem_ready.1 hi
    have hol : l[i]? = some o := by simpa using ho
    have hsi : s i = false := by rw [hsl i]; exact getD_both hiun
    have hst0 := hstep i o hin hol s vs W hJ hsi (fun e he hb => by rw [hsl]; exact hdep e he hb)
    have hG : ∀ {β : Type} (G : Act → β), (∀ (b : Act) (x : Option Tmp) v, (∀ d, x = some d → d ∉ o.looksAt l.toArray) → G (b.put x v) = G b) → G (putAll s vs l 0 a0) = G (lexA l vs i a0) := fun G hG => by
      refine putAll_lex G vs l a0 t2 hsi fun j hj hji oj hoj b v => hG b oj.dst v (t3 i j o oj hol hoj (Ne.symm hji) ?_)
      by_cases hjl : j < i
      · refine .inr fun e he hb heq => hj ?_
        rw [← heq] at hjl ⊢
        rw [hsl, hdep e he hb, decide_eq_true hjl]
      · exact .inl hjl
    have e1 : execOp (putAll s vs l 0 a0).eval o = execOp (lexA l vs i a0).eval o := hG (fun b => execOp b.eval o) fun b x v hx => execOp_put o (fun cs b' => Region.noSelect_spec hsel i o cs b' ho) b x v hx
    have e2 : Region.wanted o (yielded l.toArray (putAll s vs l 0 a0).tmps) = Region.wanted o (yielded l.toArray (lexA l vs i a0).tmps) := hG (fun b => Region.wanted o (yielded l.toArray b.tmps)) fun b x v hx => wanted_put o b x v hx
    have hnext : ∀ v W', J (updI s i true) (updI vs i v) W' → wpAny P md l.toArray Q (f + (l.toArray.size - n)) (listed.setIfInBounds i true) ((putAll s vs l 0 a0).put o.dst v) W' := fun v W' k1 => by
      rw [putAll_set s vs i v hsi l 0 a0 o (Nat.zero_le _) (by simpa using hol) t2]
      refine ih _ _ _ W' (inv.set hi hin) (fun j => ?_) (by have := cntI_set hsi n hin; omega) k1
      by_cases hji : j = i
      · subst hji
        rw [updI_same]
        have : j < listed.size := by rw [inv.size]; simp; omega
        simp [this]
      · rw [updI_ne s true hji, hsl j, getD_set_ne false (Ne.symm hji)]
    unfold Go.wpOp
    simp only [ho, e2]
    rcases hst0 with ⟨hw, hst⟩ | ⟨hw, k1⟩
    · simp only [hw, if_true]
      refine .inl ?_
      unfold Oper.wp
      rw [e1]
      rcases hst with (⟨v, W', hr, k1⟩ | ⟨f', args, hr, hC⟩) | ⟨W', hr, k1⟩
      · rw [hr]; exact hnext v W' k1
      · rw [hr]
        refine hC.mono ?_
        rintro e W' ⟨v, rfl, k1⟩
        exact hnext v W' k1
      · rw [hr]; exact hnext undef W' k1
    · simp only [hw, Bool.false_eq_true, if_false]
      exact hnext undef W k1
/-- the law: the first n operations in whatever order, under J; then the others, in one order -/
theorem wp_region_invJ {id : Nat} {Q : Exit → Act → World → Prop} {a : Act} {w : World} {l : List Oper} (n : Nat) (J : (Nat → Bool) → (Nat → Value) → World → Prop) (hm : P.follows .mixedOrders = true) (hB : Region.invB .any l.toArray n = true) (hS : J (fun _ => false) (fun _ => undef) w.drew)
    (hstep : ∀ (i : Nat) (o : Oper), i < n → l[i]? = some o → ∀ (s : Nat → Bool) (vs : Nat → Value) (W : World), J s vs W → s i = false → (∀ e ∈ o.after, Region.binds .any e = true → s e.on = true) →
      StepJ P l.toArray (lexA l vs i a) o W (fun v W' => J (updI s i true) (updI vs i v) W'))
    (hfin : ∀ (s : Nat → Bool) (vs : Nat → Value) (W : World), (∀ i, i < n → s i = true) → J s vs W → wpList P l.toArray Q (l.drop n) (lexA l vs n a) W) : (Code.region id l.toArray true).wp P Q a w := by
  have hB' := hB
  simp only [Region.invB, Bool.and_eq_true, decide_eq_true_eq] at hB
  obtain ⟨⟨⟨⟨⟨⟨hsel, hn⟩, hs⟩, hc⟩, ht⟩, hdp⟩, hcan⟩ := hB
  have hn' : n < l.length := by simpa using hn
  have inv0 : HeadInv .any l.toArray n (Array.replicate l.toArray.size false) :=
    ⟨by simp, fun j oj _ hl => (by rw [getD_replicate_false] at hl; cases hl), fun t _ ht => getD_in (by simpa using ht) (getD_replicate_false _ _)⟩
  refine wp_region_any hm ?_
  have hcnt : ∀ m, cntI (fun _ => false) m = m := fun m => by
    induction m with
    | zero => rfl
    | succ m ih => unfold cntI; rw [ih]; rfl
  have := wpAny_invJ (P := P) (Q := Q) a n J hB' hstep hfin n (Array.replicate l.toArray.size false) (fun _ => false) (fun _ => undef) w.drew inv0 (fun j => (getD_replicate_false _ _).symm) (hcnt n) hS
  rw [show n + (l.toArray.size - n) = l.toArray.size by simp; omega] at this
  have h0 : ∀ (l : List Oper) (k : Nat) (b : Act), putAll (fun _ => false) (fun _ => undef) l k b = b := by
    intro l
    induction l with
    | nil => intro k b; rfl
    | cons o l ih => intro k b; unfold putAll; simpa using ih (k + 1) b
  rw [h0] at this
  exact this
end
end Go.Proofs.YtnnbnecpcppkdaaDoor
namespace Go.Proofs.YtnnbnecpcppkdaaDoor
open Go Go.RowKit
set_option linter.unusedVariables false
section
variable {P : Program} {ops : Array Oper} {md : Region.Mode}
/-- as textB; what an operation looks at is asked among the first n alone -/
def Region.textN (md : Region.Mode) (ops : Array Oper) (n : Nat) : Bool :=
  (List.range ops.size).all fun i => (List.range ops.size).all fun j => match ops[i]?, ops[j]? with
    | some oi, some oj => (!(oi.after.any fun e => Region.binds md e && e.on == j) || decide (j < i)) &&
        (decide (i = j) || ((match oi.dst, oj.dst with | some d, some d' => d != d' | _, _ => true) && (decide (n ≤ i) || decide (n ≤ j) || (decide (j < i) && oi.after.any fun e => Region.binds md e && e.on == j) || (match oj.dst with | some d => !(oi.looksAt ops).contains d | none => true))))
    | _, _ => true
def Region.invN (md : Region.Mode) (ops : Array Oper) (n : Nat) : Bool :=
  Region.noSelect ops && decide (n < ops.size) && Region.sinkB md ops n && Region.chainW md ops n && Region.textN md ops n && Region.depB md ops && Region.canonB md ops n
theorem Region.textN_spec {l : List Oper} {n : Nat} (h : Region.textN md l.toArray n = true) : (∀ (i : Nat) (o : Oper), l[i]? = some o → ∀ e ∈ o.after, Region.binds md e = true → e.on < l.length → e.on < i) ∧ DstsApart l ∧
    ∀ (i j : Nat) (oi oj : Oper), l[i]? = some oi → l[j]? = some oj → i ≠ j → i < n → j < n → (¬ (j < i) ∨ ∀ e ∈ oi.after, Region.binds md e = true → e.on ≠ j) → ∀ d, oj.dst = some d → d ∉ oi.looksAt l.toArray := by
  have key : ∀ (i j : Nat) (oi oj : Oper), l[i]? = some oi → l[j]? = some oj → ((!(oi.after.any fun e => Region.binds md e && e.on == j) || decide (j < i)) &&
        (decide (i = j) || ((match oi.dst, oj.dst with | some d, some d' => d != d' | _, _ => true) && (decide (n ≤ i) || decide (n ≤ j) || (decide (j < i) && oi.after.any fun e => Region.binds md e && e.on == j) || (match oj.dst with | some d => !(oi.looksAt l.toArray).contains d | none => true))))) = true := by
    intro i j oi oj hi hj
    unfold Region.textN at h
    have h1 := List.all_eq_true.1 h i (List.mem_range.2 (by have := (List.getElem?_eq_some_iff.1 hi).1; simpa using this))
    have h2 := List.all_eq_true.1 h1 j (List.mem_range.2 (by have := (List.getElem?_eq_some_iff.1 hj).1; simpa using this))
    simp only [List.getElem?_toArray, hi, hj] at h2
    exact h2
  refine ⟨fun i o ho e he hb hl => ?_, fun i j oi oj hi hj hij d hd hd' => ?_, fun i j oi oj hi hj hij hin hjn hw d hd => ?_⟩
  · have h1 := key i e.on o _ ho (List.getElem?_eq_getElem hl)
    simp only [Bool.and_eq_true, Bool.or_eq_true, Bool.not_eq_true', decide_eq_true_eq] at h1
    rcases h1.1 with h2 | h2
    · have : (o.after.any fun e' => Region.binds md e' && e'.on == e.on) = true := Array.any_eq_true'.2 ⟨e, he, by simp [hb]⟩
      rw [this] at h2
      cases h2
    · exact h2
  · have h1 := key i j oi oj hi hj
    simp only [Bool.and_eq_true, Bool.or_eq_true, decide_eq_true_eq, hd, hd'] at h1
    rcases h1.2 with h2 | h2
    · exact hij h2
    · have := h2.1; simp at this
  · have h1 := key i j oi oj hi hj
    simp only [Bool.and_eq_true, Bool.or_eq_true, decide_eq_true_eq, hd] at h1
    rcases h1.2 with h2 | h2
    · exact absurd h2 hij
    · rcases h2.2 with ((h3 | h3) | ⟨h3, h4⟩) | h3
      · omega
      · omega
      · rcases hw with hw | hw
        · exact absurd h3 hw
        · obtain ⟨e, he, hb⟩ := Array.any_eq_true'.1 h4
          simp only [Bool.and_eq_true, beq_iff_eq] at hb
          exact absurd hb.2 (hw e he hb.1)
      · intro hm
        have : (oi.looksAt l.toArray).contains d = true := by simpa using hm
        rw [this] at h3
        cases h3
theorem wpAny_invK {Q : Exit → Act → World → Prop} {l : List Oper} (a0 : Act) (n : Nat) (J : (Nat → Bool) → (Nat → Value) → World → Prop)
    (hB : Region.invN md l.toArray n = true)
    (hstep : ∀ (i : Nat) (o : Oper), i < n → l[i]? = some o → ∀ (s : Nat → Bool) (vs : Nat → Value) (W : World), J s vs W → s i = false → (∀ e ∈ o.after, Region.binds md e = true → s e.on = true) →
      StepJ P l.toArray (lexA l vs i a0) o W (fun v W' => J (updI s i true) (updI vs i v) W'))
    (hfin : ∀ (s : Nat → Bool) (vs : Nat → Value) (W : World), (∀ i, i < n → s i = true) → J s vs W → wpList P l.toArray Q (l.drop n) (lexA l vs n a0) W) :
    ∀ (f : Nat) (listed : Array Bool) (s : Nat → Bool) (vs : Nat → Value) (W : World), HeadInv md l.toArray n listed → (∀ j, s j = listed.getD j false) → cntI s n = f → J s vs W →
      wpAny P md l.toArray Q (f + (l.toArray.size - n)) listed (putAll s vs l 0 a0) W := by
  simp only [Region.invN, Bool.and_eq_true, decide_eq_true_eq] at hB
  obtain ⟨⟨⟨⟨⟨⟨hsel, hn⟩, hs⟩, hc⟩, ht⟩, hdp⟩, hcan⟩ := hB
  obtain ⟨t1, t2, t3⟩ := Region.textN_spec ht
  have hn' : n < l.length := by simpa using hn
  intro f
  induction f with
  | zero =>
    intro listed s vs W inv hsl hcnt hJ
    have hall := cntI_zero n hcnt
    have hsn : ∀ j, s j = decide (j < n) := by
      intro j
      by_cases hj : j < n
      · rw [hall j hj, decide_eq_true hj]
      · rw [decide_eq_false hj, hsl j]
        by_cases hj2 : j < l.toArray.size
        · exact getD_both (inv.tail j (by omega) hj2)
        · simp [Array.getElem?_eq_none (show listed.size ≤ j by rw [inv.size]; omega)]
    have hlc : listed = ((List.range l.toArray.size).map fun j => decide (j < n)).toArray := by
      apply Array.ext
      · rw [inv.size]; simp
      · intro j h1 h2
        have h3 := hsl j
        rw [hsn j] at h3
        simp [h1] at h3
        simp [← h3]
    have hact : putAll s vs l 0 a0 = lexA l vs n a0 := putAll_congr l 0 a0 fun j _ => ⟨hsn j, rfl⟩
    have hdl : (l.drop n).length = l.toArray.size - n := by simp
    rw [Nat.zero_add, hact]
    have := wpAny_of_seq (md := md) (Q' := Q) (l.drop n) n listed (lexA l vs n a0) W (fun j => by simp [List.getElem?_drop]) (by rw [hdl, hlc]; exact hcan) (hfin s vs W hall hJ)
    rwa [hdl] at this
  | succ f ih =>
    intro listed s vs W inv hsl hcnt hJ
    obtain ⟨i0, hi0, hsi0, hbef⟩ := cntI_first n (by rw [hcnt]; omega)
    have hun : ∀ i, i < l.toArray.size → s i = false → listed.getD i true = false := fun i hi h => getD_in (by rw [inv.size]; exact hi) (by rw [← hsl i]; exact h)
    have hi0' : listed.getD i0 true = false := hun i0 (by simp; omega) hsi0
    have hrd : i0 ∈ Region.ready md l.toArray listed := by
      refine mem_ready.2 ⟨hi0', _, (by rw [List.getElem?_toArray]; exact List.getElem?_eq_getElem (show i0 < l.length by omega)), fun e he hb => ?_⟩
      rw [← hsl]
      exact hbef _ (Region.depB_spec hdp i0 _ (List.getElem?_eq_getElem (by omega)) e he hb)
    rw [show f + 1 + (l.toArray.size - n) = (f + (l.toArray.size - n)) + 1 by omega]
    refine ⟨fun h => (by rw [h] at hrd; cases hrd), fun i hi => ?_⟩
    have hin : i < n := by
      rcases Nat.lt_or_ge i n with h | h
      · exact h
      · exact absurd hi (tailW_waits hs hc hn inv _ i0 rfl hi0 hi0' i h)
    obtain ⟨hiun, o, ho, hdep⟩ := mem_ready.1 hi
    have hol : l[i]? = some o := by simpa using ho
    have hsi : s i = false := by rw [hsl i]; exact getD_both hiun
    have hst0 := hstep i o hin hol s vs W hJ hsi (fun e he hb => by rw [hsl]; exact hdep e he hb)
    have hG : ∀ {β : Type} (G : Act → β), (∀ (b : Act) (x : Option Tmp) v, (∀ d, x = some d → d ∉ o.looksAt l.toArray) → G (b.put x v) = G b) → G (putAll s vs l 0 a0) = G (lexA l vs i a0) := fun G hG => by
      refine putAll_lex G vs l a0 t2 hsi fun j hj hji oj hoj b v => hG b oj.dst v (t3 i j o oj hol hoj (Ne.symm hji) hin ?_ ?_)
      · rcases Nat.lt_or_ge j n with h | h
        · exact h
        · exfalso
          refine hj ?_
          rw [decide_eq_false (show ¬ j < i by omega), hsl]
          exact getD_both (inv.tail j h (by have := (List.getElem?_eq_some_iff.1 hoj).1; simpa using this))
      by_cases hjl : j < i
      · refine .inr fun e he hb heq => hj ?_
        rw [← heq] at hjl ⊢
        rw [hsl, hdep e he hb, decide_eq_true hjl]
      · exact .inl hjl
    have e1 : execOp (putAll s vs l 0 a0).eval o = execOp (lexA l vs i a0).eval o := hG (fun b => execOp b.eval o) fun b x v hx => execOp_put o (fun cs b' => Region.noSelect_spec hsel i o cs b' ho) b x v hx
    have e2 : Region.wanted o (yielded l.toArray (putAll s vs l 0 a0).tmps) = Region.wanted o (yielded l.toArray (lexA l vs i a0).tmps) := hG (fun b => Region.wanted o (yielded l.toArray b.tmps)) fun b x v hx => wanted_put o b x v hx
    have hnext : ∀ v W', J (updI s i true) (updI vs i v) W' → wpAny P md l.toArray Q (f + (l.toArray.size - n)) (listed.setIfInBounds i true) ((putAll s vs l 0 a0).put o.dst v) W' := fun v W' k1 => by
      rw [putAll_set s vs i v hsi l 0 a0 o (Nat.zero_le _) (by simpa using hol) t2]
      refine ih _ _ _ W' (inv.set hi hin) (fun j => ?_) (by have := cntI_set hsi n hin; omega) k1
      by_cases hji : j = i
      · subst hji
        rw [updI_same]
        have : j < listed.size := by rw [inv.size]; simp; omega
        simp [this]
      · rw [updI_ne s true hji, hsl j, getD_set_ne false (Ne.symm hji)]
    unfold Go.wpOp
    simp only [ho, e2]
    rcases hst0 with ⟨hw, hst⟩ | ⟨hw, k1⟩
    · simp only [hw, if_true]
      refine .inl ?_
      unfold Oper.wp
      rw [e1]
      rcases hst with (⟨v, W', hr, k1⟩ | ⟨f', args, hr, hC⟩) | ⟨W', hr, k1⟩
      · rw [hr]; exact hnext v W' k1
      · rw [hr]
        refine hC.mono ?_
        rintro e W' ⟨v, rfl, k1⟩
        exact hnext v W' k1
      · rw [hr]; exact hnext undef W' k1
    · simp only [hw, Bool.false_eq_true, if_false]
      exact hnext undef W k1
/-- the law: the first n operations in whatever order, under J; then the others, in one order -/
theorem wp_region_invK {id : Nat} {Q : Exit → Act → World → Prop} {a : Act} {w : World} {l : List Oper} (n : Nat) (J : (Nat → Bool) → (Nat → Value) → World → Prop) (hm : P.follows .mixedOrders = true) (hB : Region.invN .any l.toArray n = true) (hS : J (fun _ => false) (fun _ => undef) w.drew)
    (hstep : ∀ (i : Nat) (o : Oper), i < n → l[i]? = some o → ∀ (s : Nat → Bool) (vs : Nat → Value) (W : World), J s vs W → s i = false → (∀ e ∈ o.after, Region.binds .any e = true → s e.on = true) →
      StepJ P l.toArray (lexA l vs i a) o W (fun v W' => J (updI s i true) (updI vs i v) W'))
    (hfin : ∀ (s : Nat → Bool) (vs : Nat → Value) (W : World), (∀ i, i < n → s i = true) → J s vs W → wpList P l.toArray Q (l.drop n) (lexA l vs n a) W) : (Code.region id l.toArray true).wp P Q a w := by
  have hB' := hB
  simp only [Region.invN, Bool.and_eq_true, decide_eq_true_eq] at hB
  obtain ⟨⟨⟨⟨⟨⟨hsel, hn⟩, hs⟩, hc⟩, ht⟩, hdp⟩, hcan⟩ := hB
  have hn' : n < l.length := by simpa using hn
  have inv0 : HeadInv .any l.toArray n (Array.replicate l.toArray.size false) :=
    ⟨by simp, fun j oj _ hl => (by rw [getD_replicate_false] at hl; cases hl), fun t _ ht => getD_in (by simpa using ht) (getD_replicate_false _ _)⟩
  refine wp_region_any hm ?_
  have hcnt : ∀ m, cntI (fun _ => false) m = m := fun m => by
    induction m with
    | zero => rfl
    | succ m ih => unfold cntI; rw [ih]; rfl
  have := wpAny_invK (P := P) (Q := Q) a n J hB' hstep hfin n (Array.replicate l.toArray.size false) (fun _ => false) (fun _ => undef) w.drew inv0 (fun j => (getD_replicate_false _ _).symm) (hcnt n) hS
  rw [show n + (l.toArray.size - n) = l.toArray.size by simp; omega] at this
  have h0 : ∀ (l : List Oper) (k : Nat) (b : Act), putAll (fun _ => false) (fun _ => undef) l k b = b := by
    intro l
    induction l with
    | nil => intro k b; rfl
    | cons o l ih => intro k b; unfold putAll; simpa using ih (k + 1) b
  rw [h0] at this
  exact this
/-- as wp_region_inv: each of the first n operations has a property F of its own -/
theorem wp_region_invF {id : Nat} {Q : Exit → Act → World → Prop} {a : Act} {w : World} {l : List Oper} (n : Nat) (B : World → Prop) (F : Nat → Value → World → Prop) (hm : P.follows .mixedOrders = true) (hB : Region.invN .any l.toArray n = true) (hS : B w.drew)
    (hstep : ∀ (i : Nat) (o : Oper), i < n → l[i]? = some o → ∀ (vs : Nat → Value) (W : World), B W → (∀ e ∈ o.after, Region.binds .any e = true → F e.on (vs e.on) W) →
      StepJ P l.toArray (lexA l vs i a) o W (fun v W' => B W' ∧ F i v W' ∧ ∀ j u, F j u W → F j u W'))
    (hfin : ∀ (vs : Nat → Value) (W : World), B W → (∀ i, i < n → F i (vs i) W) → wpList P l.toArray Q (l.drop n) (lexA l vs n a) W) : (Code.region id l.toArray true).wp P Q a w := by
  have hdp : Region.depB .any l.toArray = true := by
    have h := hB
    simp only [Region.invN, Bool.and_eq_true] at h
    exact h.1.2
  refine wp_region_invK n (fun s vs W => B W ∧ ∀ i, i < n → s i = true → F i (vs i) W) hm hB ⟨hS, fun i _ h => (by cases h)⟩ ?_ (fun s vs W hs hJ => hfin vs W hJ.1 fun i hi => hJ.2 i hi (hs i hi))
  intro i o hi ho s vs W hJ hsi hdep
  have hst := hstep i o hi ho vs W hJ.1 (fun e he hb => hJ.2 e.on (by have := Region.depB_spec hdp i o ho e he hb; omega) (hdep e he hb))
  have hK : ∀ v W', (B W' ∧ F i v W' ∧ ∀ j u, F j u W → F j u W') → (B W' ∧ ∀ j, j < n → updI s i true j = true → F j (updI vs i v j) W') := fun v W' ⟨h1, h2, h3⟩ => ⟨h1, fun j hj hs => by
    by_cases hji : j = i
    · subst hji
      rw [updI_same]
      exact h2
    · rw [updI_ne s true hji] at hs
      rw [updI_ne vs v hji]
      exact h3 j _ (hJ.2 j hj hs)⟩
  rcases hst with ⟨hw, (⟨v, W', hr, k⟩ | ⟨f, args, hr, hC⟩) | ⟨W', hr, k⟩⟩ | ⟨hw, k⟩
  · exact .inl ⟨hw, .inl (.inl ⟨v, W', hr, hK v W' k⟩)⟩
  · exact .inl ⟨hw, .inl (.inr ⟨f, args, hr, hC.mono fun e W' ⟨v, h1, h2⟩ => ⟨v, h1, hK v W' h2⟩⟩)⟩
  · exact .inl ⟨hw, .inr ⟨W', hr, hK _ W' k⟩⟩
  · exact .inr ⟨hw, hK _ W k⟩
end
end Go.Proofs.YtnnbnecpcppkdaaDoor
namespace Go.Proofs.YtnnbnecpcppkdaaDoor
open Go Go.RowKit
set_option linter.unusedVariables false
section
variable {P : Program} {ops : Array Oper} {md : Region.Mode} {S : World → Prop}
/-- as wpAnyV, with two operations (numbers fl and fl + 1) that make memory at any time -/
def wpAnyX (P : Program) (md : Region.Mode) (ops : Array Oper) (T : Option Value → Option Value → World → Prop) (n fl : Nat) (L : Array Bool → Act → Option Value → Option Value → Prop) : Nat → Array Bool → Act → Option Value → Option Value → Prop
  | 0, listed, a, x, y => L listed a x y
  | f + 1, listed, a, x, y =>
    Region.ready md ops listed ≠ [] ∧ ∀ i ∈ Region.ready md ops listed, i < n ∧ ∃ o, ops[i]? = some o ∧
      ((i = fl ∧ x = none ∧ Region.wanted o (yielded ops a.tmps) = true ∧ (∀ w, T x y w → ∃ v w', (execOp a.eval o).run P w = .ok (.value v) w' ∧ T (some v) y w') ∧ ∀ v, wpAnyX P md ops T n fl L f (listed.setIfInBounds i true) (a.put o.dst v) (some v) y) ∨
       (i = fl + 1 ∧ y = none ∧ Region.wanted o (yielded ops a.tmps) = true ∧ (∀ w, T x y w → ∃ v w', (execOp a.eval o).run P w = .ok (.value v) w' ∧ T x (some v) w') ∧ ∀ v, wpAnyX P md ops T n fl L f (listed.setIfInBounds i true) (a.put o.dst v) x (some v)) ∨
       (i ≠ fl ∧ i ≠ fl + 1 ∧ ∃ v, YieldsS P ops (T x y) o v a ∧ wpAnyX P md ops T n fl L f (listed.setIfInBounds i true) (a.put o.dst v) x y))
theorem wpAny_of_X {T : Option Value → Option Value → World → Prop} (hT : ∀ x y, Lasts (T x y)) {n fl g : Nat} {L : Array Bool → Act → Option Value → Option Value → Prop} {Q' : Exit → Act → World → Prop} (hL : ∀ listed a x y w, T x y w → L listed a x y → wpAny P md ops Q' g listed a w) :
    ∀ (f : Nat) (listed : Array Bool) (a : Act) (x y : Option Value) (w : World), T x y w → wpAnyX P md ops T n fl L f listed a x y → wpAny P md ops Q' (f + g) listed a w
  | 0, listed, a, x, y, w, hS, h => by rw [Nat.zero_add]; exact hL _ _ _ _ _ hS h
  | f + 1, listed, a, x, y, w, hS, h => by
    rw [show f + 1 + g = (f + g) + 1 by omega]
    refine ⟨fun h0 => absurd h0 h.1, fun i hi => ?_⟩
    obtain ⟨_, o, ho, ⟨_, _, hw, hr, hn⟩ | ⟨_, _, hw, hr, hn⟩ | ⟨_, _, v, hy, hn⟩⟩ := h.2 i hi
    · obtain ⟨v, w', hr', hT'⟩ := hr w hS
      unfold Go.wpOp
      simp only [ho, hw, if_true]
      refine .inl ?_
      unfold Oper.wp
      rw [hr']
      exact wpAny_of_X hT hL f _ _ _ _ _ hT' (hn v)
    · obtain ⟨v, w', hr', hT'⟩ := hr w hS
      unfold Go.wpOp
      simp only [ho, hw, if_true]
      refine .inl ?_
      unfold Oper.wp
      rw [hr']
      exact wpAny_of_X hT hL f _ _ _ _ _ hT' (hn v)
    · exact hy.wpOp ho (hT x y) hS fun w' hS' => wpAny_of_X hT hL f _ _ _ _ w' hS' hn
theorem wpAnyX_first {T : Option Value → Option Value → World → Prop} (hw1 : ∀ v y w, T (some v) y w → T none y w) (hw2 : ∀ x v w, T x (some v) w → T x none w) {n fl i : Nat} {oi : Oper} {v : Value} {L : Array Bool → Act → Option Value → Option Value → Prop} (hi : ops[i]? = some oi) (hif : i ≠ fl ∧ i ≠ fl + 1) (hsel : ∀ (j : Nat) (o : Oper) cs b, ops[j]? = some o → o.op ≠ .select cs b)
    (hs : Region.sinkB md ops n = true) (hc : Region.chainB md ops n = true) (hn : n < ops.size) (hin : i < n)
    (hdone : ∀ listed a x y, L listed a x y → ∀ j ∈ Region.ready md ops listed, n ≤ j) :
    ∀ (f : Nat) (listed : Array Bool) (a : Act) (x y : Option Value), HeadInv md ops n listed →
      (∀ j oj, ops[j]? = some oj → j ≠ i → listed.getD j true = false → (∀ e ∈ oj.after, Region.binds md e = true → e.on ≠ i) → oi.apart ops oj = true) →
      i ∈ Region.ready md ops listed → YieldsS P ops (T x y) oi v a →
      wpAnyX P md ops T n fl L f (listed.setIfInBounds i true) (a.put oi.dst v) x y → wpAnyX P md ops T n fl L (f + 1) listed a x y := by
  intro f
  induction f with
  | zero =>
    intro listed a x y inv _ hr hy H
    have hun := (mem_ready.1 hr).1
    refine ⟨fun h => (by rw [h] at hr; cases hr), fun j hj => ?_⟩
    have hjn : j < n := by
      rcases Nat.lt_or_ge j n with h | h
      · exact h
      · exact absurd hj (tail_waits hs hc hn inv _ i rfl hin hun j h)
    refine ⟨hjn, ?_⟩
    by_cases hji : j = i
    · subst hji; exact ⟨oi, hi, .inr (.inr ⟨hif.1, hif.2, v, hy, H⟩)⟩
    · have := hdone _ _ _ _ H j (ready_mono hj hji)
      omega
  | succ f ih =>
    intro listed a x y inv hfree hr hy H
    have hun := (mem_ready.1 hr).1
    refine ⟨fun h => (by rw [h] at hr; cases hr), fun j hj => ?_⟩
    have hjn : j < n := by
      rcases Nat.lt_or_ge j n with h | h
      · exact h
      · exact absurd hj (tail_waits hs hc hn inv _ i rfl hin hun j h)
    refine ⟨hjn, ?_⟩
    by_cases hji : j = i
    · subst hji; exact ⟨oi, hi, .inr (.inr ⟨hif.1, hif.2, v, hy, H⟩)⟩
    · obtain ⟨oj, hoj, hcase⟩ := (H.2 j (ready_mono hj hji)).2
      obtain ⟨hjun, oj', hoj', hall⟩ := mem_ready.1 hj
      have : oj' = oj := Option.some.inj (hoj'.symm.trans hoj)
      subst this
      have hnot : ∀ e ∈ oj'.after, Region.binds md e = true → e.on ≠ i := fun e he hb heq => by
        have h1 := hall e he hb
        rw [heq, getD_both hun] at h1
        cases h1
      obtain ⟨h1, h2, h3⟩ := Oper.apart_spec (hfree j oj' hoj hji hjun hnot)
      have hfree' : ∀ k ok, ops[k]? = some ok → k ≠ i → (listed.setIfInBounds j true).getD k true = false →
          (∀ e ∈ ok.after, Region.binds md e = true → e.on ≠ i) → oi.apart ops ok = true := fun k ok hk hki hun hno => by
        refine hfree k ok hk hki ?_ hno
        by_cases hjk : j = k
        · subst hjk; exact hjun
        · rw [getD_set_ne true hjk] at hun; exact hun
      refine ⟨oj', hoj, ?_⟩
      rcases hcase with ⟨hjf, hx0, hw, hrun, hn'⟩ | ⟨hjf, hy0, hw, hrun, hn'⟩ | ⟨hj1, hj2, vj, hyj, hn'⟩
      · refine .inl ⟨hjf, hx0, by rw [← wanted_put oj' a oi.dst v h1]; exact hw, fun w hw' => ?_, fun u => ?_⟩
        · rw [← execOp_put oj' (fun cs b => hsel j oj' cs b hoj) a oi.dst v h1]
          exact hrun w hw'
        · refine ih (listed.setIfInBounds j true) _ _ _ (inv.set hj hjn) hfree' (ready_mono hr (Ne.symm hji)) ((hy.weak (fun w hw => by rw [hx0]; exact hw1 u y w hw)).of_same (execOp_put oi (fun cs b => hsel i oi cs b hi) a oj'.dst u h3) (wanted_put oi a oj'.dst u h3)) ?_
          rw [Array.setIfInBounds_comm _ _ hji, ← Act.put_comm a v u h2]
          exact hn' u
      · refine .inr (.inl ⟨hjf, hy0, by rw [← wanted_put oj' a oi.dst v h1]; exact hw, fun w hw' => ?_, fun u => ?_⟩)
        · rw [← execOp_put oj' (fun cs b => hsel j oj' cs b hoj) a oi.dst v h1]
          exact hrun w hw'
        · refine ih (listed.setIfInBounds j true) _ _ _ (inv.set hj hjn) hfree' (ready_mono hr (Ne.symm hji)) ((hy.weak (fun w hw => by rw [hy0]; exact hw2 x u w hw)).of_same (execOp_put oi (fun cs b => hsel i oi cs b hi) a oj'.dst u h3) (wanted_put oi a oj'.dst u h3)) ?_
          rw [Array.setIfInBounds_comm _ _ hji, ← Act.put_comm a v u h2]
          exact hn' u
      · refine .inr (.inr ⟨hj1, hj2, vj, hyj.of_same (execOp_put oj' (fun cs b => hsel j oj' cs b hoj) a oi.dst v h1).symm (wanted_put oj' a oi.dst v h1).symm, ih (listed.setIfInBounds j true) _ _ _ (inv.set hj hjn) hfree' (ready_mono hr (Ne.symm hji)) (hy.of_same (execOp_put oi (fun cs b => hsel i oi cs b hi) a oj'.dst vj h3) (wanted_put oi a oj'.dst vj h3)) ?_⟩)
        rw [Array.setIfInBounds_comm _ _ hji, ← Act.put_comm a v vj h2]
        exact hn'
def Region.twoAt (md : Region.Mode) (ops : Array Oper) (g fl : Nat) (listed : Array Bool) : Bool :=
  decide (Region.ready md ops listed = [fl, fl + 1]) && decide (Region.ready md ops (listed.setIfInBounds fl true) = [fl + 1]) && decide (Region.ready md ops (listed.setIfInBounds (fl + 1) true) = [fl]) &&
    Region.seqB md ops g (fl + 2) ((listed.setIfInBounds fl true).setIfInBounds (fl + 1) true)
def Region.lexTwo (md : Region.Mode) (ops : Array Oper) (g fl : Nat) : Nat → Nat → Array Bool → Bool
  | 0, k, listed => decide (k = fl) && Region.twoAt md ops g fl listed
  | f + 1, k, listed => (Region.ready md ops listed).contains k && Region.free md ops listed k && Region.lexTwo md ops g fl f (k + 1) (listed.setIfInBounds k true)
def Region.twoB (md : Region.Mode) (ops : Array Oper) (fl : Nat) : Bool :=
  Region.noSelect ops && decide (fl + 2 < ops.size) && Region.sinkB md ops (fl + 2) && Region.chainB md ops (fl + 2) && Region.lexTwo md ops (ops.size - (fl + 2)) fl fl 0 (Array.replicate ops.size false)
/-- what two operations that make memory, side by side, want -/
def TwoMake (P : Program) (ops : Array Oper) (T : Option Value → Option Value → World → Prop) (o1 o2 : Oper) (K : Act → Value → Value → Prop) (a : Act) : Prop :=
  Region.wanted o1 (yielded ops a.tmps) = true ∧ Region.wanted o2 (yielded ops a.tmps) = true ∧
  (∀ y w, T none y w → ∃ v w', (execOp a.eval o1).run P w = .ok (.value v) w' ∧ T (some v) y w') ∧ (∀ x w, T x none w → ∃ v w', (execOp a.eval o2).run P w = .ok (.value v) w' ∧ T x (some v) w') ∧
  ∀ v1 v2, K ((a.put o1.dst v1).put o2.dst v2) v1 v2
theorem wpAnyX_lex {T : Option Value → Option Value → World → Prop} (hw1 : ∀ v y w, T (some v) y w → T none y w) (hw2 : ∀ x v w, T x (some v) w → T x none w) {fl g : Nat} {Lq : Act → Value → Value → Prop} (hsel : Region.noSelect ops = true) (hs : Region.sinkB md ops (fl + 2) = true) (hc : Region.chainB md ops (fl + 2) = true) (hn : fl + 2 < ops.size) (o1 o2 : Oper) (ho1 : ops[fl]? = some o1) (ho2 : ops[fl + 1]? = some o2)
    (hap : o1.apart ops o2 = true ∧ o2.apart ops o1 = true) :
    ∀ (l : List Oper) (k : Nat) (listed : Array Bool) (a : Act), (∀ j, j < l.length → l[j]? = ops[k + j]?) → k + l.length = fl → HeadInv md ops (fl + 2) listed →
    Region.lexTwo md ops g fl l.length k listed = true → wpSeq P ops (T none none) (TwoMake P ops T o1 o2 Lq) l a →
    wpAnyX P md ops T (fl + 2) fl (fun listed' a' x y => Region.seqB md ops g (fl + 2) listed' = true ∧ ∃ v1 v2, x = some v1 ∧ y = some v2 ∧ Lq a' v1 v2) (l.length + 2) listed a none none
  | [], k, listed, a, _, hk, inv, hB, h => by
    simp only [List.length_nil, Region.lexTwo, Region.twoAt, Bool.and_eq_true, decide_eq_true_eq] at hB
    obtain ⟨_, ⟨⟨hr0, hr1⟩, hr2⟩, hseq⟩ := hB
    obtain ⟨g1, g2, g3, g4, g5⟩ := h
    obtain ⟨p1, p2, p3⟩ := Oper.apart_spec hap.1
    have hcomm : (listed.setIfInBounds (fl + 1) true).setIfInBounds fl true = (listed.setIfInBounds fl true).setIfInBounds (fl + 1) true := Array.setIfInBounds_comm _ _ (by omega)
    refine ⟨fun h0 => (by rw [h0] at hr0; cases hr0), fun i hi => ?_⟩
    rw [hr0] at hi
    have hi2 : i = fl ∨ i = fl + 1 := by simpa using hi
    rcases hi2 with rfl | rfl
    · refine ⟨by omega, o1, ho1, .inl ⟨rfl, rfl, g1, fun w hw => g3 none w hw, fun v => ?_⟩⟩
      refine ⟨fun h0 => (by rw [h0] at hr1; cases hr1), fun j hj => ?_⟩
      rw [hr1] at hj
      have hj2 : j = i + 1 := by simpa using hj
      subst hj2
      refine ⟨by omega, o2, ho2, .inr (.inl ⟨rfl, rfl, by rw [wanted_put o2 a o1.dst v p1]; exact g2, fun w hw => ?_, fun v2 => ⟨hseq, v, v2, rfl, rfl, g5 v v2⟩⟩)⟩
      rw [execOp_put o2 (fun cs b => Region.noSelect_spec hsel _ o2 cs b ho2) a o1.dst v p1]
      exact g4 (some v) w hw
    · refine ⟨by omega, o2, ho2, .inr (.inl ⟨rfl, rfl, g2, fun w hw => g4 none w hw, fun v2 => ?_⟩)⟩
      refine ⟨fun h0 => (by rw [h0] at hr2; cases hr2), fun j hj => ?_⟩
      rw [hr2] at hj
      have hj2 : j = fl := by simpa using hj
      subst hj2
      refine ⟨by omega, o1, ho1, .inl ⟨rfl, rfl, by rw [wanted_put o1 a o2.dst v2 p3]; exact g1, fun w hw => ?_, fun v => ⟨by rw [hcomm]; exact hseq, v, v2, rfl, rfl, by rw [← Act.put_comm a v v2 p2]; exact g5 v v2⟩⟩⟩
      rw [execOp_put o1 (fun cs b => Region.noSelect_spec hsel _ o1 cs b ho1) a o2.dst v2 p3]
      exact g3 (some v2) w hw
  | o :: l, k, listed, a, hl, hk, inv, hB, h => by
    have h0 : ops[k]? = some o := by simpa using (hl 0 (by simp)).symm
    simp only [List.length_cons, Region.lexTwo, Bool.and_eq_true] at hB
    obtain ⟨⟨hr, hf⟩, hB'⟩ := hB
    have hkn : k < fl := by simp only [List.length_cons] at hk; omega
    have hr' : k ∈ Region.ready md ops listed := by simpa using hr
    obtain ⟨v, hy, hK⟩ := h
    exact wpAnyX_first hw1 hw2 h0 ⟨by omega, by omega⟩ (Region.noSelect_spec hsel) hs hc hn (by omega) (fun listed' a' x y hL => seqB_ready hL.1) (l.length + 2) listed a none none inv (Region.free_spec h0 hf) hr' hy
      (wpAnyX_lex hw1 hw2 hsel hs hc hn o1 o2 ho1 ho2 hap l (k + 1) _ _ (fun j hj => by have := hl (j + 1) (by simp; omega); simpa [Nat.add_assoc, Nat.add_comm 1 j] using this) (by simp only [List.length_cons] at hk; omega) (inv.set hr' (by omega)) hB' hK)
/-- a region whose first fl operations yield so, whose operations fl and fl + 1 make memory at any time, and whose others come behind all of them in one order -/
theorem wp_region_seq_two {id : Nat} {Q : Exit → Act → World → Prop} {a : Act} {w : World} {l : List Oper} (T : Option Value → Option Value → World → Prop) (hT : ∀ x y, Lasts (T x y)) (hw1 : ∀ v y w, T (some v) y w → T none y w) (hw2 : ∀ x v w, T x (some v) w → T x none w) (fl : Nat) (o1 o2 : Oper)
    (hm : P.follows .mixedOrders = true) (hB : Region.twoB .any l.toArray fl = true) (ho1 : l[fl]? = some o1) (ho2 : l[fl + 1]? = some o2) (hap : (o1.apart l.toArray o2 && o2.apart l.toArray o1) = true) (hS : T none none w.drew)
    (h : wpSeq P l.toArray (T none none) (TwoMake P l.toArray T o1 o2 (fun a' v1 v2 => ∀ W, T (some v1) (some v2) W → wpList P l.toArray Q (l.drop (fl + 2)) a' W)) (l.take fl) a) : (Code.region id l.toArray true).wp P Q a w := by
  simp only [Region.twoB, Bool.and_eq_true, decide_eq_true_eq] at hB
  obtain ⟨⟨⟨⟨hsel, hn⟩, hs⟩, hc⟩, hlex⟩ := hB
  have hn' : fl + 2 < l.length := by simpa using hn
  have htl : (l.take fl).length = fl := by simp; omega
  have hdl : (l.drop (fl + 2)).length = l.toArray.size - (fl + 2) := by simp
  have inv0 : HeadInv .any l.toArray (fl + 2) (Array.replicate l.toArray.size false) :=
    ⟨by simp, fun j oj _ hl => (by rw [getD_replicate_false] at hl; cases hl), fun t _ ht => getD_in (by simpa using ht) (getD_replicate_false _ _)⟩
  have H := wpAnyX_lex (md := .any) hw1 hw2 (g := l.toArray.size - (fl + 2)) (Lq := fun a' v1 v2 => ∀ W, T (some v1) (some v2) W → wpList P l.toArray Q (l.drop (fl + 2)) a' W) hsel hs hc hn o1 o2 (by simpa using ho1) (by simpa using ho2) (by simpa using hap) (l.take fl) 0 _ a (fun j hj => by
    have hj' : j < fl := by rw [htl] at hj; exact hj
    simp [hj']) (by simpa using htl) inv0 (by rw [htl]; exact hlex) h
  refine wp_region_any hm ?_
  have := wpAny_of_X (Q' := Q) hT (g := l.toArray.size - (fl + 2)) (fun listed a' x y W hS' hL => by
    obtain ⟨hseq, v1, v2, rfl, rfl, hK⟩ := hL
    have := wpAny_of_seq (md := .any) (Q' := Q) (l.drop (fl + 2)) (fl + 2) listed a' W (fun j => by simp [List.getElem?_drop]) (by rw [hdl]; exact hseq) (hK W hS')
    rwa [hdl] at this) _ _ _ _ _ _ hS H
  rw [htl, show fl + 2 + (l.toArray.size - (fl + 2)) = l.toArray.size by omega] at this
  exact this
end
theorem In.swap {w W : World} {x y : Nat × TypeId × Array Value} {l : List (Nat × TypeId × Array Value)} (h : In w (x :: y :: l) W) : In w (y :: x :: l) W :=
  ⟨h.bel, fun z hz => h.blk z (by simp only [List.mem_cons] at hz ⊢; rcases hz with h | h | h; exact .inr (.inl h); exact .inl h; exact .inr (.inr h)),
    fun z hz => h.new z (by simp only [List.mem_cons] at hz ⊢; rcases hz with h | h | h; exact .inr (.inl h); exact .inl h; exact .inr (.inr h)), by
    have := h.apart
    simp only [List.map_cons, List.nodup_cons, List.mem_cons, not_or] at this ⊢
    exact ⟨⟨fun e => this.1.1 e.symm, this.2.1⟩, this.1.2, this.2.2⟩⟩
def InT (w0 : World) (ls : List (Nat × TypeId × Array Value)) (t1 : TypeId) (c1 : Array Value) (t2 : TypeId) (c2 : Array Value) (x y : Option Value) (W : World) : Prop :=
  match x, y with
  | none, none => In w0 ls W
  | some v, none => ∃ g, v = .pointer (some ⟨g, 0, none⟩) ∧ In w0 ((g, t1, c1) :: ls) W
  | none, some u => ∃ g, u = .pointer (some ⟨g, 0, none⟩) ∧ In w0 ((g, t2, c2) :: ls) W
  | some v, some u => ∃ g1 g2, v = .pointer (some ⟨g1, 0, none⟩) ∧ u = .pointer (some ⟨g2, 0, none⟩) ∧ In w0 ((g2, t2, c2) :: (g1, t1, c1) :: ls) W
section
variable {P : Program} {w0 w : World} {ls : List (Nat × TypeId × Array Value)}
theorem wp_region_in_two {id : Nat} {Q : Exit → Act → World → Prop} {a : Act} {l : List Oper} (fl : Nat) (o1 o2 : Oper) (t1 : TypeId) (c1 : Array Value) (t2 : TypeId) (c2 : Array Value) (hI : In w0 ls w) (hm : P.follows .mixedOrders = true) (hB : Region.twoB .any l.toArray fl = true)
    (ho1 : l[fl]? = some o1) (ho2 : l[fl + 1]? = some o2) (hap : (o1.apart l.toArray o2 && o2.apart l.toArray o1) = true)
    (h : wpSeq P l.toArray (In w0 ls) (fun a' => Region.wanted o1 (yielded l.toArray a'.tmps) = true ∧ Region.wanted o2 (yielded l.toArray a'.tmps) = true ∧
      (∀ w, (execOp a'.eval o1).run P w = .ok (.value (.pointer (some ⟨w.heap.size, 0, none⟩))) (w.alloc (.cells c1 t1))) ∧ (∀ w, (execOp a'.eval o2).run P w = .ok (.value (.pointer (some ⟨w.heap.size, 0, none⟩))) (w.alloc (.cells c2 t2))) ∧
      ∀ g1 g2 W, In w0 ((g2, t2, c2) :: (g1, t1, c1) :: ls) W → wpList P l.toArray Q (l.drop (fl + 2)) ((a'.put o1.dst (.pointer (some ⟨g1, 0, none⟩))).put o2.dst (.pointer (some ⟨g2, 0, none⟩))) W) (l.take fl) a) : (Code.region id l.toArray true).wp P Q a w := by
  refine wp_region_seq_two (InT w0 ls t1 c1 t2 c2) (fun x y W W' h hb => ?_) (fun v y W h => ?_) (fun x v W h => ?_) fl o1 o2 hm hB ho1 ho2 hap hI.drew (wpSeq_mono (fun a' h => ?_) h)
  · rcases x with _ | v <;> rcases y with _ | u
    · exact In.call h hb
    · obtain ⟨g, e, h⟩ := h; exact ⟨g, e, h.call hb⟩
    · obtain ⟨g, e, h⟩ := h; exact ⟨g, e, h.call hb⟩
    · obtain ⟨g1, g2, e1, e2, h⟩ := h; exact ⟨g1, g2, e1, e2, h.call hb⟩
  · rcases y with _ | u
    · obtain ⟨g, e, h⟩ := h; exact h.tail
    · obtain ⟨g1, g2, e1, e2, h⟩ := h; exact ⟨g2, e2, h.swap.tail⟩
  · rcases x with _ | u
    · obtain ⟨g, e, h⟩ := h; exact h.tail
    · obtain ⟨g1, g2, e1, e2, h⟩ := h; exact ⟨g1, e1, h.tail⟩
  · obtain ⟨k1, k2, k3, k4, k5⟩ := h
    refine ⟨k1, k2, fun y W hW => ⟨_, _, k3 W, ?_⟩, fun x W hW => ⟨_, _, k4 W, ?_⟩, fun v1 v2 W hW => ?_⟩
    · rcases y with _ | u
      · exact ⟨_, rfl, In.alloc hW t1 c1⟩
      · obtain ⟨g, e, h⟩ := hW; exact ⟨_, g, rfl, e, (h.alloc t1 c1).swap⟩
    · rcases x with _ | u
      · exact ⟨_, rfl, In.alloc hW t2 c2⟩
      · obtain ⟨g, e, h⟩ := hW; exact ⟨g, _, e, rfl, h.alloc t2 c2⟩
    · obtain ⟨g1, g2, rfl, rfl, h⟩ := hW
      exact k5 g1 g2 W h
end
end Go.Proofs.YtnnbnecpcppkdaaDoor
namespace Go.Proofs.YtnnbnecpcppkdaaDoor
open Go.RowKit Go.Gy
set_option linter.unusedVariables false
/-- 'low, high := x, x': n operations yield vals, two make memory, one stores into the first: what is listed, and what it yielded -/
def J2g (wo : World) (ls : List (Nat × TypeId × Array Value)) (T : TypeId) (cz cx : Array Value) (n : Nat) (vals : List Value) (s : Nat → Bool) (vs : Nat → Value) (W : World) : Prop :=
  (∀ j v, vals[j]? = some v → s j = true → vs j = v) ∧ (s (n + 2) = true → s n = true) ∧
    InT wo ls T (if s (n + 2) = true then cx else cz) T cz (if s n = true then some (vs n) else none) (if s (n + 1) = true then some (vs (n + 1)) else none) W
section
variable {wo : World} {ls : List (Nat × TypeId × Array Value)} {T : TypeId} {cz cx : Array Value} {n : Nat} {vals : List Value} {s : Nat → Bool} {vs : Nat → Value} {W : World}
theorem J2g.start (h : In wo ls W) : J2g wo ls T cz cx n vals (fun _ => false) (fun _ => undef) W := ⟨(fun _ _ _ h => (by cases h)), (fun h => (by cases h)), h⟩
theorem J2g.bel (h : J2g wo ls T cz cx n vals s vs W) : Below wo.heap.size wo W := by
  obtain ⟨_, _, h⟩ := h
  split at h <;> split at h <;> split at h
  all_goals first
    | exact In.bel h
    | (obtain ⟨g, _, h⟩ := h; exact h.bel)
    | (obtain ⟨g1, g2, _, _, h⟩ := h; exact h.bel)
theorem J2g.pure (h : J2g wo ls T cz cx n vals s vs W) {i : Nat} {v : Value} (hi : i < n) (hv : vals[i]? = some v) : J2g wo ls T cz cx n vals (updI s i true) (updI vs i v) W := by
  obtain ⟨h1, h2, h3⟩ := h
  refine ⟨fun j u hj hs => ?_, ?_, ?_⟩
  · by_cases hji : j = i
    · subst hji
      rw [updI_same]
      rw [hv] at hj
      exact Option.some.inj hj
    · rw [updI_ne vs v hji]
      rw [updI_ne s true hji] at hs
      exact h1 j u hj hs
  · rw [updI_ne s true (show n + 2 ≠ i by omega), updI_ne s true (show n ≠ i by omega)]
    exact h2
  · rw [updI_ne s true (show n + 2 ≠ i by omega), updI_ne s true (show n ≠ i by omega), updI_ne s true (show n + 1 ≠ i by omega), updI_ne vs v (show n ≠ i by omega), updI_ne vs v (show n + 1 ≠ i by omega)]
    exact h3
theorem J2g.alloc8 (h : J2g wo ls T cz cx n vals s vs W) (hs : s n = false) (hl : vals.length = n) : J2g wo ls T cz cx n vals (updI s n true) (updI vs n (.pointer (some ⟨W.heap.size, 0, none⟩))) (W.alloc (.cells cz T)) := by
  obtain ⟨h1, h2, h3⟩ := h
  have hs10 : s (n + 2) = false := by
    cases h10 : s (n + 2) with
    | false => rfl
    | true => rw [h2 h10] at hs; cases hs
  refine ⟨fun j u hj hsj => ?_, fun _ => updI_same _ _ _, ?_⟩
  · have : j < n := by rw [← hl]; exact (List.getElem?_eq_some_iff.1 hj).1
    rw [updI_ne vs _ (show j ≠ n by omega)]
    rw [updI_ne s true (show j ≠ n by omega)] at hsj
    exact h1 j u hj hsj
  · rw [updI_ne s true (show n + 2 ≠ n by omega), updI_ne s true (show n + 1 ≠ n by omega), updI_ne vs _ (show n + 1 ≠ n by omega), updI_same, updI_same, hs10]
    rw [hs10, hs] at h3
    cases h9 : s (n + 1) with
    | false =>
      rw [h9] at h3
      exact ⟨W.heap.size, rfl, In.alloc h3 _ _⟩
    | true =>
      rw [h9] at h3
      obtain ⟨g, hg, h⟩ := h3
      exact ⟨W.heap.size, g, rfl, hg, (In.alloc h _ _).swap⟩
theorem J2g.alloc9 (h : J2g wo ls T cz cx n vals s vs W) (hs : s (n + 1) = false) (hl : vals.length = n) : J2g wo ls T cz cx n vals (updI s (n + 1) true) (updI vs (n + 1) (.pointer (some ⟨W.heap.size, 0, none⟩))) (W.alloc (.cells cz T)) := by
  obtain ⟨h1, h2, h3⟩ := h
  refine ⟨fun j u hj hsj => ?_, ?_, ?_⟩
  · have : j < n := by rw [← hl]; exact (List.getElem?_eq_some_iff.1 hj).1
    rw [updI_ne vs _ (show j ≠ n + 1 by omega)]
    rw [updI_ne s true (show j ≠ n + 1 by omega)] at hsj
    exact h1 j u hj hsj
  · rw [updI_ne s true (show n + 2 ≠ n + 1 by omega), updI_ne s true (show n ≠ n + 1 by omega)]
    exact h2
  · rw [updI_ne s true (show n + 2 ≠ n + 1 by omega), updI_ne s true (show n ≠ n + 1 by omega), updI_ne vs _ (show n ≠ n + 1 by omega), updI_same, updI_same]
    rw [hs] at h3
    cases hsn : s n with
    | false =>
      rw [hsn] at h3
      exact ⟨W.heap.size, rfl, In.alloc h3 _ _⟩
    | true =>
      rw [hsn] at h3
      obtain ⟨g, hg, h⟩ := h3
      exact ⟨g, W.heap.size, hg, rfl, In.alloc h _ _⟩
/-- ahead of the first store -/
theorem J2g.at8 (h : J2g wo ls T cz cx n vals s vs W) (hsn : s n = true) (hs : s (n + 2) = false) (hl : vals.length = n) : ∃ g, vs n = .pointer (some ⟨g, 0, none⟩) ∧ In wo ((g, T, cz) :: ls) W ∧
    ∀ W', (∀ pre, In wo (pre ++ (g, T, cz) :: ls) W → In wo (pre ++ (g, T, cx) :: ls) W') → J2g wo ls T cz cx n vals (updI s (n + 2) true) (updI vs (n + 2) undef) W' := by
  obtain ⟨h1, h2, h3⟩ := h
  have key : ∀ {W' : World}, InT wo ls T cx T cz (some (vs n)) (if s (n + 1) = true then some (vs (n + 1)) else none) W' → J2g wo ls T cz cx n vals (updI s (n + 2) true) (updI vs (n + 2) undef) W' := fun h => by
    refine ⟨fun j u hj hsj => ?_, fun _ => ?_, ?_⟩
    · have : j < n := by rw [← hl]; exact (List.getElem?_eq_some_iff.1 hj).1
      rw [updI_ne vs _ (show j ≠ n + 2 by omega)]
      rw [updI_ne s true (show j ≠ n + 2 by omega)] at hsj
      exact h1 j u hj hsj
    · rw [updI_ne s true (show n ≠ n + 2 by omega)]; exact hsn
    · rw [updI_same, updI_ne s true (show n ≠ n + 2 by omega), updI_ne s true (show n + 1 ≠ n + 2 by omega), updI_ne vs _ (show n ≠ n + 2 by omega), updI_ne vs _ (show n + 1 ≠ n + 2 by omega), hsn]
      exact h
  rw [hsn, hs] at h3
  cases h9 : s (n + 1) with
  | false =>
    rw [h9] at h3 key
    obtain ⟨g, hg, h⟩ := h3
    exact ⟨g, hg, h, fun W' hW => key ⟨g, hg, hW [] h⟩⟩
  | true =>
    rw [h9] at h3 key
    obtain ⟨g, g2, hg, hg2, h⟩ := h3
    exact ⟨g, hg, h.tail, fun W' hW => key ⟨g, g2, hg, hg2, hW [_] h⟩⟩
theorem J2g.fin (h : J2g wo ls T cz cx n vals s vs W) (hs : ∀ i, i < n + 3 → s i = true) : ∃ g1 g2, vs n = .pointer (some ⟨g1, 0, none⟩) ∧ vs (n + 1) = .pointer (some ⟨g2, 0, none⟩) ∧ In wo ((g2, T, cz) :: (g1, T, cx) :: ls) W := by
  obtain ⟨_, _, h⟩ := h
  rw [hs n (by omega), hs (n + 1) (by omega), hs (n + 2) (by omega)] at h
  exact h
end
end Go.Proofs.YtnnbnecpcppkdaaDoor
