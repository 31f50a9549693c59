/- As InvJ, for a region that writes a variable at its end which it reads at its beginning. Conditions: those typed. -/
import Derived.Test.YtpnefacignalpaaInvJ
namespace Go.Proofs.Ytpnefacignalpaa
open Go Go.RowKit
set_option linter.unusedVariables false
section
variable {P : Program} {ops : Array Oper} {md : Region.Mode}
/-- as textB; what an operation looks at is asked among the first n alone -/
def Region.textN (md : Region.Mode) (ops : Array Oper) (n : Nat) : Bool :=
  (List.range ops.size).all fun i => (List.range ops.size).all fun j => match ops[i]?, ops[j]? with
    | some oi, some oj => (!(oi.after.any fun e => Region.binds md e && e.on == j) || decide (j < i)) &&
        (decide (i = j) || ((match oi.dst, oj.dst with | some d, some d' => d != d' | _, _ => true) && (decide (n ≤ i) || decide (n ≤ j) || (decide (j < i) && oi.after.any fun e => Region.binds md e && e.on == j) || (match oj.dst with | some d => !(oi.looksAt ops).contains d | none => true))))
    | _, _ => true
def Region.invN (md : Region.Mode) (ops : Array Oper) (n : Nat) : Bool :=
  Region.noSelect ops && decide (n < ops.size) && Region.sinkB md ops n && Region.chainW md ops n && Region.textN md ops n && Region.depB md ops && Region.canonB md ops n
theorem Region.textN_spec {l : List Oper} {n : Nat} (h : Region.textN md l.toArray n = true) : (∀ (i : Nat) (o : Oper), l[i]? = some o → ∀ e ∈ o.after, Region.binds md e = true → e.on < l.length → e.on < i) ∧ DstsApart l ∧
    ∀ (i j : Nat) (oi oj : Oper), l[i]? = some oi → l[j]? = some oj → i ≠ j → i < n → j < n → (¬ (j < i) ∨ ∀ e ∈ oi.after, Region.binds md e = true → e.on ≠ j) → ∀ d, oj.dst = some d → d ∉ oi.looksAt l.toArray := by
  have key : ∀ (i j : Nat) (oi oj : Oper), l[i]? = some oi → l[j]? = some oj → ((!(oi.after.any fun e => Region.binds md e && e.on == j) || decide (j < i)) &&
        (decide (i = j) || ((match oi.dst, oj.dst with | some d, some d' => d != d' | _, _ => true) && (decide (n ≤ i) || decide (n ≤ j) || (decide (j < i) && oi.after.any fun e => Region.binds md e && e.on == j) || (match oj.dst with | some d => !(oi.looksAt l.toArray).contains d | none => true))))) = true := by
    intro i j oi oj hi hj
    unfold Region.textN at h
    have h1 := List.all_eq_true.1 h i (List.mem_range.2 (by have := (List.getElem?_eq_some_iff.1 hi).1; simpa using this))
    have h2 := List.all_eq_true.1 h1 j (List.mem_range.2 (by have := (List.getElem?_eq_some_iff.1 hj).1; simpa using this))
    simp only [List.getElem?_toArray, hi, hj] at h2
    exact h2
  refine ⟨fun i o ho e he hb hl => ?_, fun i j oi oj hi hj hij d hd hd' => ?_, fun i j oi oj hi hj hij hin hjn hw d hd => ?_⟩
  · have h1 := key i e.on o _ ho (List.getElem?_eq_getElem hl)
    simp only [Bool.and_eq_true, Bool.or_eq_true, Bool.not_eq_true', decide_eq_true_eq] at h1
    rcases h1.1 with h2 | h2
    · have : (o.after.any fun e' => Region.binds md e' && e'.on == e.on) = true := Array.any_eq_true'.2 ⟨e, he, by simp [hb]⟩
      rw [this] at h2
      cases h2
    · exact h2
  · have h1 := key i j oi oj hi hj
    simp only [Bool.and_eq_true, Bool.or_eq_true, decide_eq_true_eq, hd, hd'] at h1
    rcases h1.2 with h2 | h2
    · exact hij h2
    · have := h2.1; simp at this
  · have h1 := key i j oi oj hi hj
    simp only [Bool.and_eq_true, Bool.or_eq_true, decide_eq_true_eq, hd] at h1
    rcases h1.2 with h2 | h2
    · exact absurd h2 hij
    · rcases h2.2 with ((h3 | h3) | ⟨h3, h4⟩) | h3
      · omega
      · omega
      · rcases hw with hw | hw
        · exact absurd h3 hw
        · obtain ⟨e, he, hb⟩ := Array.any_eq_true'.1 h4
          simp only [Bool.and_eq_true, beq_iff_eq] at hb
          exact absurd hb.2 (hw e he hb.1)
      · intro hm
        have : (oi.looksAt l.toArray).contains d = true := by simpa using hm
        rw [this] at h3
        cases h3
theorem wpAny_invK {Q : Exit → Act → World → Prop} {l : List Oper} (a0 : Act) (n : Nat) (J : (Nat → Bool) → (Nat → Value) → World → Prop)
    (hB : Region.invN md l.toArray n = true)
    (hstep : ∀ (i : Nat) (o : Oper), i < n → l[i]? = some o → ∀ (s : Nat → Bool) (vs : Nat → Value) (W : World), J s vs W → s i = false → (∀ e ∈ o.after, Region.binds md e = true → s e.on = true) →
      StepJ P l.toArray (lexA l vs i a0) o W (fun v W' => J (updI s i true) (updI vs i v) W'))
    (hfin : ∀ (s : Nat → Bool) (vs : Nat → Value) (W : World), (∀ i, i < n → s i = true) → J s vs W → wpList P l.toArray Q (l.drop n) (lexA l vs n a0) W) :
    ∀ (f : Nat) (listed : Array Bool) (s : Nat → Bool) (vs : Nat → Value) (W : World), HeadInv md l.toArray n listed → (∀ j, s j = listed.getD j false) → cntI s n = f → J s vs W →
      wpAny P md l.toArray Q (f + (l.toArray.size - n)) listed (putAll s vs l 0 a0) W := by
  simp only [Region.invN, Bool.and_eq_true, decide_eq_true_eq] at hB
  obtain ⟨⟨⟨⟨⟨⟨hsel, hn⟩, hs⟩, hc⟩, ht⟩, hdp⟩, hcan⟩ := hB
  obtain ⟨t1, t2, t3⟩ := Region.textN_spec ht
  have hn' : n < l.length := by simpa using hn
  intro f
  induction f with
  | zero =>
    intro listed s vs W inv hsl hcnt hJ
    have hall := cntI_zero n hcnt
    have hsn : ∀ j, s j = decide (j < n) := by
      intro j
      by_cases hj : j < n
      · rw [hall j hj, decide_eq_true hj]
      · rw [decide_eq_false hj, hsl j]
        by_cases hj2 : j < l.toArray.size
        · exact getD_both (inv.tail j (by omega) hj2)
        · simp [Array.getElem?_eq_none (show listed.size ≤ j by rw [inv.size]; omega)]
    have hlc : listed = ((List.range l.toArray.size).map fun j => decide (j < n)).toArray := by
      apply Array.ext
      · rw [inv.size]; simp
      · intro j h1 h2
        have h3 := hsl j
        rw [hsn j] at h3
        simp [h1] at h3
        simp [← h3]
    have hact : putAll s vs l 0 a0 = lexA l vs n a0 := putAll_congr l 0 a0 fun j _ => ⟨hsn j, rfl⟩
    have hdl : (l.drop n).length = l.toArray.size - n := by simp
    rw [Nat.zero_add, hact]
    have := wpAny_of_seq (md := md) (Q' := Q) (l.drop n) n listed (lexA l vs n a0) W (fun j => by simp [List.getElem?_drop]) (by rw [hdl, hlc]; exact hcan) (hfin s vs W hall hJ)
    rwa [hdl] at this
  | succ f ih =>
    intro listed s vs W inv hsl hcnt hJ
    obtain ⟨i0, hi0, hsi0, hbef⟩ := cntI_first n (by rw [hcnt]; omega)
    have hun : ∀ i, i < l.toArray.size → s i = false → listed.getD i true = false := fun i hi h => getD_in (by rw [inv.size]; exact hi) (by rw [← hsl i]; exact h)
    have hi0' : listed.getD i0 true = false := hun i0 (by simp; omega) hsi0
    have hrd : i0 ∈ Region.ready md l.toArray listed := by
      refine mem_ready.2 ⟨hi0', _, (by rw [List.getElem?_toArray]; exact List.getElem?_eq_getElem (show i0 < l.length by omega)), fun e he hb => ?_⟩
      rw [← hsl]
      exact hbef _ (Region.depB_spec hdp i0 _ (List.getElem?_eq_getElem (by omega)) e he hb)
    rw [show f + 1 + (l.toArray.size - n) = (f + (l.toArray.size - n)) + 1 by omega]
    refine ⟨fun h => (by rw [h] at hrd; cases hrd), fun i hi => ?_⟩
    have hin : i < n := by
      rcases Nat.lt_or_ge i n with h | h
      · exact h
      · exact absurd hi (tailW_waits hs hc hn inv _ i0 rfl hi0 hi0' i h)
    obtain ⟨hiun, o, ho, hdep⟩ := mem_ready.1 hi
    have hol : l[i]? = some o := by simpa using ho
    have hsi : s i = false := by rw [hsl i]; exact getD_both hiun
    have hst0 := hstep i o hin hol s vs W hJ hsi (fun e he hb => by rw [hsl]; exact hdep e he hb)
    have hG : ∀ {β : Type} (G : Act → β), (∀ (b : Act) (x : Option Tmp) v, (∀ d, x = some d → d ∉ o.looksAt l.toArray) → G (b.put x v) = G b) → G (putAll s vs l 0 a0) = G (lexA l vs i a0) := fun G hG => by
      refine putAll_lex G vs l a0 t2 hsi fun j hj hji oj hoj b v => hG b oj.dst v (t3 i j o oj hol hoj (Ne.symm hji) hin ?_ ?_)
      · rcases Nat.lt_or_ge j n with h | h
        · exact h
        · exfalso
          refine hj ?_
          rw [decide_eq_false (show ¬ j < i by omega), hsl]
          exact getD_both (inv.tail j h (by have := (List.getElem?_eq_some_iff.1 hoj).1; simpa using this))
      by_cases hjl : j < i
      · refine .inr fun e he hb heq => hj ?_
        rw [← heq] at hjl ⊢
        rw [hsl, hdep e he hb, decide_eq_true hjl]
      · exact .inl hjl
    have e1 : execOp (putAll s vs l 0 a0).eval o = execOp (lexA l vs i a0).eval o := hG (fun b => execOp b.eval o) fun b x v hx => execOp_put o (fun cs b' => Region.noSelect_spec hsel i o cs b' ho) b x v hx
    have e2 : Region.wanted o (yielded l.toArray (putAll s vs l 0 a0).tmps) = Region.wanted o (yielded l.toArray (lexA l vs i a0).tmps) := hG (fun b => Region.wanted o (yielded l.toArray b.tmps)) fun b x v hx => wanted_put o b x v hx
    have hnext : ∀ v W', J (updI s i true) (updI vs i v) W' → wpAny P md l.toArray Q (f + (l.toArray.size - n)) (listed.setIfInBounds i true) ((putAll s vs l 0 a0).put o.dst v) W' := fun v W' k1 => by
      rw [putAll_set s vs i v hsi l 0 a0 o (Nat.zero_le _) (by simpa using hol) t2]
      refine ih _ _ _ W' (inv.set hi hin) (fun j => ?_) (by have := cntI_set hsi n hin; omega) k1
      by_cases hji : j = i
      · subst hji
        rw [updI_same]
        have : j < listed.size := by rw [inv.size]; simp; omega
        simp [this]
      · rw [updI_ne s true hji, hsl j, getD_set_ne false (Ne.symm hji)]
    unfold Go.wpOp
    simp only [ho, e2]
    rcases hst0 with ⟨hw, hst⟩ | ⟨hw, k1⟩
    · simp only [hw, if_true]
      refine .inl ?_
      unfold Oper.wp
      rw [e1]
      rcases hst with (⟨v, W', hr, k1⟩ | ⟨f', args, hr, hC⟩) | ⟨W', hr, k1⟩
      · rw [hr]; exact hnext v W' k1
      · rw [hr]
        refine hC.mono ?_
        rintro e W' ⟨v, rfl, k1⟩
        exact hnext v W' k1
      · rw [hr]; exact hnext undef W' k1
    · simp only [hw, Bool.false_eq_true, if_false]
      exact hnext undef W k1
/-- the law: the first n operations in whatever order, under J; then the others, in one order -/
theorem wp_region_invK {id : Nat} {Q : Exit → Act → World → Prop} {a : Act} {w : World} {l : List Oper} (n : Nat) (J : (Nat → Bool) → (Nat → Value) → World → Prop) (hm : P.follows .mixedOrders = true) (hB : Region.invN .any l.toArray n = true) (hS : J (fun _ => false) (fun _ => undef) w.drew)
    (hstep : ∀ (i : Nat) (o : Oper), i < n → l[i]? = some o → ∀ (s : Nat → Bool) (vs : Nat → Value) (W : World), J s vs W → s i = false → (∀ e ∈ o.after, Region.binds .any e = true → s e.on = true) →
      StepJ P l.toArray (lexA l vs i a) o W (fun v W' => J (updI s i true) (updI vs i v) W'))
    (hfin : ∀ (s : Nat → Bool) (vs : Nat → Value) (W : World), (∀ i, i < n → s i = true) → J s vs W → wpList P l.toArray Q (l.drop n) (lexA l vs n a) W) : (Code.region id l.toArray true).wp P Q a w := by
  have hB' := hB
  simp only [Region.invN, Bool.and_eq_true, decide_eq_true_eq] at hB
  obtain ⟨⟨⟨⟨⟨⟨hsel, hn⟩, hs⟩, hc⟩, ht⟩, hdp⟩, hcan⟩ := hB
  have hn' : n < l.length := by simpa using hn
  have inv0 : HeadInv .any l.toArray n (Array.replicate l.toArray.size false) :=
    ⟨by simp, fun j oj _ hl => (by rw [getD_replicate_false] at hl; cases hl), fun t _ ht => getD_in (by simpa using ht) (getD_replicate_false _ _)⟩
  refine wp_region_any hm ?_
  have hcnt : ∀ m, cntI (fun _ => false) m = m := fun m => by
    induction m with
    | zero => rfl
    | succ m ih => unfold cntI; rw [ih]; rfl
  have := wpAny_invK (P := P) (Q := Q) a n J hB' hstep hfin n (Array.replicate l.toArray.size false) (fun _ => false) (fun _ => undef) w.drew inv0 (fun j => (getD_replicate_false _ _).symm) (hcnt n) hS
  rw [show n + (l.toArray.size - n) = l.toArray.size by simp; omega] at this
  have h0 : ∀ (l : List Oper) (k : Nat) (b : Act), putAll (fun _ => false) (fun _ => undef) l k b = b := by
    intro l
    induction l with
    | nil => intro k b; rfl
    | cons o l ih => intro k b; unfold putAll; simpa using ih (k + 1) b
  rw [h0] at this
  exact this
/-- as wp_region_inv: each of the first n operations has a property F of its own -/
theorem wp_region_invF {id : Nat} {Q : Exit → Act → World → Prop} {a : Act} {w : World} {l : List Oper} (n : Nat) (B : World → Prop) (F : Nat → Value → World → Prop) (hm : P.follows .mixedOrders = true) (hB : Region.invN .any l.toArray n = true) (hS : B w.drew)
    (hstep : ∀ (i : Nat) (o : Oper), i < n → l[i]? = some o → ∀ (vs : Nat → Value) (W : World), B W → (∀ e ∈ o.after, Region.binds .any e = true → F e.on (vs e.on) W) →
      StepJ P l.toArray (lexA l vs i a) o W (fun v W' => B W' ∧ F i v W' ∧ ∀ j u, F j u W → F j u W'))
    (hfin : ∀ (vs : Nat → Value) (W : World), B W → (∀ i, i < n → F i (vs i) W) → wpList P l.toArray Q (l.drop n) (lexA l vs n a) W) : (Code.region id l.toArray true).wp P Q a w := by
  have hdp : Region.depB .any l.toArray = true := by
    have h := hB
    simp only [Region.invN, Bool.and_eq_true] at h
    exact h.1.2
  refine wp_region_invK n (fun s vs W => B W ∧ ∀ i, i < n → s i = true → F i (vs i) W) hm hB ⟨hS, fun i _ h => (by cases h)⟩ ?_ (fun s vs W hs hJ => hfin vs W hJ.1 fun i hi => hJ.2 i hi (hs i hi))
  intro i o hi ho s vs W hJ hsi hdep
  have hst := hstep i o hi ho vs W hJ.1 (fun e he hb => hJ.2 e.on (by have := Region.depB_spec hdp i o ho e he hb; omega) (hdep e he hb))
  have hK : ∀ v W', (B W' ∧ F i v W' ∧ ∀ j u, F j u W → F j u W') → (B W' ∧ ∀ j, j < n → updI s i true j = true → F j (updI vs i v j) W') := fun v W' ⟨h1, h2, h3⟩ => ⟨h1, fun j hj hs => by
    by_cases hji : j = i
    · subst hji
      rw [updI_same]
      exact h2
    · rw [updI_ne s true hji] at hs
      rw [updI_ne vs v hji]
      exact h3 j _ (hJ.2 j hj hs)⟩
  rcases hst with ⟨hw, (⟨v, W', hr, k⟩ | ⟨f, args, hr, hC⟩) | ⟨W', hr, k⟩⟩ | ⟨hw, k⟩
  · exact .inl ⟨hw, .inl (.inl ⟨v, W', hr, hK v W' k⟩)⟩
  · exact .inl ⟨hw, .inl (.inr ⟨f, args, hr, hC.mono fun e W' ⟨v, h1, h2⟩ => ⟨v, h1, hK v W' h2⟩⟩)⟩
  · exact .inl ⟨hw, .inr ⟨W', hr, hK _ W' k⟩⟩
  · exact .inr ⟨hw, hK _ W k⟩
end
end Go.Proofs.Ytpnefacignalpaa
