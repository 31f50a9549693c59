/- The general law for a region that draws its order, with one invariant of what is listed, of the results and of the world. Conditions: those typed. -/
import Derived.Test.YtpnefacignalpaaInv
namespace Go.Proofs.Ytpnefacignalpaa
open Go Go.RowKit
set_option linter.unusedVariables false
section
variable {P : Program} {ops : Array Oper} {md : Region.Mode}
/-- o, at this act, yields a value and a world that meet K; or is not wanted -/
def StepJ (P : Program) (ops : Array Oper) (a : Act) (o : Oper) (W : World) (K : Value → World → Prop) : Prop :=
  (Region.wanted o (yielded ops a.tmps) = true ∧ (StepE P a.eval o W K ∨ ∃ W', (execOp a.eval o).run P W = .ok .skip W' ∧ K undef W')) ∨ (Region.wanted o (yielded ops a.tmps) = false ∧ K undef W)
theorem StepJ.val {a : Act} {o : Oper} {W W' : World} {K : Value → World → Prop} {v : Value} (hw : Region.wanted o (yielded ops a.tmps) = true) (h : (execOp a.eval o).run P W = .ok (.value v) W') (hK : K v W') : StepJ P ops a o W K := .inl ⟨hw, .inl (.inl ⟨v, W', h, hK⟩)⟩
theorem StepJ.skip {a : Act} {o : Oper} {W W' : World} {K : Value → World → Prop} (hw : Region.wanted o (yielded ops a.tmps) = true) (h : (execOp a.eval o).run P W = .ok .skip W') (hK : K undef W') : StepJ P ops a o W K := .inl ⟨hw, .inr ⟨W', h, hK⟩⟩
theorem StepJ.call {a : Act} {o : Oper} {W : World} {K : Value → World → Prop} {f : FuncId} {args : Array Value} (hw : Region.wanted o (yielded ops a.tmps) = true) (h : (execOp a.eval o).run P W = .ok (.enter f args) W) (hc : Calls P f args W fun e W' => ∃ v, e = .returned v ∧ K v W') : StepJ P ops a o W K := .inl ⟨hw, .inl (.inr ⟨f, args, h, hc⟩)⟩
theorem StepJ.off {a : Act} {o : Oper} {W : World} {K : Value → World → Prop} (hw : Region.wanted o (yielded ops a.tmps) = false) (hK : K undef W) : StepJ P ops a o W K := .inr ⟨hw, hK⟩
theorem wpAny_invJ {Q : Exit → Act → World → Prop} {l : List Oper} (a0 : Act) (n : Nat) (J : (Nat → Bool) → (Nat → Value) → World → Prop)
    (hB : Region.invB md l.toArray n = true)
    (hstep : ∀ (i : Nat) (o : Oper), i < n → l[i]? = some o → ∀ (s : Nat → Bool) (vs : Nat → Value) (W : World), J s vs W → s i = false → (∀ e ∈ o.after, Region.binds md e = true → s e.on = true) →
      StepJ P l.toArray (lexA l vs i a0) o W (fun v W' => J (updI s i true) (updI vs i v) W'))
    (hfin : ∀ (s : Nat → Bool) (vs : Nat → Value) (W : World), (∀ i, i < n → s i = true) → J s vs W → wpList P l.toArray Q (l.drop n) (lexA l vs n a0) W) :
    ∀ (f : Nat) (listed : Array Bool) (s : Nat → Bool) (vs : Nat → Value) (W : World), HeadInv md l.toArray n listed → (∀ j, s j = listed.getD j false) → cntI s n = f → J s vs W →
      wpAny P md l.toArray Q (f + (l.toArray.size - n)) listed (putAll s vs l 0 a0) W := by
  simp only [Region.invB, Bool.and_eq_true, decide_eq_true_eq] at hB
  obtain ⟨⟨⟨⟨⟨⟨hsel, hn⟩, hs⟩, hc⟩, ht⟩, hdp⟩, hcan⟩ := hB
  obtain ⟨t1, t2, t3⟩ := Region.textB_spec ht
  have hn' : n < l.length := by simpa using hn
  intro f
  induction f with
  | zero =>
    intro listed s vs W inv hsl hcnt hJ
    have hall := cntI_zero n hcnt
    have hsn : ∀ j, s j = decide (j < n) := by
      intro j
      by_cases hj : j < n
      · rw [hall j hj, decide_eq_true hj]
      · rw [decide_eq_false hj, hsl j]
        by_cases hj2 : j < l.toArray.size
        · exact getD_both (inv.tail j (by omega) hj2)
        · simp [Array.getElem?_eq_none (show listed.size ≤ j by rw [inv.size]; omega)]
    have hlc : listed = ((List.range l.toArray.size).map fun j => decide (j < n)).toArray := by
      apply Array.ext
      · rw [inv.size]; simp
      · intro j h1 h2
        have h3 := hsl j
        rw [hsn j] at h3
        simp [h1] at h3
        simp [← h3]
    have hact : putAll s vs l 0 a0 = lexA l vs n a0 := putAll_congr l 0 a0 fun j _ => ⟨hsn j, rfl⟩
    have hdl : (l.drop n).length = l.toArray.size - n := by simp
    rw [Nat.zero_add, hact]
    have := wpAny_of_seq (md := md) (Q' := Q) (l.drop n) n listed (lexA l vs n a0) W (fun j => by simp [List.getElem?_drop]) (by rw [hdl, hlc]; exact hcan) (hfin s vs W hall hJ)
    rwa [hdl] at this
  | succ f ih =>
    intro listed s vs W inv hsl hcnt hJ
    obtain ⟨i0, hi0, hsi0, hbef⟩ := cntI_first n (by rw [hcnt]; omega)
    have hun : ∀ i, i < l.toArray.size → s i = false → listed.getD i true = false := fun i hi h => getD_in (by rw [inv.size]; exact hi) (by rw [← hsl i]; exact h)
    have hi0' : listed.getD i0 true = false := hun i0 (by simp; omega) hsi0
    have hrd : i0 ∈ Region.ready md l.toArray listed := by
      refine mem_ready.2 ⟨hi0', _, (by rw [List.getElem?_toArray]; exact List.getElem?_eq_getElem (show i0 < l.length by omega)), fun e he hb => ?_⟩
      rw [← hsl]
      exact hbef _ (Region.depB_spec hdp i0 _ (List.getElem?_eq_getElem (by omega)) e he hb)
    rw [show f + 1 + (l.toArray.size - n) = (f + (l.toArray.size - n)) + 1 by omega]
    refine ⟨fun h => (by rw [h] at hrd; cases hrd), fun i hi => ?_⟩
    have hin : i < n := by
      rcases Nat.lt_or_ge i n with h | h
      · exact h
      · exact absurd hi (tailW_waits hs hc hn inv _ i0 rfl hi0 hi0' i h)
    obtain ⟨hiun, o, ho, hdep⟩ := mem_ready.1 hi
    have hol : l[i]? = some o := by simpa using ho
    have hsi : s i = false := by rw [hsl i]; exact getD_both hiun
    have hst0 := hstep i o hin hol s vs W hJ hsi (fun e he hb => by rw [hsl]; exact hdep e he hb)
    have hG : ∀ {β : Type} (G : Act → β), (∀ (b : Act) (x : Option Tmp) v, (∀ d, x = some d → d ∉ o.looksAt l.toArray) → G (b.put x v) = G b) → G (putAll s vs l 0 a0) = G (lexA l vs i a0) := fun G hG => by
      refine putAll_lex G vs l a0 t2 hsi fun j hj hji oj hoj b v => hG b oj.dst v (t3 i j o oj hol hoj (Ne.symm hji) ?_)
      by_cases hjl : j < i
      · refine .inr fun e he hb heq => hj ?_
        rw [← heq] at hjl ⊢
        rw [hsl, hdep e he hb, decide_eq_true hjl]
      · exact .inl hjl
    have e1 : execOp (putAll s vs l 0 a0).eval o = execOp (lexA l vs i a0).eval o := hG (fun b => execOp b.eval o) fun b x v hx => execOp_put o (fun cs b' => Region.noSelect_spec hsel i o cs b' ho) b x v hx
    have e2 : Region.wanted o (yielded l.toArray (putAll s vs l 0 a0).tmps) = Region.wanted o (yielded l.toArray (lexA l vs i a0).tmps) := hG (fun b => Region.wanted o (yielded l.toArray b.tmps)) fun b x v hx => wanted_put o b x v hx
    have hnext : ∀ v W', J (updI s i true) (updI vs i v) W' → wpAny P md l.toArray Q (f + (l.toArray.size - n)) (listed.setIfInBounds i true) ((putAll s vs l 0 a0).put o.dst v) W' := fun v W' k1 => by
      rw [putAll_set s vs i v hsi l 0 a0 o (Nat.zero_le _) (by simpa using hol) t2]
      refine ih _ _ _ W' (inv.set hi hin) (fun j => ?_) (by have := cntI_set hsi n hin; omega) k1
      by_cases hji : j = i
      · subst hji
        rw [updI_same]
        have : j < listed.size := by rw [inv.size]; simp; omega
        simp [this]
      · rw [updI_ne s true hji, hsl j, getD_set_ne false (Ne.symm hji)]
    unfold Go.wpOp
    simp only [ho, e2]
    rcases hst0 with ⟨hw, hst⟩ | ⟨hw, k1⟩
    · simp only [hw, if_true]
      refine .inl ?_
      unfold Oper.wp
      rw [e1]
      rcases hst with (⟨v, W', hr, k1⟩ | ⟨f', args, hr, hC⟩) | ⟨W', hr, k1⟩
      · rw [hr]; exact hnext v W' k1
      · rw [hr]
        refine hC.mono ?_
        rintro e W' ⟨v, rfl, k1⟩
        exact hnext v W' k1
      · rw [hr]; exact hnext undef W' k1
    · simp only [hw, Bool.false_eq_true, if_false]
      exact hnext undef W k1
/-- the law: the first n operations in whatever order, under J; then the others, in one order -/
theorem wp_region_invJ {id : Nat} {Q : Exit → Act → World → Prop} {a : Act} {w : World} {l : List Oper} (n : Nat) (J : (Nat → Bool) → (Nat → Value) → World → Prop) (hm : P.follows .mixedOrders = true) (hB : Region.invB .any l.toArray n = true) (hS : J (fun _ => false) (fun _ => undef) w.drew)
    (hstep : ∀ (i : Nat) (o : Oper), i < n → l[i]? = some o → ∀ (s : Nat → Bool) (vs : Nat → Value) (W : World), J s vs W → s i = false → (∀ e ∈ o.after, Region.binds .any e = true → s e.on = true) →
      StepJ P l.toArray (lexA l vs i a) o W (fun v W' => J (updI s i true) (updI vs i v) W'))
    (hfin : ∀ (s : Nat → Bool) (vs : Nat → Value) (W : World), (∀ i, i < n → s i = true) → J s vs W → wpList P l.toArray Q (l.drop n) (lexA l vs n a) W) : (Code.region id l.toArray true).wp P Q a w := by
  have hB' := hB
  simp only [Region.invB, Bool.and_eq_true, decide_eq_true_eq] at hB
  obtain ⟨⟨⟨⟨⟨⟨hsel, hn⟩, hs⟩, hc⟩, ht⟩, hdp⟩, hcan⟩ := hB
  have hn' : n < l.length := by simpa using hn
  have inv0 : HeadInv .any l.toArray n (Array.replicate l.toArray.size false) :=
    ⟨by simp, fun j oj _ hl => (by rw [getD_replicate_false] at hl; cases hl), fun t _ ht => getD_in (by simpa using ht) (getD_replicate_false _ _)⟩
  refine wp_region_any hm ?_
  have hcnt : ∀ m, cntI (fun _ => false) m = m := fun m => by
    induction m with
    | zero => rfl
    | succ m ih => unfold cntI; rw [ih]; rfl
  have := wpAny_invJ (P := P) (Q := Q) a n J hB' hstep hfin n (Array.replicate l.toArray.size false) (fun _ => false) (fun _ => undef) w.drew inv0 (fun j => (getD_replicate_false _ _).symm) (hcnt n) hS
  rw [show n + (l.toArray.size - n) = l.toArray.size by simp; omega] at this
  have h0 : ∀ (l : List Oper) (k : Nat) (b : Act), putAll (fun _ => false) (fun _ => undef) l k b = b := by
    intro l
    induction l with
    | nil => intro k b; rfl
    | cons o l ih => intro k b; unfold putAll; simpa using ih (k + 1) b
  rw [h0] at this
  exact this
end
end Go.Proofs.Ytpnefacignalpaa
