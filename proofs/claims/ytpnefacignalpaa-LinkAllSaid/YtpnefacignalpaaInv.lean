/- A region that draws, in which each operation yields some value with a property of its own, whatever the order. Conditions: those typed. -/
import Derived.Test.YtpnefacignalpaaMid
namespace Go.Proofs.Ytpnefacignalpaa
open Go Go.RowKit
set_option linter.unusedVariables false
section
variable {P : Program} {ops : Array Oper} {md : Region.Mode}
def updI {α : Type} (s : Nat → α) (i : Nat) (v : α) : Nat → α := fun j => if j = i then v else s j
theorem updI_same {α : Type} (s : Nat → α) (i : Nat) (v : α) : updI s i v i = v := if_pos rfl
theorem updI_ne {α : Type} (s : Nat → α) {i j : Nat} (v : α) (h : j ≠ i) : updI s i v j = s j := if_neg h
theorem updI_id {α : Type} (s : Nat → α) (i : Nat) : updI s i (s i) = s := by funext j; unfold updI; split <;> simp_all
/-- the operations of s have yielded vs -/
def putAll (s : Nat → Bool) (vs : Nat → Value) : List Oper → Nat → Act → Act
  | [], _, a => a
  | o :: l, k, a => putAll s vs l (k + 1) (if s k then a.put o.dst (vs k) else a)
theorem putAll_put (s : Nat → Bool) (vs : Nat → Value) (x : Option Tmp) (v : Value) : ∀ (l : List Oper) (k : Nat) (a : Act), (∀ o ∈ l, ∀ d, x = some d → o.dst ≠ some d) → (putAll s vs l k a).put x v = putAll s vs l k (a.put x v)
  | [], _, _, _ => rfl
  | o :: l, k, a, h => by
    unfold putAll
    rw [putAll_put s vs x v l (k + 1) _ (fun o' ho => h o' (List.mem_cons_of_mem _ ho))]
    congr 1
    split
    · exact Act.put_comm a (vs k) v (fun d hd hx => h o List.mem_cons_self d hx hd)
    · rfl
theorem putAll_congr {s s' : Nat → Bool} {vs vs' : Nat → Value} : ∀ (l : List Oper) (k : Nat) (a : Act), (∀ j, k ≤ j → s j = s' j ∧ vs j = vs' j) → putAll s vs l k a = putAll s' vs' l k a
  | [], _, _, _ => rfl
  | o :: l, k, a, h => by
    unfold putAll
    rw [(h k (Nat.le_refl _)).1, (h k (Nat.le_refl _)).2]
    exact putAll_congr l (k + 1) _ fun j hj => h j (by omega)
/-- all results lie in slots of their own -/
def DstsApart (l : List Oper) : Prop := ∀ (i j : Nat) (oi oj : Oper), l[i]? = some oi → l[j]? = some oj → i ≠ j → ∀ d, oi.dst = some d → oj.dst ≠ some d
theorem putAll_set (s : Nat → Bool) (vs : Nat → Value) (i : Nat) (v : Value) (hs : s i = false) : ∀ (l : List Oper) (k : Nat) (a : Act) (o : Oper), k ≤ i → l[i - k]? = some o → DstsApart l → (putAll s vs l k a).put o.dst v = putAll (updI s i true) (updI vs i v) l k a
  | [], k, _, o, _, h, _ => by simp at h
  | o' :: l, k, a, o, hk, h, hd => by
    unfold putAll
    by_cases hki : k = i
    · subst hki
      rw [Nat.sub_self] at h
      obtain rfl : o' = o := by simp at h; exact h
      rw [hs, updI_same, updI_same]
      simp only [Bool.false_eq_true, if_false, if_true]
      rw [putAll_put s vs _ v l (k + 1) a (fun q hq d hd' => by
        obtain ⟨j, hj, rfl⟩ := List.getElem_of_mem hq
        exact hd 0 (j + 1) o' _ rfl (by simp) (by omega) d hd')]
      exact putAll_congr l (k + 1) _ fun j hj => ⟨(updI_ne s true (by omega)).symm, (updI_ne vs v (by omega)).symm⟩
    · rw [updI_ne s true hki, updI_ne vs v hki]
      refine putAll_set s vs i v hs l (k + 1) _ o (by omega) ?_ (fun p q op oq hp hq hpq => hd (p + 1) (q + 1) op oq (by simpa using hp) (by simpa using hq) (by omega))
      rw [show i - k = i - (k + 1) + 1 by omega] at h
      simpa using h
theorem putAll_len {s s' : Nat → Bool} {vs : Nat → Value} : ∀ (l : List Oper) (k : Nat) (a : Act), (∀ j, k ≤ j → j < k + l.length → s j = s' j) → putAll s vs l k a = putAll s' vs l k a
  | [], _, _, _ => rfl
  | o :: l, k, a, h => by
    unfold putAll
    rw [h k (Nat.le_refl _) (by simp only [List.length_cons]; omega)]
    exact putAll_len l (k + 1) _ fun j h1 h2 => h j (by omega) (by simp only [List.length_cons]; omega)
/-- what does not look at a result is not changed by it -/
theorem putAll_mono {β : Type} (G : Act → β) (vs : Nat → Value) (l : List Oper) (a : Act) (hd : DstsApart l) {s s' : Nat → Bool} (hle : ∀ j, s j = true → s' j = true)
    (hG : ∀ j, s j = false → s' j = true → ∀ o, l[j]? = some o → ∀ (b : Act) v, G (b.put o.dst v) = G b) : G (putAll s vs l 0 a) = G (putAll s' vs l 0 a) := by
  have key : ∀ m, G (putAll s vs l 0 a) = G (putAll (fun j => if j < m then s' j else s j) vs l 0 a) := by
    intro m
    induction m with
    | zero => rw [putAll_congr (s' := fun j => if j < 0 then s' j else s j) (vs' := vs) l 0 a (fun j _ => ⟨by simp, rfl⟩)]
    | succ m ih =>
      rw [ih]
      cases hm : s m with
      | true => rw [putAll_congr (s' := fun j => if j < m + 1 then s' j else s j) (vs' := vs) l 0 a (fun j _ => ⟨by
          by_cases h1 : j < m
          · simp only [h1, if_true, show j < m + 1 by omega]
          · by_cases h2 : j = m
            · subst h2; simp only [Nat.lt_irrefl, if_false, Nat.lt_succ_self, if_true, hm, hle j hm]
            · simp only [h1, if_false, show ¬ j < m + 1 by omega], rfl⟩)]
      | false =>
        cases hm' : s' m with
        | false => rw [putAll_congr (s' := fun j => if j < m + 1 then s' j else s j) (vs' := vs) l 0 a (fun j _ => ⟨by
            by_cases h1 : j < m
            · simp only [h1, if_true, show j < m + 1 by omega]
            · by_cases h2 : j = m
              · subst h2; simp only [Nat.lt_irrefl, if_false, Nat.lt_succ_self, if_true, hm, hm']
              · simp only [h1, if_false, show ¬ j < m + 1 by omega], rfl⟩)]
        | true =>
          by_cases hl : m < l.length
          · have ho : l[m]? = some (l[m]'hl) := List.getElem?_eq_getElem hl
            rw [← hG m hm hm' _ ho _ (vs m), putAll_set _ vs m (vs m) (by simp [hm]) l 0 a _ (Nat.zero_le _) ho hd, updI_id]
            rw [putAll_congr (s' := fun j => if j < m + 1 then s' j else s j) (vs' := vs) l 0 a (fun j _ => ⟨by
              unfold updI
              by_cases h2 : j = m
              · subst h2; simp [hm']
              · by_cases h1 : j < m
                · simp only [h2, if_false, h1, if_true, show j < m + 1 by omega]
                · simp only [h2, if_false, h1, show ¬ j < m + 1 by omega], rfl⟩)]
          · rw [putAll_len (s' := fun j => if j < m + 1 then s' j else s j) l 0 a (fun j _ hj => by
              simp only [show j < m by omega, if_true, show j < m + 1 by omega])]
  rw [key l.length]
  rw [putAll_len (s' := s') l 0 a (fun j _ hj => by simp only [show j < l.length by omega, if_true])]
def preI (i : Nat) : Nat → Bool := fun j => decide (j < i)
/-- the operations ahead of number i have yielded vs -/
def lexA (l : List Oper) (vs : Nat → Value) (i : Nat) (a : Act) : Act := putAll (preI i) vs l 0 a
theorem putAll_lex {β : Type} (G : Act → β) (vs : Nat → Value) (l : List Oper) (a : Act) (hd : DstsApart l) {s : Nat → Bool} {i : Nat} (hs : s i = false)
    (hG : ∀ j, s j ≠ decide (j < i) → j ≠ i → ∀ o, l[j]? = some o → ∀ (b : Act) v, G (b.put o.dst v) = G b) : G (putAll s vs l 0 a) = G (lexA l vs i a) := by
  have h1 := putAll_mono G vs l a hd (s := s) (s' := fun j => s j || preI i j) (fun j h => by simp [h]) (fun j h1 h2 => hG j (by
    rw [h1]
    simp only [h1, Bool.false_or, preI] at h2
    rw [h2]; decide) (fun h => by
    subst h
    simp [h1, preI] at h2))
  have h2 := putAll_mono G vs l a hd (s := preI i) (s' := fun j => s j || preI i j) (fun j h => by simp [h]) (fun j h1 h2 => hG j (by
    unfold preI at h1
    rw [h1]
    simp only [preI, h1, Bool.or_false] at h2
    rw [h2]; decide) (fun h => by
    subst h
    simp [hs, preI] at h2))
  exact h1.trans h2.symm
/-- how many of the first n are still to come -/
def cntI (s : Nat → Bool) : Nat → Nat
  | 0 => 0
  | n + 1 => cntI s n + (if s n then 0 else 1)
theorem cntI_congr {s s' : Nat → Bool} : ∀ n, (∀ j, j < n → s j = s' j) → cntI s n = cntI s' n
  | 0, _ => rfl
  | n + 1, h => by unfold cntI; rw [cntI_congr n (fun j hj => h j (by omega)), h n (Nat.lt_succ_self n)]
theorem cntI_set {s : Nat → Bool} {i : Nat} (hs : s i = false) : ∀ n, i < n → cntI (updI s i true) n + 1 = cntI s n
  | 0, h => absurd h (Nat.not_lt_zero i)
  | n + 1, h => by
    unfold cntI
    by_cases hin : i = n
    · subst hin
      rw [updI_same, hs, cntI_congr i (fun j hj => updI_ne s true (by omega))]
      simp
    · rw [updI_ne s true (by omega), ← cntI_set hs n (by omega)]
      omega
theorem cntI_zero {s : Nat → Bool} : ∀ n, cntI s n = 0 → ∀ j, j < n → s j = true
  | 0, _, j, hj => absurd hj (Nat.not_lt_zero j)
  | n + 1, h, j, hj => by
    unfold cntI at h
    rcases Nat.lt_succ_iff_lt_or_eq.mp hj with h1 | rfl
    · exact cntI_zero n (by omega) j h1
    · cases hs : s j with
      | true => rfl
      | false => rw [hs] at h; simp at h
theorem cntI_first {s : Nat → Bool} : ∀ n, cntI s n ≠ 0 → ∃ i, i < n ∧ s i = false ∧ ∀ j, j < i → s j = true
  | 0, h => absurd rfl h
  | n + 1, h => by
    by_cases h0 : cntI s n = 0
    · refine ⟨n, Nat.lt_succ_self n, ?_, cntI_zero n h0⟩
      unfold cntI at h
      cases hs : s n with
      | false => rfl
      | true => rw [hs, h0] at h; simp at h
    · obtain ⟨i, h1, h2, h3⟩ := cntI_first n h0
      exact ⟨i, by omega, h2, h3⟩
/-- each waits for earlier ones alone, and looks at no result of one for which it does not wait -/
def Region.textB (md : Region.Mode) (ops : Array Oper) : Bool :=
  (List.range ops.size).all fun i => (List.range ops.size).all fun j => match ops[i]?, ops[j]? with
    | some oi, some oj => (!(oi.after.any fun e => Region.binds md e && e.on == j) || decide (j < i)) &&
        (decide (i = j) || ((match oi.dst, oj.dst with | some d, some d' => d != d' | _, _ => true) && ((decide (j < i) && oi.after.any fun e => Region.binds md e && e.on == j) || (match oj.dst with | some d => !(oi.looksAt ops).contains d | none => true))))
    | _, _ => true
def Region.depB (md : Region.Mode) (ops : Array Oper) : Bool :=
  (List.range ops.size).all fun i => match ops[i]? with
    | some o => o.after.all fun e => !Region.binds md e || decide (e.on < i)
    | none => true
theorem Region.depB_spec {l : List Oper} (h : Region.depB md l.toArray = true) (i : Nat) (o : Oper) (ho : l[i]? = some o) (e : Edge) (he : e ∈ o.after) (hb : Region.binds md e = true) : e.on < i := by
  have h1 := List.all_eq_true.1 h i (List.mem_range.2 (by have := (List.getElem?_eq_some_iff.1 ho).1; simpa using this))
  simp only [List.getElem?_toArray, ho] at h1
  have h2 := Array.all_eq_true'.1 h1 e he
  simpa [hb] using h2
def Region.canonB (md : Region.Mode) (ops : Array Oper) (n : Nat) : Bool := Region.seqB md ops (ops.size - n) n ((List.range ops.size).map fun j => decide (j < n)).toArray
def Region.invB (md : Region.Mode) (ops : Array Oper) (n : Nat) : Bool :=
  Region.noSelect ops && decide (n < ops.size) && Region.sinkB md ops n && Region.chainW md ops n && Region.textB md ops && Region.depB md ops && Region.canonB md ops n
theorem Region.textB_spec {l : List Oper} (h : Region.textB md l.toArray = true) : (∀ (i : Nat) (o : Oper), l[i]? = some o → ∀ e ∈ o.after, Region.binds md e = true → e.on < l.length → e.on < i) ∧ DstsApart l ∧
    ∀ (i j : Nat) (oi oj : Oper), l[i]? = some oi → l[j]? = some oj → i ≠ j → (¬ (j < i) ∨ ∀ e ∈ oi.after, Region.binds md e = true → e.on ≠ j) → ∀ d, oj.dst = some d → d ∉ oi.looksAt l.toArray := by
  have key : ∀ (i j : Nat) (oi oj : Oper), l[i]? = some oi → l[j]? = some oj → ((!(oi.after.any fun e => Region.binds md e && e.on == j) || decide (j < i)) &&
        (decide (i = j) || ((match oi.dst, oj.dst with | some d, some d' => d != d' | _, _ => true) && ((decide (j < i) && oi.after.any fun e => Region.binds md e && e.on == j) || (match oj.dst with | some d => !(oi.looksAt l.toArray).contains d | none => true))))) = true := by
    intro i j oi oj hi hj
    unfold Region.textB at h
    have h1 := List.all_eq_true.1 h i (List.mem_range.2 (by have := (List.getElem?_eq_some_iff.1 hi).1; simpa using this))
    have h2 := List.all_eq_true.1 h1 j (List.mem_range.2 (by have := (List.getElem?_eq_some_iff.1 hj).1; simpa using this))
    simp only [List.getElem?_toArray, hi, hj] at h2
    exact h2
  refine ⟨fun i o ho e he hb hl => ?_, fun i j oi oj hi hj hij d hd hd' => ?_, fun i j oi oj hi hj hij hw d hd => ?_⟩
  · have h1 := key i e.on o _ ho (List.getElem?_eq_getElem hl)
    simp only [Bool.and_eq_true, Bool.or_eq_true, Bool.not_eq_true', decide_eq_true_eq] at h1
    rcases h1.1 with h2 | h2
    · have : (o.after.any fun e' => Region.binds md e' && e'.on == e.on) = true := Array.any_eq_true'.2 ⟨e, he, by simp [hb]⟩
      rw [this] at h2
      cases h2
    · exact h2
  · have h1 := key i j oi oj hi hj
    simp only [Bool.and_eq_true, Bool.or_eq_true, decide_eq_true_eq, hd, hd'] at h1
    rcases h1.2 with h2 | h2
    · exact hij h2
    · have := h2.1; simp at this
  · have h1 := key i j oi oj hi hj
    simp only [Bool.and_eq_true, Bool.or_eq_true, decide_eq_true_eq, hd] at h1
    rcases h1.2 with h2 | h2
    · exact absurd h2 hij
    · rcases h2.2 with ⟨h3, h4⟩ | h3
      · rcases hw with hw | hw
        · exact absurd h3 hw
        · obtain ⟨e, he, hb⟩ := Array.any_eq_true'.1 h4
          simp only [Bool.and_eq_true, beq_iff_eq] at hb
          exact absurd hb.2 (hw e he hb.1)
      · intro hm
        have : (oi.looksAt l.toArray).contains d = true := by simpa using hm
        rw [this] at h3
        cases h3
/-- o, at these operands, yields a value and a world that meet K -/
def StepE (P : Program) (ev : Operand → Value) (o : Oper) (W : World) (K : Value → World → Prop) : Prop :=
  (∃ v W', (execOp ev o).run P W = .ok (.value v) W' ∧ K v W') ∨ ∃ f args, (execOp ev o).run P W = .ok (.enter f args) W ∧ Calls P f args W fun e W' => ∃ v, e = .returned v ∧ K v W'
theorem wpAny_inv {Q : Exit → Act → World → Prop} {l : List Oper} (a0 : Act) (n : Nat) (B : World → Prop) (F : Nat → Value → World → Prop)
    (hB : Region.invB md l.toArray n = true)
    (hstep : ∀ (i : Nat) (o : Oper), i < n → l[i]? = some o → ∀ (vs : Nat → Value) (W : World), B W → (∀ e ∈ o.after, Region.binds md e = true → F e.on (vs e.on) W) →
      Region.wanted o (yielded l.toArray (lexA l vs i a0).tmps) = true ∧ StepE P (lexA l vs i a0).eval o W (fun v W' => B W' ∧ F i v W' ∧ ∀ j u, F j u W → F j u W'))
    (hfin : ∀ (vs : Nat → Value) (W : World), B W → (∀ i, i < n → F i (vs i) W) → wpList P l.toArray Q (l.drop n) (lexA l vs n a0) W) :
    ∀ (f : Nat) (listed : Array Bool) (s : Nat → Bool) (vs : Nat → Value) (W : World), HeadInv md l.toArray n listed → (∀ j, s j = listed.getD j false) → cntI s n = f → B W → (∀ j, j < n → s j = true → F j (vs j) W) →
      wpAny P md l.toArray Q (f + (l.toArray.size - n)) listed (putAll s vs l 0 a0) W := by
  simp only [Region.invB, Bool.and_eq_true, decide_eq_true_eq] at hB
  obtain ⟨⟨⟨⟨⟨⟨hsel, hn⟩, hs⟩, hc⟩, ht⟩, hdp⟩, hcan⟩ := hB
  obtain ⟨t1, t2, t3⟩ := Region.textB_spec ht
  have hn' : n < l.length := by simpa using hn
  intro f
  induction f with
  | zero =>
    intro listed s vs W inv hsl hcnt hBW hF
    have hall := cntI_zero n hcnt
    have hsn : ∀ j, s j = decide (j < n) := by
      intro j
      by_cases hj : j < n
      · rw [hall j hj, decide_eq_true hj]
      · rw [decide_eq_false hj, hsl j]
        by_cases hj2 : j < l.toArray.size
        · exact getD_both (inv.tail j (by omega) hj2)
        · simp [Array.getElem?_eq_none (show listed.size ≤ j by rw [inv.size]; omega)]
    have hlc : listed = ((List.range l.toArray.size).map fun j => decide (j < n)).toArray := by
      apply Array.ext
      · rw [inv.size]; simp
      · intro j h1 h2
        have h3 := hsl j
        rw [hsn j] at h3
        simp [h1] at h3
        simp [← h3]
    have hact : putAll s vs l 0 a0 = lexA l vs n a0 := putAll_congr l 0 a0 fun j _ => ⟨hsn j, rfl⟩
    have hdl : (l.drop n).length = l.toArray.size - n := by simp
    rw [Nat.zero_add, hact]
    have := wpAny_of_seq (md := md) (Q' := Q) (l.drop n) n listed (lexA l vs n a0) W (fun j => by simp [List.getElem?_drop]) (by rw [hdl, hlc]; exact hcan) (hfin vs W hBW (fun i hi => hF i hi (hall i hi)))
    rwa [hdl] at this
  | succ f ih =>
    intro listed s vs W inv hsl hcnt hBW hF
    obtain ⟨i0, hi0, hsi0, hbef⟩ := cntI_first n (by rw [hcnt]; omega)
    have hun : ∀ i, i < l.toArray.size → s i = false → listed.getD i true = false := fun i hi h => getD_in (by rw [inv.size]; exact hi) (by rw [← hsl i]; exact h)
    have hi0' : listed.getD i0 true = false := hun i0 (by simp; omega) hsi0
    have hrd : i0 ∈ Region.ready md l.toArray listed := by
      refine mem_ready.2 ⟨hi0', _, (by rw [List.getElem?_toArray]; exact List.getElem?_eq_getElem (show i0 < l.length by omega)), fun e he hb => ?_⟩
      rw [← hsl]
      exact hbef _ (Region.depB_spec hdp i0 _ (List.getElem?_eq_getElem (by omega)) e he hb)
    rw [show f + 1 + (l.toArray.size - n) = (f + (l.toArray.size - n)) + 1 by omega]
    refine ⟨fun h => (by rw [h] at hrd; cases hrd), fun i hi => ?_⟩
    have hin : i < n := by
      rcases Nat.lt_or_ge i n with h | h
      · exact h
      · exact absurd hi (tailW_waits hs hc hn inv _ i0 rfl hi0 hi0' i h)
    obtain ⟨hiun, o, ho, hdep⟩ := mem_ready.1 hi
    have hol : l[i]? = some o := by simpa using ho
    have hsi : s i = false := by rw [hsl i]; exact getD_both hiun
    have hdepF : ∀ e ∈ o.after, Region.binds md e = true → F e.on (vs e.on) W := fun e he hb => by
      have h1 : s e.on = true := by rw [hsl]; exact hdep e he hb
      have h2 : e.on < i := t1 i o hol e he hb (by
        rcases Nat.lt_or_ge e.on l.length with h | h
        · exact h
        · rw [hsl] at h1
          simp [Array.getElem?_eq_none (show listed.size ≤ e.on by rw [inv.size]; simpa using h)] at h1)
      exact hF _ (by omega) h1
    obtain ⟨hw, hst⟩ := hstep i o hin hol vs W hBW hdepF
    have hG : ∀ {β : Type} (G : Act → β), (∀ (b : Act) (x : Option Tmp) v, (∀ d, x = some d → d ∉ o.looksAt l.toArray) → G (b.put x v) = G b) → G (putAll s vs l 0 a0) = G (lexA l vs i a0) := fun G hG => by
      refine putAll_lex G vs l a0 t2 hsi fun j hj hji oj hoj b v => hG b oj.dst v (t3 i j o oj hol hoj (Ne.symm hji) ?_)
      by_cases hjl : j < i
      · refine .inr fun e he hb heq => hj ?_
        rw [← heq] at hjl ⊢
        rw [hsl, hdep e he hb, decide_eq_true hjl]
      · exact .inl hjl
    have e1 : execOp (putAll s vs l 0 a0).eval o = execOp (lexA l vs i a0).eval o := hG (fun b => execOp b.eval o) fun b x v hx => execOp_put o (fun cs b' => Region.noSelect_spec hsel i o cs b' ho) b x v hx
    have e2 : Region.wanted o (yielded l.toArray (putAll s vs l 0 a0).tmps) = true := by
      rw [hG (fun b => Region.wanted o (yielded l.toArray b.tmps)) fun b x v hx => wanted_put o b x v hx]
      exact hw
    have hnext : ∀ v W', B W' → F i v W' → (∀ j u, F j u W → F j u W') → wpAny P md l.toArray Q (f + (l.toArray.size - n)) (listed.setIfInBounds i true) ((putAll s vs l 0 a0).put o.dst v) W' := fun v W' k1 k2 k3 => by
      rw [putAll_set s vs i v hsi l 0 a0 o (Nat.zero_le _) (by simpa using hol) t2]
      refine ih _ _ _ W' (inv.set hi hin) (fun j => ?_) (by have := cntI_set hsi n hin; omega) k1 (fun j hj hsj => ?_)
      · by_cases hji : j = i
        · subst hji
          rw [updI_same]
          have : j < listed.size := by rw [inv.size]; simp; omega
          simp [this]
        · rw [updI_ne s true hji, hsl j, getD_set_ne false (Ne.symm hji)]
      · by_cases hji : j = i
        · subst hji; rw [updI_same]; exact k2
        · rw [updI_ne vs v hji]
          rw [updI_ne s true hji] at hsj
          exact k3 j _ (hF j hj hsj)
    unfold Go.wpOp
    simp only [ho, e2, if_true]
    refine .inl ?_
    unfold Oper.wp
    rw [e1]
    rcases hst with ⟨v, W', hr, k1, k2, k3⟩ | ⟨f', args, hr, hC⟩
    · rw [hr]; exact hnext v W' k1 k2 k3
    · rw [hr]
      refine hC.mono ?_
      rintro e W' ⟨v, rfl, k1, k2, k3⟩
      exact hnext v W' k1 k2 k3
/-- the law: the first n operations, in whatever order, each with a property F of its own; then the others, in one order -/
theorem wp_region_inv {id : Nat} {Q : Exit → Act → World → Prop} {a : Act} {w : World} {l : List Oper} (n : Nat) (B : World → Prop) (F : Nat → Value → World → Prop) (hm : P.follows .mixedOrders = true) (hB : Region.invB .any l.toArray n = true) (hS : B w.drew)
    (hstep : ∀ (i : Nat) (o : Oper), i < n → l[i]? = some o → ∀ (vs : Nat → Value) (W : World), B W → (∀ e ∈ o.after, Region.binds .any e = true → F e.on (vs e.on) W) →
      Region.wanted o (yielded l.toArray (lexA l vs i a).tmps) = true ∧ StepE P (lexA l vs i a).eval o W (fun v W' => B W' ∧ F i v W' ∧ ∀ j u, F j u W → F j u W'))
    (hfin : ∀ (vs : Nat → Value) (W : World), B W → (∀ i, i < n → F i (vs i) W) → wpList P l.toArray Q (l.drop n) (lexA l vs n a) W) : (Code.region id l.toArray true).wp P Q a w := by
  have hB' := hB
  simp only [Region.invB, Bool.and_eq_true, decide_eq_true_eq] at hB
  obtain ⟨⟨⟨⟨⟨⟨hsel, hn⟩, hs⟩, hc⟩, ht⟩, hdp⟩, hcan⟩ := hB
  have hn' : n < l.length := by simpa using hn
  have inv0 : HeadInv .any l.toArray n (Array.replicate l.toArray.size false) :=
    ⟨by simp, fun j oj _ hl => (by rw [getD_replicate_false] at hl; cases hl), fun t _ ht => getD_in (by simpa using ht) (getD_replicate_false _ _)⟩
  refine wp_region_any hm ?_
  have hcnt : ∀ m, cntI (fun _ => false) m = m := fun m => by
    induction m with
    | zero => rfl
    | succ m ih => unfold cntI; rw [ih]; rfl
  have := wpAny_inv (P := P) (Q := Q) a n B F hB' hstep hfin n (Array.replicate l.toArray.size false) (fun _ => false) (fun _ => undef) w.drew inv0 (fun j => (getD_replicate_false _ _).symm) (hcnt n) hS (fun j _ h => by cases h)
  rw [show n + (l.toArray.size - n) = l.toArray.size by simp; omega] at this
  have h0 : ∀ (l : List Oper) (k : Nat) (b : Act), putAll (fun _ => false) (fun _ => undef) l k b = b := by
    intro l
    induction l with
    | nil => intro k b; rfl
    | cons o l ih => intro k b; unfold putAll; simpa using ih (k + 1) b
  rw [h0] at this
  exact this
end
end Go.Proofs.Ytpnefacignalpaa
