/- stop.Fast once more: its answer is one. Conditions: those typed. -/
import Derived.Test.YtnnbnecpcppkdaaDoorFastB
namespace Go.Proofs.YtnnbnecpcppkdaaDoor
open Go.RowKit Go.Gy
set_option linter.unusedVariables false
/-- halving from a to b comes to r -/
def SrchN (P : Int → Prop) : Nat → Int → Int → Int → Prop
  | 0, a, b, r => a = b ∧ r = a
  | f + 1, a, b, r => (a = b ∧ r = a) ∨ (a < b ∧ ((P ((a + b + 1) / 2) ∧ SrchN P f ((a + b + 1) / 2) b r) ∨ (¬ P ((a + b + 1) / 2) ∧ SrchN P f a ((a + b + 1) / 2 - 1) r)))
def Srch (P : Int → Prop) (a b r : Int) : Prop := ∃ f, SrchN P f a b r
theorem srchN_uniq {P : Int → Prop} : ∀ {f f' : Nat} {a b r r' : Int}, SrchN P f a b r → SrchN P f' a b r' → r = r'
  | 0, 0, _, _, _, _, ⟨_, h1⟩, ⟨_, h2⟩ => by omega
  | 0, f' + 1, _, _, _, _, ⟨h0, h1⟩, h2 => by
    rcases h2 with ⟨_, h2⟩ | ⟨h2, _⟩ <;> omega
  | f + 1, 0, _, _, _, _, h1, ⟨h0, h2⟩ => by
    rcases h1 with ⟨_, h1⟩ | ⟨h1, _⟩ <;> omega
  | f + 1, f' + 1, _, _, _, _, h1, h2 => by
    rcases h1 with ⟨h1, h3⟩ | ⟨h1, h3⟩
    · rcases h2 with ⟨_, h2⟩ | ⟨h2, _⟩ <;> omega
    · rcases h2 with ⟨h2, _⟩ | ⟨h2, h4⟩
      · omega
      · rcases h3 with ⟨g1, g2⟩ | ⟨g1, g2⟩
        · rcases h4 with ⟨k1, k2⟩ | ⟨k1, k2⟩
          · exact srchN_uniq g2 k2
          · exact absurd g1 k1
        · rcases h4 with ⟨k1, k2⟩ | ⟨k1, k2⟩
          · exact absurd k1 g1
          · exact srchN_uniq g2 k2
theorem Srch.uniq {P : Int → Prop} {a b r r' : Int} (h : Srch P a b r) (h' : Srch P a b r') : r = r' := by
  obtain ⟨f, hf⟩ := h
  obtain ⟨f', hf'⟩ := h'
  exact srchN_uniq hf hf'
theorem srchN_total {P : Int → Prop} : ∀ (f : Nat) (a b : Int), a ≤ b → (b - a).toNat ≤ f → ∃ r, SrchN P f a b r
  | 0, a, b, h, hf => ⟨a, by omega, rfl⟩
  | f + 1, a, b, h, hf => by
    rcases Int.lt_or_le a b with hlt | hge
    · by_cases hp : P ((a + b + 1) / 2)
      · obtain ⟨r, hr⟩ := srchN_total f ((a + b + 1) / 2) b (by omega) (by omega)
        exact ⟨r, .inr ⟨hlt, .inl ⟨hp, hr⟩⟩⟩
      · obtain ⟨r, hr⟩ := srchN_total f a ((a + b + 1) / 2 - 1) (by omega) (by omega)
        exact ⟨r, .inr ⟨hlt, .inr ⟨hp, hr⟩⟩⟩
    · exact ⟨a, .inl ⟨by omega, rfl⟩⟩
theorem srchN_prop {P : Int → Prop} {n : Int} : ∀ {f : Nat} {a b r : Int}, SrchN P f a b r → 0 ≤ a → a ≤ b → b ≤ n → (a = 0 ∨ P a) → (b = n ∨ ¬ P (b + 1)) → 0 ≤ r ∧ r ≤ n ∧ (r = 0 ∨ P r) ∧ (r = n ∨ ¬ P (r + 1))
  | 0, _, _, _, ⟨h1, h2⟩, h3, h4, h5, h6, h7 => by subst h2; subst h1; exact ⟨h3, h5, h6, h7⟩
  | f + 1, a, b, r, h, h3, h4, h5, h6, h7 => by
    rcases h with ⟨h1, h2⟩ | ⟨h1, ⟨h2, hr⟩ | ⟨h2, hr⟩⟩
    · subst h2; subst h1; exact ⟨h3, h5, h6, h7⟩
    · exact srchN_prop hr (by omega) (by omega) h5 (.inr h2) h7
    · exact srchN_prop hr h3 (by omega) (by omega) h6 (.inr (by rw [show (a + b + 1) / 2 - 1 + 1 = (a + b + 1) / 2 by omega]; exact h2))
theorem Srch.up {P : Int → Prop} {a b m r : Int} (hlt : a < b) (hm : m = (a + b + 1) / 2) (hp : P m) (h : Srch P m b r) : Srch P a b r := by
  obtain ⟨f, hf⟩ := h
  subst hm
  exact ⟨f + 1, .inr ⟨hlt, .inl ⟨hp, hf⟩⟩⟩
theorem Srch.down {P : Int → Prop} {a b m r : Int} (hlt : a < b) (hm : m = (a + b + 1) / 2) (hp : ¬ P m) (h : Srch P a (m - 1) r) : Srch P a b r := by
  obtain ⟨f, hf⟩ := h
  subst hm
  exact ⟨f + 1, .inr ⟨hlt, .inr ⟨hp, hf⟩⟩⟩
/-- what the search asks -/
def FitM (b lo hi q : Rat) (way : Int) (m : Int) : Prop := FitP b lo hi q (((m * way : Int) : Rat) / ((64 : Int) : Rat))
def FastIs2 (b lo hi sp q : Rat) (way : Int) (x : Q3) (e : Int) : Prop := FastIs b lo hi sp q way x e ∧ (e = 0 → ∃ a : Int, x.q = (a : Rat) / ((64 : Int) : Rat) ∧ Srch (FitM b lo hi q way) 0 (floorN (sp * ((64 : Int) : Rat))) a)
theorem FastIs2.uniq {b lo hi sp q : Rat} {way : Int} {x x' : Q3} {e e' : Int} (h : FastIs2 b lo hi sp q way x e) (h' : FastIs2 b lo hi sp q way x' e') : x = x' ∧ e = e' := by
  obtain ⟨h, hs⟩ := h
  obtain ⟨h', hs'⟩ := h'
  rcases h with ⟨h1, h2, h3⟩ | ⟨h1, h2, h3, h4, h5, h6⟩ | ⟨h1, h2, h3, h4, h5, h6, h7, _⟩
  · rcases h' with ⟨g1, g2, g3⟩ | ⟨g1, g2, g3, _⟩ | ⟨g1, g2, g3, _⟩
    · exact ⟨by rw [h2, g2], by omega⟩
    · exfalso
      rcases h1 with h1 | h1 | h1
      · omega
      · grind
      · grind
    · exfalso
      rcases h1 with h1 | h1 | h1
      · omega
      · grind
      · grind
  · rcases h' with ⟨g1, g2, g3⟩ | ⟨g1, g2, g3, g4, g5, g6⟩ | ⟨g1, g2, g3, g4, g5, _⟩
    · exfalso
      rcases g1 with g1 | g1 | g1
      · omega
      · grind
      · grind
    · exact ⟨by rw [h5, g5], by omega⟩
    · exfalso
      omega
  · rcases h' with ⟨g1, g2, g3⟩ | ⟨g1, g2, g3, g4, g5, g6⟩ | ⟨g1, g2, g3, g4, g5, g6, g7, _⟩
    · exfalso
      rcases g1 with g1 | g1 | g1
      · omega
      · grind
      · grind
    · exfalso
      omega
    · obtain ⟨a, ha, hsa⟩ := hs h6
      obtain ⟨a', ha', hsa'⟩ := hs' g6
      obtain rfl := hsa.uniq hsa'
      exact ⟨h7.eq g7 (by rw [ha, ha']), by omega⟩
def FaRel2 (w : World) (ls : List (Nat × TypeId × Array Value)) (T : Int → Bool) (n : Int) (low high : Value) (wr : World) : Prop :=
  ∃ a b : Int, low = .int .i64 a ∧ high = .int .i64 b ∧ 0 ≤ a ∧ a ≤ b ∧ b ≤ n ∧ (a = 0 ∨ T a = true) ∧ (b = n ∨ T (b + 1) = false) ∧ (∀ r, Srch (fun m => T m = true) a b r → Srch (fun m => T m = true) 0 n r) ∧ In w ls wr
set_option maxRecDepth 100000 in
set_option maxHeartbeats 8000000 in
theorem fast_any2 (w : World) (hT : TabW w) (k : Lk) (q : Q3) (way : Int) {N : Nat} (hk : k.le N) (hq : q.le N) (hN : 1 ≤ N ∧ N ≤ 67108864) (hway : -9223372036854775808 ≤ way ∧ way ≤ 9223372036854775807) :
    Calls Tryd.prog 40 #[.agg #[.bool k.len.neg, .string k.len.num, .string k.len.den, .bool k.low.neg, .string k.low.num, .string k.low.den, .bool k.high.neg, .string k.high.num, .string k.high.den, .bool k.speed.neg, .string k.speed.num, .string k.speed.den, .bool k.brake.neg, .string k.brake.num, .string k.brake.den, k.shape], .agg #[.bool q.neg, .string q.num, .string q.den], .int .i64 way] w fun r w' => ∃ (x : Q3) (e : Int), r = .returned (.tuple #[.agg #[.bool x.neg, .string x.num, .string x.den], .int .i64 e]) ∧ FastIs2 k.brake.q k.low.q k.high.q k.speed.q q.q way x e ∧ Below w.heap.size w w' := by
  have HT := Lib.hid hT
  have HK := Lib.hid hk
  have HQ := Lib.hid hq
  obtain ⟨_, _, _, ksp, kb⟩ := hk
  obtain ⟨cb, _, pb, _, SB⟩ := signR w hT k.brake kb
  obtain ⟨cs, _, ps, _, SS⟩ := signR w hT k.speed ksp
  have hI := (((In.start w).alloc 28 #[.bool k.len.neg, .string k.len.num, .string k.len.den, .bool k.low.neg, .string k.low.num, .string k.low.den, .bool k.high.neg, .string k.high.num, .string k.high.den, .bool k.speed.neg, .string k.speed.num, .string k.speed.den, .bool k.brake.neg, .string k.brake.num, .string k.brake.den, k.shape]).alloc 25 #[.bool q.neg, .string q.num, .string q.den]).alloc 25 #[.bool false, .string { data := #[] }, .string { data := #[] }]
  rw [World.size_alloc, World.size_alloc] at hI
  obtain ⟨ls, hls⟩ : ∃ ls : List (Nat × TypeId × Array Value), ls = [(w.heap.size + 1 + 1, 25, #[.bool false, .string { data := #[] }, .string { data := #[] }]), (w.heap.size + 1, 25, #[.bool q.neg, .string q.num, .string q.den]), (w.heap.size, 28, #[.bool k.len.neg, .string k.len.num, .string k.len.den, .bool k.low.neg, .string k.low.num, .string k.low.den, .bool k.high.neg, .string k.high.num, .string k.high.den, .bool k.speed.neg, .string k.speed.num, .string k.speed.den, .bool k.brake.neg, .string k.brake.num, .string k.brake.den, k.shape])] := ⟨_, rfl⟩
  have Hls := Lib.hid hls
  have hW : ∃ bad : Bool, (bad = true ↔ ((way ≠ 1 ∧ way ≠ -1) ∨ k.brake.q ≤ 0 ∨ k.speed.q ≤ 0)) ∧ ((bad = true ∧ way ≠ 1 ∧ way ≠ -1) ∨ ((way = 1 ∨ way = -1) ∧ bad = true ∧ cb ≤ 0) ∨ ((way = 1 ∨ way = -1) ∧ bad = true ∧ ¬ cb ≤ 0 ∧ cs ≤ 0) ∨ ((way = 1 ∨ way = -1) ∧ bad = false ∧ ¬ cb ≤ 0 ∧ ¬ cs ≤ 0)) := by
    have e1 : cb ≤ 0 ↔ k.brake.q ≤ 0 := by rw [← Rat.not_lt, ← pb]; omega
    have e2 : cs ≤ 0 ↔ k.speed.q ≤ 0 := by rw [← Rat.not_lt, ← ps]; omega
    by_cases hw : way = 1 ∨ way = -1
    · by_cases h1 : cb ≤ 0
      · exact ⟨true, by simp [e1.mp h1], .inr (.inl ⟨hw, rfl, h1⟩)⟩
      · by_cases h2 : cs ≤ 0
        · exact ⟨true, by simp [e2.mp h2], .inr (.inr (.inl ⟨hw, rfl, h1, h2⟩))⟩
        · refine ⟨false, ⟨(fun h => by cases h), fun h => ?_⟩, .inr (.inr (.inr ⟨hw, rfl, h1, h2⟩))⟩
          rcases h with h | h | h
          · omega
          · exact absurd (e1.mpr h) h1
          · exact absurd (e2.mpr h) h2
    · exact ⟨true, ⟨fun _ => .inl (by omega), fun _ => rfl⟩, .inl ⟨rfl, by omega, by omega⟩⟩
  obtain ⟨bad, hbad, hW⟩ := hW
  have HBAD := Lib.hid hbad
  have HW := Lib.hid hW
  clear hT hls pb ps hbad hW hq
  go_enter Tryd.func40, Tryd.ntmps40
  go_upto_region 1 with (fail)
  generalize World.alloc _ _ = W1 at hI ⊢
  go_cut [32] (fun c wx => c = .bool bad ∧ In w ls wx)
  case first =>
    as_aux_lemma =>
      rcases HW.out with ⟨rfl, h1, h2⟩ | ⟨hw, rfl, h1⟩ | ⟨hw, rfl, h1, h2⟩ | ⟨hw, rfl, h1, h2⟩
      · have g1 : (way != 1) = true := by simpa using h1
        have g2 : (way != -1) = true := by simpa using h2
        refine wp_region_in_plain_all hI ?_
        repeat (first
          | (refine wpSeq_off (by rfl) ?_; try simp only [Act.put, List.setIfInBounds_toArray, List.set_cons_zero, List.set_cons_succ])
          | (refine wpSeq_val (v := ?_) (by rfl) (fun W hS => ?_) ?_
             rotate_left
             · (have fx := hS.facts; simp only [factsOf, cellsOf, Nat.zero_add, Nat.reduceAdd] at fx; clear hS; go_simp; first | done | with_reducible rfl)
             try simp only [Act.put, List.setIfInBounds_toArray, List.set_cons_zero, List.set_cons_succ]))
        refine wpSeq_nil (fun W hS => ?_)
        go_wp2
        go_meet
        exact ⟨rfl, by rw [Hls.out]; exact hS⟩
      · rcases hw with rfl | rfl
        all_goals
          refine wp_region_in_plain_all hI ?_
          repeat (first
            | (refine wpSeq_off (by rfl) ?_; try simp only [Act.put, List.setIfInBounds_toArray, List.set_cons_zero, List.set_cons_succ])
            | (refine wpSeq_val (v := ?_) (by rfl) (fun W hS => ?_) ?_
               rotate_left
               · (have fx := hS.facts; simp only [factsOf, cellsOf, Nat.zero_add, Nat.reduceAdd] at fx; clear hS; go_simp; first | done | with_reducible rfl)
               try simp only [Act.put, List.setIfInBounds_toArray, List.set_cons_zero, List.set_cons_succ]))
          refine wpSeq_call (v := .int .i64 cb) (by rfl) (fun W hS => ?_) (fun W hS => (SB.out W hS.bel)) ?_
          · (clear hS; go_simp; done)
          try simp only [Act.put, List.setIfInBounds_toArray, List.set_cons_zero, List.set_cons_succ]
          repeat (first
            | (refine wpSeq_off (by rfl) ?_; try simp only [Act.put, List.setIfInBounds_toArray, List.set_cons_zero, List.set_cons_succ])
            | (refine wpSeq_val (v := ?_) (by rfl) (fun W hS => ?_) ?_
               rotate_left
               · (have fx := hS.facts; simp only [factsOf, cellsOf, Nat.zero_add, Nat.reduceAdd] at fx; clear hS; go_simp; first | done | with_reducible rfl)
               try simp only [Act.put, List.setIfInBounds_toArray, List.set_cons_zero, List.set_cons_succ]))
          refine wpSeq_nil (fun W hS => ?_)
          go_wp2
          go_meet
          exact ⟨rfl, by rw [Hls.out]; exact hS⟩
      · rcases hw with rfl | rfl
        all_goals
          refine wp_region_in_plain_all hI ?_
          repeat (first
            | (refine wpSeq_off (by rfl) ?_; try simp only [Act.put, List.setIfInBounds_toArray, List.set_cons_zero, List.set_cons_succ])
            | (refine wpSeq_val (v := ?_) (by rfl) (fun W hS => ?_) ?_
               rotate_left
               · (have fx := hS.facts; simp only [factsOf, cellsOf, Nat.zero_add, Nat.reduceAdd] at fx; clear hS; go_simp; first | done | with_reducible rfl)
               try simp only [Act.put, List.setIfInBounds_toArray, List.set_cons_zero, List.set_cons_succ]))
          refine wpSeq_call (v := .int .i64 cb) (by rfl) (fun W hS => ?_) (fun W hS => (SB.out W hS.bel)) ?_
          · (clear hS; go_simp; done)
          try simp only [Act.put, List.setIfInBounds_toArray, List.set_cons_zero, List.set_cons_succ]
          repeat (first
            | (refine wpSeq_off (by rfl) ?_; try simp only [Act.put, List.setIfInBounds_toArray, List.set_cons_zero, List.set_cons_succ])
            | (refine wpSeq_val (v := ?_) (by rfl) (fun W hS => ?_) ?_
               rotate_left
               · (have fx := hS.facts; simp only [factsOf, cellsOf, Nat.zero_add, Nat.reduceAdd] at fx; clear hS; go_simp; first | done | with_reducible rfl)
               try simp only [Act.put, List.setIfInBounds_toArray, List.set_cons_zero, List.set_cons_succ]))
          refine wpSeq_call (v := .int .i64 cs) (by rfl) (fun W hS => ?_) (fun W hS => (SS.out W hS.bel)) ?_
          · (clear hS; go_simp; done)
          try simp only [Act.put, List.setIfInBounds_toArray, List.set_cons_zero, List.set_cons_succ]
          repeat (first
            | (refine wpSeq_off (by rfl) ?_; try simp only [Act.put, List.setIfInBounds_toArray, List.set_cons_zero, List.set_cons_succ])
            | (refine wpSeq_val (v := ?_) (by rfl) (fun W hS => ?_) ?_
               rotate_left
               · (have fx := hS.facts; simp only [factsOf, cellsOf, Nat.zero_add, Nat.reduceAdd] at fx; clear hS; go_simp; first | done | with_reducible rfl)
               try simp only [Act.put, List.setIfInBounds_toArray, List.set_cons_zero, List.set_cons_succ]))
          refine wpSeq_nil (fun W hS => ?_)
          go_wp2
          go_meet
          exact ⟨rfl, by rw [Hls.out]; exact hS⟩
      · rcases hw with rfl | rfl
        all_goals
          refine wp_region_in_plain_all hI ?_
          repeat (first
            | (refine wpSeq_off (by rfl) ?_; try simp only [Act.put, List.setIfInBounds_toArray, List.set_cons_zero, List.set_cons_succ])
            | (refine wpSeq_val (v := ?_) (by rfl) (fun W hS => ?_) ?_
               rotate_left
               · (have fx := hS.facts; simp only [factsOf, cellsOf, Nat.zero_add, Nat.reduceAdd] at fx; clear hS; go_simp; first | done | with_reducible rfl)
               try simp only [Act.put, List.setIfInBounds_toArray, List.set_cons_zero, List.set_cons_succ]))
          refine wpSeq_call (v := .int .i64 cb) (by rfl) (fun W hS => ?_) (fun W hS => (SB.out W hS.bel)) ?_
          · (clear hS; go_simp; done)
          try simp only [Act.put, List.setIfInBounds_toArray, List.set_cons_zero, List.set_cons_succ]
          repeat (first
            | (refine wpSeq_off (by rfl) ?_; try simp only [Act.put, List.setIfInBounds_toArray, List.set_cons_zero, List.set_cons_succ])
            | (refine wpSeq_val (v := ?_) (by rfl) (fun W hS => ?_) ?_
               rotate_left
               · (have fx := hS.facts; simp only [factsOf, cellsOf, Nat.zero_add, Nat.reduceAdd] at fx; clear hS; go_simp; first | done | with_reducible rfl)
               try simp only [Act.put, List.setIfInBounds_toArray, List.set_cons_zero, List.set_cons_succ]))
          refine wpSeq_call (v := .int .i64 cs) (by rfl) (fun W hS => ?_) (fun W hS => (SS.out W hS.bel)) ?_
          · (clear hS; go_simp; done)
          try simp only [Act.put, List.setIfInBounds_toArray, List.set_cons_zero, List.set_cons_succ]
          repeat (first
            | (refine wpSeq_off (by rfl) ?_; try simp only [Act.put, List.setIfInBounds_toArray, List.set_cons_zero, List.set_cons_succ])
            | (refine wpSeq_val (v := ?_) (by rfl) (fun W hS => ?_) ?_
               rotate_left
               · (have fx := hS.facts; simp only [factsOf, cellsOf, Nat.zero_add, Nat.reduceAdd] at fx; clear hS; go_simp; first | done | with_reducible rfl)
               try simp only [Act.put, List.setIfInBounds_toArray, List.set_cons_zero, List.set_cons_succ]))
          refine wpSeq_nil (fun W hS => ?_)
          go_wp2
          go_meet
          exact ⟨rfl, by rw [Hls.out]; exact hS⟩
  case rest =>
    clear hI HW SB SS
    obtain ⟨rfl, hI⟩ := hcut
    rw [Hls.out] at hI
    cases bad with
    | true =>
      have HF := Lib.hid (show FastIs2 k.brake.q k.low.q k.high.q k.speed.q q.q way nilQ3 1 from ⟨.inl ⟨HBAD.out.mp rfl, rfl, rfl⟩, fun h => absurd h (by decide)⟩)
      obtain ⟨x, hx⟩ : ∃ x, x = nilQ3 := ⟨_, rfl⟩
      have hS0 := hI.take (a := [_])
      have HK2 := Lib.hid (hI.all3 (a := []) (.bool false) (.string { data := #[] }) (.string { data := #[] }))
      have hfx := hS0.facts
      simp only [factsOf, cellsOf, Nat.zero_add, Nat.reduceAdd] at hfx
      have hfz := fun i => hS0.free (k := 0) (i := i) rfl
      clear hS0 hI hx x
      go_wp2_with fail
      clear hfx hfz
      have hK := HK2.out
      clear HK2
      generalize World.setCell _ _ _ = W9 at hK ⊢
      refine bodyPost_ret (results_cell_two Tryd.results40 _ _ (w.heap.size + 1 + 1) 25 _ (0, 0) _ _ rfl rfl (hK.blkAt (k := 0) rfl) Tryd.underlying25 rfl (by kernel_rfl)) rfl ?_
      exact ⟨nilQ3, 1, rfl, HF.out, hK.bel⟩
    | false =>
      have hgood : (way = 1 ∨ way = -1) ∧ 0 < k.brake.q ∧ 0 < k.speed.q := by
        have h1 : ¬ ((way ≠ 1 ∧ way ≠ -1) ∨ k.brake.q ≤ 0 ∨ k.speed.q ≤ 0) := fun h => by have := HBAD.out.mpr h; cases this
        refine ⟨by omega, Rat.not_le.mp fun h => h1 (.inr (.inl h)), Rat.not_le.mp fun h => h1 (.inr (.inr h))⟩
      have HG := Lib.hid hgood
      obtain ⟨z64, q64, _, l64, O64⟩ := ofR w HT.out 64
      obtain ⟨m, qm, _, lm, MU⟩ := mulR w HT.out k.speed z64 ksp l64
      obtain ⟨f, e, hf, he, FL⟩ := floorR w HT.out m lm
      rw [qm, q64] at hf he
      have HF := Lib.hid hf
      have HE := Lib.hid he
      clear qm q64 hf he hgood
      go_upto_region 3 with (fail)
      refine wp_region_in hI (by kernel_rfl) (by kernel_rfl) ?_
      repeat (first
        | (refine wpSeq_off (by rfl) ?_; try simp only [Act.put, List.setIfInBounds_toArray, List.set_cons_zero, List.set_cons_succ])
        | (refine wpSeq_val (v := ?_) (by rfl) (fun W hS => ?_) ?_
           rotate_left
           · (have fx := hS.facts; simp only [factsOf, cellsOf, Nat.zero_add, Nat.reduceAdd] at fx; clear hS; go_simp; first | done | with_reducible rfl)
           try simp only [Act.put, List.setIfInBounds_toArray, List.set_cons_zero, List.set_cons_succ]))
      refine wpSeq_call (v := .agg #[.bool z64.neg, .string z64.num, .string z64.den]) (by rfl) (fun W hS => ?_) (fun W hS => (O64.out W hS.bel)) ?_
      · (clear hS; go_simp; done)
      try simp only [Act.put, List.setIfInBounds_toArray, List.set_cons_zero, List.set_cons_succ]
      repeat (first
        | (refine wpSeq_off (by rfl) ?_; try simp only [Act.put, List.setIfInBounds_toArray, List.set_cons_zero, List.set_cons_succ])
        | (refine wpSeq_val (v := ?_) (by rfl) (fun W hS => ?_) ?_
           rotate_left
           · (have fx := hS.facts; simp only [factsOf, cellsOf, Nat.zero_add, Nat.reduceAdd] at fx; clear hS; go_simp; first | done | with_reducible rfl)
           try simp only [Act.put, List.setIfInBounds_toArray, List.set_cons_zero, List.set_cons_succ]))
      refine wpSeq_call (v := .agg #[.bool m.neg, .string m.num, .string m.den]) (by rfl) (fun W hS => ?_) (fun W hS => (MU.out W hS.bel)) ?_
      · (clear hS; go_simp; done)
      try simp only [Act.put, List.setIfInBounds_toArray, List.set_cons_zero, List.set_cons_succ]
      repeat (first
        | (refine wpSeq_off (by rfl) ?_; try simp only [Act.put, List.setIfInBounds_toArray, List.set_cons_zero, List.set_cons_succ])
        | (refine wpSeq_val (v := ?_) (by rfl) (fun W hS => ?_) ?_
           rotate_left
           · (have fx := hS.facts; simp only [factsOf, cellsOf, Nat.zero_add, Nat.reduceAdd] at fx; clear hS; go_simp; first | done | with_reducible rfl)
           try simp only [Act.put, List.setIfInBounds_toArray, List.set_cons_zero, List.set_cons_succ]))
      refine wpSeq_call (v := .tuple #[.int .i64 f, .int .i64 e]) (by rfl) (fun W hS => ?_) (fun W hS => (FL.out W hS.bel)) ?_
      · (clear hS; go_simp; done)
      try simp only [Act.put, List.setIfInBounds_toArray, List.set_cons_zero, List.set_cons_succ]
      repeat (first
        | (refine wpSeq_off (by rfl) ?_; try simp only [Act.put, List.setIfInBounds_toArray, List.set_cons_zero, List.set_cons_succ])
        | (refine wpSeq_val (v := ?_) (by rfl) (fun W hS => ?_) ?_
           rotate_left
           · (have fx := hS.facts; simp only [factsOf, cellsOf, Nat.zero_add, Nat.reduceAdd] at fx; clear hS; go_simp; first | done | with_reducible rfl)
           try simp only [Act.put, List.setIfInBounds_toArray, List.set_cons_zero, List.set_cons_succ]))
      refine wpSeq_nil (fun W hS => ?_)
      clear hI O64 MU FL
      replace hI := hS
      clear hS
      by_cases he0 : e = 0
      · subst he0
        have hE0 : floorE (k.speed.q * ((64 : Int) : Rat)) = 0 := by have := HE.out; omega
        by_cases hf6 : f > 6400
        · have HFI := Lib.hid (show FastIs2 k.brake.q k.low.q k.high.q k.speed.q q.q way nilQ3 2 from ⟨.inr (.inl ⟨HG.out.1, HG.out.2.1, HG.out.2.2, .inr (by rw [← HF.out]; exact hf6), rfl, rfl⟩), fun h => absurd h (by decide)⟩)
          have hS0 := hI.take (a := [_])
          have HK2 := Lib.hid (hI.all3 (a := []) (.bool false) (.string { data := #[] }) (.string { data := #[] }))
          have hfx := hS0.facts
          simp only [factsOf, cellsOf, Nat.zero_add, Nat.reduceAdd] at hfx
          have hfz := fun i => hS0.free (k := 0) (i := i) rfl
          clear hS0 hI
          go_wp2_with fail
          clear hfx hfz
          have hK := HK2.out
          clear HK2
          generalize World.setCell _ _ _ = W9 at hK ⊢
          refine bodyPost_ret (results_cell_two Tryd.results40 _ _ (w.heap.size + 1 + 1) 25 _ (0, 0) _ _ rfl rfl (hK.blkAt (k := 0) rfl) Tryd.underlying25 rfl (by kernel_rfl)) rfl ?_
          exact ⟨nilQ3, 2, rfl, HFI.out, hK.bel⟩
        · have hf0 : 0 ≤ f := by
            rw [HF.out]
            unfold floorN
            split
            · have h1 := Rat.lt_floor_add_one (k.speed.q * ((64 : Int) : Rat))
              have h2 : ((0 : Int) : Rat) < ((k.speed.q * ((64 : Int) : Rat)).floor + 1 : Int) := by
                refine Std.lt_of_le_of_lt ?_ h1
                have h3 := HG.out.2.2
                have h4 : ((64 : Int) : Rat) = 64 := rfl
                have h5 : ((0 : Int) : Rat) = 0 := rfl
                rw [h4, h5]
                grind
              have := Rat.intCast_lt_intCast.mp h2
              omega
            · exact Int.le_refl _
          obtain ⟨T, hTT⟩ : ∃ T : Int → Bool, ∀ m : Int, (T m = true ↔ FitP k.brake.q k.low.q k.high.q q.q (((m * way : Int) : Rat) / ((64 : Int) : Rat))) := ⟨fun m => @decide (FitP k.brake.q k.low.q k.high.q q.q (((m * way : Int) : Rat) / ((64 : Int) : Rat))) (Classical.propDecidable _), fun m => @decide_eq_true_iff _ (Classical.propDecidable _)⟩
          have HTT := Lib.hid hTT
          have hst := Lib.hid (show FaRel2 w ls T f (.int .i64 0) (.int .i64 f) W from ⟨0, f, rfl, rfl, Int.le_refl _, hf0, Int.le_refl _, .inl rfl, .inl rfl, fun r h => h, by rw [Hls.out]; exact hI⟩)
          clear hI hTT
          go_wp2_with fail
          go_loopw [10, 11] (fun low high wr => FaRel2 w ls T f low high wr) (fun low high _ => (intOf high - intOf low).toNat)
          case atStart => exact hst.out
          case round =>
            clear hst
            obtain ⟨a, b, rfl, rfl, ha, hab, hbn, hTa, hTb, hSR, hI⟩ := hrel
            have HSR := Lib.hid hSR
            clear hSR
            rw [Hls.out] at hI
            rcases Int.lt_or_le a b with hlt | hge
            · obtain ⟨m, hm⟩ : ∃ m, m = (a + b + 1) / 2 := ⟨_, rfl⟩
              have hm1 : a < m ∧ m ≤ b := by omega
              have hw1 : IntKind.i64.wrap (a + b) = a + b := by rw [IntKind.wrap_i64]; omega
              have hw2 : IntKind.i64.wrap (a + b + 1) = a + b + 1 := by rw [IntKind.wrap_i64]; omega
              have hw3 : (a + b + 1).tdiv 2 = m := by rw [hm]; exact Int.tdiv_eq_ediv_of_nonneg (by omega)
              have hw4 : IntKind.i64.wrap m = m := by rw [IntKind.wrap_i64]; omega
              have hmw : -6400 ≤ m * way ∧ m * way ≤ 6400 := by
                rcases HG.out.1 with rfl | rfl
                · omega
                · omega
              have hw5 : IntKind.i64.wrap (m * way) = m * way := by rw [IntKind.wrap_i64]; omega
              have hw6 : IntKind.i64.wrap (m - 1) = m - 1 := by rw [IntKind.wrap_i64]; omega
              obtain ⟨r, hr, WI⟩ := withinStop w HT.out k q (m * way) HK.out HQ.out (by omega) hN
              obtain rfl : r = T m := Bool.eq_iff_iff.mpr (hr.trans (HTT.out m).symm)
              have Hm := Lib.hid hm
              have HTa := Lib.hid hTa
              have HTb := Lib.hid hTb
              clear hm hr hTa hTb
              have fx := hI.facts
              simp only [factsOf, cellsOf, Nat.zero_add, Nat.reduceAdd] at fx
              cases hT1 : T m with
              | true =>
                rw [hT1] at WI
                have HN := Lib.hid (show ∀ W, In w ls W → FaRel2 w ls T f (.int .i64 m) (.int .i64 b) W from fun W hW => ⟨m, b, rfl, rfl, by omega, hm1.2, hbn, .inr hT1, HTb.out, fun r h => HSR.out r (Srch.up hlt Hm.out hT1 h), hW⟩)
                clear hT1
                go_wp2_with fail
                refine (WI.out _ hI.bel).mono ?_
                rintro e wn ⟨rfl, hb⟩
                replace hI := hI.call hb
                clear hb
                have hrel := HN.out wn (by rw [Hls.out]; exact hI)
                clear fx hI HN
                go_wp2_with fail
                go_roundw
                case rel => exact hrel
                case measure => simp [intOf]; omega
              | false =>
                rw [hT1] at WI
                have HN := Lib.hid (show ∀ W, In w ls W → FaRel2 w ls T f (.int .i64 a) (.int .i64 (m - 1)) W from fun W hW => ⟨a, m - 1, rfl, rfl, ha, by omega, by omega, HTa.out, .inr (by rw [show m - 1 + 1 = m by omega]; exact hT1), fun r h => HSR.out r (Srch.down hlt Hm.out (by rw [hT1]; exact Bool.false_ne_true) h), hW⟩)
                clear hT1
                go_wp2_with fail
                refine (WI.out _ hI.bel).mono ?_
                rintro e wn ⟨rfl, hb⟩
                replace hI := hI.call hb
                clear hb
                have hrel := HN.out wn (by rw [Hls.out]; exact hI)
                clear fx hI HN
                go_wp2_with fail
                go_roundw
                case rel => exact hrel
                case measure => simp [intOf]; omega
            · obtain rfl : a = b := by omega
              have hlt : ¬ a < a := by omega
              obtain ⟨x, qx, cx, lx, MK⟩ := makeR w HT.out a 64 cast64
              have HFI := Lib.hid (show FastIs2 k.brake.q k.low.q k.high.q k.speed.q q.q way x 0 from ⟨.inr (.inr ⟨HG.out.1, HG.out.2.1, HG.out.2.2, hE0, by rw [← HF.out]; omega, rfl, cx, lx, a, ha, by rw [← HF.out]; exact hbn, qx, hTa.imp id (HTT.out a).mp, hTb.imp (fun h => by rw [← HF.out]; exact h) (fun h h2 => by rw [(HTT.out (a + 1)).mpr h2] at h; cases h)⟩), fun _ => ⟨a, qx, by
                rw [show FitM k.brake.q k.low.q k.high.q q.q way = (fun m => T m = true) from funext fun m => propext (HTT.out m).symm, ← HF.out]
                exact HSR.out a ⟨0, rfl, rfl⟩⟩⟩)
              clear hTa hTb qx cx
              go_wp2_with fail
              refine (MK.out _ hI.bel).mono ?_
              rintro e wn ⟨rfl, hb⟩
              replace hI := hI.call hb
              clear hb
              replace hI := hI.alloc 25 #[.bool x.neg, .string x.num, .string x.den]
              obtain ⟨g, hg⟩ : ∃ g, g = wn.heap.size := ⟨_, rfl⟩
              go_upto_region 13 with (fail)
              rw [← hg] at hI ⊢
              generalize World.alloc _ _ = W2 at hI ⊢
              clear hg
              have fx := hI.facts
              simp only [factsOf, cellsOf, Nat.zero_add, Nat.reduceAdd] at fx
              have hJ := hI.tail
              clear hI
              have hS0 := hJ.take (a := [_])
              have HK2 := Lib.hid (hJ.all3 (a := []) (.bool x.neg) (.string x.num) (.string x.den))
              have hfx := hS0.facts
              simp only [factsOf, cellsOf, Nat.zero_add, Nat.reduceAdd] at hfx
              have hfz := fun i => hS0.free (k := 0) (i := i) rfl
              clear hS0 hJ
              go_wp2_with fail
              clear hfx hfz fx
              have hK := HK2.out
              clear HK2
              generalize World.setCell _ _ _ = W9 at hK ⊢
              refine bodyPost_ret (results_cell_two Tryd.results40 _ _ (w.heap.size + 1 + 1) 25 _ (0, 0) _ _ rfl rfl (hK.blkAt (k := 0) rfl) Tryd.underlying25 rfl (by kernel_rfl)) rfl ?_
              exact ⟨x, 0, rfl, HFI.out, hK.bel⟩
      · have he1 : (e != 0) = true := by simpa using he0
        have he2 : (e == 0) = false := by simpa using he0
        have HFI := Lib.hid (show FastIs2 k.brake.q k.low.q k.high.q k.speed.q q.q way nilQ3 2 from ⟨.inr (.inl ⟨HG.out.1, HG.out.2.1, HG.out.2.2, .inl (by have := HE.out; omega), rfl, rfl⟩), fun h => absurd h (by decide)⟩)
        have hS0 := hI.take (a := [_])
        have HK2 := Lib.hid (hI.all3 (a := []) (.bool false) (.string { data := #[] }) (.string { data := #[] }))
        have hfx := hS0.facts
        simp only [factsOf, cellsOf, Nat.zero_add, Nat.reduceAdd] at hfx
        have hfz := fun i => hS0.free (k := 0) (i := i) rfl
        clear hS0 hI
        go_wp2_with fail
        clear hfx hfz
        have hK := HK2.out
        clear HK2
        generalize World.setCell _ _ _ = W9 at hK ⊢
        refine bodyPost_ret (results_cell_two Tryd.results40 _ _ (w.heap.size + 1 + 1) 25 _ (0, 0) _ _ rfl rfl (hK.blkAt (k := 0) rfl) Tryd.underlying25 rfl (by kernel_rfl)) rfl ?_
        exact ⟨nilQ3, 2, rfl, HFI.out, hK.bel⟩
theorem fastR (w : World) (hT : TabW w) (k : Lk) (q : Q3) (way : Int) {N : Nat} (hk : k.le N) (hq : q.le N) (hN : 1 ≤ N ∧ N ≤ 67108864) (hway : -9223372036854775808 ≤ way ∧ way ≤ 9223372036854775807) (hgood : (way = 1 ∨ way = -1) ∧ 0 < k.brake.q ∧ 0 < k.speed.q ∧ floorE (k.speed.q * ((64 : Int) : Rat)) = 0 ∧ 0 ≤ floorN (k.speed.q * ((64 : Int) : Rat)) ∧ floorN (k.speed.q * ((64 : Int) : Rat)) ≤ 6400) :
    ∃ x : Q3, FastIs k.brake.q k.low.q k.high.q k.speed.q q.q way x 0 ∧ Hid (∀ W, Below w.heap.size w W → Calls Tryd.prog 40 #[.agg #[.bool k.len.neg, .string k.len.num, .string k.len.den, .bool k.low.neg, .string k.low.num, .string k.low.den, .bool k.high.neg, .string k.high.num, .string k.high.den, .bool k.speed.neg, .string k.speed.num, .string k.speed.den, .bool k.brake.neg, .string k.brake.num, .string k.brake.den, k.shape], .agg #[.bool q.neg, .string q.num, .string q.den], .int .i64 way] W fun r w' => r = .returned (.tuple #[.agg #[.bool x.neg, .string x.num, .string x.den], .int .i64 0]) ∧ Below W.heap.size W w') := by
  obtain ⟨h1, h2, h3, h4, h5, h6⟩ := hgood
  obtain ⟨a, ha⟩ := srchN_total (P := FitM k.brake.q k.low.q k.high.q q.q way) (floorN (k.speed.q * ((64 : Int) : Rat)) - 0).toNat 0 (floorN (k.speed.q * ((64 : Int) : Rat))) h5 (Nat.le_refl _)
  have hp := srchN_prop ha (Int.le_refl _) h5 (Int.le_refl _) (.inl rfl) (.inl rfl)
  obtain ⟨x, qx, cx, lx, _⟩ := makeR w hT a 64 cast64
  have hF : FastIs2 k.brake.q k.low.q k.high.q k.speed.q q.q way x 0 := ⟨.inr (.inr ⟨h1, h2, h3, h4, h6, rfl, cx, lx, a, hp.1, hp.2.1, qx, hp.2.2.1, hp.2.2.2⟩), fun _ => ⟨a, qx, _, ha⟩⟩
  refine ⟨x, hF.1, Lib.hid fun W hW => ?_⟩
  refine (fast_any2 W (tabs w hT hW) k q way hk hq hN hway).mono ?_
  rintro r w' ⟨x', e', rfl, hF', hb⟩
  obtain ⟨rfl, rfl⟩ := hF.uniq hF'
  exact ⟨rfl, hb⟩
end Go.Proofs.YtnnbnecpcppkdaaDoor
