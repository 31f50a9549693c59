/- LinkOrder's walk: it returns true. Conditions: those typed. -/
import Derived.Test.YtpnefacignalpaaLinkM
import Derived.Test.YtpnefacignalpaaLinked
import Derived.Test.YtpnefacignalpaaIn
import Derived.Test.YtpnefacignalpaaIntsBase
import Derived.Test.YtpnefacignalpaaOpen
import Derived.Test.YtpnefacignalpaaCells
namespace Go.Proofs.Ytpnefacignalpaa
set_option linter.unusedVariables false
/-- the message of a put -/
def putM (p : Int) (t n : Nat) : GMsg := ⟨(p.tdiv 2) % 3, p % 2, 1 - p % 2, (n : Int), 0, [((p.tdiv 6) % 9, ((t : Int) % 60))]⟩
/-- what end i has put ahead of tick t -/
def plP (puts : List Int) (i : Nat) : Nat → List GMsg
  | 0 => []
  | t + 1 => match puts[t]? with
    | none => plP puts i t
    | some p => if p % 2 = (i : Int) then plP puts i t ++ [putM p t (plP puts i t).length] else plP puts i t
def tkI (m : GMsg) : Nat := match m.cells with
  | c :: _ => c.2.toNat
  | [] => 0
structure PG (i τ : Nat) (P : List GMsg) : Prop where
  len : P.length ≤ 60
  at_ : ∀ (q : Nat) (m : GMsg), P[q]? = some m → 0 ≤ m.kind ∧ m.kind ≤ 2 ∧ m.src = (i : Int) ∧ m.dst = ((oth i : Nat) : Int) ∧ m.seq = (q : Int) ∧ m.clock = 0 ∧ msgF m = 0 ∧ tkI m < τ
theorem oth_two {i : Nat} (h : i < 2) : oth i < 2 ∧ oth (oth i) = i ∧ oth i ≠ i := by unfold oth; omega
theorem putM_good (p : Int) (t n : Nat) (hn : n ≤ 60) : msgF (putM p t n) = 0 := by
  have h0 : msgF0 (putM p t n) = 0 := by
    have h1 : 0 ≤ (p.tdiv 2) % 3 := Int.emod_nonneg _ (by decide)
    have h2 : (p.tdiv 2) % 3 < 3 := Int.emod_lt_of_pos _ (by decide)
    unfold msgF0 putM
    simp only
    rw [if_neg (by omega), if_neg (by omega), if_neg (by omega), if_neg (by omega)]
  unfold msgF
  rw [if_pos h0]
  unfold putM cellsF
  have h1 : 0 ≤ (p.tdiv 6) % 9 := Int.emod_nonneg _ (by decide)
  have h2 : (p.tdiv 6) % 9 < 9 := Int.emod_lt_of_pos _ (by decide)
  rw [if_neg (by simp)]
  simp only [cellsG]
  rw [if_neg (by simp [onI]; omega), if_neg (by simp [lateC])]
theorem plP_len (puts : List Int) (i : Nat) : ∀ t, (plP puts i t).length ≤ t ∧ (plP puts i t).length ≤ puts.length
  | 0 => ⟨Nat.le_refl _, Nat.zero_le _⟩
  | t + 1 => by
    have ih := plP_len puts i t
    have key : ∀ t, puts.length ≤ t → plP puts i t = plP puts i puts.length := by
      intro t ht
      induction t with
      | zero => rw [show puts.length = 0 by omega]
      | succ t ih2 =>
        by_cases h : puts.length = t + 1
        · rw [h]
        · have e : puts[t]? = none := List.getElem?_eq_none (by omega)
          rw [← ih2 (by omega)]
          simp only [plP, e]
    by_cases h : puts.length < t + 1
    · have h2 := key t (by omega)
      have h3 := key (t + 1) (by omega)
      rw [h3, ← h2]
      exact ⟨by omega, ih.2⟩
    · have h4 : (plP puts i (t + 1)).length ≤ (plP puts i t).length + 1 := by
        simp only [plP]
        split
        · omega
        · split
          · simp
          · omega
      exact ⟨by omega, by omega⟩
theorem plP_good (puts : List Int) (hp : puts.length ≤ 60) (i : Nat) (hi : i < 2) : ∀ τ, PG i τ (plP puts i τ)
  | 0 => ⟨by simp [plP], fun q m h => by simp [plP] at h⟩
  | t + 1 => by
    have ih := plP_good puts hp i hi t
    have hl := plP_len puts i t
    have hl2 := plP_len puts i (t + 1)
    refine ⟨by omega, fun q m h => ?_⟩
    have old : (plP puts i t)[q]? = some m → 0 ≤ m.kind ∧ m.kind ≤ 2 ∧ m.src = (i : Int) ∧ m.dst = ((oth i : Nat) : Int) ∧ m.seq = (q : Int) ∧ m.clock = 0 ∧ msgF m = 0 ∧ tkI m < t + 1 := fun h => by
      obtain ⟨a1, a2, a3, a4, a5, a6, a7, a8⟩ := ih.at_ q m h
      exact ⟨a1, a2, a3, a4, a5, a6, a7, by omega⟩
    simp only [plP] at h
    split at h
    · exact old h
    · rename_i p hpt
      split at h
      · rename_i hpi
        have ht : t < puts.length := (List.getElem?_eq_some_iff.1 hpt).1
        by_cases hq : q < (plP puts i t).length
        · rw [List.getElem?_append_left hq] at h
          exact old h
        · rw [List.getElem?_append_right (by omega)] at h
          have hq2 : q = (plP puts i t).length := by
            have := (List.getElem?_eq_some_iff.1 h).1
            simp at this
            omega
          subst hq2
          simp only [Nat.sub_self, List.getElem?_cons_zero, Option.some.injEq] at h
          subst h
          have h1 : 0 ≤ (p.tdiv 2) % 3 := Int.emod_nonneg _ (by decide)
          have h2 : (p.tdiv 2) % 3 < 3 := Int.emod_lt_of_pos _ (by decide)
          refine ⟨h1, by show (p.tdiv 2) % 3 ≤ 2; omega, hpi, ?_, rfl, rfl, putM_good p t _ (by omega), ?_⟩
          · show 1 - p % 2 = _
            unfold oth
            omega
          · show ((t : Int) % 60).toNat < t + 1
            omega
      · exact old h
theorem plP_next (puts : List Int) (i t : Nat) : ∃ l, plP puts i (t + 1) = plP puts i t ++ l := by
  simp only [plP]
  split
  · exact ⟨[], (List.append_nil _).symm⟩
  · split
    · exact ⟨_, rfl⟩
    · exact ⟨[], (List.append_nil _).symm⟩
theorem clk_msgF (c : Int) (m : GMsg) : msgF (clkM c m) = msgF m := by
  unfold msgF msgF0 clkM
  rfl
/-- a message from end i on its way -/
def OkM (P : List GMsg) (w : Int) (i : Nat) (m : GMsg) : Prop := m.src = (i : Int) ∧ m.dst = ((oth i : Nat) : Int) ∧ ((m.kind = 3 ∧ m.cells = [] ∧ 0 ≤ m.seq ∧ m.seq ≤ w) ∨ ∃ q : Nat, P[q]? = some (clkM 0 m))
theorem OkM.more {P : List GMsg} {w w' : Int} {i : Nat} {m : GMsg} (h : OkM P w i m) (l : List GMsg) (hw : w ≤ w') : OkM (P ++ l) w' i m := by
  obtain ⟨h1, h2, h3⟩ := h
  refine ⟨h1, h2, ?_⟩
  rcases h3 with ⟨a, b, c, d⟩ | ⟨q, h⟩
  · exact .inl ⟨a, b, c, by omega⟩
  · exact .inr ⟨q, by rw [List.getElem?_append_left (List.getElem?_eq_some_iff.1 h).1]; exact h⟩
theorem OkM.good {P : List GMsg} {w : Int} {i τ : Nat} {m : GMsg} (h : OkM P w i m) (hP : PG i τ P) (hw : w ≤ 60) (hi : i < 2) : msgF m = 0 := by
  obtain ⟨h1, h2, h3⟩ := h
  rcases h3 with ⟨a, b, c, d⟩ | ⟨q, h⟩
  · have h0 : msgF0 m = 0 := by
      have := oth_two hi
      unfold msgF0
      rw [if_neg (by omega), if_neg (by unfold oth at h2; omega), if_neg (by omega), if_neg (by rw [b]; simp)]
    unfold msgF
    rw [if_pos h0, b]
    rfl
  · have := (hP.at_ q _ h).2.2.2.2.2.2.1
    rwa [clk_msgF] at this
/-- an end, what it has put (P), what the other has put (Po), and the other's want -/
structure Rc (P Po : List GMsg) (wo : Int) (g : List GMsg) (x : ES) : Prop where
  nx : x.nx = (P.length : Int)
  ws : ∃ a : Nat, x.ws.map (·.1) = P.drop a ∧ (a : Int) ≤ wo
  wt : 0 ≤ x.wt ∧ x.wt ≤ (Po.length : Int)
  got : (g ++ x.gs).map (clkM 0) = Po.take x.wt.toNat
theorem drop_seq {P : List GMsg} {i τ : Nat} (hP : PG i τ P) (q : Int) : ∀ (ws : List (GMsg × Int)) (a : Nat), ws.map (·.1) = P.drop a → ∃ a' : Nat, (ws.dropWhile (fun y => decide (y.1.seq < q))).map (·.1) = P.drop a' ∧ (a' = a ∨ (a' : Int) ≤ q)
  | [], a, h => ⟨a, h, .inl rfl⟩
  | y :: ws, a, h => by
    have ha : P[a]? = some y.1 := by
      have : (P.drop a)[0]? = some y.1 := by rw [← h]; rfl
      rw [List.getElem?_drop] at this
      simpa using this
    have ht : ws.map (·.1) = P.drop (a + 1) := by
      have : (P.drop a).tail = P.drop (a + 1) := List.tail_drop
      rw [← this, ← h]
      rfl
    have hs := (hP.at_ a _ ha).2.2.2.2.1
    by_cases hq : y.1.seq < q
    · rw [List.dropWhile_cons_of_pos (by simpa using hq)]
      obtain ⟨a', h1, h2⟩ := drop_seq hP q ws (a + 1) ht
      exact ⟨a', h1, .inr (by omega)⟩
    · rw [List.dropWhile_cons_of_neg (by simpa using hq)]
      exact ⟨a, h, .inl rfl⟩
theorem in_ok {P Po : List GMsg} {wo : Int} {g : List GMsg} {x : ES} {m : GMsg} {i τ : Nat} (hi : i < 2) (hP : PG i τ P) (hPo : PG (oth i) τ Po) (hwo : wo ≤ (P.length : Int)) (h : Rc P Po wo g x) (hm : OkM Po wo (oth i) m) :
    ∃ x', inS (i : Int) ((oth i : Nat) : Int) x m = some x' ∧ Rc P Po wo g x' ∧ x.wt ≤ x'.wt ∧ x'.ws <:+ x.ws := by
  have ho := oth_two hi
  have hg := hm.good hPo (by have := hP.len; omega) ho.1
  obtain ⟨h1, h2, h3⟩ := hm
  rw [ho.2.1] at h2
  have hc : inC m (i : Int) ((oth i : Nat) : Int) x.nx = 0 := by
    unfold inC
    rw [if_neg (by rw [hg]; simp), if_neg (by omega), if_neg ?_]
    rintro ⟨k3, k4⟩
    rcases h3 with ⟨a, b, c, d⟩ | ⟨q, h3⟩
    · have := h.nx; omega
    · have := (hPo.at_ q _ h3).2.1
      have e : (clkM 0 m).kind = m.kind := rfl
      omega
  unfold inS
  rw [if_pos hc]
  by_cases hk : m.kind = 3
  · rw [if_pos hk]
    rcases h3 with ⟨a, b, c, d⟩ | ⟨q, h3⟩
    · obtain ⟨n0, w0, t0, g0⟩ := h
      obtain ⟨a0, e0, l0⟩ := w0
      obtain ⟨a1, e1, l1⟩ := drop_seq hP m.seq x.ws a0 e0
      exact ⟨_, rfl, ⟨n0, ⟨a1, e1, by omega⟩, t0, g0⟩, Int.le_refl _, List.dropWhile_suffix _⟩
    · have := (hPo.at_ q _ h3).2.1
      have e : (clkM 0 m).kind = m.kind := rfl
      omega
  · rw [if_neg hk]
    rcases h3 with ⟨a, b, c, d⟩ | ⟨q, h3⟩
    · exact absurd a hk
    · have hs := (hPo.at_ q _ h3).2.2.2.2.1
      have es : (clkM 0 m).seq = m.seq := rfl
      obtain ⟨n0, w0, t0, g0⟩ := h
      by_cases hw : m.seq = x.wt
      · rw [if_pos hw]
        have hq : x.wt.toNat = q := by omega
        have hlt := (List.getElem?_eq_some_iff.1 h3).1
        refine ⟨_, rfl, ⟨n0, w0, ⟨by simp only; omega, by simp only; omega⟩, ?_⟩, by simp only; omega, List.suffix_refl _⟩
        simp only
        rw [← List.append_assoc, List.map_append, g0, show (x.wt + 1).toNat = q + 1 by omega, hq, List.take_add_one, h3]
        rfl
      · rw [if_neg hw]
        exact ⟨_, rfl, ⟨n0, w0, t0, g0⟩, Int.le_refl _, List.suffix_refl _⟩
theorem ins_ok {P Po : List GMsg} {wo : Int} {g : List GMsg} {i τ : Nat} (hi : i < 2) (hP : PG i τ P) (hPo : PG (oth i) τ Po) (hwo : wo ≤ (P.length : Int)) : ∀ (l : List GMsg) (x : ES), Rc P Po wo g x → (∀ m ∈ l, OkM Po wo (oth i) m) →
    ∃ x', l.foldlM (inS (i : Int) ((oth i : Nat) : Int)) x = some x' ∧ Rc P Po wo g x' ∧ x.wt ≤ x'.wt ∧ x'.ws <:+ x.ws
  | [], x, h, _ => ⟨x, rfl, h, Int.le_refl _, List.suffix_refl _⟩
  | m :: l, x, h, hl => by
    obtain ⟨x1, e1, h1, w1, s1⟩ := in_ok hi hP hPo hwo h (hl m (List.mem_cons_self ..))
    obtain ⟨x2, e2, h2, w2, s2⟩ := ins_ok hi hP hPo hwo l x1 h1 (fun m hm => hl m (List.mem_cons_of_mem _ hm))
    refine ⟨x2, ?_, h2, by omega, s2.trans s1⟩
    rw [List.foldlM_cons, e1]
    exact e2
/-- both ends and the net: τ puts are done -/
structure Lk (puts : List Int) (τ : Nat) (S : Sys) : Prop where
  rc : ∀ i, i < 2 → Rc (plP puts i τ) (plP puts (oth i) τ) (S.e (oth i)).wt (S.g i) (S.e i)
  km : ∀ k ∈ S.K, ∃ i, i < 2 ∧ OkM (plP puts i τ) (S.e i).wt i k.2
  gs : ∀ i, i < 2 → (S.e i).gs = []
theorem takeL_mem {K : List AK} {t : Int} {i : Nat} {k : AK} (h : k ∈ takeL K t (i : Int)) : k ∈ K ∧ k.2.dst = (i : Int) ∧ k.1 ≤ t := by
  unfold takeL at h
  obtain ⟨h1, h2⟩ := List.mem_filter.1 (dueSort_mem h)
  unfold goesB at h2
  rw [Bool.and_eq_true, decide_eq_true_eq, decide_eq_true_eq] at h2
  exact ⟨h1, h2⟩
theorem recv_ok {puts : List Int} {τ t i : Nat} {S : Sys} (hp : puts.length ≤ 60) (hi : i < 2) (h : Lk puts τ S) :
    ∃ S', recvS t i S = some S' ∧ Lk puts τ S' ∧ S'.T = S.T ∧ S'.K = restL S.K (t : Int) (i : Int) ∧ S'.e (oth i) = S.e (oth i) ∧ (S'.e i).ws <:+ (S.e i).ws := by
  have ho := oth_two hi
  have hr := h.rc i hi
  have hro := h.rc (oth i) ho.1
  rw [ho.2.1] at hro
  obtain ⟨x', e, h1, h2, h3⟩ := ins_ok hi (plP_good puts hp i hi τ) (plP_good puts hp (oth i) ho.1 τ) hro.wt.2 ((takeL S.K (t : Int) (i : Int)).map (·.2)) (S.e i) hr (fun m hm => by
    obtain ⟨k, hk, rfl⟩ := List.mem_map.1 hm
    obtain ⟨k1, k2, _⟩ := takeL_mem hk
    obtain ⟨j, hj, h4⟩ := h.km k k1
    have h5 := h4.2.1
    have : j = oth i := by unfold oth at h5 ⊢; omega
    rw [← this]
    exact h4)
  refine ⟨{ S with K := restL S.K (t : Int) (i : Int), e := updN S.e i { x' with gs := [] }, g := updN S.g i (S.g i ++ x'.gs) }, ?_, ⟨fun j hj => ?_, fun k hk => ?_, fun j hj => ?_⟩, rfl, rfl, updN_ne _ _ ho.2.2, by simp only [updN_same]; exact h3⟩
  · unfold recvS
    rw [e]
    rfl
  · by_cases hji : j = i
    · subst hji
      simp only [updN_same, updN_ne _ _ ho.2.2]
      exact ⟨h1.nx, h1.ws, h1.wt, by simp only [List.append_nil]; exact h1.got⟩
    · have hj2 : j = oth i := by unfold oth; omega
      subst hj2
      rw [ho.2.1]
      simp only [updN_same, updN_ne _ _ ho.2.2]
      obtain ⟨n0, ⟨a, w0, w1⟩, t0, g0⟩ := hro
      exact ⟨n0, ⟨a, w0, by omega⟩, t0, g0⟩
  · obtain ⟨j, hj, h4⟩ := h.km k (List.mem_filter.1 hk).1
    refine ⟨j, hj, ?_⟩
    by_cases hji : j = i
    · subst hji
      simp only [updN_same]
      have := h4.more [] h2
      rwa [List.append_nil] at this
    · simp only [updN_ne _ _ hji]
      exact h4
  · by_cases hji : j = i
    · subst hji; simp only [updN_same]
    · simp only [updN_ne _ _ hji]; exact h.gs j hj
theorem sends_ok {FS : List GF} {t : Nat} (ht : t ≤ 2000) : ∀ (l : List GMsg) (S : Sys), (∀ m ∈ l, msgF m = 0) → S.T ≤ (t : Int) → S.K.length + 2 * l.length ≤ 1000 →
    ∃ S', l.foldlM (sendS FS (t : Int)) S = some S' ∧ S'.e = S.e ∧ S'.g = S.g ∧ S'.T ≤ (t : Int) ∧ S'.K = S.K ++ l.flatMap (flightsF FS (t : Int)) ∧ S'.K.length ≤ S.K.length + 2 * l.length
  | [], S, _, hT, _ => ⟨S, rfl, rfl, rfl, hT, by simp, by simp⟩
  | m :: l, S, hm, hT, hK => by
    have hf : (flightsF FS (t : Int) m).length ≤ 2 := by rw [flightsF_len]; exact (planF_le _ _ _).1
    simp only [List.length_cons] at hK
    have hc : sendC FS S.T S.K (t : Int) m = 0 := by
      unfold sendC
      rw [if_neg (by omega), if_neg (by omega), if_neg (by rw [hm m (List.mem_cons_self ..)]; simp), if_neg (by omega)]
    obtain ⟨S', e, h1, h2, h3, h4, h5⟩ := sends_ok ht l { S with K := S.K ++ flightsF FS (t : Int) m, T := (t : Int) } (fun m' hm' => hm m' (List.mem_cons_of_mem _ hm')) (Int.le_refl _) (by simp only [List.length_append]; omega)
    refine ⟨S', ?_, h1, h2, h3, ?_, ?_⟩
    · rw [List.foldlM_cons]
      unfold sendS
      rw [if_pos hc]
      exact e
    · rw [h4, List.append_assoc]
      rfl
    · simp only [List.length_append, List.length_cons] at h5 ⊢
      omega
theorem curP_fst (T : Int) (ws : List (GMsg × Int)) : (curP T ws).map (·.1) = ws.map (·.1) := by
  unfold curP
  rw [List.map_append, List.map_map]
  have : ((fun y : GMsg × Int => y.1) ∘ fun y => if dueP T y = true then (y.1, T) else y) = fun y => y.1 := by
    funext y
    simp only [Function.comp]
    split <;> rfl
  rw [this, ← List.map_append, List.take_append_drop]
theorem outG_ok {puts : List Int} {τ i : Nat} {S : Sys} {T ck : Int} (hi : i < 2) (hp : puts.length ≤ 60) (h : Lk puts τ S) : ∀ m ∈ outG (S.e i) (i : Int) ((oth i : Nat) : Int) T ck, OkM (plP puts i τ) (S.e i).wt i m := by
  intro m hm
  have hG := plP_good puts hp i hi τ
  obtain ⟨n0, ⟨a, w0, w1⟩, t0, g0⟩ := h.rc i hi
  unfold outG at hm
  rcases List.mem_append.1 hm with hm | hm
  · obtain ⟨y, hy, rfl⟩ := List.mem_map.1 hm
    have hy2 : y.1 ∈ (S.e i).ws.map (·.1) := List.mem_map_of_mem (List.mem_of_mem_take (List.mem_filter.1 hy).1)
    rw [w0] at hy2
    obtain ⟨q, hq⟩ := List.getElem?_of_mem (List.mem_of_mem_drop hy2)
    obtain ⟨a1, a2, a3, a4, a5, a6, a7, a8⟩ := hG.at_ q _ hq
    refine ⟨a3, a4, .inr ⟨q, ?_⟩⟩
    rw [hq]
    congr 1
    show y.1 = { y.1 with clock := 0 }
    rw [← a6]
  · split at hm
    · obtain rfl := List.mem_singleton.1 hm
      exact ⟨rfl, rfl, .inl ⟨rfl, rfl, t0.1, Int.le_refl _⟩⟩
    · cases hm
theorem emit_ok {FS : List GF} {puts : List Int} {τ t i : Nat} {S : Sys} (hp : puts.length ≤ 60) (ht : t ≤ 2000) (hi : i < 2) (h : Lk puts τ S) (hT : S.T ≤ (t : Int)) (hK : S.K.length + 2 * (outG (S.e i) (i : Int) ((oth i : Nat) : Int) (t : Int) (t : Int)).length ≤ 1000) :
    ∃ S', emitS FS t i S = some S' ∧ Lk puts τ S' ∧ S'.T ≤ (t : Int) ∧ S'.e = updN S.e i { S.e i with ow := false, ws := curP (t : Int) (S.e i).ws } ∧ S'.g = S.g ∧ S'.K = S.K ++ (outG (S.e i) (i : Int) ((oth i : Nat) : Int) (t : Int) (t : Int)).flatMap (flightsF FS (t : Int)) ∧ S'.K.length ≤ S.K.length + 2 * (outG (S.e i) (i : Int) ((oth i : Nat) : Int) (t : Int) (t : Int)).length := by
  have ho := oth_two hi
  have hO := outG_ok (T := (t : Int)) (ck := (t : Int)) hi hp h
  have hw : ∀ j, j < 2 → (S.e j).wt ≤ 60 := fun j hj => by
    have h1 := (h.rc j hj).wt.2
    have h2 := (plP_good puts hp (oth j) (oth_two hj).1 τ).len
    omega
  obtain ⟨S', e, h1, h2, h3, h4, h5⟩ := sends_ok (FS := FS) ht (outG (S.e i) (i : Int) ((oth i : Nat) : Int) (t : Int) (t : Int)) { S with e := updN S.e i { S.e i with ow := false, ws := curP (t : Int) (S.e i).ws } } (fun m hm => (hO m hm).good (plP_good puts hp i hi τ) (hw i hi) hi) hT hK
  have hwt : ∀ j, (S'.e j).wt = (S.e j).wt := fun j => by
    rw [h1]
    by_cases hji : j = i
    · subst hji; simp only [updN_same]
    · simp only [updN_ne _ _ hji]
  refine ⟨S', e, ⟨fun j hj => ?_, fun k hk => ?_, fun j hj => ?_⟩, h3, h1, h2, h4, h5⟩
  · rw [hwt, h2]
    obtain ⟨n0, ⟨a, w0, w1⟩, t0, g0⟩ := h.rc j hj
    rw [h1]
    by_cases hji : j = i
    · subst hji
      simp only [updN_same]
      exact ⟨n0, ⟨a, by simp only; rw [curP_fst]; exact w0, w1⟩, t0, g0⟩
    · simp only [updN_ne _ _ hji]
      exact ⟨n0, ⟨a, w0, w1⟩, t0, g0⟩
  · rw [h4] at hk
    rcases List.mem_append.1 hk with hk | hk
    · obtain ⟨j, hj, h6⟩ := h.km k hk
      exact ⟨j, hj, by rw [hwt]; exact h6⟩
    · obtain ⟨m, hm, hk⟩ := List.mem_flatMap.1 hk
      obtain rfl := List.eq_of_mem_replicate hk
      exact ⟨i, hi, by rw [hwt]; exact hO m hm⟩
  · rw [h1]
    by_cases hji : j = i
    · subst hji; simp only [updN_same]; exact h.gs j hj
    · simp only [updN_ne _ _ hji]; exact h.gs j hj
/-- the put of a tick -/
theorem put_ok {puts : List Int} {t : Nat} {S : Sys} (hp : puts.length ≤ 60) (h : Lk puts t S) : ∃ S', putT puts t S = some S' ∧ Lk puts (t + 1) S' ∧ S'.T = S.T ∧ S'.K = S.K ∧ S'.g = S.g ∧
    (∀ j, (S'.e j).wt = (S.e j).wt ∧ (S'.e j).ow = (S.e j).ow ∧ (S'.e j).gs = (S.e j).gs) ∧ (puts[t]? = none → S' = S) ∧
    (∀ p, puts[t]? = some p → ∃ i, i < 2 ∧ (S'.e i).ws = (S.e i).ws ++ [(putM p t (plP puts i t).length, -1)] ∧ (S'.e (oth i)).ws = (S.e (oth i)).ws) := by
  have hmore : ∀ S' : Sys, (∀ j, (S'.e j).wt = (S.e j).wt) → S'.K = S.K → ∀ k ∈ S'.K, ∃ i, i < 2 ∧ OkM (plP puts i (t + 1)) (S'.e i).wt i k.2 := fun S' hw hK k hk => by
    rw [hK] at hk
    obtain ⟨i, hi, h1⟩ := h.km k hk
    obtain ⟨l, hl⟩ := plP_next puts i t
    exact ⟨i, hi, by rw [hl, hw]; exact h1.more l (Int.le_refl _)⟩
  unfold putT
  cases hpt : puts[t]? with
  | none =>
    simp only
    refine ⟨S, rfl, ⟨fun i hi => ?_, hmore S (fun _ => rfl) rfl, h.gs⟩, rfl, rfl, rfl, fun _ => ⟨rfl, rfl, rfl⟩, fun _ => rfl, fun p hp => (by cases hp)⟩
    simp only [plP, hpt]
    exact h.rc i hi
  | some p =>
    have ht : t < puts.length := (List.getElem?_eq_some_iff.1 hpt).1
    obtain ⟨i, hi⟩ : ∃ i : Nat, p % 2 = (i : Int) := ⟨(p % 2).toNat, by omega⟩
    have hi2 : i < 2 := by omega
    have ho := oth_two hi2
    have e1 : (1 - p % 2 : Int) = ((oth i : Nat) : Int) := by unfold oth; omega
    have e2 : (p % 2).toNat = i := by omega
    have hr := h.rc i hi2
    have hl := plP_len puts i t
    obtain ⟨n0, ⟨a, w0, w1⟩, t0, g0⟩ := hr
    have eM : (⟨(p.tdiv 2) % 3, (i : Int), ((oth i : Nat) : Int), (S.e i).nx, 0, [((p.tdiv 6) % 9, ((t : Int) % 60))]⟩ : GMsg) = putM p t (plP puts i t).length := by
      unfold putM
      rw [n0, e1, hi]
    have hwl : (S.e i).ws.length ≤ 60 := by
      have : ((S.e i).ws.map (·.1)).length = ((plP puts i t).drop a).length := by rw [w0]
      rw [List.length_map, List.length_drop] at this
      omega
    have hc : putC ((p.tdiv 2) % 3) (i : Int) ((oth i : Nat) : Int) (S.e i).nx [((p.tdiv 6) % 9, ((t : Int) % 60))] (S.e i).ws.length = 0 := by
      have h1 : 0 ≤ (p.tdiv 2) % 3 := Int.emod_nonneg _ (by decide)
      have h2 : (p.tdiv 2) % 3 < 3 := Int.emod_lt_of_pos _ (by decide)
      unfold putC
      rw [eM, putM_good p t _ (by omega)]
      rw [if_neg (by omega), if_neg (by simp), if_neg (by omega)]
    simp only [hi, Int.toNat_natCast]
    rw [show (1 - (i : Int)) = ((oth i : Nat) : Int) by rw [← hi]; exact e1]
    unfold putS
    rw [if_pos hc, eM]
    refine ⟨_, rfl, ⟨fun j hj => ?_, hmore _ (fun j => ?_) rfl, fun j hj => ?_⟩, rfl, rfl, rfl, fun j => ?_, fun e => (by cases e), fun p' hp' => ⟨i, hi2, ?_, ?_⟩⟩
    · by_cases hji : j = i
      · subst hji
        simp only [updN_same, updN_ne _ _ ho.2.2]
        have e3 : plP puts j (t + 1) = plP puts j t ++ [putM p t (plP puts j t).length] := by simp only [plP, hpt, if_pos hi]
        have e4 : plP puts (oth j) (t + 1) = plP puts (oth j) t := by simp only [plP, hpt]; rw [if_neg (by rw [hi]; omega)]
        rw [e3, e4]
        have hal : a ≤ (plP puts j t).length := by
          have := (h.rc (oth j) ho.1).wt.2
          rw [ho.2.1] at this
          omega
        refine ⟨by simp only [List.length_append]; rw [n0]; simp, ⟨a, ?_, w1⟩, t0, g0⟩
        simp only
        rw [List.map_append, w0, List.drop_append_of_le_length hal]
        rfl
      · have hj2 : j = oth i := by unfold oth; omega
        subst hj2
        rw [ho.2.1]
        simp only [updN_same, updN_ne _ _ ho.2.2]
        have e3 : plP puts i (t + 1) = plP puts i t ++ [putM p t (plP puts i t).length] := by simp only [plP, hpt, if_pos hi]
        have e4 : plP puts (oth i) (t + 1) = plP puts (oth i) t := by simp only [plP, hpt]; rw [if_neg (by rw [hi]; omega)]
        rw [e3, e4]
        have h9 := h.rc (oth i) ho.1
        rw [ho.2.1] at h9
        obtain ⟨n9, w9, t9, g9⟩ := h9
        refine ⟨n9, w9, ⟨t9.1, by simp only [List.length_append]; omega⟩, ?_⟩
        rw [g9, List.take_append_of_le_length (by omega)]
    · by_cases hji : j = i
      · subst hji; simp only [updN_same]
      · simp only [updN_ne _ _ hji]
    · by_cases hji : j = i
      · subst hji; simp only [updN_same]; exact h.gs j hj
      · simp only [updN_ne _ _ hji]; exact h.gs j hj
    · by_cases hji : j = i
      · subst hji; simp only [updN_same]; exact ⟨trivial, trivial, trivial⟩
      · simp only [updN_ne _ _ hji]; exact ⟨trivial, trivial, trivial⟩
    · cases hp'
      simp only [updN_same]
    · simp only [updN_ne _ _ ho.2.2]
end Go.Proofs.Ytpnefacignalpaa

namespace Go.Proofs.Ytpnefacignalpaa
set_option linter.unusedVariables false
/-- what a waiting message may still bring, up to tick N -/
def remI (N : Nat) (y : GMsg × Int) : Nat := if y.2 < 0 then N + 3 - tkI y.1 else N - 1 - y.2.toNat
def pot (N : Nat) (ws : List (GMsg × Int)) : Nat := (ws.map (remI N)).sum
theorem pot_append (N : Nat) (a b : List (GMsg × Int)) : pot N (a ++ b) = pot N a + pot N b := by
  unfold pot
  rw [List.map_append, List.sum_append]
theorem pot_suffix {N : Nat} {a b : List (GMsg × Int)} (h : a <:+ b) : pot N a ≤ pot N b := by
  obtain ⟨c, rfl⟩ := h
  rw [pot_append]
  omega
theorem pot_map {N t : Nat} (ht : t < N) : ∀ (l : List (GMsg × Int)), (∀ y ∈ l, tkI y.1 ≤ t) → pot N (l.map (fun y => if dueP (t : Int) y then (y.1, (t : Int)) else y)) + 4 * (l.filter (dueP (t : Int))).length ≤ pot N l
  | [], _ => by simp [pot]
  | y :: l, h => by
    have ih := pot_map ht l (fun y hy => h y (List.mem_cons_of_mem _ hy))
    have h1 := h y (List.mem_cons_self ..)
    unfold pot at ih ⊢
    by_cases hd : dueP (t : Int) y = true
    · rw [List.filter_cons_of_pos hd, List.map_cons, if_pos hd, List.map_cons, List.sum_cons, List.map_cons, List.sum_cons, List.length_cons]
      have e : remI N (y.1, (t : Int)) + 4 ≤ remI N y := by
        unfold dueP at hd
        have hd := of_decide_eq_true hd
        unfold remI
        simp only
        rw [if_neg (by omega)]
        split <;> omega
      omega
    · rw [List.filter_cons_of_neg hd, List.map_cons, if_neg hd, List.map_cons, List.sum_cons, List.map_cons, List.sum_cons]
      omega
theorem pot_cur {N t : Nat} (ht : t < N) (ws : List (GMsg × Int)) (h : ∀ y ∈ ws, tkI y.1 ≤ t) : pot N (curP (t : Int) ws) + 4 * ((ws.take 8).filter (dueP (t : Int))).length ≤ pot N ws := by
  have h1 := pot_map ht (ws.take 8) (fun y hy => h y (List.mem_of_mem_take hy))
  have h2 := pot_append N (ws.take 8) (ws.drop 8)
  rw [List.take_append_drop] at h2
  unfold curP
  rw [pot_append]
  omega
def P2 (N : Nat) (S : Sys) : Nat := pot N (S.e 0).ws + pot N (S.e 1).ws
theorem P2_eq {N i : Nat} {S : Sys} (hi : i < 2) : P2 N S = pot N (S.e i).ws + pot N (S.e (oth i)).ws := by
  rcases (by omega : i = 0 ∨ i = 1) with rfl | rfl
  · rfl
  · unfold P2
    rw [Nat.add_comm]
    rfl
theorem Lk.tk {puts : List Int} {τ i : Nat} {S : Sys} (hp : puts.length ≤ 60) (hi : i < 2) (h : Lk puts τ S) : ∀ y ∈ (S.e i).ws, tkI y.1 < τ := by
  intro y hy
  obtain ⟨a, w0, _⟩ := (h.rc i hi).ws
  have hy2 : y.1 ∈ (S.e i).ws.map (·.1) := List.mem_map_of_mem hy
  rw [w0] at hy2
  obtain ⟨q, hq⟩ := List.getElem?_of_mem (List.mem_of_mem_drop hy2)
  exact ((plP_good puts hp i hi τ).at_ q _ hq).2.2.2.2.2.2.2
theorem outG_length (x : ES) (a b T ck : Int) : (outG x a b T ck).length ≤ ((x.ws.take 8).filter (dueP T)).length + 1 := by
  unfold outG
  rw [List.length_append, List.length_map]
  split
  · simp
  · simp
/-- what an end's turn makes -/
structure EndEq (FS : List GF) (t i : Nat) (S S1 S' : Sys) : Prop where
  recv : recvS t i S = some S1
  run : endS FS t i S = some S'
  K1 : S1.K = restL S.K (t : Int) (i : Int)
  o1 : S1.e (oth i) = S.e (oth i)
  s1 : (S1.e i).ws <:+ (S.e i).ws
  e : S'.e = updN S1.e i { S1.e i with ow := false, ws := curP (t : Int) (S1.e i).ws }
  K : S'.K = S1.K ++ (outG (S1.e i) (i : Int) ((oth i : Nat) : Int) (t : Int) (t : Int)).flatMap (flightsF FS (t : Int))
theorem end_ok {FS : List GF} {puts : List Int} {τ t i : Nat} {S : Sys} (hp : puts.length ≤ 60) (ht : t ≤ 2000) (hi : i < 2) (h : Lk puts τ S) (hT : S.T ≤ (t : Int)) (hK : ∀ S1, recvS t i S = some S1 → Lk puts τ S1 → S1.K = restL S.K (t : Int) (i : Int) → (S1.e i).ws <:+ (S.e i).ws → S1.e (oth i) = S.e (oth i) → S1.K.length + 2 * (outG (S1.e i) (i : Int) ((oth i : Nat) : Int) (t : Int) (t : Int)).length ≤ 1000) :
    ∃ S1 S', EndEq FS t i S S1 S' ∧ Lk puts τ S1 ∧ Lk puts τ S' ∧ S'.T ≤ (t : Int) ∧ S'.K.length ≤ S1.K.length + 2 * (outG (S1.e i) (i : Int) ((oth i : Nat) : Int) (t : Int) (t : Int)).length := by
  obtain ⟨S1, e1, h1, t1, k1, o1, s1⟩ := recv_ok (t := t) hp hi h
  obtain ⟨S2, e2, h2, t2, x2, g2, k2, l2⟩ := emit_ok (FS := FS) (t := t) hp ht hi h1 (by rw [t1]; exact hT) (hK S1 e1 h1 k1 s1 o1)
  exact ⟨S1, S2, ⟨e1, by unfold endS; rw [e1, Option.bind_some, e2], k1, o1, s1, x2, k2⟩, h1, h2, t2, l2⟩
theorem end_pot {FS : List GF} {puts : List Int} {τ t i N b : Nat} {S : Sys} (hp : puts.length ≤ 60) (ht : t < N) (hN : N ≤ 2000) (hτ : τ ≤ t + 1) (hi : i < 2) (h : Lk puts τ S) (hT : S.T ≤ (t : Int)) (hb : 2 * S.K.length + P2 N S ≤ b) (hb2 : b + 4 ≤ 2000) :
    ∃ S1 S', EndEq FS t i S S1 S' ∧ Lk puts τ S' ∧ S'.T ≤ (t : Int) ∧ 2 * S'.K.length + P2 N S' ≤ b + 4 := by
  rw [P2_eq hi] at hb
  have key : ∀ S1 : Sys, Lk puts τ S1 → S1.K = restL S.K (t : Int) (i : Int) → (S1.e i).ws <:+ (S.e i).ws → 2 * S1.K.length + pot N (curP (t : Int) (S1.e i).ws) + pot N (S.e (oth i)).ws + 4 * (outG (S1.e i) (i : Int) ((oth i : Nat) : Int) (t : Int) (t : Int)).length ≤ b + 4 := fun S1 h1 k1 s1 => by
    have hc := pot_cur ht (S1.e i).ws (fun y hy => by have := h1.tk hp hi y hy; omega)
    have hl := outG_length (S1.e i) (i : Int) ((oth i : Nat) : Int) (t : Int) (t : Int)
    have hk : S1.K.length ≤ S.K.length := by rw [k1]; exact List.length_filter_le _ _
    have hs := pot_suffix (N := N) s1
    omega
  obtain ⟨S1, S2, hE, h1, h2, t2, l2⟩ := end_ok (FS := FS) (t := t) hp (by omega) hi h hT (fun S1 _ h1 k1 s1 _ => by have := key S1 h1 k1 s1; omega)
  have hk := key S1 h1 hE.K1 hE.s1
  refine ⟨S1, S2, hE, h2, t2, ?_⟩
  rw [P2_eq hi, hE.e]
  simp only [updN_same, updN_ne _ _ (oth_two hi).2.2]
  rw [hE.o1]
  omega
/-- what all puts ahead of tick t may bring -/
def bud (N n : Nat) : Nat → Nat
  | 0 => 0
  | t + 1 => bud N n t + (if t < n then N + 3 - t else 0)
def TickEq (FS : List GF) (puts : List Int) (t : Nat) (S S' : Sys) : Prop := ∃ Sa S1 Sb S2, putT puts t S = some Sa ∧ EndEq FS t 0 Sa S1 Sb ∧ EndEq FS t 1 Sb S2 S'
theorem tick_pot {FS : List GF} {puts : List Int} {t N b : Nat} {S : Sys} (hp : puts.length ≤ 60) (ht : t < N) (hN : N ≤ 2000) (h : Lk puts t S) (hT : S.T ≤ (t : Int)) (hb : 2 * S.K.length + P2 N S ≤ b) (hb2 : b + (if t < puts.length then N + 3 - t else 0) + 8 ≤ 2000) :
    ∃ S', tickS FS puts t S = some S' ∧ TickEq FS puts t S S' ∧ Lk puts (t + 1) S' ∧ S'.T ≤ (t : Int) ∧ 2 * S'.K.length + P2 N S' ≤ b + (if t < puts.length then N + 3 - t else 0) + 8 := by
  obtain ⟨S1, e1, h1, t1, k1, g1, w1, n1, p1⟩ := put_ok hp h
  have hb1 : 2 * S1.K.length + P2 N S1 ≤ b + (if t < puts.length then N + 3 - t else 0) := by
    cases hpt : puts[t]? with
    | none => rw [n1 hpt]; omega
    | some p =>
      have htl := (List.getElem?_eq_some_iff.1 hpt).1
      obtain ⟨i, hi, a1, a2⟩ := p1 p hpt
      rw [P2_eq hi, a1, a2, k1, pot_append, if_pos htl]
      rw [P2_eq hi] at hb
      have : pot N [(putM p t (plP puts i t).length, -1)] = N + 3 - t := by
        unfold pot remI
        simp only [List.map_cons, List.map_nil, List.sum_cons, List.sum_nil]
        rw [if_pos (by omega)]
        unfold tkI putM
        simp only
        omega
      omega
  obtain ⟨S1a, S2, e2, h2, t2, b2⟩ := end_pot (FS := FS) (t := t) (N := N) (i := 0) hp ht hN (by omega) (by omega) h1 (by rw [t1]; exact hT) hb1 (by omega)
  obtain ⟨S2a, S3, e3, h3, t3, b3⟩ := end_pot (FS := FS) (t := t) (N := N) (i := 1) hp ht hN (by omega) (by omega) h2 t2 b2 (by omega)
  refine ⟨S3, ?_, ⟨S1, S1a, S2, S2a, e1, e2, e3⟩, h3, t3, by omega⟩
  unfold tickS
  rw [e1, Option.bind_some, e2.run, Option.bind_some, e3.run]
theorem start_ok (puts : List Int) : Lk puts 0 start := by
  refine ⟨fun i hi => ⟨rfl, ⟨0, rfl, by simp [start]⟩, by simp [start, plP], by simp [start, plP]⟩, fun k hk => (by cases hk), fun _ _ => rfl⟩
theorem run_pot {FS : List GF} {puts : List Int} {N : Nat} {Aux : Nat → Sys → Prop} (hA0 : Aux 0 start) (hA : ∀ t S S', t < N → Lk puts t S → Aux t S → TickEq FS puts t S S' → Aux (t + 1) S') (hp : puts.length ≤ 60) (hN : N ≤ 2000) (hB : ∀ t, t < N → bud N puts.length (t + 1) + 8 * (t + 1) ≤ 2000) : ∀ t, t ≤ N → ∃ S, runS FS puts t = some S ∧ Lk puts t S ∧ S.T ≤ (t : Int) ∧ 2 * S.K.length + P2 N S ≤ bud N puts.length t + 8 * t ∧ Aux t S
  | 0, _ => ⟨start, rfl, start_ok puts, by simp [start], by simp [start, P2, pot, bud], hA0⟩
  | t + 1, ht => by
    obtain ⟨S, e, h, hT, hb, ha⟩ := run_pot (FS := FS) hA0 hA hp hN hB t (by omega)
    have h1 := hB t (by omega)
    unfold bud at h1
    obtain ⟨S', e', q', h', hT', hb'⟩ := tick_pot (FS := FS) (t := t) (N := N) hp (by omega) hN h hT hb (by omega)
    refine ⟨S', ?_, h', by omega, ?_, hA t S S' (by omega) h ha q'⟩
    · unfold runS
      rw [e, Option.bind_some, e']
    · unfold bud
      omega
theorem bud60 : ∀ n, n < 31 → ∀ t, t < 60 → bud 60 n (t + 1) + 8 * (t + 1) ≤ 2000 := by decide +kernel
theorem bud46 : ∀ n, n < 21 → ∀ t, t < 46 → bud 46 n (t + 1) + 8 * (t + 1) ≤ 2000 := by decide +kernel
theorem order_run (FS : List GF) {puts : List Int} (hp : puts.length ≤ 30) : ∃ S, runS FS puts 60 = some S ∧ Lk puts 60 S := by
  obtain ⟨S, e, h, _, _, _⟩ := run_pot (FS := FS) (N := 60) (puts := puts) (Aux := fun _ _ => True) trivial (fun _ _ _ _ _ _ _ => trivial) (by omega) (by omega) (bud60 _ (by omega)) 60 (Nat.le_refl _)
  exact ⟨S, e, h⟩
/-- the puts of an end, from a tick on -/
def plR (i : Int) : Nat → Nat → List Int → List GMsg
  | t, n, [] => []
  | t, n, p :: ps => if p % 2 = i then putM p t n :: plR i (t + 1) (n + 1) ps else plR i (t + 1) n ps
theorem plP_R (puts : List Int) (i : Nat) : ∀ t, plP puts i t ++ plR (i : Int) t (plP puts i t).length (puts.drop t) = plR (i : Int) 0 0 puts
  | 0 => rfl
  | t + 1 => by
    rw [← plP_R puts i t]
    cases hpt : puts[t]? with
    | none =>
      have : puts.length ≤ t := List.getElem?_eq_none_iff.1 hpt
      simp only [plP, hpt]
      rw [List.drop_eq_nil_of_le (by omega), List.drop_eq_nil_of_le (by omega)]
      rfl
    | some p =>
      obtain ⟨ht, rfl⟩ := List.getElem?_eq_some_iff.1 hpt
      rw [List.drop_eq_getElem_cons ht]
      simp only [plP, hpt, plR]
      split
      · rw [List.append_assoc, List.length_append]
        rfl
      · rfl
theorem plP_all (puts : List Int) (i T : Nat) (hT : puts.length ≤ T) : plP puts i T = plR (i : Int) 0 0 puts := by
  rw [← plP_R puts i T, List.drop_eq_nil_of_le hT]
  simp [plR]
/-- what begins says -/
def begF (i : Int) : Nat → List Int → List GMsg → Bool
  | t, [], l => l.isEmpty
  | t, p :: ps, [] => true
  | t, p :: ps, m :: l => if p % 2 = i then (if m.kind = (p.tdiv 2) % 3 ∧ m.cells = [((p.tdiv 6) % 9, ((t : Int) % 60))] then begF i (t + 1) ps l else false) else begF i (t + 1) ps (m :: l)
theorem begF_true (i : Int) : ∀ (ps : List Int) (t n w : Nat) (l : List GMsg), l.map (clkM 0) = (plR i t n ps).take w → begF i t ps l = true
  | [], t, n, w, l, h => by
    simp only [plR, List.take_nil, List.map_eq_nil_iff] at h
    subst h
    rfl
  | p :: ps, t, n, w, [], h => rfl
  | p :: ps, t, n, w, m :: l, h => by
    unfold begF
    by_cases hpi : p % 2 = i
    · rw [if_pos hpi]
      simp only [plR, if_pos hpi] at h
      cases w with
      | zero => cases h
      | succ w =>
        rw [List.take_succ_cons, List.map_cons] at h
        injection h with h1 h2
        have hk : m.kind = (p.tdiv 2) % 3 := by
          have : (clkM 0 m).kind = (putM p t n).kind := by rw [h1]
          exact this
        have hc : m.cells = [((p.tdiv 6) % 9, ((t : Int) % 60))] := by
          have : (clkM 0 m).cells = (putM p t n).cells := by rw [h1]
          exact this
        rw [if_pos ⟨hk, hc⟩]
        exact begF_true i ps (t + 1) (n + 1) w l h2
    · rw [if_neg hpi]
      simp only [plR, if_neg hpi] at h
      exact begF_true i ps (t + 1) n w (m :: l) h
/-- LinkOrder's plain law -/
theorem order_law {puts : List Int} {T : Nat} {S : Sys} (h : Lk puts T S) (hT : puts.length ≤ T) (i : Nat) (hi : i < 2) : begF ((oth i : Nat) : Int) 0 puts (S.g i) = true := by
  have h1 := (h.rc i hi).got
  rw [h.gs i hi, List.append_nil, plP_all puts (oth i) T hT] at h1
  exact begF_true _ puts 0 0 _ _ h1
end Go.Proofs.Ytpnefacignalpaa

namespace Go.Gy
open Go Go.RowKit
section
variable {P : Program} {ops : Array Oper} {Q : Exit → Act → World → Prop} {o : Oper} {rest : List Oper} {a : Act} {w : World}
/-- x = x[1:], of a row that begins anywhere -/
theorem wpList_tailO (hgd : o.guard = none) (t : TypeId) (s : Operand) (ho : o.op = .slice t s (some (.const (.int .i64 1))) none none) (size : Nat)
    (hu : P.underlying t = some (.slice (P.elem t))) (hr : ∀ w, (sizeOf (P.elem t)).run P w = .ok size w) (g off n c : Nat) (hs : a.eval s = .slice (some ⟨g, off, none⟩) (n + 1) c) (hc : 0 < c) (hcn : n + 1 ≤ c) (Aq : Addr) (hAq : Aq = if c = 1 then ⟨g, off, none⟩ else ⟨g, off + size, none⟩)
    (h : wpList P ops Q rest (a.put o.dst (.slice (some Aq) n (c - 1))) w) : wpList P ops Q (o :: rest) a w := by
  subst hAq
  refine wpList_plain hgd fun _ hK => ?_
  have hrun : (Instr.slice t (.slice (some ⟨g, off, none⟩) (n + 1) c) (some (.int .i64 1)) none none).run P w = .ok (.slice (some (if c = 1 then ⟨g, off, none⟩ else ⟨g, off + size, none⟩)) n (c - 1)) w := by
    rw [run_slice_l w t _ _ _ hu .i64 1 (by omega) (by omega), hr]
    simp only [Result.andThen, sliced, Int.toNat_one, Nat.one_mul]
    by_cases h1 : c = 1
    · subst h1
      simp
    · rw [if_neg h1]
      simp [add_none]
      intro h2
      omega
  unfold Oper.wp execOp
  have hx1 : a.eval (Operand.const (.int .i64 1)) = .int .i64 1 := rfl
  simp only [ho, hs, hx1, Option.map_none, Option.map_some, run_sliceAt_slice w t _ _ _ _ hu, hrun, Sem.run_bind, Sem.run_pure, Result.andThen_ok]
  exact hK _ _ h
end
end Go.Gy
namespace Go.Proofs.Ytpnefacignalpaa
open Go.RowKit Go.Gy
set_option linter.unusedVariables false
set_option linter.unusedSimpArgs false
theorem exec_litC {ev : Operand → Value} {o : Oper} {W : World} (x : Operand) (ho : o.op = .buildSlice 41 1 #[(0, x)]) (k q : Int) (hx : ev x = .agg #[.int .i64 k, .int .i64 q]) :
    (execOp ev o).run Try.prog W = .ok (.value (.slice (some ⟨W.heap.size, 0, none⟩) 1 1)) (W.alloc (.cells #[.int .i64 k, .int .i64 q] 88)) := by
  unfold execOp
  simp only [ho, List.map_toArray, List.map_cons, List.map_nil, hx]
  go_simp
theorem size_msgs (w : World) : (sizeOf (Try.prog.elem 23)).run Try.prog w = .ok 6 w := by
  obtain ⟨i, hi, _⟩ := info_parts info_msgI
  exact (run_sizeOf (w := w) (show Try.prog.info? (Try.prog.elem 23) = some i from hi)).trans (congrArg (fun n => Result.ok n w) (by kernel_rfl))
def BgRel (w : World) (b : Nat) (i : Nat) (l : List Int) (L : List SM) (u k : Value) (wr : World) : Prop := ∃ (t : Nat) (M : List SM), t ≤ l.length ∧ k = .int .i64 t ∧ OffRow wr b 43 6 u M.length (M.flatMap encM) ∧ (∀ s ∈ M, s ∈ L) ∧ begF (i : Int) t (l.drop t) (M.map (·.m)) = true ∧ Below w.heap.size w wr
set_option maxRecDepth 100000 in
set_option maxHeartbeats 4000000 in
theorem begins_any (w : World) (u : Value) (L : List SM) (b : Nat) (hu : w.ownsRow b 43 6 u L.length (L.flatMap encM)) (hm : ∀ s ∈ L, MsgAt w w.heap.size s.m s.A s.n s.c) (A0 : Option Addr) (n0 c0 : Nat) (l : List Int) (hl : l.length = n0) (hr0 : Rd w w.heap.size 1 A0 n0 (l.map iv)) (hn0 : n0 ≤ 1000) (hin : ∀ x ∈ l, -9223372036854775808 ≤ x ∧ x ≤ 9223372036854775807) (i : Nat) (hi : i < 2) (hb : begF (i : Int) 0 l (L.map (·.m)) = true) :
    Calls Try.prog 25 #[u, .slice A0 n0 c0, .int .i64 (i : Int)] w fun e w' => e = .returned (.bool true) ∧ Below w.heap.size w w' := by
  have HL := Lib.hid (show ∀ W, Below w.heap.size w W → Rd W w.heap.size 1 A0 n0 (l.map iv) from fun W hW => hr0.below hW)
  have HLL := Lib.hid hl
  have HIN := Lib.hid hin
  have HM := Lib.hid (show ∀ W, Below w.heap.size w W → ∀ s ∈ L, MsgAt W W.heap.size s.m s.A s.n s.c from fun W hW s hs => ((hm s hs).below hW).more hW.size)
  have HB := Lib.hid hb
  have HU := Lib.hid (OffRow.of_own hu)
  clear hl hr0 hin hm hb hu
  go_enter Try.func25, Try.ntmps25
  go_wp2_with fail
  go_loopw [0, 12] (fun u k wr => BgRel w b i l L u k wr) (fun _ k _ => n0 - (intOf k).toNat)
  case atStart => exact ⟨0, L, Nat.zero_le _, rfl, HU.out, fun s hs => hs, by rw [List.drop_zero]; exact HB.out, Below.refl _ _⟩
  case round =>
    obtain ⟨t, M, ht, rfl, hro, hML, hbg, hbr⟩ := hrel
    have hzr := hbr.size
    by_cases hlt : t < n0
    · have hlt' : (t : Int) < (n0 : Int) := by omega
      have htl : t < l.length := by have := HLL.out; omega
      obtain ⟨p, hp⟩ : ∃ p, l[t]? = some p := ⟨_, List.getElem?_eq_getElem htl⟩
      have hdr : l.drop t = p :: l.drop (t + 1) := by
        obtain ⟨h1, h2⟩ := List.getElem?_eq_some_iff.1 hp
        rw [List.drop_eq_getElem_cons h1, h2]
      have hpr := HIN.out p (List.mem_of_getElem? hp)
      obtain ⟨bp, op, rfl, HC0⟩ : ∃ bp op, A0 = some ⟨bp, op, none⟩ ∧ Hid (∀ W, Below w.heap.size w W → W.cell? ⟨bp, op + t, none⟩ = some (.int .i64 p)) := by
        obtain ⟨b2, o2, e2, h2, h3⟩ := (HL.out w (Below.refl _ _)).2 (by omega)
        refine ⟨b2, o2, e2, Lib.hid fun W hW => ?_⟩
        have h4 : (l.map iv)[t]? = some (.int .i64 p) := by rw [List.getElem?_map, hp]; rfl
        exact (hW.cell (p := ⟨b2, o2 + t, none⟩) h2).trans (h3 t _ h4)
      have hc0 := HC0.out wr hbr
      rw [hdr] at hbg
      obtain ⟨p2, hp2⟩ : ∃ z, z = p.tdiv 2 := ⟨_, rfl⟩
      obtain ⟨p6, hp6⟩ : ∃ z, z = p.tdiv 6 := ⟨_, rfl⟩
      obtain ⟨pk, hpk⟩ : ∃ z, z = p2 % 3 := ⟨_, rfl⟩
      obtain ⟨px, hpx⟩ : ∃ z, z = p6 % 9 := ⟨_, rfl⟩
      obtain ⟨q60, hq60⟩ : ∃ z : Int, z = (t : Int) % 60 := ⟨_, rfl⟩
      obtain ⟨pb, hpb⟩ : ∃ z : Int, z = p % 2 := ⟨_, rfl⟩
      have HB2 := Lib.hid (fun W => show Calls Try.prog 15 #[.int .i64 p, .int .i64 2] W fun e w' => e = .returned (.int .i64 pb) ∧ W = w' from by rw [hpb]; exact below_any p 2 W (by omega) (by omega))
      have HB3 := Lib.hid (fun W => show Calls Try.prog 15 #[.int .i64 p2, .int .i64 3] W fun e w' => e = .returned (.int .i64 pk) ∧ W = w' from by rw [hpk]; exact below_any p2 3 W (by omega) (by omega))
      have HB9 := Lib.hid (fun W => show Calls Try.prog 15 #[.int .i64 p6, .int .i64 9] W fun e w' => e = .returned (.int .i64 px) ∧ W = w' from by rw [hpx]; exact below_any p6 9 W (by omega) (by omega))
      have h2d : p.tdiv 2 = p2 ∧ IntKind.i64.wrap p2 = p2 := ⟨hp2.symm, by have := tdiv_pm p 2 (by omega); rw [← hp2] at this; rw [IntKind.wrap_i64]; split at this <;> omega⟩
      have h6d : p.tdiv 6 = p6 ∧ IntKind.i64.wrap p6 = p6 := ⟨hp6.symm, by have := tdiv_pm p 6 (by omega); rw [← hp6] at this; rw [IntKind.wrap_i64]; split at this <;> omega⟩
      have h60d : (t : Int).tmod 60 = q60 ∧ IntKind.i64.wrap q60 = q60 := ⟨by rw [Int.tmod_eq_emod_of_nonneg (by omega), hq60], by rw [IntKind.wrap_i64]; omega⟩
      have hpb2 : 0 ≤ pb ∧ pb < 2 := by omega
      have HTL := Lib.hid htl
      cases M with
      | nil =>
        obtain ⟨A, c, rfl, _, _, hAc, _⟩ := hro.rd
        clear hp htl hdr hpr hbg hp2 hp6 hpk hpx hq60 hpb h2d h6d h60d hML hro hAc
        have Hbr := Lib.hid hbr
        clear hbr
        simp only [List.length_nil]
        go_wp2_with fail
        go_ret
        exact ⟨rfl, Hbr.out⟩
      | cons s M =>
        obtain ⟨⟨mk, ms, md, mq, mt, ml⟩, A7, n7, c7⟩ := s
        obtain ⟨A, c, rfl, hnc, hcm, hAc, hrd⟩ := hro.rd
        obtain ⟨g, o, rfl, hc1, hpop⟩ := hro.pop
        obtain ⟨Aq, hAq⟩ : ∃ Aq : Addr, Aq = if c = 1 then ⟨g, o, none⟩ else ⟨g, o + 6, none⟩ := ⟨_, rfl⟩
        rw [← hAq] at hpop
        have HAQ := Lib.hid hAq
        clear hAq
        have hmm := HM.out wr hbr _ (hML _ (List.mem_cons_self ..))
        have hML2 : ∀ s ∈ M, s ∈ L := fun s hs => hML s (List.mem_cons_of_mem _ hs)
        obtain ⟨g', o', e', hgs, hcc⟩ := hrd.2 (by simp)
        cases e'
        have c0 : wr.cell? ⟨g, o, none⟩ = some (.int .i64 mk) := hcc 0 _ rfl
        have c1 : wr.cell? ⟨g, o + 1, none⟩ = some (.int .i64 ms) := hcc 1 _ rfl
        have c2 : wr.cell? ⟨g, o + 2, none⟩ = some (.int .i64 md) := hcc 2 _ rfl
        have c3 : wr.cell? ⟨g, o + 3, none⟩ = some (.int .i64 mq) := hcc 3 _ rfl
        have c4 : wr.cell? ⟨g, o + 4, none⟩ = some (.int .u32 mt) := hcc 4 _ rfl
        have c5 : wr.cell? ⟨g, o + 5, none⟩ = some (.slice A7 n7 c7) := hcc 5 _ rfl
        have HRO := Lib.hid hro
        have HPOP := Lib.hid hpop
        have HML := Lib.hid hML
        have HML2 := Lib.hid hML2
        have HMM := Lib.hid hmm
        have Hbr := Lib.hid hbr
        clear hcc hrd hpop hro hML hML2 hmm hbr hAc
        by_cases hpi : pb = (i : Int)
        · subst hpi
          have hbb : mk = pk ∧ ml = [(px, q60)] ∧ begF (i : Int) (t + 1) (l.drop (t + 1)) (M.map (·.m)) = true := by
            rw [List.map_cons] at hbg
            unfold begF at hbg
            rw [if_pos hpb.symm] at hbg
            split at hbg
            · rename_i hh
              exact ⟨by rw [hpk, hp2]; exact hh.1, by rw [hpx, hp6, hq60]; exact hh.2, hbg⟩
            · cases hbg
          obtain ⟨rfl, rfl, hbg2⟩ := hbb
          have HBG := Lib.hid hbg2
          obtain ⟨h2a, h2b⟩ := h2d
          obtain ⟨h6a, h6b⟩ := h6d
          obtain ⟨h60a, h60b⟩ := h60d
          obtain rfl : n7 = 1 := HMM.out.len.symm
          clear hp htl hdr hpr hbg hbg2 hp2 hp6 hpk hpx hq60 hpb
          simp only [List.length_cons]
          go_wp2_with fail
          refine (HB2.out _).mono ?_
          rintro e w1 ⟨rfl, rfl⟩
          go_upto_region 8 with (fail)
          have hI := (In.start wr).alloc 43 #[.int .i64 mk, .int .i64 ms, .int .i64 md, .int .i64 mq, .int .u32 mt, .slice A7 1 c7]
          generalize wr.alloc (.cells #[.int .i64 mk, .int .i64 ms, .int .i64 md, .int .i64 mq, .int .u32 mt, .slice A7 1 c7] 43) = w7 at hI ⊢
          clear c0 c1 c2 c3 c4 c5 hc0
          have HK3 := Lib.hid (fun W (hW : Below wr.heap.size wr W) => show Calls Try.prog 15 #[.int .i64 p2, .int .i64 3] W (fun e w' => e = .returned (.int .i64 mk) ∧ Below W.heap.size W w') from (HB3.out W).mono fun e w' h => ⟨h.1, by rw [← h.2]; exact Below.refl _ _⟩)
          have HK9 := Lib.hid (fun W (hW : Below wr.heap.size wr W) => show Calls Try.prog 15 #[.int .i64 p6, .int .i64 9] W (fun e w' => e = .returned (.int .i64 px) ∧ Below W.heap.size W w') from (HB9.out W).mono fun e w' h => ⟨h.1, by rw [← h.2]; exact Below.refl _ _⟩)
          have HIW := Lib.hid hI
          clear hI
          go_upto_region 9 with (refine wpList_tailO rfl 23 _ rfl 6 (by kernel_rfl) size_msgs g o M.length c rfl hc1 hnc Aq HAQ.out ?_)
          have hI := HIW.out
          refine wp_region_seq_float (In wr [(wr.heap.size, 43, #[.int .i64 mk, .int .i64 ms, .int .i64 md, .int .i64 mq, .int .u32 mt, .slice A7 1 c7])]) (fun _ _ h hb => h.call hb) (fun v W => ∃ g, v = .slice (some ⟨g, 0, none⟩) 1 1 ∧ In wr [(g, 88, #[.int .i64 px, .int .i64 q60]), (wr.heap.size, 43, #[.int .i64 mk, .int .i64 ms, .int .i64 md, .int .i64 mq, .int .u32 mt, .slice A7 1 c7])] W) (fun v _ _ ⟨g, hv, h⟩ hb => ⟨g, hv, h.call hb⟩) (fun v _ ⟨g, _, h⟩ => h.tail) 15 _ (by kernel_rfl) (by kernel_rfl) rfl hI.drew ?_
          simp only [List.take_succ_cons, List.take_zero, List.drop_succ_cons, List.drop_zero]
          clear hI
          repeat (first
            | (refine wpSeq_off (by rfl) ?_; try simp only [Act.put, List.setIfInBounds_toArray, List.set_cons_zero, List.set_cons_succ])
            | (refine wpSeq_val (v := ?_) (by rfl) (fun W hS => ?_) ?_
               rotate_left
               · (have fx := hS.facts; simp only [factsOf, cellsOf, Nat.zero_add, Nat.reduceAdd] at fx; clear hS; go_simp; first | done | with_reducible rfl)
               try simp only [Act.put, List.setIfInBounds_toArray, List.set_cons_zero, List.set_cons_succ]))
          refine wpSeq_call (v := .int .i64 mk) (by rfl) (fun W hS => ?_) (fun W hS => (HK3.out W hS.bel)) ?_
          · (clear hS; go_simp; done)
          try simp only [Act.put, List.setIfInBounds_toArray, List.set_cons_zero, List.set_cons_succ]
          repeat (first
            | (refine wpSeq_off (by rfl) ?_; try simp only [Act.put, List.setIfInBounds_toArray, List.set_cons_zero, List.set_cons_succ])
            | (refine wpSeq_val (v := ?_) (by rfl) (fun W hS => ?_) ?_
               rotate_left
               · (have fx := hS.facts; simp only [factsOf, cellsOf, Nat.zero_add, Nat.reduceAdd] at fx; clear hS; go_simp; first | done | with_reducible rfl)
               try simp only [Act.put, List.setIfInBounds_toArray, List.set_cons_zero, List.set_cons_succ]))
          refine wpSeq_call (v := .int .i64 px) (by rfl) (fun W hS => ?_) (fun W hS => (HK9.out W hS.bel)) ?_
          · (clear hS; go_simp; done)
          try simp only [Act.put, List.setIfInBounds_toArray, List.set_cons_zero, List.set_cons_succ]
          repeat (first
            | (refine wpSeq_off (by rfl) ?_; try simp only [Act.put, List.setIfInBounds_toArray, List.set_cons_zero, List.set_cons_succ])
            | (refine wpSeq_val (v := ?_) (by rfl) (fun W hS => ?_) ?_
               rotate_left
               · (have fx := hS.facts; simp only [factsOf, cellsOf, Nat.zero_add, Nat.reduceAdd] at fx; clear hS; go_simp; first | done | with_reducible rfl)
               try simp only [Act.put, List.setIfInBounds_toArray, List.set_cons_zero, List.set_cons_succ]))
          refine wpSeq_nil ⟨rfl, fun W hS => ⟨_, _, exec_litC _ rfl px q60 rfl, _, rfl, hS.alloc _ _⟩, fun v W ⟨gL, hv, hI⟩ => ?_⟩
          subst hv
          simp only [List.setIfInBounds_toArray, List.set_cons_zero, List.set_cons_succ]
          have HEQ := Lib.hid (show Calls Try.prog 37 #[.slice A7 1 c7, .slice (some ⟨gL, 0, none⟩) 1 1] W (fun e w' => e = .returned (.bool true) ∧ ∃ q, w' = W.drewN q) from
            (equal_cells W A7 (some ⟨gL, 0, none⟩) 1 1 c7 1 W.heap.size [(px, q60)] [(px, q60)] rfl rfl (by omega) (by omega) ((HMM.out.below hI.bel).more hI.bel.size).rd ⟨rfl, fun _ => ⟨gL, 0, rfl, (hI.blkAt (k := 0) rfl).lt, fun j v hv => by
              rw [Nat.zero_add]
              exact (hI.blkAt (k := 0) rfl).cell j v (by simpa [encC] using hv)⟩⟩).mono fun e w' h => ⟨by rw [h.1, decide_eq_true rfl], h.2⟩)
          have hWb := hI.bel
          have HX := Lib.hid (show ∀ q, BgRel w b i l L (.slice (some Aq) M.length (c - 1)) (.int .i64 ((t : Int) + 1)) (W.drewN q) from fun q => ⟨t + 1, M, HTL.out, by simp, (HPOP.out.below hWb).below (below_drewN (Below.refl _ _) q), HML2.out, HBG.out, (Hbr.out.trans (hWb.mono hzr)).trans ((below_drewN (Below.refl _ _) q).mono (Nat.le_trans hzr hWb.size))⟩)
          clear hI hWb HPOP HML HML2 HRO HMM Hbr HIW HK3 HK9 HBG
          go_wp2_with fail
          refine HEQ.out.mono ?_
          rintro e w8 ⟨rfl, q, rfl⟩
          go_wp2_with fail
          go_roundw
          case rel => exact HX.out q
          case measure => simp [intOf]; omega
        · have HBG : Hid (begF (i : Int) (t + 1) (l.drop (t + 1)) ((⟨⟨mk, ms, md, mq, mt, ml⟩, A7, n7, c7⟩ :: M).map (·.m)) = true) := Lib.hid (by
            rw [List.map_cons] at hbg
            unfold begF at hbg
            rw [← hpb, if_neg hpi] at hbg
            exact hbg)
          have hpi1 : (pb == (i : Int)) = false := by simpa using hpi
          clear hp htl hdr hpr hbg hp2 hp6 hpk hpx hq60 hpb h2d h6d h60d c0 c1 c2 c3 c4 c5
          simp only [List.length_cons]
          go_wp2_with fail
          refine (HB2.out _).mono ?_
          rintro e w1 ⟨rfl, rfl⟩
          go_wp2_with fail
          go_roundw
          case rel => exact ⟨t + 1, ⟨⟨mk, ms, md, mq, mt, ml⟩, A7, n7, c7⟩ :: M, HTL.out, by go_num, HRO.out, HML.out, HBG.out, Hbr.out⟩
          case measure => simp [intOf]; omega
    · obtain rfl : t = n0 := by have := HLL.out; omega
      have hdr : l.drop t = [] := List.drop_eq_nil_of_le (by have := HLL.out; omega)
      rw [hdr] at hbg
      obtain rfl : M = [] := by
        cases M with
        | nil => rfl
        | cons s M => simp [begF] at hbg
      obtain ⟨A, c, rfl, _, _, hAc, _⟩ := hro.rd
      clear hro hAc hdr hbg hML
      have Hbr := Lib.hid hbr
      clear hbr
      simp only [List.length_nil]
      go_wp2_with fail
      go_ret
      exact ⟨rfl, Hbr.out⟩
end Go.Proofs.Ytpnefacignalpaa

namespace Go.Proofs.Ytpnefacignalpaa
open Go.RowKit Go.Gy
set_option linter.unusedVariables false
theorem first_dec : (match runS [] [0] 6 with | some S => (S.g 1).length == 1 && (S.e 0).ws.isEmpty | none => false) = true := by decide +kernel
theorem first_ok : ∃ S, runS [] [0] 6 = some S ∧ (S.g 1).length = 1 ∧ (S.e 0).ws = [] := by
  have h := first_dec
  cases hr : runS [] [0] 6 with
  | none => rw [hr] at h; cases h
  | some S =>
    rw [hr] at h
    simp only [Bool.and_eq_true, beq_iff_eq, List.isEmpty_iff] at h
    exact ⟨S, rfl, h.1, h.2⟩
def FirstPost (w : World) (e : Ending) (w' : World) : Prop := (∃ (A0 : Option Addr) (n0 c0 : Nat) (A1 : Option Addr) (c1 : Nat) (x : Int), e = .returned (.tuple #[.agg #[.slice A0 n0 c0, .slice A1 1 c1], .agg #[.int .i64 0, .int .i64 x], .bool true])) ∧ Below w.heap.size w w'
theorem linked_first (w : World) : Calls Try.prog 24 #[.slice none 0 0, .slice (some ⟨w.heap.size, 0, none⟩) 1 1, .int .i64 6] (w.alloc (.cells #[.int .i64 0] 3)) (FirstPost w) := by
  obtain ⟨S0, hS0, hg0, hw0⟩ := first_ok
  have hba : Below w.heap.size w (w.alloc (.cells #[.int .i64 0] 3)) := (Below.refl _ _).alloc (Nat.le_refl _) _
  have hR : Rd (w.alloc (.cells #[.int .i64 0] 3)) (w.alloc (.cells #[.int .i64 0] 3)).heap.size 1 (some ⟨w.heap.size, 0, none⟩) 1 ([0].map iv) := by
    have h := Rd.lit w 3 [.int .i64 0] 1 1 rfl
    rw [World.size_alloc]
    exact h
  refine (linked_any _ none 0 0 [] (fun _ => ⟨rfl, rfl⟩) rfl (by omega) ⟨rfl, fun h => absurd h (by omega)⟩ _ 1 1 [0] rfl hR (by omega) (fun x hx => ?_) 6 (by omega) (by rw [hS0]; rfl)).mono fun e w' h => ?_
  · obtain rfl := List.mem_singleton.1 hx
    omega
  · obtain ⟨S, u, gl, hS, rfl, hg, hb⟩ := h
    rw [hS0] at hS
    cases hS
    obtain ⟨A0, c0, h0, _⟩ := own_rd (hg 0 (by omega)).1
    obtain ⟨A1, c1, h1, _⟩ := own_rd (hg 1 (by omega)).1
    have hl : (gl 1).length = 1 := by
      have := congrArg List.length (hg 1 (by omega)).2.2
      rw [List.length_map, hg0] at this
      exact this
    rw [hl] at h1
    refine ⟨⟨A0, (gl 0).length, c0, A1, c1, ((S0.e 1).ws.length : Int), ?_⟩, hba.trans (hb.mono (by rw [World.size_alloc]; omega))⟩
    rw [h0, h1, hw0]
    rfl
def OrderPost (w : World) (l : List Int) (e : Ending) (w' : World) : Prop := ∃ (A0 : Option Addr) (c0 : Nat) (A1 : Option Addr) (c1 : Nat) (x y : Int) (g0 g1 : List SM), e = .returned (.tuple #[.agg #[.slice A0 g0.length c0, .slice A1 g1.length c1], .agg #[.int .i64 x, .int .i64 y], .bool true]) ∧
  (w'.ownsRow w.heap.size 43 6 (.slice A0 g0.length c0) g0.length (g0.flatMap encM) ∧ (∀ s ∈ g0, MOwn w' w.heap.size s) ∧ begF ((1 : Nat) : Int) 0 l (g0.map (·.m)) = true) ∧
  (w'.ownsRow w.heap.size 43 6 (.slice A1 g1.length c1) g1.length (g1.flatMap encM) ∧ (∀ s ∈ g1, MOwn w' w.heap.size s) ∧ begF ((0 : Nat) : Int) 0 l (g1.map (·.m)) = true) ∧ Below w.heap.size w w'
theorem linked_order (w : World) (Af : Option Addr) (nf cf : Nat) (FS : List GF) (hA : Af = none → nf = 0 ∧ cf = 0) (hFl : FS.length = nf) (hnf : nf ≤ 5864062014805) (hFd : Rd w w.heap.size 3 Af nf (FS.flatMap encF)) (A0 : Option Addr) (n0 c0 : Nat) (l : List Int) (hl : l.length = n0) (hr0 : Rd w w.heap.size 1 A0 n0 (l.map iv)) (hn0 : n0 ≤ 30) (hin : ∀ x ∈ l, -9223372036854775808 ≤ x ∧ x ≤ 9223372036854775807) :
    Calls Try.prog 24 #[.slice Af nf cf, .slice A0 n0 c0, .int .i64 60] w (OrderPost w l) := by
  obtain ⟨S0, hS0, hlk⟩ := order_run FS (puts := l) (by omega)
  refine (linked_any w Af nf cf FS hA hFl hnf hFd A0 n0 c0 l hl hr0 (by omega) hin 60 (by omega) (by rw [hS0]; rfl)).mono fun e w' h => ?_
  obtain ⟨S, u, gl, hS, rfl, hg, hb⟩ := h
  rw [hS0] at hS
  cases hS
  obtain ⟨h01, h02, h03⟩ := hg 0 (by omega)
  obtain ⟨h11, h12, h13⟩ := hg 1 (by omega)
  obtain ⟨A0', c0', h0, _⟩ := own_rd h01
  obtain ⟨A1', c1', h1, _⟩ := own_rd h11
  have b0 := order_law hlk (by omega) 0 (by omega)
  have b1 := order_law hlk (by omega) 1 (by omega)
  rw [← h03] at b0
  rw [← h13] at b1
  rw [h0] at h01
  rw [h1] at h11
  exact ⟨A0', c0', A1', c1', ((S0.e 0).ws.length : Int), ((S0.e 1).ws.length : Int), gl 0, gl 1, by rw [h0, h1], ⟨h01, h02, b0⟩, ⟨h11, h12, b1⟩, hb⟩
end Go.Proofs.Ytpnefacignalpaa

namespace Go.Proofs.Ytpnefacignalpaa
open Go.RowKit Go.Gy
set_option linter.unusedVariables false
theorem run_slice_to {P : Program} (t : TypeId) (s : Nat) (ht : P.underlying t = some (.slice (P.elem t))) (hs : ∀ w, (sizeOf (P.elem t)).run P w = .ok s w) (A : Option Addr) (N C k : Nat) (hk : k ≤ C) (w : World) :
    (Instr.slice t (.slice A N C) none (some (.int .i64 (k : Int))) none).run P w = .ok (.slice A k C) w := by
  rw [run_slice_h w t A N C ht .i64 k (by omega) (by omega), hs]
  simp only [Result.andThen, sliced, Nat.zero_mul, Int.toNat_natCast, Nat.sub_zero]
  split
  · rfl
  · cases A <;> rfl
section
variable {P : Program} {ops : Array Oper} {rest : List Oper} {o : Oper} {a : Act} {w : World} {Q : Exit → Act → World → Prop}
theorem wpList_slice_to (hgd : o.guard = none) (t : TypeId) (s x : Operand) (ho : o.op = .slice t s none (some x) none) (A : Option Addr) (N C k : Nat) (hs : a.eval s = .slice A N C) (hx : a.eval x = .int .i64 (k : Int))
    (hu : P.underlying t = some (.slice (P.elem t))) (hr : ∀ w, (Instr.slice t (.slice A N C) none (some (.int .i64 (k : Int))) none).run P w = .ok (.slice A k C) w)
    (h : wpList P ops Q rest (a.put o.dst (.slice A k C)) w) : wpList P ops Q (o :: rest) a w :=
  wpList_plain hgd fun _ hK => by
    unfold Oper.wp execOp
    simp only [ho, hs, hx, Option.map_none, Option.map_some, run_sliceAt_slice w t _ _ _ _ hu, hr, Sem.run_bind, Sem.run_pure, Result.andThen_ok]
    exact hK _ _ h
theorem wpList_min2 (hgd : o.guard = none) (x y : Operand) (ts : Array TypeId) (ho : o.op = .call { callee := .builtin .min, args := #[x, y], argTypes := ts }) (n m : Int) (hx : a.eval x = .int .i64 n) (hy : a.eval y = .int .i64 m) (k : Int) (hk : min n m = k)
    (h : wpList P ops Q rest (a.put o.dst (.int .i64 k)) w) : wpList P ops Q (o :: rest) a w :=
  wpList_plain hgd fun _ hK => by
    have e : (if m < n then m else n) = k := by rw [← hk]; split <;> omega
    unfold Oper.wp execOp
    simp only [ho, resolve, invoke, builtin, Sem.run_bind, Sem.run_pure, Result.andThen_ok, List.map_toArray, List.map_cons, List.map_nil, hx, hy, run_min_int2, e]
    exact hK _ _ h
end
set_option maxRecDepth 100000 in
theorem size_int' (w : World) : (sizeOf (Try.prog.elem 29)).run Try.prog w = .ok 1 w := by
  obtain ⟨i, hi, _⟩ := info_parts info_int
  exact (run_sizeOf (w := w) (show Try.prog.info? (Try.prog.elem 29) = some i from hi)).trans (congrArg (fun n => Result.ok n w) (by kernel_rfl))
theorem ints_to (A : Option Addr) (N C k : Nat) (hk : k ≤ C) (w : World) : (Instr.slice 29 (.slice A N C) none (some (.int .i64 (k : Int))) none).run Try.prog w = .ok (.slice A k C) w :=
  run_slice_to 29 1 (by kernel_rfl) size_int' A N C k hk w
end Go.Proofs.Ytpnefacignalpaa

namespace Go.Proofs.Ytpnefacignalpaa
open Go.RowKit Go.Gy Go.WideShapes
set_option linter.unusedVariables false
theorem arg_faultsl {H : Type} {enc : TypeId × Value → H} {W : World} {v : Value} {d : DataW H} {p : List MemPlace} {r : Reach} {b0 : Nat} (hv : Value.okWide Try.prog W r b0 36 v) (h : DataW.Trod enc Try.prog W 0 (fun _ => true) true 36 v d p) (hw : ∀ m ∈ d.weights Try.prog 36, m ≤ reachBytes) : SlArg Go.Gy.encF wfF 3 24 W v (bulk d) :=
  arg_faults Try.underlying36 Try.underlying66 Try.underlying3 (by kernel_rfl) (by exact ⟨rfl, by kernel_rfl⟩) (by exact ⟨rfl, by kernel_rfl⟩) (by exact ⟨rfl, by kernel_rfl⟩) rfl rfl rfl (by kernel_rfl) hv h hw
end Go.Proofs.Ytpnefacignalpaa

namespace Go.Proofs.Ytpnefacignalpaa.linkOrder
open Go.RowKit Go.Gy
set_option linter.unusedVariables false
set_option linter.unusedSimpArgs false
set_option maxRecDepth 100000 in
set_option maxHeartbeats 8000000 in
theorem walk (v0 v1 : Value) (w : World) {b0 b1 : Nat} (f0 : SlArg Go.Gy.encF wfF 3 24 w v0 b0) (f1 : IntsArg w v1 b1) :
    Calls Try.prog 8 #[v0, v1] w fun e w' => e = .returned (.bool true) ∧ Below w.heap.size w w' := by
  obtain ⟨Af, nf, cf, FS, rfl, hFl, _, _, hFr, _, hFn, hFd, _⟩ := f0
  obtain ⟨l, ⟨A0, n0, c0, rfl, hl0, hn0, hA0, hr0⟩, hin, _, _⟩ := f1
  obtain ⟨N, hN⟩ : ∃ N : Nat, N = min n0 30 := ⟨_, rfl⟩
  have HMIN := Lib.hid (show min ((n0 : Nat) : Int) 30 = (N : Int) by omega)
  have HTO := Lib.hid (ints_to A0 n0 c0 N (by omega))
  have hrt : Rd w w.heap.size 1 A0 N ((l.take N).map iv) := by
    have h := hr0.take (k := N) (by omega)
    simpa [List.map_take] using h
  have HORD := Lib.hid (show ∀ W, Below w.heap.size w W → _ from fun W (hW : Below w.heap.size w W) => linked_order W Af nf cf FS (fun h => ⟨by have := hFn h; omega, hFn h⟩) hFl (by unfold reachBytes at *; omega) ((hFd.below hW).more hW.size) A0 N c0 (l.take N) (by rw [List.length_take]; omega) ((hrt.below hW).more hW.size) (by omega) (fun x hx => hin x (List.mem_of_mem_take hx)))
  have HBG := Lib.hid (show ∀ W, Below w.heap.size w W → _ from fun W (hW : Below w.heap.size w W) u g b (hu : W.ownsRow b 43 6 u g.length (g.flatMap encM)) (hm : ∀ s ∈ g, MsgAt W W.heap.size s.m s.A s.n s.c) i hi hb => begins_any W u g b hu hm A0 N c0 (l.take N) (by rw [List.length_take]; omega) ((hrt.below hW).more hW.size) (by omega) (fun x hx => hin x (List.mem_of_mem_take hx)) i hi hb)
  have HF := Lib.hid (linked_first w)
  clear hr0 hl0 hin hFl hFr hFn hFd hrt hN hn0 hA0
  go_enter Try.func8, Try.ntmps8
  go_wp2_with fail
  refine HF.out.mono ?_
  rintro e w1 ⟨⟨B0, m0, k0, B1, k1, x, rfl⟩, hb1⟩
  go_upto_region 4 with (fail)
  have hb2 : Below w.heap.size w ((w1.alloc (.cells #[.slice B0 m0 k0, .slice B1 1 k1] 61)).alloc (.cells #[.int .i64 0, .int .i64 x] 62)) := (hb1.alloc hb1.size _).alloc (by rw [World.size_alloc]; have := hb1.size; omega) _
  generalize ((w1.alloc (.cells #[.slice B0 m0 k0, .slice B1 1 k1] 61)).alloc (.cells #[.int .i64 0, .int .i64 x] 62)) = w2 at hb2 ⊢
  have HO2 := Lib.hid (HORD.out w2 hb2)
  have Hb2 := Lib.hid hb2
  clear hb1 hb2 HORD
  go_wp2_with (first | (refine wpList_min2 rfl (.tmp 32) (.const (.int .i64 30)) _ rfl (n0 : Int) 30 rfl rfl (N : Int) HMIN.out ?_) | (refine wpList_slice_to rfl 29 (.tmp 30) (.tmp 33) rfl A0 n0 c0 (k := N) rfl rfl (by kernel_rfl) (fun w => HTO.out w) ?_))
  refine HO2.out.mono ?_
  rintro e w3 ⟨C0, d0, C1, d1, x1, y1, g0, g1, rfl, ⟨p1, p2, p3⟩, ⟨q1, q2, q3⟩, hb3⟩
  have Hb3 := Lib.hid (Hb2.out.trans (hb3.mono Hb2.out.size))
  have P1 := Lib.hid p1
  have P2 := Lib.hid p2
  have P3 := Lib.hid p3
  have Q1 := Lib.hid q1
  have Q2 := Lib.hid q2
  have Q3 := Lib.hid q3
  clear hb3 p1 p2 p3 q1 q2 q3
  go_upto_region 6 with (fail)
  have hk4 : Blk ((w3.alloc (.cells #[.slice C0 g0.length d0, .slice C1 g1.length d1] 61)).alloc (.cells #[.int .i64 x1, .int .i64 y1] 62)) w3.heap.size 61 #[.slice C0 g0.length d0, .slice C1 g1.length d1] := (Blk.new w3 _ _).below ((Below.refl _ _).alloc (Nat.le_refl _) _) (by rw [World.size_alloc]; omega)
  have hb4 : Below w3.heap.size w3 ((w3.alloc (.cells #[.slice C0 g0.length d0, .slice C1 g1.length d1] 61)).alloc (.cells #[.int .i64 x1, .int .i64 y1] 62)) := ((Below.refl _ _).alloc (Nat.le_refl _) _).alloc (by rw [World.size_alloc]; omega) _
  generalize ((w3.alloc (.cells #[.slice C0 g0.length d0, .slice C1 g1.length d1] 61)).alloc (.cells #[.int .i64 x1, .int .i64 y1] 62)) = w4 at hk4 hb4 ⊢
  have hbw4 := Hb3.out.trans (hb4.mono Hb3.out.size)
  have HC1 := Lib.hid (HBG.out w4 hbw4 _ g1 _ (own_below Q1.out hb4 (Nat.le_refl _)) (fun s hs => ((Q2.out s hs).below hb4).at_) 0 (by omega) Q3.out)
  have HC0 := Lib.hid (fun w5 (h5 : Below w4.heap.size w4 w5) => HBG.out w5 (hbw4.trans (h5.mono hbw4.size)) _ g0 _ (own_below (own_below P1.out hb4 (Nat.le_refl _)) h5 (Nat.le_refl _)) (fun s hs => (((P2.out s hs).below hb4).below h5).at_) 1 (by omega) P3.out)
  have HK4 := Lib.hid hk4
  have Hb4 := Lib.hid hbw4
  have c1 := hk4.cell 1 _ rfl
  clear hk4 hb4 hbw4 P1 P2 P3 Q1 Q2 Q3 HBG
  go_wp2_with fail
  refine HC1.out.mono ?_
  rintro e w5 ⟨rfl, hb5⟩
  have c0' := (HK4.out.below hb5 HK4.out.lt).cell 0 _ rfl
  have H5 := Lib.hid (HC0.out w5 hb5)
  have Hb5 := Lib.hid (Hb4.out.trans (hb5.mono Hb4.out.size))
  clear c1 hb5 HC0 HC1
  go_wp2_with fail
  refine H5.out.mono ?_
  rintro e w6 ⟨rfl, hb6⟩
  clear c0'
  have Hb6 := Lib.hid (Hb5.out.trans (hb6.mono Hb5.out.size))
  clear hb6
  go_wp2_with fail
  go_ret
  exact ⟨rfl, Hb6.out⟩
end Go.Proofs.Ytpnefacignalpaa.linkOrder
