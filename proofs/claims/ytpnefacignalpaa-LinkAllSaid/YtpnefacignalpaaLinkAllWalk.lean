/- LinkAll's walk: it returns true. Conditions: those typed. -/
import Derived.Test.YtpnefacignalpaaLinkM
import Derived.Test.YtpnefacignalpaaLinked
import Derived.Test.YtpnefacignalpaaIn
import Derived.Test.YtpnefacignalpaaIntsBase
import Derived.Test.YtpnefacignalpaaOpen
import Derived.Test.YtpnefacignalpaaCells
import Derived.ChangeKeysEq
namespace Go.Proofs.Ytpnefacignalpaa
set_option linter.unusedVariables false
/-- the message of a put -/
def putM (p : Int) (t n : Nat) : GMsg := ⟨(p.tdiv 2) % 3, p % 2, 1 - p % 2, (n : Int), 0, [((p.tdiv 6) % 9, ((t : Int) % 60))]⟩
/-- what end i has put ahead of tick t -/
def plP (puts : List Int) (i : Nat) : Nat → List GMsg
  | 0 => []
  | t + 1 => match puts[t]? with
    | none => plP puts i t
    | some p => if p % 2 = (i : Int) then plP puts i t ++ [putM p t (plP puts i t).length] else plP puts i t
def tkI (m : GMsg) : Nat := match m.cells with
  | c :: _ => c.2.toNat
  | [] => 0
structure PG (i τ : Nat) (P : List GMsg) : Prop where
  len : P.length ≤ 60
  at_ : ∀ (q : Nat) (m : GMsg), P[q]? = some m → 0 ≤ m.kind ∧ m.kind ≤ 2 ∧ m.src = (i : Int) ∧ m.dst = ((oth i : Nat) : Int) ∧ m.seq = (q : Int) ∧ m.clock = 0 ∧ msgF m = 0 ∧ tkI m < τ
theorem oth_two {i : Nat} (h : i < 2) : oth i < 2 ∧ oth (oth i) = i ∧ oth i ≠ i := by unfold oth; omega
theorem putM_good (p : Int) (t n : Nat) (hn : n ≤ 60) : msgF (putM p t n) = 0 := by
  have h0 : msgF0 (putM p t n) = 0 := by
    have h1 : 0 ≤ (p.tdiv 2) % 3 := Int.emod_nonneg _ (by decide)
    have h2 : (p.tdiv 2) % 3 < 3 := Int.emod_lt_of_pos _ (by decide)
    unfold msgF0 putM
    simp only
    rw [if_neg (by omega), if_neg (by omega), if_neg (by omega), if_neg (by omega)]
  unfold msgF
  rw [if_pos h0]
  unfold putM cellsF
  have h1 : 0 ≤ (p.tdiv 6) % 9 := Int.emod_nonneg _ (by decide)
  have h2 : (p.tdiv 6) % 9 < 9 := Int.emod_lt_of_pos _ (by decide)
  rw [if_neg (by simp)]
  simp only [cellsG]
  rw [if_neg (by simp [onI]; omega), if_neg (by simp [lateC])]
theorem plP_len (puts : List Int) (i : Nat) : ∀ t, (plP puts i t).length ≤ t ∧ (plP puts i t).length ≤ puts.length
  | 0 => ⟨Nat.le_refl _, Nat.zero_le _⟩
  | t + 1 => by
    have ih := plP_len puts i t
    have key : ∀ t, puts.length ≤ t → plP puts i t = plP puts i puts.length := by
      intro t ht
      induction t with
      | zero => rw [show puts.length = 0 by omega]
      | succ t ih2 =>
        by_cases h : puts.length = t + 1
        · rw [h]
        · have e : puts[t]? = none := List.getElem?_eq_none (by omega)
          rw [← ih2 (by omega)]
          simp only [plP, e]
    by_cases h : puts.length < t + 1
    · have h2 := key t (by omega)
      have h3 := key (t + 1) (by omega)
      rw [h3, ← h2]
      exact ⟨by omega, ih.2⟩
    · have h4 : (plP puts i (t + 1)).length ≤ (plP puts i t).length + 1 := by
        simp only [plP]
        split
        · omega
        · split
          · simp
          · omega
      exact ⟨by omega, by omega⟩
theorem plP_good (puts : List Int) (hp : puts.length ≤ 60) (i : Nat) (hi : i < 2) : ∀ τ, PG i τ (plP puts i τ)
  | 0 => ⟨by simp [plP], fun q m h => by simp [plP] at h⟩
  | t + 1 => by
    have ih := plP_good puts hp i hi t
    have hl := plP_len puts i t
    have hl2 := plP_len puts i (t + 1)
    refine ⟨by omega, fun q m h => ?_⟩
    have old : (plP puts i t)[q]? = some m → 0 ≤ m.kind ∧ m.kind ≤ 2 ∧ m.src = (i : Int) ∧ m.dst = ((oth i : Nat) : Int) ∧ m.seq = (q : Int) ∧ m.clock = 0 ∧ msgF m = 0 ∧ tkI m < t + 1 := fun h => by
      obtain ⟨a1, a2, a3, a4, a5, a6, a7, a8⟩ := ih.at_ q m h
      exact ⟨a1, a2, a3, a4, a5, a6, a7, by omega⟩
    simp only [plP] at h
    split at h
    · exact old h
    · rename_i p hpt
      split at h
      · rename_i hpi
        have ht : t < puts.length := (List.getElem?_eq_some_iff.1 hpt).1
        by_cases hq : q < (plP puts i t).length
        · rw [List.getElem?_append_left hq] at h
          exact old h
        · rw [List.getElem?_append_right (by omega)] at h
          have hq2 : q = (plP puts i t).length := by
            have := (List.getElem?_eq_some_iff.1 h).1
            simp at this
            omega
          subst hq2
          simp only [Nat.sub_self, List.getElem?_cons_zero, Option.some.injEq] at h
          subst h
          have h1 : 0 ≤ (p.tdiv 2) % 3 := Int.emod_nonneg _ (by decide)
          have h2 : (p.tdiv 2) % 3 < 3 := Int.emod_lt_of_pos _ (by decide)
          refine ⟨h1, by show (p.tdiv 2) % 3 ≤ 2; omega, hpi, ?_, rfl, rfl, putM_good p t _ (by omega), ?_⟩
          · show 1 - p % 2 = _
            unfold oth
            omega
          · show ((t : Int) % 60).toNat < t + 1
            omega
      · exact old h
theorem plP_next (puts : List Int) (i t : Nat) : ∃ l, plP puts i (t + 1) = plP puts i t ++ l := by
  simp only [plP]
  split
  · exact ⟨[], (List.append_nil _).symm⟩
  · split
    · exact ⟨_, rfl⟩
    · exact ⟨[], (List.append_nil _).symm⟩
theorem clk_msgF (c : Int) (m : GMsg) : msgF (clkM c m) = msgF m := by
  unfold msgF msgF0 clkM
  rfl
/-- a message from end i on its way -/
def OkM (P : List GMsg) (w : Int) (i : Nat) (m : GMsg) : Prop := m.src = (i : Int) ∧ m.dst = ((oth i : Nat) : Int) ∧ ((m.kind = 3 ∧ m.cells = [] ∧ 0 ≤ m.seq ∧ m.seq ≤ w) ∨ ∃ q : Nat, P[q]? = some (clkM 0 m))
theorem OkM.more {P : List GMsg} {w w' : Int} {i : Nat} {m : GMsg} (h : OkM P w i m) (l : List GMsg) (hw : w ≤ w') : OkM (P ++ l) w' i m := by
  obtain ⟨h1, h2, h3⟩ := h
  refine ⟨h1, h2, ?_⟩
  rcases h3 with ⟨a, b, c, d⟩ | ⟨q, h⟩
  · exact .inl ⟨a, b, c, by omega⟩
  · exact .inr ⟨q, by rw [List.getElem?_append_left (List.getElem?_eq_some_iff.1 h).1]; exact h⟩
theorem OkM.good {P : List GMsg} {w : Int} {i τ : Nat} {m : GMsg} (h : OkM P w i m) (hP : PG i τ P) (hw : w ≤ 60) (hi : i < 2) : msgF m = 0 := by
  obtain ⟨h1, h2, h3⟩ := h
  rcases h3 with ⟨a, b, c, d⟩ | ⟨q, h⟩
  · have h0 : msgF0 m = 0 := by
      have := oth_two hi
      unfold msgF0
      rw [if_neg (by omega), if_neg (by unfold oth at h2; omega), if_neg (by omega), if_neg (by rw [b]; simp)]
    unfold msgF
    rw [if_pos h0, b]
    rfl
  · have := (hP.at_ q _ h).2.2.2.2.2.2.1
    rwa [clk_msgF] at this
/-- an end, what it has put (P), what the other has put (Po), and the other's want -/
structure Rc (P Po : List GMsg) (wo : Int) (g : List GMsg) (x : ES) : Prop where
  nx : x.nx = (P.length : Int)
  ws : ∃ a : Nat, x.ws.map (·.1) = P.drop a ∧ (a : Int) ≤ wo
  wt : 0 ≤ x.wt ∧ x.wt ≤ (Po.length : Int)
  got : (g ++ x.gs).map (clkM 0) = Po.take x.wt.toNat
theorem drop_seq {P : List GMsg} {i τ : Nat} (hP : PG i τ P) (q : Int) : ∀ (ws : List (GMsg × Int)) (a : Nat), ws.map (·.1) = P.drop a → ∃ a' : Nat, (ws.dropWhile (fun y => decide (y.1.seq < q))).map (·.1) = P.drop a' ∧ (a' = a ∨ (a' : Int) ≤ q)
  | [], a, h => ⟨a, h, .inl rfl⟩
  | y :: ws, a, h => by
    have ha : P[a]? = some y.1 := by
      have : (P.drop a)[0]? = some y.1 := by rw [← h]; rfl
      rw [List.getElem?_drop] at this
      simpa using this
    have ht : ws.map (·.1) = P.drop (a + 1) := by
      have : (P.drop a).tail = P.drop (a + 1) := List.tail_drop
      rw [← this, ← h]
      rfl
    have hs := (hP.at_ a _ ha).2.2.2.2.1
    by_cases hq : y.1.seq < q
    · rw [List.dropWhile_cons_of_pos (by simpa using hq)]
      obtain ⟨a', h1, h2⟩ := drop_seq hP q ws (a + 1) ht
      exact ⟨a', h1, .inr (by omega)⟩
    · rw [List.dropWhile_cons_of_neg (by simpa using hq)]
      exact ⟨a, h, .inl rfl⟩
theorem in_ok {P Po : List GMsg} {wo : Int} {g : List GMsg} {x : ES} {m : GMsg} {i τ : Nat} (hi : i < 2) (hP : PG i τ P) (hPo : PG (oth i) τ Po) (hwo : wo ≤ (P.length : Int)) (h : Rc P Po wo g x) (hm : OkM Po wo (oth i) m) :
    ∃ x', inS (i : Int) ((oth i : Nat) : Int) x m = some x' ∧ Rc P Po wo g x' ∧ x.wt ≤ x'.wt ∧ x'.ws <:+ x.ws := by
  have ho := oth_two hi
  have hg := hm.good hPo (by have := hP.len; omega) ho.1
  obtain ⟨h1, h2, h3⟩ := hm
  rw [ho.2.1] at h2
  have hc : inC m (i : Int) ((oth i : Nat) : Int) x.nx = 0 := by
    unfold inC
    rw [if_neg (by rw [hg]; simp), if_neg (by omega), if_neg ?_]
    rintro ⟨k3, k4⟩
    rcases h3 with ⟨a, b, c, d⟩ | ⟨q, h3⟩
    · have := h.nx; omega
    · have := (hPo.at_ q _ h3).2.1
      have e : (clkM 0 m).kind = m.kind := rfl
      omega
  unfold inS
  rw [if_pos hc]
  by_cases hk : m.kind = 3
  · rw [if_pos hk]
    rcases h3 with ⟨a, b, c, d⟩ | ⟨q, h3⟩
    · obtain ⟨n0, w0, t0, g0⟩ := h
      obtain ⟨a0, e0, l0⟩ := w0
      obtain ⟨a1, e1, l1⟩ := drop_seq hP m.seq x.ws a0 e0
      exact ⟨_, rfl, ⟨n0, ⟨a1, e1, by omega⟩, t0, g0⟩, Int.le_refl _, List.dropWhile_suffix _⟩
    · have := (hPo.at_ q _ h3).2.1
      have e : (clkM 0 m).kind = m.kind := rfl
      omega
  · rw [if_neg hk]
    rcases h3 with ⟨a, b, c, d⟩ | ⟨q, h3⟩
    · exact absurd a hk
    · have hs := (hPo.at_ q _ h3).2.2.2.2.1
      have es : (clkM 0 m).seq = m.seq := rfl
      obtain ⟨n0, w0, t0, g0⟩ := h
      by_cases hw : m.seq = x.wt
      · rw [if_pos hw]
        have hq : x.wt.toNat = q := by omega
        have hlt := (List.getElem?_eq_some_iff.1 h3).1
        refine ⟨_, rfl, ⟨n0, w0, ⟨by simp only; omega, by simp only; omega⟩, ?_⟩, by simp only; omega, List.suffix_refl _⟩
        simp only
        rw [← List.append_assoc, List.map_append, g0, show (x.wt + 1).toNat = q + 1 by omega, hq, List.take_add_one, h3]
        rfl
      · rw [if_neg hw]
        exact ⟨_, rfl, ⟨n0, w0, t0, g0⟩, Int.le_refl _, List.suffix_refl _⟩
theorem ins_ok {P Po : List GMsg} {wo : Int} {g : List GMsg} {i τ : Nat} (hi : i < 2) (hP : PG i τ P) (hPo : PG (oth i) τ Po) (hwo : wo ≤ (P.length : Int)) : ∀ (l : List GMsg) (x : ES), Rc P Po wo g x → (∀ m ∈ l, OkM Po wo (oth i) m) →
    ∃ x', l.foldlM (inS (i : Int) ((oth i : Nat) : Int)) x = some x' ∧ Rc P Po wo g x' ∧ x.wt ≤ x'.wt ∧ x'.ws <:+ x.ws
  | [], x, h, _ => ⟨x, rfl, h, Int.le_refl _, List.suffix_refl _⟩
  | m :: l, x, h, hl => by
    obtain ⟨x1, e1, h1, w1, s1⟩ := in_ok hi hP hPo hwo h (hl m (List.mem_cons_self ..))
    obtain ⟨x2, e2, h2, w2, s2⟩ := ins_ok hi hP hPo hwo l x1 h1 (fun m hm => hl m (List.mem_cons_of_mem _ hm))
    refine ⟨x2, ?_, h2, by omega, s2.trans s1⟩
    rw [List.foldlM_cons, e1]
    exact e2
/-- both ends and the net: τ puts are done -/
structure Lk (puts : List Int) (τ : Nat) (S : Sys) : Prop where
  rc : ∀ i, i < 2 → Rc (plP puts i τ) (plP puts (oth i) τ) (S.e (oth i)).wt (S.g i) (S.e i)
  km : ∀ k ∈ S.K, ∃ i, i < 2 ∧ OkM (plP puts i τ) (S.e i).wt i k.2
  gs : ∀ i, i < 2 → (S.e i).gs = []
theorem takeL_mem {K : List AK} {t : Int} {i : Nat} {k : AK} (h : k ∈ takeL K t (i : Int)) : k ∈ K ∧ k.2.dst = (i : Int) ∧ k.1 ≤ t := by
  unfold takeL at h
  obtain ⟨h1, h2⟩ := List.mem_filter.1 (dueSort_mem h)
  unfold goesB at h2
  rw [Bool.and_eq_true, decide_eq_true_eq, decide_eq_true_eq] at h2
  exact ⟨h1, h2⟩
theorem recv_ok {puts : List Int} {τ t i : Nat} {S : Sys} (hp : puts.length ≤ 60) (hi : i < 2) (h : Lk puts τ S) :
    ∃ S', recvS t i S = some S' ∧ Lk puts τ S' ∧ S'.T = S.T ∧ S'.K = restL S.K (t : Int) (i : Int) ∧ S'.e (oth i) = S.e (oth i) ∧ (S'.e i).ws <:+ (S.e i).ws := by
  have ho := oth_two hi
  have hr := h.rc i hi
  have hro := h.rc (oth i) ho.1
  rw [ho.2.1] at hro
  obtain ⟨x', e, h1, h2, h3⟩ := ins_ok hi (plP_good puts hp i hi τ) (plP_good puts hp (oth i) ho.1 τ) hro.wt.2 ((takeL S.K (t : Int) (i : Int)).map (·.2)) (S.e i) hr (fun m hm => by
    obtain ⟨k, hk, rfl⟩ := List.mem_map.1 hm
    obtain ⟨k1, k2, _⟩ := takeL_mem hk
    obtain ⟨j, hj, h4⟩ := h.km k k1
    have h5 := h4.2.1
    have : j = oth i := by unfold oth at h5 ⊢; omega
    rw [← this]
    exact h4)
  refine ⟨{ S with K := restL S.K (t : Int) (i : Int), e := updN S.e i { x' with gs := [] }, g := updN S.g i (S.g i ++ x'.gs) }, ?_, ⟨fun j hj => ?_, fun k hk => ?_, fun j hj => ?_⟩, rfl, rfl, updN_ne _ _ ho.2.2, by simp only [updN_same]; exact h3⟩
  · unfold recvS
    rw [e]
    rfl
  · by_cases hji : j = i
    · subst hji
      simp only [updN_same, updN_ne _ _ ho.2.2]
      exact ⟨h1.nx, h1.ws, h1.wt, by simp only [List.append_nil]; exact h1.got⟩
    · have hj2 : j = oth i := by unfold oth; omega
      subst hj2
      rw [ho.2.1]
      simp only [updN_same, updN_ne _ _ ho.2.2]
      obtain ⟨n0, ⟨a, w0, w1⟩, t0, g0⟩ := hro
      exact ⟨n0, ⟨a, w0, by omega⟩, t0, g0⟩
  · obtain ⟨j, hj, h4⟩ := h.km k (List.mem_filter.1 hk).1
    refine ⟨j, hj, ?_⟩
    by_cases hji : j = i
    · subst hji
      simp only [updN_same]
      have := h4.more [] h2
      rwa [List.append_nil] at this
    · simp only [updN_ne _ _ hji]
      exact h4
  · by_cases hji : j = i
    · subst hji; simp only [updN_same]
    · simp only [updN_ne _ _ hji]; exact h.gs j hj
theorem sends_ok {FS : List GF} {t : Nat} (ht : t ≤ 2000) : ∀ (l : List GMsg) (S : Sys), (∀ m ∈ l, msgF m = 0) → S.T ≤ (t : Int) → S.K.length + 2 * l.length ≤ 1000 →
    ∃ S', l.foldlM (sendS FS (t : Int)) S = some S' ∧ S'.e = S.e ∧ S'.g = S.g ∧ S'.T ≤ (t : Int) ∧ S'.K = S.K ++ l.flatMap (flightsF FS (t : Int)) ∧ S'.K.length ≤ S.K.length + 2 * l.length
  | [], S, _, hT, _ => ⟨S, rfl, rfl, rfl, hT, by simp, by simp⟩
  | m :: l, S, hm, hT, hK => by
    have hf : (flightsF FS (t : Int) m).length ≤ 2 := by rw [flightsF_len]; exact (planF_le _ _ _).1
    simp only [List.length_cons] at hK
    have hc : sendC FS S.T S.K (t : Int) m = 0 := by
      unfold sendC
      rw [if_neg (by omega), if_neg (by omega), if_neg (by rw [hm m (List.mem_cons_self ..)]; simp), if_neg (by omega)]
    obtain ⟨S', e, h1, h2, h3, h4, h5⟩ := sends_ok ht l { S with K := S.K ++ flightsF FS (t : Int) m, T := (t : Int) } (fun m' hm' => hm m' (List.mem_cons_of_mem _ hm')) (Int.le_refl _) (by simp only [List.length_append]; omega)
    refine ⟨S', ?_, h1, h2, h3, ?_, ?_⟩
    · rw [List.foldlM_cons]
      unfold sendS
      rw [if_pos hc]
      exact e
    · rw [h4, List.append_assoc]
      rfl
    · simp only [List.length_append, List.length_cons] at h5 ⊢
      omega
theorem curP_fst (T : Int) (ws : List (GMsg × Int)) : (curP T ws).map (·.1) = ws.map (·.1) := by
  unfold curP
  rw [List.map_append, List.map_map]
  have : ((fun y : GMsg × Int => y.1) ∘ fun y => if dueP T y = true then (y.1, T) else y) = fun y => y.1 := by
    funext y
    simp only [Function.comp]
    split <;> rfl
  rw [this, ← List.map_append, List.take_append_drop]
theorem outG_ok {puts : List Int} {τ i : Nat} {S : Sys} {T ck : Int} (hi : i < 2) (hp : puts.length ≤ 60) (h : Lk puts τ S) : ∀ m ∈ outG (S.e i) (i : Int) ((oth i : Nat) : Int) T ck, OkM (plP puts i τ) (S.e i).wt i m := by
  intro m hm
  have hG := plP_good puts hp i hi τ
  obtain ⟨n0, ⟨a, w0, w1⟩, t0, g0⟩ := h.rc i hi
  unfold outG at hm
  rcases List.mem_append.1 hm with hm | hm
  · obtain ⟨y, hy, rfl⟩ := List.mem_map.1 hm
    have hy2 : y.1 ∈ (S.e i).ws.map (·.1) := List.mem_map_of_mem (List.mem_of_mem_take (List.mem_filter.1 hy).1)
    rw [w0] at hy2
    obtain ⟨q, hq⟩ := List.getElem?_of_mem (List.mem_of_mem_drop hy2)
    obtain ⟨a1, a2, a3, a4, a5, a6, a7, a8⟩ := hG.at_ q _ hq
    refine ⟨a3, a4, .inr ⟨q, ?_⟩⟩
    rw [hq]
    congr 1
    show y.1 = { y.1 with clock := 0 }
    rw [← a6]
  · split at hm
    · obtain rfl := List.mem_singleton.1 hm
      exact ⟨rfl, rfl, .inl ⟨rfl, rfl, t0.1, Int.le_refl _⟩⟩
    · cases hm
theorem emit_ok {FS : List GF} {puts : List Int} {τ t i : Nat} {S : Sys} (hp : puts.length ≤ 60) (ht : t ≤ 2000) (hi : i < 2) (h : Lk puts τ S) (hT : S.T ≤ (t : Int)) (hK : S.K.length + 2 * (outG (S.e i) (i : Int) ((oth i : Nat) : Int) (t : Int) (t : Int)).length ≤ 1000) :
    ∃ S', emitS FS t i S = some S' ∧ Lk puts τ S' ∧ S'.T ≤ (t : Int) ∧ S'.e = updN S.e i { S.e i with ow := false, ws := curP (t : Int) (S.e i).ws } ∧ S'.g = S.g ∧ S'.K = S.K ++ (outG (S.e i) (i : Int) ((oth i : Nat) : Int) (t : Int) (t : Int)).flatMap (flightsF FS (t : Int)) ∧ S'.K.length ≤ S.K.length + 2 * (outG (S.e i) (i : Int) ((oth i : Nat) : Int) (t : Int) (t : Int)).length := by
  have ho := oth_two hi
  have hO := outG_ok (T := (t : Int)) (ck := (t : Int)) hi hp h
  have hw : ∀ j, j < 2 → (S.e j).wt ≤ 60 := fun j hj => by
    have h1 := (h.rc j hj).wt.2
    have h2 := (plP_good puts hp (oth j) (oth_two hj).1 τ).len
    omega
  obtain ⟨S', e, h1, h2, h3, h4, h5⟩ := sends_ok (FS := FS) ht (outG (S.e i) (i : Int) ((oth i : Nat) : Int) (t : Int) (t : Int)) { S with e := updN S.e i { S.e i with ow := false, ws := curP (t : Int) (S.e i).ws } } (fun m hm => (hO m hm).good (plP_good puts hp i hi τ) (hw i hi) hi) hT hK
  have hwt : ∀ j, (S'.e j).wt = (S.e j).wt := fun j => by
    rw [h1]
    by_cases hji : j = i
    · subst hji; simp only [updN_same]
    · simp only [updN_ne _ _ hji]
  refine ⟨S', e, ⟨fun j hj => ?_, fun k hk => ?_, fun j hj => ?_⟩, h3, h1, h2, h4, h5⟩
  · rw [hwt, h2]
    obtain ⟨n0, ⟨a, w0, w1⟩, t0, g0⟩ := h.rc j hj
    rw [h1]
    by_cases hji : j = i
    · subst hji
      simp only [updN_same]
      exact ⟨n0, ⟨a, by simp only; rw [curP_fst]; exact w0, w1⟩, t0, g0⟩
    · simp only [updN_ne _ _ hji]
      exact ⟨n0, ⟨a, w0, w1⟩, t0, g0⟩
  · rw [h4] at hk
    rcases List.mem_append.1 hk with hk | hk
    · obtain ⟨j, hj, h6⟩ := h.km k hk
      exact ⟨j, hj, by rw [hwt]; exact h6⟩
    · obtain ⟨m, hm, hk⟩ := List.mem_flatMap.1 hk
      obtain rfl := List.eq_of_mem_replicate hk
      exact ⟨i, hi, by rw [hwt]; exact hO m hm⟩
  · rw [h1]
    by_cases hji : j = i
    · subst hji; simp only [updN_same]; exact h.gs j hj
    · simp only [updN_ne _ _ hji]; exact h.gs j hj
/-- the put of a tick -/
theorem put_ok {puts : List Int} {t : Nat} {S : Sys} (hp : puts.length ≤ 60) (h : Lk puts t S) : ∃ S', putT puts t S = some S' ∧ Lk puts (t + 1) S' ∧ S'.T = S.T ∧ S'.K = S.K ∧ S'.g = S.g ∧
    (∀ j, (S'.e j).wt = (S.e j).wt ∧ (S'.e j).ow = (S.e j).ow ∧ (S'.e j).gs = (S.e j).gs) ∧ (puts[t]? = none → S' = S) ∧
    (∀ p, puts[t]? = some p → ∃ i, i < 2 ∧ (S'.e i).ws = (S.e i).ws ++ [(putM p t (plP puts i t).length, -1)] ∧ (S'.e (oth i)).ws = (S.e (oth i)).ws) := by
  have hmore : ∀ S' : Sys, (∀ j, (S'.e j).wt = (S.e j).wt) → S'.K = S.K → ∀ k ∈ S'.K, ∃ i, i < 2 ∧ OkM (plP puts i (t + 1)) (S'.e i).wt i k.2 := fun S' hw hK k hk => by
    rw [hK] at hk
    obtain ⟨i, hi, h1⟩ := h.km k hk
    obtain ⟨l, hl⟩ := plP_next puts i t
    exact ⟨i, hi, by rw [hl, hw]; exact h1.more l (Int.le_refl _)⟩
  unfold putT
  cases hpt : puts[t]? with
  | none =>
    simp only
    refine ⟨S, rfl, ⟨fun i hi => ?_, hmore S (fun _ => rfl) rfl, h.gs⟩, rfl, rfl, rfl, fun _ => ⟨rfl, rfl, rfl⟩, fun _ => rfl, fun p hp => (by cases hp)⟩
    simp only [plP, hpt]
    exact h.rc i hi
  | some p =>
    have ht : t < puts.length := (List.getElem?_eq_some_iff.1 hpt).1
    obtain ⟨i, hi⟩ : ∃ i : Nat, p % 2 = (i : Int) := ⟨(p % 2).toNat, by omega⟩
    have hi2 : i < 2 := by omega
    have ho := oth_two hi2
    have e1 : (1 - p % 2 : Int) = ((oth i : Nat) : Int) := by unfold oth; omega
    have e2 : (p % 2).toNat = i := by omega
    have hr := h.rc i hi2
    have hl := plP_len puts i t
    obtain ⟨n0, ⟨a, w0, w1⟩, t0, g0⟩ := hr
    have eM : (⟨(p.tdiv 2) % 3, (i : Int), ((oth i : Nat) : Int), (S.e i).nx, 0, [((p.tdiv 6) % 9, ((t : Int) % 60))]⟩ : GMsg) = putM p t (plP puts i t).length := by
      unfold putM
      rw [n0, e1, hi]
    have hwl : (S.e i).ws.length ≤ 60 := by
      have : ((S.e i).ws.map (·.1)).length = ((plP puts i t).drop a).length := by rw [w0]
      rw [List.length_map, List.length_drop] at this
      omega
    have hc : putC ((p.tdiv 2) % 3) (i : Int) ((oth i : Nat) : Int) (S.e i).nx [((p.tdiv 6) % 9, ((t : Int) % 60))] (S.e i).ws.length = 0 := by
      have h1 : 0 ≤ (p.tdiv 2) % 3 := Int.emod_nonneg _ (by decide)
      have h2 : (p.tdiv 2) % 3 < 3 := Int.emod_lt_of_pos _ (by decide)
      unfold putC
      rw [eM, putM_good p t _ (by omega)]
      rw [if_neg (by omega), if_neg (by simp), if_neg (by omega)]
    simp only [hi, Int.toNat_natCast]
    rw [show (1 - (i : Int)) = ((oth i : Nat) : Int) by rw [← hi]; exact e1]
    unfold putS
    rw [if_pos hc, eM]
    refine ⟨_, rfl, ⟨fun j hj => ?_, hmore _ (fun j => ?_) rfl, fun j hj => ?_⟩, rfl, rfl, rfl, fun j => ?_, fun e => (by cases e), fun p' hp' => ⟨i, hi2, ?_, ?_⟩⟩
    · by_cases hji : j = i
      · subst hji
        simp only [updN_same, updN_ne _ _ ho.2.2]
        have e3 : plP puts j (t + 1) = plP puts j t ++ [putM p t (plP puts j t).length] := by simp only [plP, hpt, if_pos hi]
        have e4 : plP puts (oth j) (t + 1) = plP puts (oth j) t := by simp only [plP, hpt]; rw [if_neg (by rw [hi]; omega)]
        rw [e3, e4]
        have hal : a ≤ (plP puts j t).length := by
          have := (h.rc (oth j) ho.1).wt.2
          rw [ho.2.1] at this
          omega
        refine ⟨by simp only [List.length_append]; rw [n0]; simp, ⟨a, ?_, w1⟩, t0, g0⟩
        simp only
        rw [List.map_append, w0, List.drop_append_of_le_length hal]
        rfl
      · have hj2 : j = oth i := by unfold oth; omega
        subst hj2
        rw [ho.2.1]
        simp only [updN_same, updN_ne _ _ ho.2.2]
        have e3 : plP puts i (t + 1) = plP puts i t ++ [putM p t (plP puts i t).length] := by simp only [plP, hpt, if_pos hi]
        have e4 : plP puts (oth i) (t + 1) = plP puts (oth i) t := by simp only [plP, hpt]; rw [if_neg (by rw [hi]; omega)]
        rw [e3, e4]
        have h9 := h.rc (oth i) ho.1
        rw [ho.2.1] at h9
        obtain ⟨n9, w9, t9, g9⟩ := h9
        refine ⟨n9, w9, ⟨t9.1, by simp only [List.length_append]; omega⟩, ?_⟩
        rw [g9, List.take_append_of_le_length (by omega)]
    · by_cases hji : j = i
      · subst hji; simp only [updN_same]
      · simp only [updN_ne _ _ hji]
    · by_cases hji : j = i
      · subst hji; simp only [updN_same]; exact h.gs j hj
      · simp only [updN_ne _ _ hji]; exact h.gs j hj
    · by_cases hji : j = i
      · subst hji; simp only [updN_same]; exact ⟨trivial, trivial, trivial⟩
      · simp only [updN_ne _ _ hji]; exact ⟨trivial, trivial, trivial⟩
    · cases hp'
      simp only [updN_same]
    · simp only [updN_ne _ _ ho.2.2]
end Go.Proofs.Ytpnefacignalpaa

namespace Go.Proofs.Ytpnefacignalpaa
set_option linter.unusedVariables false
/-- what a waiting message may still bring, up to tick N -/
def remI (N : Nat) (y : GMsg × Int) : Nat := if y.2 < 0 then N + 3 - tkI y.1 else N - 1 - y.2.toNat
def pot (N : Nat) (ws : List (GMsg × Int)) : Nat := (ws.map (remI N)).sum
theorem pot_append (N : Nat) (a b : List (GMsg × Int)) : pot N (a ++ b) = pot N a + pot N b := by
  unfold pot
  rw [List.map_append, List.sum_append]
theorem pot_suffix {N : Nat} {a b : List (GMsg × Int)} (h : a <:+ b) : pot N a ≤ pot N b := by
  obtain ⟨c, rfl⟩ := h
  rw [pot_append]
  omega
theorem pot_map {N t : Nat} (ht : t < N) : ∀ (l : List (GMsg × Int)), (∀ y ∈ l, tkI y.1 ≤ t) → pot N (l.map (fun y => if dueP (t : Int) y then (y.1, (t : Int)) else y)) + 4 * (l.filter (dueP (t : Int))).length ≤ pot N l
  | [], _ => by simp [pot]
  | y :: l, h => by
    have ih := pot_map ht l (fun y hy => h y (List.mem_cons_of_mem _ hy))
    have h1 := h y (List.mem_cons_self ..)
    unfold pot at ih ⊢
    by_cases hd : dueP (t : Int) y = true
    · rw [List.filter_cons_of_pos hd, List.map_cons, if_pos hd, List.map_cons, List.sum_cons, List.map_cons, List.sum_cons, List.length_cons]
      have e : remI N (y.1, (t : Int)) + 4 ≤ remI N y := by
        unfold dueP at hd
        have hd := of_decide_eq_true hd
        unfold remI
        simp only
        rw [if_neg (by omega)]
        split <;> omega
      omega
    · rw [List.filter_cons_of_neg hd, List.map_cons, if_neg hd, List.map_cons, List.sum_cons, List.map_cons, List.sum_cons]
      omega
theorem pot_cur {N t : Nat} (ht : t < N) (ws : List (GMsg × Int)) (h : ∀ y ∈ ws, tkI y.1 ≤ t) : pot N (curP (t : Int) ws) + 4 * ((ws.take 8).filter (dueP (t : Int))).length ≤ pot N ws := by
  have h1 := pot_map ht (ws.take 8) (fun y hy => h y (List.mem_of_mem_take hy))
  have h2 := pot_append N (ws.take 8) (ws.drop 8)
  rw [List.take_append_drop] at h2
  unfold curP
  rw [pot_append]
  omega
def P2 (N : Nat) (S : Sys) : Nat := pot N (S.e 0).ws + pot N (S.e 1).ws
theorem P2_eq {N i : Nat} {S : Sys} (hi : i < 2) : P2 N S = pot N (S.e i).ws + pot N (S.e (oth i)).ws := by
  rcases (by omega : i = 0 ∨ i = 1) with rfl | rfl
  · rfl
  · unfold P2
    rw [Nat.add_comm]
    rfl
theorem Lk.tk {puts : List Int} {τ i : Nat} {S : Sys} (hp : puts.length ≤ 60) (hi : i < 2) (h : Lk puts τ S) : ∀ y ∈ (S.e i).ws, tkI y.1 < τ := by
  intro y hy
  obtain ⟨a, w0, _⟩ := (h.rc i hi).ws
  have hy2 : y.1 ∈ (S.e i).ws.map (·.1) := List.mem_map_of_mem hy
  rw [w0] at hy2
  obtain ⟨q, hq⟩ := List.getElem?_of_mem (List.mem_of_mem_drop hy2)
  exact ((plP_good puts hp i hi τ).at_ q _ hq).2.2.2.2.2.2.2
theorem outG_length (x : ES) (a b T ck : Int) : (outG x a b T ck).length ≤ ((x.ws.take 8).filter (dueP T)).length + 1 := by
  unfold outG
  rw [List.length_append, List.length_map]
  split
  · simp
  · simp
/-- what an end's turn makes -/
structure EndEq (FS : List GF) (t i : Nat) (S S1 S' : Sys) : Prop where
  recv : recvS t i S = some S1
  run : endS FS t i S = some S'
  K1 : S1.K = restL S.K (t : Int) (i : Int)
  o1 : S1.e (oth i) = S.e (oth i)
  s1 : (S1.e i).ws <:+ (S.e i).ws
  e : S'.e = updN S1.e i { S1.e i with ow := false, ws := curP (t : Int) (S1.e i).ws }
  K : S'.K = S1.K ++ (outG (S1.e i) (i : Int) ((oth i : Nat) : Int) (t : Int) (t : Int)).flatMap (flightsF FS (t : Int))
theorem end_ok {FS : List GF} {puts : List Int} {τ t i : Nat} {S : Sys} (hp : puts.length ≤ 60) (ht : t ≤ 2000) (hi : i < 2) (h : Lk puts τ S) (hT : S.T ≤ (t : Int)) (hK : ∀ S1, recvS t i S = some S1 → Lk puts τ S1 → S1.K = restL S.K (t : Int) (i : Int) → (S1.e i).ws <:+ (S.e i).ws → S1.e (oth i) = S.e (oth i) → S1.K.length + 2 * (outG (S1.e i) (i : Int) ((oth i : Nat) : Int) (t : Int) (t : Int)).length ≤ 1000) :
    ∃ S1 S', EndEq FS t i S S1 S' ∧ Lk puts τ S1 ∧ Lk puts τ S' ∧ S'.T ≤ (t : Int) ∧ S'.K.length ≤ S1.K.length + 2 * (outG (S1.e i) (i : Int) ((oth i : Nat) : Int) (t : Int) (t : Int)).length := by
  obtain ⟨S1, e1, h1, t1, k1, o1, s1⟩ := recv_ok (t := t) hp hi h
  obtain ⟨S2, e2, h2, t2, x2, g2, k2, l2⟩ := emit_ok (FS := FS) (t := t) hp ht hi h1 (by rw [t1]; exact hT) (hK S1 e1 h1 k1 s1 o1)
  exact ⟨S1, S2, ⟨e1, by unfold endS; rw [e1, Option.bind_some, e2], k1, o1, s1, x2, k2⟩, h1, h2, t2, l2⟩
theorem end_pot {FS : List GF} {puts : List Int} {τ t i N b : Nat} {S : Sys} (hp : puts.length ≤ 60) (ht : t < N) (hN : N ≤ 2000) (hτ : τ ≤ t + 1) (hi : i < 2) (h : Lk puts τ S) (hT : S.T ≤ (t : Int)) (hb : 2 * S.K.length + P2 N S ≤ b) (hb2 : b + 4 ≤ 2000) :
    ∃ S1 S', EndEq FS t i S S1 S' ∧ Lk puts τ S' ∧ S'.T ≤ (t : Int) ∧ 2 * S'.K.length + P2 N S' ≤ b + 4 := by
  rw [P2_eq hi] at hb
  have key : ∀ S1 : Sys, Lk puts τ S1 → S1.K = restL S.K (t : Int) (i : Int) → (S1.e i).ws <:+ (S.e i).ws → 2 * S1.K.length + pot N (curP (t : Int) (S1.e i).ws) + pot N (S.e (oth i)).ws + 4 * (outG (S1.e i) (i : Int) ((oth i : Nat) : Int) (t : Int) (t : Int)).length ≤ b + 4 := fun S1 h1 k1 s1 => by
    have hc := pot_cur ht (S1.e i).ws (fun y hy => by have := h1.tk hp hi y hy; omega)
    have hl := outG_length (S1.e i) (i : Int) ((oth i : Nat) : Int) (t : Int) (t : Int)
    have hk : S1.K.length ≤ S.K.length := by rw [k1]; exact List.length_filter_le _ _
    have hs := pot_suffix (N := N) s1
    omega
  obtain ⟨S1, S2, hE, h1, h2, t2, l2⟩ := end_ok (FS := FS) (t := t) hp (by omega) hi h hT (fun S1 _ h1 k1 s1 _ => by have := key S1 h1 k1 s1; omega)
  have hk := key S1 h1 hE.K1 hE.s1
  refine ⟨S1, S2, hE, h2, t2, ?_⟩
  rw [P2_eq hi, hE.e]
  simp only [updN_same, updN_ne _ _ (oth_two hi).2.2]
  rw [hE.o1]
  omega
/-- what all puts ahead of tick t may bring -/
def bud (N n : Nat) : Nat → Nat
  | 0 => 0
  | t + 1 => bud N n t + (if t < n then N + 3 - t else 0)
def TickEq (FS : List GF) (puts : List Int) (t : Nat) (S S' : Sys) : Prop := ∃ Sa S1 Sb S2, putT puts t S = some Sa ∧ EndEq FS t 0 Sa S1 Sb ∧ EndEq FS t 1 Sb S2 S'
theorem tick_pot {FS : List GF} {puts : List Int} {t N b : Nat} {S : Sys} (hp : puts.length ≤ 60) (ht : t < N) (hN : N ≤ 2000) (h : Lk puts t S) (hT : S.T ≤ (t : Int)) (hb : 2 * S.K.length + P2 N S ≤ b) (hb2 : b + (if t < puts.length then N + 3 - t else 0) + 8 ≤ 2000) :
    ∃ S', tickS FS puts t S = some S' ∧ TickEq FS puts t S S' ∧ Lk puts (t + 1) S' ∧ S'.T ≤ (t : Int) ∧ 2 * S'.K.length + P2 N S' ≤ b + (if t < puts.length then N + 3 - t else 0) + 8 := by
  obtain ⟨S1, e1, h1, t1, k1, g1, w1, n1, p1⟩ := put_ok hp h
  have hb1 : 2 * S1.K.length + P2 N S1 ≤ b + (if t < puts.length then N + 3 - t else 0) := by
    cases hpt : puts[t]? with
    | none => rw [n1 hpt]; omega
    | some p =>
      have htl := (List.getElem?_eq_some_iff.1 hpt).1
      obtain ⟨i, hi, a1, a2⟩ := p1 p hpt
      rw [P2_eq hi, a1, a2, k1, pot_append, if_pos htl]
      rw [P2_eq hi] at hb
      have : pot N [(putM p t (plP puts i t).length, -1)] = N + 3 - t := by
        unfold pot remI
        simp only [List.map_cons, List.map_nil, List.sum_cons, List.sum_nil]
        rw [if_pos (by omega)]
        unfold tkI putM
        simp only
        omega
      omega
  obtain ⟨S1a, S2, e2, h2, t2, b2⟩ := end_pot (FS := FS) (t := t) (N := N) (i := 0) hp ht hN (by omega) (by omega) h1 (by rw [t1]; exact hT) hb1 (by omega)
  obtain ⟨S2a, S3, e3, h3, t3, b3⟩ := end_pot (FS := FS) (t := t) (N := N) (i := 1) hp ht hN (by omega) (by omega) h2 t2 b2 (by omega)
  refine ⟨S3, ?_, ⟨S1, S1a, S2, S2a, e1, e2, e3⟩, h3, t3, by omega⟩
  unfold tickS
  rw [e1, Option.bind_some, e2.run, Option.bind_some, e3.run]
theorem start_ok (puts : List Int) : Lk puts 0 start := by
  refine ⟨fun i hi => ⟨rfl, ⟨0, rfl, by simp [start]⟩, by simp [start, plP], by simp [start, plP]⟩, fun k hk => (by cases hk), fun _ _ => rfl⟩
theorem run_pot {FS : List GF} {puts : List Int} {N : Nat} {Aux : Nat → Sys → Prop} (hA0 : Aux 0 start) (hA : ∀ t S S', t < N → Lk puts t S → Aux t S → TickEq FS puts t S S' → Aux (t + 1) S') (hp : puts.length ≤ 60) (hN : N ≤ 2000) (hB : ∀ t, t < N → bud N puts.length (t + 1) + 8 * (t + 1) ≤ 2000) : ∀ t, t ≤ N → ∃ S, runS FS puts t = some S ∧ Lk puts t S ∧ S.T ≤ (t : Int) ∧ 2 * S.K.length + P2 N S ≤ bud N puts.length t + 8 * t ∧ Aux t S
  | 0, _ => ⟨start, rfl, start_ok puts, by simp [start], by simp [start, P2, pot, bud], hA0⟩
  | t + 1, ht => by
    obtain ⟨S, e, h, hT, hb, ha⟩ := run_pot (FS := FS) hA0 hA hp hN hB t (by omega)
    have h1 := hB t (by omega)
    unfold bud at h1
    obtain ⟨S', e', q', h', hT', hb'⟩ := tick_pot (FS := FS) (t := t) (N := N) hp (by omega) hN h hT hb (by omega)
    refine ⟨S', ?_, h', by omega, ?_, hA t S S' (by omega) h ha q'⟩
    · unfold runS
      rw [e, Option.bind_some, e']
    · unfold bud
      omega
theorem bud60 : ∀ n, n < 31 → ∀ t, t < 60 → bud 60 n (t + 1) + 8 * (t + 1) ≤ 2000 := by decide +kernel
theorem bud46 : ∀ n, n < 21 → ∀ t, t < 46 → bud 46 n (t + 1) + 8 * (t + 1) ≤ 2000 := by decide +kernel
theorem order_run (FS : List GF) {puts : List Int} (hp : puts.length ≤ 30) : ∃ S, runS FS puts 60 = some S ∧ Lk puts 60 S := by
  obtain ⟨S, e, h, _, _, _⟩ := run_pot (FS := FS) (N := 60) (puts := puts) (Aux := fun _ _ => True) trivial (fun _ _ _ _ _ _ _ => trivial) (by omega) (by omega) (bud60 _ (by omega)) 60 (Nat.le_refl _)
  exact ⟨S, e, h⟩
/-- the puts of an end, from a tick on -/
def plR (i : Int) : Nat → Nat → List Int → List GMsg
  | t, n, [] => []
  | t, n, p :: ps => if p % 2 = i then putM p t n :: plR i (t + 1) (n + 1) ps else plR i (t + 1) n ps
theorem plP_R (puts : List Int) (i : Nat) : ∀ t, plP puts i t ++ plR (i : Int) t (plP puts i t).length (puts.drop t) = plR (i : Int) 0 0 puts
  | 0 => rfl
  | t + 1 => by
    rw [← plP_R puts i t]
    cases hpt : puts[t]? with
    | none =>
      have : puts.length ≤ t := List.getElem?_eq_none_iff.1 hpt
      simp only [plP, hpt]
      rw [List.drop_eq_nil_of_le (by omega), List.drop_eq_nil_of_le (by omega)]
      rfl
    | some p =>
      obtain ⟨ht, rfl⟩ := List.getElem?_eq_some_iff.1 hpt
      rw [List.drop_eq_getElem_cons ht]
      simp only [plP, hpt, plR]
      split
      · rw [List.append_assoc, List.length_append]
        rfl
      · rfl
theorem plP_all (puts : List Int) (i T : Nat) (hT : puts.length ≤ T) : plP puts i T = plR (i : Int) 0 0 puts := by
  rw [← plP_R puts i T, List.drop_eq_nil_of_le hT]
  simp [plR]
/-- what begins says -/
def begF (i : Int) : Nat → List Int → List GMsg → Bool
  | t, [], l => l.isEmpty
  | t, p :: ps, [] => true
  | t, p :: ps, m :: l => if p % 2 = i then (if m.kind = (p.tdiv 2) % 3 ∧ m.cells = [((p.tdiv 6) % 9, ((t : Int) % 60))] then begF i (t + 1) ps l else false) else begF i (t + 1) ps (m :: l)
theorem begF_true (i : Int) : ∀ (ps : List Int) (t n w : Nat) (l : List GMsg), l.map (clkM 0) = (plR i t n ps).take w → begF i t ps l = true
  | [], t, n, w, l, h => by
    simp only [plR, List.take_nil, List.map_eq_nil_iff] at h
    subst h
    rfl
  | p :: ps, t, n, w, [], h => rfl
  | p :: ps, t, n, w, m :: l, h => by
    unfold begF
    by_cases hpi : p % 2 = i
    · rw [if_pos hpi]
      simp only [plR, if_pos hpi] at h
      cases w with
      | zero => cases h
      | succ w =>
        rw [List.take_succ_cons, List.map_cons] at h
        injection h with h1 h2
        have hk : m.kind = (p.tdiv 2) % 3 := by
          have : (clkM 0 m).kind = (putM p t n).kind := by rw [h1]
          exact this
        have hc : m.cells = [((p.tdiv 6) % 9, ((t : Int) % 60))] := by
          have : (clkM 0 m).cells = (putM p t n).cells := by rw [h1]
          exact this
        rw [if_pos ⟨hk, hc⟩]
        exact begF_true i ps (t + 1) (n + 1) w l h2
    · rw [if_neg hpi]
      simp only [plR, if_neg hpi] at h
      exact begF_true i ps (t + 1) n w (m :: l) h
/-- LinkOrder's plain law -/
theorem order_law {puts : List Int} {T : Nat} {S : Sys} (h : Lk puts T S) (hT : puts.length ≤ T) (i : Nat) (hi : i < 2) : begF ((oth i : Nat) : Int) 0 puts (S.g i) = true := by
  have h1 := (h.rc i hi).got
  rw [h.gs i hi, List.append_nil, plP_all puts (oth i) T hT] at h1
  exact begF_true _ puts 0 0 _ _ h1
end Go.Proofs.Ytpnefacignalpaa

namespace Go.Proofs.Ytpnefacignalpaa
set_option linter.unusedVariables false
def adv (w : Int) (l : List Int) : Int := l.foldl (fun w q => if q = w then w + 1 else w) w
theorem adv_cons (w q : Int) (l : List Int) : adv w (q :: l) = adv (if q = w then w + 1 else w) l := rfl
theorem adv_ge : ∀ (l : List Int) (w : Int), w ≤ adv w l
  | [], w => Int.le_refl _
  | q :: l, w => by
    have := adv_ge l (if q = w then w + 1 else w)
    rw [adv_cons]
    split at this <;> split <;> omega
theorem adv_out : ∀ (l : List Int) (w : Int), w ∉ l → adv w l = w
  | [], w, _ => rfl
  | q :: l, w, h => by
    rw [adv_cons, if_neg (fun e => h (by rw [e]; exact List.mem_cons_self ..))]
    exact adv_out l w (fun e => h (List.mem_cons_of_mem _ e))
theorem adv_in : ∀ (l : List Int) (w : Int), w ∈ l → w + 1 ≤ adv w l
  | [], w, h => by cases h
  | q :: l, w, h => by
    rw [adv_cons]
    by_cases e : q = w
    · rw [if_pos e]
      exact adv_ge l (w + 1)
    · rw [if_neg e]
      refine adv_in l w ?_
      rcases List.mem_cons.1 h with h | h
      · exact absurd h.symm e
      · exact h
theorem adv_not : ∀ (l : List Int) (w : Int), l.Pairwise (· < ·) → adv w l ∉ l
  | [], w, _ => by simp
  | q :: l, w, h => by
    obtain ⟨h1, h2⟩ := List.pairwise_cons.1 h
    rw [adv_cons]
    have h3 := adv_not l (if q = w then w + 1 else w) h2
    have h4 := adv_ge l (if q = w then w + 1 else w)
    intro hm
    rcases List.mem_cons.1 hm with hm | hm
    · by_cases e : q = w
      · rw [if_pos e] at hm h4
        omega
      · rw [if_neg e] at hm h4
        by_cases hq : q < w
        · omega
        · have : adv w l = w := adv_out l w (fun hw => by have := h1 w hw; omega)
          omega
    · exact h3 hm
theorem adv_le {n : Int} : ∀ (l : List Int) (w : Int), (∀ q ∈ l, q < n) → w ≤ n → adv w l ≤ n
  | [], w, _, h => h
  | q :: l, w, hl, h => by
    rw [adv_cons]
    refine adv_le l _ (fun x hx => hl x (List.mem_cons_of_mem _ hx)) ?_
    have := hl q (List.mem_cons_self ..)
    split <;> omega
/-- what waits at an end: the messages a .. n - 1, of which the other wants the one numbered w -/
structure DS (n a w : Nat) (t : Int) (ws : List (GMsg × Int)) : Prop where
  len : ws.length + a = n
  sq : ∀ (j : Nat) (y : GMsg × Int), ws[j]? = some y → y.1.seq = ((a + j : Nat) : Int)
  aw : a ≤ w
  wn : w ≤ n
  la : ∀ y ∈ ws, y.2 < t
def newB (t : Int) (y : GMsg × Int) : Bool := decide (y.2 = t - 1)
def seqsN (t : Int) (ws : List (GMsg × Int)) : List Int := (ws.filter (newB t)).map (fun y => y.1.seq)
def ackD (b : Bool) (w : Int) (ws : List (GMsg × Int)) : List (GMsg × Int) := if b then ws.dropWhile (fun y => decide (y.1.seq < w)) else ws
theorem seqs_mem {t : Int} {ws : List (GMsg × Int)} {q : Int} : q ∈ seqsN t ws ↔ ∃ (j : Nat) (y : GMsg × Int), ws[j]? = some y ∧ y.2 = t - 1 ∧ y.1.seq = q := by
  unfold seqsN newB
  constructor
  · intro h
    obtain ⟨y, h1, h2⟩ := List.mem_map.1 h
    obtain ⟨h3, h4⟩ := List.mem_filter.1 h1
    obtain ⟨j, hj⟩ := List.getElem?_of_mem h3
    exact ⟨j, y, hj, of_decide_eq_true h4, h2⟩
  · rintro ⟨j, y, h1, h2, h3⟩
    exact List.mem_map.2 ⟨y, List.mem_filter.2 ⟨List.mem_of_getElem? h1, decide_eq_true h2⟩, h3⟩
theorem DS.pair {n a w : Nat} {t : Int} {ws : List (GMsg × Int)} (h : DS n a w t ws) : (seqsN t ws).Pairwise (· < ·) := by
  unfold seqsN
  rw [List.pairwise_map]
  refine List.Pairwise.filter _ ?_
  rw [List.pairwise_iff_getElem]
  intro i j hi hj hij
  rw [h.sq i _ (List.getElem?_eq_getElem hi), h.sq j _ (List.getElem?_eq_getElem hj)]
  omega
theorem drop_ack (w : Nat) : ∀ (ws : List (GMsg × Int)) (a : Nat), (∀ (j : Nat) (y : GMsg × Int), ws[j]? = some y → y.1.seq = ((a + j : Nat) : Int)) → a ≤ w → w ≤ a + ws.length → ws.dropWhile (fun y => decide (y.1.seq < (w : Int))) = ws.drop (w - a)
  | [], a, _, _, _ => by simp
  | y :: ws, a, h, ha, hw => by
    have h0 := h 0 y rfl
    by_cases e : a = w
    · subst e
      rw [List.dropWhile_cons_of_neg (by simp; omega), Nat.sub_self, List.drop_zero]
    · rw [List.dropWhile_cons_of_pos (by simp; omega), drop_ack w ws (a + 1) (fun j z hz => by rw [h (j + 1) z (by simpa using hz)]; omega) (by omega) (by simp only [List.length_cons] at hw; omega), show w - a = (w - (a + 1)) + 1 by omega, List.drop_succ_cons]
theorem curP_get {T : Int} {ws : List (GMsg × Int)} (j : Nat) : (curP T ws)[j]? = (ws[j]?).map (fun y => if j < 8 ∧ dueP T y = true then (y.1, T) else y) := by
  unfold curP
  by_cases h : j < 8
  · by_cases hl : j < ws.length
    · rw [List.getElem?_append_left (by simp; omega), List.getElem?_map, List.getElem?_take, if_pos h]
      congr 1
      funext y
      simp only [h, true_and]
    · have e : ws.drop 8 = [] := List.drop_eq_nil_of_le (by omega)
      rw [e, List.append_nil, List.getElem?_eq_none (by simp; omega), List.getElem?_eq_none (by omega)]
      rfl
  · by_cases hl : 8 ≤ ws.length
    · rw [List.getElem?_append_right (by simp; omega), List.length_map, List.length_take, List.getElem?_drop, show 8 + (j - min 8 ws.length) = j by omega]
      have : (fun y : GMsg × Int => if j < 8 ∧ dueP T y = true then (y.1, T) else y) = id := by
        funext y
        rw [if_neg (fun e => h e.1)]
        rfl
      rw [this, Option.map_id]
      rfl
    · have e : ws.drop 8 = [] := List.drop_eq_nil_of_le (by omega)
      rw [e, List.append_nil, List.getElem?_eq_none (by simp; omega), List.getElem?_eq_none (by omega)]
      rfl
/-- one tick -/
structure DN (n a w : Nat) (t : Int) (ws : List (GMsg × Int)) (b : Bool) (a1 w1 : Nat) (ws1 : List (GMsg × Int)) (b1 : Bool) : Prop where
  ds : DS n a1 w1 (t + 1) ws1
  ack : (b = true → a1 = w) ∧ (b = false → a1 = a)
  le : w ≤ w1
  sent : ∀ (j : Nat) (y : GMsg × Int), ws[j]? = some y → y.2 = t - 1 → b1 = true
  none : b1 = false → w1 = w
  come : ∀ y : GMsg × Int, ws[w - a]? = some y → y.2 = t - 1 → w + 1 ≤ w1
  stay : ∀ y : GMsg × Int, ws[w - a]? = some y → y.2 ≠ t - 1 → w1 = w
  next : ∀ y : GMsg × Int, ws[w1 - a]? = some y → y.2 ≠ t - 1
  old : ∀ (j : Nat) (y : GMsg × Int), ws1[j]? = some y → ∃ z, ws[j + (a1 - a)]? = some z ∧ y.2 = if j < 8 ∧ dueP t z = true then t else z.2
theorem DS.step {n a w : Nat} {t : Int} {ws : List (GMsg × Int)} {b : Bool} (h : DS n a w t ws) {w1 : Int} {b1 : Bool} (hw : w1 = adv (w : Int) (seqsN t ws)) (hb : b1 = !(ws.filter (newB t)).isEmpty) :
    ∃ a1 : Nat, DN n a w t ws b a1 w1.toNat (curP t (ackD b (w : Int) ws)) b1 := by
  have hlt : ∀ q ∈ seqsN t ws, q < (n : Int) := fun q hq => by
    obtain ⟨j, y, h1, h2, h3⟩ := seqs_mem.1 hq
    have := h.sq j y h1
    have h4 := (List.getElem?_eq_some_iff.1 h1).1
    have h5 := h.len
    omega
  have h1 := adv_ge (seqsN t ws) (w : Int)
  have h2 := adv_le (n := (n : Int)) (seqsN t ws) (w : Int) hlt (by have := h.wn; omega)
  have h3 := adv_not (seqsN t ws) (w : Int) h.pair
  rw [← hw] at h1 h2 h3
  obtain ⟨W, rfl⟩ : ∃ W : Nat, w1 = (W : Int) := ⟨w1.toNat, by omega⟩
  have hd : ackD b (w : Int) ws = ws.drop ((if b = true then w else a) - a) := by
    unfold ackD
    cases b with
    | false => simp
    | true =>
      simp only [if_true]
      exact drop_ack w ws a h.sq h.aw (by have := h.len; have := h.wn; omega)
  have hle := h.len
  have haw := h.aw
  have hwn := h.wn
  refine ⟨if b = true then w else a, ⟨?_, ?_, ?_, ?_, ?_⟩, ?_, ?_, ?_, ?_, ?_, ?_, ?_, ?_⟩
  · rw [hd]
    have e : (curP t (ws.drop ((if b = true then w else a) - a))).length = (ws.drop ((if b = true then w else a) - a)).length := by
      have := congrArg List.length (curP_fst t (ws.drop ((if b = true then w else a) - a)))
      simpa using this
    rw [e, List.length_drop]
    split <;> omega
  · intro j y hy
    rw [hd, curP_get, List.getElem?_drop] at hy
    obtain ⟨z, hz, e⟩ := Option.map_eq_some_iff.1 hy
    have h4 := h.sq _ z hz
    have e2 : y.1 = z.1 := by
      rw [← e]
      split <;> rfl
    rw [e2, h4]
    split <;> omega
  · simp only [Int.toNat_natCast]
    split <;> omega
  · simp only [Int.toNat_natCast]
    omega
  · intro y hy
    obtain ⟨j, hj⟩ := List.getElem?_of_mem hy
    rw [hd, curP_get, List.getElem?_drop] at hj
    obtain ⟨z, hz, e⟩ := Option.map_eq_some_iff.1 hj
    have h4 := h.la z (List.mem_of_getElem? hz)
    rw [← e]
    split
    · simp only; omega
    · omega
  · constructor
    · intro e; rw [if_pos e]
    · intro e; rw [if_neg (by rw [e]; simp)]
  · simp only [Int.toNat_natCast]
    omega
  · intro j y hy hs
    rw [hb]
    have : y ∈ ws.filter (newB t) := List.mem_filter.2 ⟨List.mem_of_getElem? hy, decide_eq_true hs⟩
    cases hf : ws.filter (newB t) with
    | nil => rw [hf] at this; cases this
    | cons _ _ => rfl
  · intro e
    rw [hb] at e
    have e2 : ws.filter (newB t) = [] := by
      cases hf : ws.filter (newB t) with
      | nil => rfl
      | cons _ _ => rw [hf] at e; cases e
    have e3 : seqsN t ws = [] := by unfold seqsN; rw [e2]; rfl
    rw [e3] at hw
    have : adv (w : Int) [] = w := rfl
    simp only [Int.toNat_natCast]
    omega
  · intro y hy hs
    have h4 : (w : Int) ∈ seqsN t ws := seqs_mem.2 ⟨_, y, hy, hs, by rw [h.sq _ y hy]; omega⟩
    have := adv_in _ _ h4
    simp only [Int.toNat_natCast]
    omega
  · intro y hy hs
    have h4 : (w : Int) ∉ seqsN t ws := fun hm => by
      obtain ⟨j, z, hz, e1, e2⟩ := seqs_mem.1 hm
      have h5 := h.sq j z hz
      have : j = w - a := by omega
      subst this
      rw [hy] at hz
      cases hz
      exact hs e1
    have := adv_out _ _ h4
    simp only [Int.toNat_natCast]
    omega
  · intro y hy hs
    simp only [Int.toNat_natCast] at hy
    exact h3 (seqs_mem.2 ⟨_, y, hy, hs, by rw [h.sq _ y hy]; omega⟩)
  · intro j y hy
    rw [hd, curP_get, List.getElem?_drop] at hy
    obtain ⟨z, hz, e⟩ := Option.map_eq_some_iff.1 hy
    refine ⟨z, by rw [Nat.add_comm j]; exact hz, ?_⟩
    rw [← e]
    split <;> rfl
/-- when a message sent last at s is sent again; when it has arrived and is answered -/
def dl (t s : Int) : Int := if s = t - 1 then -1 else if s < 0 ∨ 4 ≤ t - s then 0 else s + 4 - t
def ep (t s : Int) : Int := if s = t - 1 then 1 else if s < 0 ∨ 4 ≤ t - s then 2 else s + 4 - t + 2
theorem due_iff (t : Int) (z : GMsg × Int) : dueP t z = true ↔ (z.2 < 0 ∨ 4 ≤ t - z.2) := by
  unfold dueP
  rw [decide_eq_true_eq]
/-- the answer is not old, or will come -/
def Fresh (a w : Nat) (b : Bool) : Prop := b = true ∨ w < a + 8
section
variable {n a w a1 w1 : Nat} {t : Int} {ws ws1 : List (GMsg × Int)} {b b1 : Bool}
theorem DN.fresh (h : DN n a w t ws b a1 w1 ws1 b1) (hf : Fresh a w b) : Fresh a1 w1 b1 := by
  unfold Fresh at hf ⊢
  cases hb1 : b1 with
  | true => exact .inl rfl
  | false =>
    have h1 := h.none hb1
    refine .inr ?_
    cases hb : b with
    | true => have := h.ack.1 hb; omega
    | false =>
      have := h.ack.2 hb
      rw [hb] at hf
      rcases hf with hf | hf
      · cases hf
      · omega
/-- one message more each three ticks -/
theorem DN.prog (h : DN n a w t ws b a1 w1 ws1 b1) (hd : DS n a w t ws) (ht : 0 ≤ t) (hf : Fresh a w b) {B : Int} {y : GMsg × Int} (hy : ws[w - a]? = some y) (hB : t + 3 * ((n : Int) - w) + dl t y.2 ≤ B) :
    w1 = n ∨ ∃ y1, ws1[w1 - a1]? = some y1 ∧ t + 1 + 3 * ((n : Int) - w1) + dl (t + 1) y1.2 ≤ B := by
  by_cases hn : w1 = n
  · exact .inl hn
  · right
    have h1 := h.ds.len
    have h2 := h.ds.wn
    have h3 := h.ds.aw
    obtain ⟨y1, hy1⟩ : ∃ y1, ws1[w1 - a1]? = some y1 := ⟨_, List.getElem?_eq_getElem (by omega)⟩
    refine ⟨y1, hy1, ?_⟩
    obtain ⟨z, hz, e⟩ := h.old _ y1 hy1
    have ha : a ≤ a1 := by
      have := hd.aw
      cases hb : b with
      | true => have := h.ack.1 hb; omega
      | false => have := h.ack.2 hb; omega
    rw [show w1 - a1 + (a1 - a) = w1 - a by omega] at hz
    have hzt := hd.la z (List.mem_of_getElem? hz)
    have hnz := h.next z hz
    have hdu := due_iff t z
    by_cases hs : y.2 = t - 1
    · have h4 := h.come y hy hs
      have : dl t y.2 = -1 := by unfold dl; rw [if_pos hs]
      have h5 : dl (t + 1) y1.2 ≤ 1 := by
        rw [e]
        unfold dl
        split
        · split
          · omega
          · split <;> omega
        · split
          · omega
          · split <;> omega
      omega
    · have h4 : w1 = w := h.stay y hy hs
      subst h4
      rw [hy] at hz
      cases hz
      have h5 : w1 - a1 < 8 := by
        rcases hf with hf | hf
        · have := h.ack.1 hf; omega
        · omega
      by_cases hdy : dueP t y = true
      · rw [if_pos ⟨h5, hdy⟩] at e
        have := hdu.1 hdy
        have e1 : dl t y.2 = 0 := by unfold dl; rw [if_neg hs, if_pos this]
        have e2 : dl (t + 1) y1.2 = -1 := by unfold dl; rw [e, if_pos (by omega)]
        omega
      · rw [if_neg (fun h => hdy h.2)] at e
        have : ¬ (y.2 < 0 ∨ 4 ≤ t - y.2) := fun h => hdy (hdu.2 h)
        have e1 : dl t y.2 = y.2 + 4 - t := by unfold dl; rw [if_neg hs, if_neg this]
        have e2 : dl (t + 1) y1.2 ≤ y.2 + 4 - t - 1 := by
          unfold dl
          rw [e]
          split
          · omega
          · split <;> omega
        omega
/-- what waits first is answered -/
theorem DN.answer (h : DN n a w t ws b a1 w1 ws1 b1) (hd : DS n a w t ws) (ht : 0 ≤ t) (hb : b = false) {B : Int} {y : GMsg × Int} (hy : ws[0]? = some y) (hB : t + ep t y.2 ≤ B) : b1 = true ∨ ∃ y1, ws1[0]? = some y1 ∧ t + 1 + ep (t + 1) y1.2 ≤ B := by
  by_cases hs : y.2 = t - 1
  · exact .inl (h.sent 0 y hy hs)
  · right
    have h1 := h.ds.len
    have h2 := h.ack.2 hb
    have h3 := hd.len
    have h4 := (List.getElem?_eq_some_iff.1 hy).1
    obtain ⟨y1, hy1⟩ : ∃ y1, ws1[0]? = some y1 := ⟨_, List.getElem?_eq_getElem (by omega)⟩
    refine ⟨y1, hy1, ?_⟩
    obtain ⟨z, hz, e⟩ := h.old _ y1 hy1
    rw [h2, Nat.sub_self, Nat.add_zero, hy] at hz
    cases hz
    have hzt := hd.la y (List.mem_of_getElem? hy)
    have hdu := due_iff t y
    by_cases hdy : dueP t y = true
    · rw [if_pos ⟨by omega, hdy⟩] at e
      have := hdu.1 hdy
      have e1 : ep t y.2 = 2 := by unfold ep; rw [if_neg hs, if_pos this]
      have e2 : ep (t + 1) y1.2 = 1 := by unfold ep; rw [e, if_pos (by omega)]
      omega
    · rw [if_neg (fun h => hdy h.2)] at e
      have : ¬ (y.2 < 0 ∨ 4 ≤ t - y.2) := fun h => hdy (hdu.2 h)
      have e1 : ep t y.2 = y.2 + 4 - t + 2 := by unfold ep; rw [if_neg hs, if_neg this]
      have e2 : ep (t + 1) y1.2 ≤ y.2 + 4 - t + 2 - 1 := by
        unfold ep
        rw [e]
        split
        · omega
        · split <;> omega
      omega
end
end Go.Proofs.Ytpnefacignalpaa

namespace Go.Proofs.Ytpnefacignalpaa
set_option linter.unusedVariables false
/-- what an end makes of the messages that it receives -/
theorem ins_exact {a b : Int} : ∀ (l : List GMsg) (x x' : ES), l.foldlM (inS a b) x = some x' →
    x'.wt = adv x.wt ((l.filter (fun m => decide (m.kind ≠ 3))).map (·.seq)) ∧ x'.ow = (x.ow || !(l.filter (fun m => decide (m.kind ≠ 3))).isEmpty) ∧ x'.ws = (l.filter (fun m => decide (m.kind = 3))).foldl (fun ws m => ws.dropWhile (fun y => decide (y.1.seq < m.seq))) x.ws
  | [], x, x', h => by
    simp only [List.foldlM_nil] at h
    cases h
    exact ⟨rfl, by simp, rfl⟩
  | m :: l, x, x', h => by
    rw [List.foldlM_cons] at h
    obtain ⟨x1, h1, h2⟩ := Option.bind_eq_some_iff.1 h
    obtain ⟨i1, i2, i3⟩ := ins_exact l x1 x' h2
    unfold inS at h1
    split at h1
    · have h1 := Option.some.inj h1
      by_cases hk : m.kind = 3
      · rw [if_pos hk] at h1
        subst h1
        rw [List.filter_cons_of_neg (by simp [hk]), List.filter_cons_of_pos (by simp [hk])]
        exact ⟨i1, i2, i3⟩
      · rw [if_neg hk] at h1
        rw [List.filter_cons_of_pos (by simp [hk]), List.filter_cons_of_neg (by simp [hk]), List.map_cons, adv_cons]
        by_cases hw : m.seq = x.wt
        · rw [if_pos hw] at h1
          rw [if_pos hw]
          subst h1
          exact ⟨i1, by rw [i2]; simp, i3⟩
        · rw [if_neg hw] at h1
          rw [if_neg hw]
          subst h1
          exact ⟨i1, by rw [i2]; simp, i3⟩
    · cases h1
/-- few faults: all ahead of tick 40, none later by more than 4 -/
def Few (FS : List GF) : Prop := ∀ f ∈ FS, f.1 < 40 ∧ f.2.2 ≤ 4
theorem plan_late {t src : Int} : ∀ (FS : List GF) (s : Nat × Int), Few FS → s.2 ≤ 4 → (FS.foldl (stepF t src) s).2 ≤ 4
  | [], s, _, h => h
  | f :: FS, s, hF, h => by
    refine plan_late FS _ (fun g hg => hF g (List.mem_cons_of_mem _ hg)) ?_
    have := (hF f (List.mem_cons_self ..)).2
    unfold stepF
    split
    · exact h
    · split
      · exact h
      · split
        · exact h
        · split
          · simp only; omega
          · exact h
theorem plan_rel {t src : Int} (ht : 40 ≤ t) : ∀ (FS : List GF) (s : Nat × Int), Few FS → FS.foldl (stepF t src) s = s
  | [], s, _ => rfl
  | f :: FS, s, hF => by
    have := (hF f (List.mem_cons_self ..)).1
    rw [List.foldl_cons]
    have e : stepF t src s f = s := by unfold stepF; rw [if_pos (by omega)]
    rw [e]
    exact plan_rel ht FS s (fun g hg => hF g (List.mem_cons_of_mem _ hg))
theorem flights_rel {FS : List GF} (hF : Few FS) {t : Nat} (ht : 40 ≤ t) (m : GMsg) : flightsF FS (t : Int) m = [((t : Int) + 1, m)] := by
  unfold flightsF planF
  rw [plan_rel (by omega) FS _ hF]
  simp
theorem flights_due {FS : List GF} (hF : Few FS) {t : Nat} {m : GMsg} {k : AK} (h : k ∈ flightsF FS (t : Int) m) : k.1 ≤ (max (t + 1) 44 : Nat) := by
  by_cases ht : 40 ≤ t
  · rw [flights_rel hF ht] at h
    obtain rfl := List.mem_singleton.1 h
    simp only
    omega
  · obtain rfl := List.eq_of_mem_replicate h
    have := plan_late (t := (t : Int)) (src := m.src) FS (1, 0) hF (by simp)
    unfold planF
    simp only
    omega
structure Aux (t : Nat) (S : Sys) : Prop where
  due : ∀ k ∈ S.K, k.1 ≤ (max t 44 : Nat)
  la : ∀ i, i < 2 → ∀ y ∈ (S.e i).ws, y.2 < (t : Int)
  ow : ∀ i, i < 2 → (S.e i).ow = false
theorem curP_la {t : Nat} {ws : List (GMsg × Int)} (h : ∀ y ∈ ws, y.2 < (t : Int)) : ∀ y ∈ curP (t : Int) ws, y.2 < ((t + 1 : Nat) : Int) := by
  intro y hy
  unfold curP at hy
  rcases List.mem_append.1 hy with hy | hy
  · obtain ⟨z, hz, rfl⟩ := List.mem_map.1 hy
    have := h z (List.mem_of_mem_take hz)
    split
    · simp only; omega
    · omega
  · have := h y (List.mem_of_mem_drop hy)
    omega
/-- one end's turn -/
theorem EndEq.aux {FS : List GF} {t i : Nat} {S S1 S' : Sys} (h : EndEq FS t i S S1 S') (hi : i < 2) (hF : Few FS) (hd : ∀ k ∈ S.K, k.1 ≤ (max (t + 1) 44 : Nat)) (hl : ∀ y ∈ (S.e i).ws, y.2 < (t : Int)) :
    (∀ k ∈ S'.K, k.1 ≤ (max (t + 1) 44 : Nat)) ∧ (∀ y ∈ (S'.e i).ws, y.2 < ((t + 1 : Nat) : Int)) ∧ (S'.e i).ow = false ∧ S'.e (oth i) = S.e (oth i) := by
  refine ⟨fun k hk => ?_, ?_, ?_, ?_⟩
  · rw [h.K] at hk
    rcases List.mem_append.1 hk with hk | hk
    · rw [h.K1] at hk
      exact hd k (List.mem_filter.1 hk).1
    · obtain ⟨m, _, hk⟩ := List.mem_flatMap.1 hk
      exact flights_due hF hk
  · rw [h.e]
    simp only [updN_same]
    refine curP_la (fun y hy => ?_)
    obtain ⟨c, hc⟩ := h.s1
    exact hl y (by rw [← hc]; exact List.mem_append_right _ hy)
  · rw [h.e]
    simp only [updN_same]
  · rw [h.e, updN_ne _ _ (oth_two hi).2.2]
    exact h.o1
theorem put_la {puts : List Int} {t : Nat} {S Sa : Sys} (hp : puts.length ≤ 60) (hL : Lk puts t S) (e : putT puts t S = some Sa) : Sa.K = S.K ∧ (∀ i, i < 2 → (Sa.e i).ow = (S.e i).ow) ∧ (∀ i, i < 2 → ∀ y ∈ (Sa.e i).ws, y ∈ (S.e i).ws ∨ y.2 = -1) ∧ (puts[t]? = none → Sa = S) := by
  obtain ⟨Sb, e1, h1, t1, k1, g1, w1, n1, p1⟩ := put_ok hp hL
  rw [e] at e1
  cases e1
  refine ⟨k1, fun i hi => (w1 i).2.1, fun i hi y hy => ?_, n1⟩
  cases hpt : puts[t]? with
  | none => rw [n1 hpt] at hy; exact .inl hy
  | some p =>
    obtain ⟨j, hj, a1, a2⟩ := p1 p hpt
    by_cases hij : i = j
    · subst hij
      rw [a1] at hy
      rcases List.mem_append.1 hy with hy | hy
      · exact .inl hy
      · obtain rfl := List.mem_singleton.1 hy
        exact .inr rfl
    · have : i = oth j := by unfold oth; omega
      subst this
      rw [a2] at hy
      exact .inl hy
theorem Aux.next {FS : List GF} {puts : List Int} {t : Nat} {S S' : Sys} (hp : puts.length ≤ 60) (hF : Few FS) (hL : Lk puts t S) (h : Aux t S) (hT : TickEq FS puts t S S') : Aux (t + 1) S' := by
  obtain ⟨Sa, S1, Sb, S2, e, h0, h1⟩ := hT
  obtain ⟨k, o, l, _⟩ := put_la hp hL e
  have hl : ∀ i, i < 2 → ∀ y ∈ (Sa.e i).ws, y.2 < (t : Int) := fun i hi y hy => by
    rcases l i hi y hy with h2 | h2
    · exact h.la i hi y h2
    · omega
  obtain ⟨a1, a2, a3, a4⟩ := h0.aux (by omega) hF (fun k' hk => by rw [k] at hk; have := h.due k' hk; omega) (hl 0 (by omega))
  have e1 : Sb.e 1 = Sa.e 1 := a4
  obtain ⟨b1, b2, b3, b4⟩ := h1.aux (by omega) hF a1 (by rw [e1]; exact hl 1 (by omega))
  have e0 : S'.e 0 = Sb.e 0 := b4
  refine ⟨b1, fun i hi => ?_, fun i hi => ?_⟩
  · rcases (by omega : i = 0 ∨ i = 1) with rfl | rfl
    · rw [e0]; exact a2
    · exact b2
  · rcases (by omega : i = 0 ∨ i = 1) with rfl | rfl
    · rw [e0]; exact a3
    · exact b3
/-- what end i has sent in the tick ahead of t -/
def EK (t i : Nat) (x : ES) (b : Bool) : List AK := (x.ws.filter (newB (t : Int))).map (fun y => ((t : Int), clkM ((t : Int) - 1) y.1)) ++ (if b then [((t : Int), ⟨3, (i : Int), ((oth i : Nat) : Int), x.wt, (t : Int) - 1, []⟩)] else [])
theorem cur_new {t : Nat} {ws : List (GMsg × Int)} (h : ∀ y ∈ ws, y.2 < (t : Int)) : (curP (t : Int) ws).filter (newB ((t + 1 : Nat) : Int)) = ((ws.take 8).filter (dueP (t : Int))).map (fun y => (y.1, (t : Int))) := by
  have e : ∀ y : GMsg × Int, newB ((t + 1 : Nat) : Int) y = decide (y.2 = (t : Int)) := fun y => by
    unfold newB
    rw [show ((t + 1 : Nat) : Int) - 1 = (t : Int) by omega]
  have key : ∀ l : List (GMsg × Int), (∀ y ∈ l, y.2 < (t : Int)) → (l.map (fun y => if dueP (t : Int) y then (y.1, (t : Int)) else y)).filter (newB ((t + 1 : Nat) : Int)) = (l.filter (dueP (t : Int))).map (fun y => (y.1, (t : Int))) := by
    intro l
    induction l with
    | nil => intro _; rfl
    | cons y l ih =>
      intro hl
      have ih := ih (fun z hz => hl z (List.mem_cons_of_mem _ hz))
      by_cases hd : dueP (t : Int) y = true
      · rw [List.map_cons, if_pos hd, List.filter_cons_of_pos (by rw [e]; simp), List.filter_cons_of_pos hd, List.map_cons, ih]
      · have := hl y (List.mem_cons_self ..)
        rw [List.map_cons, if_neg hd, List.filter_cons_of_neg (by rw [e]; simp; omega), List.filter_cons_of_neg hd, ih]
  have k2 : (ws.drop 8).filter (newB ((t + 1 : Nat) : Int)) = [] := List.filter_eq_nil_iff.2 (fun y hy => by have := h y (List.mem_of_mem_drop hy); rw [e]; simp; omega)
  unfold curP
  rw [List.filter_append, key _ (fun y hy => h y (List.mem_of_mem_take hy)), k2, List.append_nil]
theorem EK_out {t i : Nat} {x : ES} (h : ∀ y ∈ x.ws, y.2 < (t : Int)) : (outG x (i : Int) ((oth i : Nat) : Int) (t : Int) (t : Int)).map (fun m => ((t : Int) + 1, m)) = EK (t + 1) i { x with ow := false, ws := curP (t : Int) x.ws } x.ow := by
  unfold EK outG
  simp only
  rw [cur_new h, List.map_append, List.map_map, List.map_map]
  rw [show ((t + 1 : Nat) : Int) - 1 = (t : Int) by omega, show ((t + 1 : Nat) : Int) = (t : Int) + 1 by omega]
  congr 1
  split <;> rfl
/-- the net holds what was sent in the last tick -/
structure Late (puts : List Int) (t : Nat) (S : Sys) (b : Nat → Bool) : Prop where
  lk : Lk puts t S
  T : S.T ≤ (t : Int)
  K : S.K = EK t 0 (S.e 0) (b 0) ++ EK t 1 (S.e 1) (b 1)
  la : ∀ i, i < 2 → ∀ y ∈ (S.e i).ws, y.2 < (t : Int)
  ow : ∀ i, i < 2 → (S.e i).ow = false
theorem EK_dst {puts : List Int} {τ t i : Nat} {S : Sys} {b : Bool} (hp : puts.length ≤ 60) (hi : i < 2) (h : Lk puts τ S) : ∀ k ∈ EK t i (S.e i) b, k.1 = (t : Int) ∧ k.2.dst = ((oth i : Nat) : Int) ∧ (k.2.kind = 3 ↔ ¬ k ∈ ((S.e i).ws.filter (newB (t : Int))).map (fun y => ((t : Int), clkM ((t : Int) - 1) y.1))) := by
  have hitem : ∀ k ∈ ((S.e i).ws.filter (newB (t : Int))).map (fun y => ((t : Int), clkM ((t : Int) - 1) y.1)), k.1 = (t : Int) ∧ k.2.dst = ((oth i : Nat) : Int) ∧ k.2.kind ≤ 2 := fun k hk => by
    obtain ⟨y, hy, rfl⟩ := List.mem_map.1 hk
    obtain ⟨a, w0, _⟩ := (h.rc i hi).ws
    have hy2 : y.1 ∈ (S.e i).ws.map (·.1) := List.mem_map_of_mem (List.mem_filter.1 hy).1
    rw [w0] at hy2
    obtain ⟨q, hq⟩ := List.getElem?_of_mem (List.mem_of_mem_drop hy2)
    obtain ⟨a1, a2, a3, a4, _⟩ := (plP_good puts hp i hi τ).at_ q _ hq
    exact ⟨rfl, a4, a2⟩
  intro k hk
  by_cases hm : k ∈ ((S.e i).ws.filter (newB (t : Int))).map (fun y => ((t : Int), clkM ((t : Int) - 1) y.1))
  · obtain ⟨h1, h2, h3⟩ := hitem k hm
    exact ⟨h1, h2, ⟨fun e => by omega, fun e => absurd hm e⟩⟩
  · unfold EK at hk
    rcases List.mem_append.1 hk with hk | hk
    · exact absurd hk hm
    · split at hk
      · obtain rfl := List.mem_singleton.1 hk
        exact ⟨rfl, rfl, ⟨fun _ => hm, fun _ => rfl⟩⟩
      · cases hk
theorem rest_none {K : List AK} {t : Int} (h : ∀ k ∈ K, k.1 ≤ t ∧ (k.2.dst = 0 ∨ k.2.dst = 1)) : restL (restL K t ((0 : Nat) : Int)) t ((1 : Nat) : Int) = [] := by
  unfold restL
  rw [List.filter_filter]
  refine List.filter_eq_nil_iff.2 (fun k hk => ?_)
  obtain ⟨h1, h2⟩ := h k hk
  unfold goesB
  rw [decide_eq_true h1]
  rcases h2 with h2 | h2 <;> rw [h2] <;> decide
theorem flat_rel {FS : List GF} (hF : Few FS) {t : Nat} (ht : 40 ≤ t) (l : List GMsg) : l.flatMap (flightsF FS (t : Int)) = l.map (fun m => ((t : Int) + 1, m)) := by
  induction l with
  | nil => rfl
  | cons m l ih => rw [List.flatMap_cons, flights_rel hF ht, ih]; rfl
theorem rest_later {l : List GMsg} {t : Nat} {i : Nat} : restL (l.map (fun m => ((t : Int) + 1, m))) (t : Int) (i : Int) = l.map (fun m => ((t : Int) + 1, m)) := by
  unfold restL
  refine List.filter_eq_self.2 (fun k hk => ?_)
  obtain ⟨m, _, rfl⟩ := List.mem_map.1 hk
  unfold goesB
  have : decide ((t : Int) + 1 ≤ (t : Int)) = false := decide_eq_false (by omega)
  rw [this, Bool.and_false]
  rfl
theorem rest_app (K L : List AK) (t d : Int) : restL (K ++ L) t d = restL K t d ++ restL L t d := List.filter_append ..
/-- from tick 44 on -/
theorem late_K {FS : List GF} {puts : List Int} {t : Nat} {S S' : Sys} (hp : puts.length ≤ 60) (hpt : puts.length ≤ t) (hF : Few FS) (ht : 44 ≤ t) (hL : Lk puts t S) (hA : Aux t S) (hL' : Lk puts (t + 1) S') (hT' : S'.T ≤ (t : Int)) (hT : TickEq FS puts t S S') :
    ∃ S1 Sb S2, EndEq FS t 0 S S1 Sb ∧ EndEq FS t 1 Sb S2 S' ∧ Sb.e 1 = S.e 1 ∧ S'.e 0 = Sb.e 0 ∧ Sb.K = restL S.K (t : Int) ((0 : Nat) : Int) ++ (outG (S1.e 0) 0 1 (t : Int) (t : Int)).map (fun m => ((t : Int) + 1, m)) ∧ Late puts (t + 1) S' (fun i => if i = 0 then (S1.e 0).ow else (S2.e 1).ow) := by
  have hA' := hA.next hp hF hL hT
  obtain ⟨Sa, S1, Sb, S2, e, h0, h1⟩ := hT
  have hnone : puts[t]? = none := List.getElem?_eq_none hpt
  obtain ⟨_, _, _, n1⟩ := put_la hp hL e
  obtain rfl := n1 hnone
  have e1 : Sb.e 1 = Sa.e 1 := by rw [h0.e, updN_ne _ _ (by omega)]; exact h0.o1
  have e0 : S'.e 0 = Sb.e 0 := by
    rw [h1.e, updN_ne _ _ (by omega)]
    exact h1.o1
  have l0 : ∀ y ∈ (S1.e 0).ws, y.2 < (t : Int) := fun y hy => by
    obtain ⟨c, hc⟩ := h0.s1
    exact hA.la 0 (by omega) y (by rw [← hc]; exact List.mem_append_right _ hy)
  have l1 : ∀ y ∈ (S2.e 1).ws, y.2 < (t : Int) := fun y hy => by
    obtain ⟨c, hc⟩ := h1.s1
    rw [e1] at hc
    exact hA.la 1 (by omega) y (by rw [← hc]; exact List.mem_append_right _ hy)
  have k0 : Sb.K = restL Sa.K (t : Int) ((0 : Nat) : Int) ++ (outG (S1.e 0) 0 1 (t : Int) (t : Int)).map (fun m => ((t : Int) + 1, m)) := by
    rw [h0.K, h0.K1, flat_rel hF (by omega)]
    rfl
  have k1 : S'.K = (outG (S1.e 0) 0 1 (t : Int) (t : Int)).map (fun m => ((t : Int) + 1, m)) ++ (outG (S2.e 1) 1 0 (t : Int) (t : Int)).map (fun m => ((t : Int) + 1, m)) := by
    rw [h1.K, h1.K1, k0, flat_rel hF (by omega), rest_app, rest_none, rest_later, List.nil_append]
    · rfl
    · intro k hk
      have h2 := hA.due k hk
      obtain ⟨i, hi, h3⟩ := hL.km k hk
      have h4 := h3.2.1
      unfold oth at h4
      omega
  refine ⟨S1, Sb, S2, h0, h1, e1, e0, k0, hL', by omega, ?_, hA'.la, hA'.ow⟩
  rw [k1]
  have x0 := EK_out (i := 0) l0
  have x1 := EK_out (i := 1) l1
  have y0 : S'.e 0 = { S1.e 0 with ow := false, ws := curP (t : Int) (S1.e 0).ws } := by rw [e0, h0.e, updN_same]
  have y1 : S'.e 1 = { S2.e 1 with ow := false, ws := curP (t : Int) (S2.e 1).ws } := by rw [h1.e, updN_same]
  rw [y0, y1]
  simp only [if_true]
  rw [if_neg (by omega), ← x0, ← x1]
  rfl
/-- what end i receives -/
theorem take_EK {t i : Nat} {x : ES} {b : Bool} (ht : t ≤ 5000) {K : List AK} (hd : ∀ k ∈ EK t (oth i) x b, k.1 = (t : Int) ∧ k.2.dst = (i : Int)) (A C : List AK) (hK : K = A ++ EK t (oth i) x b ++ C) (hA : ∀ k ∈ A, k.2.dst ≠ (i : Int)) (hC : ∀ k ∈ C, k.2.dst ≠ (i : Int) ∨ (t : Int) < k.1) : takeL K (t : Int) (i : Int) = EK t (oth i) x b := by
  have e : K.filter (goesB (t : Int) (i : Int)) = EK t (oth i) x b := by
    rw [hK, List.filter_append, List.filter_append, List.filter_eq_nil_iff.2, List.filter_eq_self.2, List.filter_eq_nil_iff.2, List.nil_append, List.append_nil]
    · intro k hk
      unfold goesB
      rw [Bool.and_eq_true, decide_eq_true_eq, decide_eq_true_eq]
      rcases hC k hk with h | h <;> omega
    · intro k hk
      obtain ⟨h1, h2⟩ := hd k hk
      unfold goesB
      rw [decide_eq_true h2, decide_eq_true (by omega)]
      rfl
    · intro k hk
      have := hA k hk
      unfold goesB
      rw [decide_eq_false this]
      simp
  unfold takeL
  rw [e]
  exact dueSort_same (d := (t : Int)) (by omega) (by omega) (fun k hk => (hd k hk).1)
theorem recv_exact {puts : List Int} {τ t i : Nat} {S S0 S1 : Sys} {b : Bool} (hp : puts.length ≤ 60) (hi : i < 2) (h : Lk puts τ S0) (hr : recvS t i S = some S1) (ho : (S.e i).ow = false) (ht : takeL S.K (t : Int) (i : Int) = EK t (oth i) (S0.e (oth i)) b) :
    (S1.e i).wt = adv (S.e i).wt (seqsN (t : Int) (S0.e (oth i)).ws) ∧ (S1.e i).ow = !((S0.e (oth i)).ws.filter (newB (t : Int))).isEmpty ∧ (S1.e i).ws = ackD b (S0.e (oth i)).wt (S.e i).ws := by
  have hoi := oth_two hi
  unfold recvS at hr
  rw [ht] at hr
  obtain ⟨x, hx, hS⟩ := Option.map_eq_some_iff.1 hr
  obtain ⟨a1, a2, a3⟩ := ins_exact _ _ _ hx
  have hD := EK_dst (t := t) (b := b) hp hoi.1 h
  have hk2 : ∀ y ∈ (S0.e (oth i)).ws.filter (newB (t : Int)), (clkM ((t : Int) - 1) y.1).kind ≠ 3 := fun y hy hk => by
    have hm : ((t : Int), clkM ((t : Int) - 1) y.1) ∈ ((S0.e (oth i)).ws.filter (newB (t : Int))).map (fun y => ((t : Int), clkM ((t : Int) - 1) y.1)) := List.mem_map.2 ⟨y, hy, rfl⟩
    have := (hD _ (by unfold EK; exact List.mem_append_left _ hm)).2.2
    exact (this.1 hk) hm
  have f1 : ((EK t (oth i) (S0.e (oth i)) b).map (·.2)).filter (fun m => decide (m.kind ≠ 3)) = ((S0.e (oth i)).ws.filter (newB (t : Int))).map (fun y => clkM ((t : Int) - 1) y.1) := by
    unfold EK
    rw [List.map_append, List.filter_append, List.map_map]
    have : ((if b = true then [((t : Int), (⟨3, ((oth i : Nat) : Int), ((oth (oth i) : Nat) : Int), (S0.e (oth i)).wt, (t : Int) - 1, []⟩ : GMsg))] else []).map (·.2)).filter (fun m => decide (m.kind ≠ 3)) = [] := by
      split <;> rfl
    rw [this, List.append_nil]
    refine List.filter_eq_self.2 (fun m hm => ?_)
    obtain ⟨y, hy, rfl⟩ := List.mem_map.1 hm
    exact decide_eq_true (hk2 y hy)
  have f2 : ((EK t (oth i) (S0.e (oth i)) b).map (·.2)).filter (fun m => decide (m.kind = 3)) = if b then [⟨3, ((oth i : Nat) : Int), ((oth (oth i) : Nat) : Int), (S0.e (oth i)).wt, (t : Int) - 1, []⟩] else [] := by
    unfold EK
    rw [List.map_append, List.filter_append, List.map_map]
    have : (((S0.e (oth i)).ws.filter (newB (t : Int))).map ((fun k : AK => k.2) ∘ fun y => ((t : Int), clkM ((t : Int) - 1) y.1))).filter (fun m => decide (m.kind = 3)) = [] := by
      refine List.filter_eq_nil_iff.2 (fun m hm => ?_)
      obtain ⟨y, hy, rfl⟩ := List.mem_map.1 hm
      have := hk2 y hy
      simpa using this
    rw [this, List.nil_append]
    split <;> rfl
  rw [f1] at a1 a2
  rw [f2] at a3
  have eS : S1.e i = { x with gs := [] } := by
    rw [← hS]
    simp only [updN_same]
  rw [eS]
  simp only
  refine ⟨?_, ?_, ?_⟩
  · rw [a1, List.map_map]
    rfl
  · rw [a2, ho, Bool.false_or]
    cases (S0.e (oth i)).ws.filter (newB (t : Int)) <;> rfl
  · rw [a3]
    unfold ackD
    cases b with
    | false => rfl
    | true => rfl
/-- what a tick makes of one direction -/
structure Next (t : Nat) (S : Sys) (b : Nat → Bool) (S' : Sys) (b' : Nat → Bool) : Prop where
  ws : ∀ i, i < 2 → (S'.e i).ws = curP (t : Int) (ackD (b (oth i)) (S.e (oth i)).wt (S.e i).ws)
  wt : ∀ i, i < 2 → (S'.e i).wt = adv (S.e i).wt (seqsN (t : Int) (S.e (oth i)).ws)
  ow : ∀ i, i < 2 → b' i = !((S.e (oth i)).ws.filter (newB (t : Int))).isEmpty
theorem Lk.few {puts : List Int} {τ i : Nat} {S : Sys} (hp : puts.length ≤ 60) (hi : i < 2) (h : Lk puts τ S) : (S.e i).ws.length ≤ 60 := by
  obtain ⟨a, w0, _⟩ := (h.rc i hi).ws
  have := congrArg List.length w0
  rw [List.length_map, List.length_drop] at this
  have := (plP_good puts hp i hi τ).len
  omega
theorem EK_len (t i : Nat) (x : ES) (b : Bool) : (EK t i x b).length ≤ x.ws.length + 1 := by
  unfold EK
  rw [List.length_append, List.length_map]
  have := List.length_filter_le (newB (t : Int)) x.ws
  split
  · simp; omega
  · simp; omega
theorem Late.next {FS : List GF} {puts : List Int} {t : Nat} {S : Sys} {b : Nat → Bool} (hp : puts.length ≤ 60) (hpt : puts.length ≤ t) (hF : Few FS) (ht : 44 ≤ t) (ht2 : t ≤ 2000) (h : Late puts t S b) :
    ∃ S' b', tickS FS puts t S = some S' ∧ Late puts (t + 1) S' b' ∧ Next t S b S' b' := by
  have hnone : puts[t]? = none := List.getElem?_eq_none hpt
  obtain ⟨Sa, e1, h1, t1, k1, g1, w1, n1, p1⟩ := put_ok hp h.lk
  obtain rfl := n1 hnone
  have D0 := EK_dst (t := t) (b := b 0) hp (i := 0) (by omega) h.lk
  have D1 := EK_dst (t := t) (b := b 1) hp (i := 1) (by omega) h.lk
  have hK : Sa.K.length ≤ 122 := by
    rw [h.K, List.length_append]
    have := EK_len t 0 (Sa.e 0) (b 0)
    have := EK_len t 1 (Sa.e 1) (b 1)
    have := h.lk.few hp (i := 0) (by omega)
    have := h.lk.few hp (i := 1) (by omega)
    omega
  have few : ∀ (x : ES) (a c T ck : Int), (outG x a c T ck).length ≤ 9 := fun x a c T ck => by
    have := outG_length x a c T ck
    have h2 := List.length_filter_le (dueP T) (x.ws.take 8)
    rw [List.length_take] at h2
    omega
  obtain ⟨S1, Sb, E0, L1, L2, T2, K2⟩ := end_ok (FS := FS) (t := t) (i := 0) hp ht2 (by omega) h1 h.T (fun S1 _ _ k _ _ => by
    have h2 := few (S1.e 0) ((0 : Nat) : Int) ((oth 0 : Nat) : Int) (t : Int) (t : Int)
    have h3 : S1.K.length ≤ Sa.K.length := by rw [k]; exact List.length_filter_le _ _
    omega)
  have hK2 : Sb.K.length ≤ 140 := by
    have h2 := few (S1.e 0) ((0 : Nat) : Int) ((oth 0 : Nat) : Int) (t : Int) (t : Int)
    have h3 : S1.K.length ≤ Sa.K.length := by rw [E0.K1]; exact List.length_filter_le _ _
    omega
  obtain ⟨S2, S', E1, L3, L4, T4, K4⟩ := end_ok (FS := FS) (t := t) (i := 1) hp ht2 (by omega) L2 T2 (fun S1 _ _ k _ _ => by
    have h2 := few (S1.e 1) ((1 : Nat) : Int) ((oth 1 : Nat) : Int) (t : Int) (t : Int)
    have h3 : S1.K.length ≤ Sb.K.length := by rw [k]; exact List.length_filter_le _ _
    omega)
  have hA : Aux t Sa := ⟨fun k hk => by
    rw [h.K] at hk
    rcases List.mem_append.1 hk with hk | hk
    · have := (D0 k hk).1; omega
    · have := (D1 k hk).1; omega, h.la, h.ow⟩
  obtain ⟨S1', Sb', S2', E0', E1', q1, q0, kb, hLate⟩ := late_K hp hpt hF ht h.lk hA L4 T4 ⟨Sa, S1, Sb, S2, e1, E0, E1⟩
  have x1 : S1' = S1 := by
    have := E0'.recv
    rw [E0.recv] at this
    exact (Option.some.inj this).symm
  have x2 : Sb' = Sb := by
    have := E0'.run
    rw [E0.run] at this
    exact (Option.some.inj this).symm
  subst x1
  subst x2
  have x3 : S2' = S2 := by
    have := E1'.recv
    rw [E1.recv] at this
    exact (Option.some.inj this).symm
  subst x3
  have k0 : takeL Sa.K (t : Int) ((0 : Nat) : Int) = EK t (oth 0) (Sa.e (oth 0)) (b 1) := by
    refine take_EK (by omega) (fun k hk => ?_) (EK t 0 (Sa.e 0) (b 0)) [] (by rw [List.append_nil]; exact h.K) (fun k hk => ?_) (fun k hk => by cases hk)
    · have := D1 k hk
      exact ⟨this.1, this.2.1⟩
    · have := (D0 k hk).2.1
      unfold oth at this
      omega
  have k1 : takeL Sb'.K (t : Int) ((1 : Nat) : Int) = EK t (oth 1) (Sa.e (oth 1)) (b 0) := by
    have hr : restL Sa.K (t : Int) ((0 : Nat) : Int) = EK t 0 (Sa.e 0) (b 0) := by
      rw [h.K, rest_app]
      have r1 : restL (EK t 0 (Sa.e 0) (b 0)) (t : Int) ((0 : Nat) : Int) = EK t 0 (Sa.e 0) (b 0) := List.filter_eq_self.2 (fun k hk => by
        have := (D0 k hk).2.1
        unfold goesB
        rw [this]
        rfl)
      have r2 : restL (EK t 1 (Sa.e 1) (b 1)) (t : Int) ((0 : Nat) : Int) = [] := List.filter_eq_nil_iff.2 (fun k hk => by
        have := D1 k hk
        unfold goesB
        rw [this.2.1, decide_eq_true (show k.1 ≤ (t : Int) by omega)]
        decide)
      rw [r1, r2, List.append_nil]
    rw [hr] at kb
    refine take_EK (by omega) (fun k hk => ?_) [] _ (by rw [List.nil_append]; exact kb) (fun k hk => by cases hk) (fun k hk => ?_)
    · have := D0 k hk
      exact ⟨this.1, this.2.1⟩
    · obtain ⟨m, _, rfl⟩ := List.mem_map.1 hk
      exact .inr (by simp only; omega)
  obtain ⟨a1, a2, a3⟩ := recv_exact (b := b 1) hp (i := 0) (by omega) h.lk E0.recv (h.ow 0 (by omega)) k0
  obtain ⟨c1, c2, c3⟩ := recv_exact (b := b 0) hp (i := 1) (by omega) h.lk E1.recv (by rw [q1]; exact h.ow 1 (by omega)) k1
  rw [q1] at c1 c3
  refine ⟨S', _, ?_, hLate, ⟨fun i hi => ?_, fun i hi => ?_, fun i hi => ?_⟩⟩
  · unfold tickS
    rw [e1, Option.bind_some, E0.run, Option.bind_some, E1.run]
  · rcases (by omega : i = 0 ∨ i = 1) with rfl | rfl
    · rw [q0, E0.e, updN_same]
      simp only
      rw [a3]
      rfl
    · rw [E1.e, updN_same]
      simp only
      rw [c3]
      rfl
  · rcases (by omega : i = 0 ∨ i = 1) with rfl | rfl
    · rw [q0, E0.e, updN_same]
      exact a1
    · rw [E1.e, updN_same]
      exact c1
  · rcases (by omega : i = 0 ∨ i = 1) with rfl | rfl
    · exact a2
    · exact c2
end Go.Proofs.Ytpnefacignalpaa

namespace Go.Proofs.Ytpnefacignalpaa
set_option linter.unusedVariables false
/-- one direction, from end i -/
def Dir (n i t : Nat) (S : Sys) (b : Nat → Bool) (Q : Nat → Nat → List (GMsg × Int) → Bool → Prop) : Prop := ∃ a w : Nat, (S.e (oth i)).wt = (w : Int) ∧ DS n a w (t : Int) (S.e i).ws ∧ Q a w (S.e i).ws (b (oth i))
theorem Dir.step {n i t : Nat} {S S' : Sys} {b b' : Nat → Bool} {Q Q' : Nat → Nat → List (GMsg × Int) → Bool → Prop} (hi : i < 2) (h : Dir n i t S b Q) (hN : Next t S b S' b') (hQ : ∀ a w ws bb a1 w1 ws1 b1, DS n a w (t : Int) ws → DN n a w (t : Int) ws bb a1 w1 ws1 b1 → Q a w ws bb → Q' a1 w1 ws1 b1) : Dir n i (t + 1) S' b' Q' := by
  obtain ⟨a, w, hw, hd, hq⟩ := h
  have ho := oth_two hi
  have hwt := hN.wt (oth i) ho.1
  have how := hN.ow (oth i) ho.1
  have hws := hN.ws i hi
  rw [ho.2.1] at hwt how
  rw [hw] at hwt hws
  obtain ⟨a1, hDN⟩ := hd.step (b := b (oth i)) hwt how
  rw [← hws] at hDN
  have hge : 0 ≤ (S'.e (oth i)).wt := by rw [hwt]; have := adv_ge (seqsN (t : Int) (S.e i).ws) (w : Int); omega
  refine ⟨a1, (S'.e (oth i)).wt.toNat, by omega, ?_, hQ _ _ _ _ _ _ _ _ hd hDN hq⟩
  have := hDN.ds
  rw [show ((t + 1 : Nat) : Int) = (t : Int) + 1 by omega]
  exact this
def Q1 (t : Nat) (a w : Nat) (ws : List (GMsg × Int)) (b : Bool) : Prop := Fresh a w b ∨ ∃ y, ws[0]? = some y ∧ (t : Int) + ep (t : Int) y.2 ≤ 49
def Q2 (n t : Nat) (a w : Nat) (ws : List (GMsg × Int)) (b : Bool) : Prop := Fresh a w b ∧ (w = n ∨ ∃ y, ws[w - a]? = some y ∧ (t : Int) + 3 * ((n : Int) - w) + dl (t : Int) y.2 ≤ 111)
def Q3L (n t : Nat) (a w : Nat) (ws : List (GMsg × Int)) (b : Bool) : Prop := w = n ∧ (b = true ∨ a = n ∨ ∃ y, ws[0]? = some y ∧ (t : Int) + ep (t : Int) y.2 ≤ 114)
theorem ep_ge (t s : Int) : 1 ≤ ep t s := by
  unfold ep
  split
  · omega
  · split <;> omega
theorem ep_le {t s : Int} (h : s < t) : ep t s ≤ 4 := by
  unfold ep
  split
  · omega
  · split <;> omega
theorem dl_range {t s : Int} (h : s < t) : -1 ≤ dl t s ∧ dl t s ≤ 2 := by
  unfold dl
  split
  · omega
  · split <;> omega
section
variable {n t a w a1 w1 : Nat} {ws ws1 : List (GMsg × Int)} {bb b1 : Bool}
theorem q1_start (hd : DS n a w ((45 : Nat) : Int) ws) (bb : Bool) : Q1 45 a w ws bb := by
  by_cases hb : bb = true
  · exact .inl (.inl hb)
  · have h1 := hd.len
    have h2 := hd.aw
    have h3 := hd.wn
    by_cases ha : ws.length = 0
    · exact .inl (.inr (by omega))
    · obtain ⟨y, hy⟩ : ∃ y, ws[0]? = some y := ⟨_, List.getElem?_eq_getElem (by omega)⟩
      have h4 := ep_le (hd.la y (List.mem_of_getElem? hy))
      exact .inr ⟨y, hy, by omega⟩
theorem q1_step (hd : DS n a w (t : Int) ws) (h : DN n a w (t : Int) ws bb a1 w1 ws1 b1) (hq : Q1 t a w ws bb) : Q1 (t + 1) a1 w1 ws1 b1 := by
  rcases hq with hq | ⟨y, hy, hB⟩
  · exact .inl (h.fresh hq)
  · cases hb : bb with
    | true => exact .inl (h.fresh (.inl hb))
    | false =>
      rcases h.answer hd (by omega) hb hy hB with h1 | ⟨y1, h1, h2⟩
      · exact .inl (.inl h1)
      · exact .inr ⟨y1, h1, by rw [show ((t + 1 : Nat) : Int) = (t : Int) + 1 by omega]; exact h2⟩
theorem q2_start (hn : n ≤ 20) (hd : DS n a w ((49 : Nat) : Int) ws) (hq : Q1 49 a w ws bb) : Q2 n 49 a w ws bb := by
  have h1 := hd.len
  have h2 := hd.aw
  have h3 := hd.wn
  rcases hq with hq | ⟨y, hy, hB⟩
  · refine ⟨hq, ?_⟩
    by_cases hw : w = n
    · exact .inl hw
    · obtain ⟨y, hy⟩ : ∃ y, ws[w - a]? = some y := ⟨_, List.getElem?_eq_getElem (by omega)⟩
      have h4 := (dl_range (hd.la y (List.mem_of_getElem? hy))).2
      exact .inr ⟨y, hy, by omega⟩
  · have := ep_ge ((49 : Nat) : Int) y.2
    omega
theorem q2_step (hd : DS n a w (t : Int) ws) (h : DN n a w (t : Int) ws bb a1 w1 ws1 b1) (hq : Q2 n t a w ws bb) : Q2 n (t + 1) a1 w1 ws1 b1 := by
  refine ⟨h.fresh hq.1, ?_⟩
  rcases hq.2 with hw | ⟨y, hy, hB⟩
  · have := h.le
    have := h.ds.wn
    exact .inl (by omega)
  · rcases h.prog hd (by omega) hq.1 hy hB with h1 | ⟨y1, h1, h2⟩
    · exact .inl h1
    · exact .inr ⟨y1, h1, by rw [show ((t + 1 : Nat) : Int) = (t : Int) + 1 by omega]; exact h2⟩
theorem q3_start (hd : DS n a w ((110 : Nat) : Int) ws) (hq : Q2 n 110 a w ws bb) : Q3L n 110 a w ws bb := by
  have h1 := hd.len
  have h2 := hd.aw
  have h3 := hd.wn
  have hw : w = n := by
    rcases hq.2 with hw | ⟨y, hy, hB⟩
    · exact hw
    · have h4 := (dl_range (hd.la y (List.mem_of_getElem? hy))).1
      omega
  refine ⟨hw, ?_⟩
  by_cases ha : ws.length = 0
  · exact .inr (.inl (by omega))
  · obtain ⟨y, hy⟩ : ∃ y, ws[0]? = some y := ⟨_, List.getElem?_eq_getElem (by omega)⟩
    have h4 := ep_le (hd.la y (List.mem_of_getElem? hy))
    exact .inr (.inr ⟨y, hy, by omega⟩)
theorem q3_step (hd : DS n a w (t : Int) ws) (h : DN n a w (t : Int) ws bb a1 w1 ws1 b1) (hq : Q3L n t a w ws bb) : Q3L n (t + 1) a1 w1 ws1 b1 := by
  obtain ⟨hw, hq⟩ := hq
  have h1 := h.le
  have h2 := h.ds.wn
  have h3 := h.ds.aw
  have h4 := hd.aw
  refine ⟨by omega, ?_⟩
  cases hb : bb with
  | true =>
    have := h.ack.1 hb
    exact .inr (.inl (by omega))
  | false =>
    have ha := h.ack.2 hb
    rcases hq with hq | hq | ⟨y, hy, hB⟩
    · rw [hb] at hq; cases hq
    · exact .inr (.inl (by omega))
    · rcases h.answer hd (by omega) hb hy hB with h5 | ⟨y1, h5, h6⟩
      · exact .inl h5
      · exact .inr (.inr ⟨y1, h5, by rw [show ((t + 1 : Nat) : Int) = (t : Int) + 1 by omega]; exact h6⟩)
end
def At (FS : List GF) (puts : List Int) (t : Nat) (Q : Nat → Nat → Nat → Nat → List (GMsg × Int) → Bool → Prop) : Prop := ∃ S b, runS FS puts t = some S ∧ Late puts t S b ∧ ∀ i, i < 2 → Dir (plP puts i 45).length i t S b (Q (plP puts i 45).length t)
theorem At.steps {FS : List GF} {puts : List Int} (hp : puts.length ≤ 44) (hF : Few FS) {Q : Nat → Nat → Nat → Nat → List (GMsg × Int) → Bool → Prop} {t0 : Nat} (h0 : 44 ≤ t0) (hQ : ∀ (n t a w : Nat) (ws : List (GMsg × Int)) (bb : Bool) (a1 w1 : Nat) (ws1 : List (GMsg × Int)) (b1 : Bool), DS n a w (t : Int) ws → DN n a w (t : Int) ws bb a1 w1 ws1 b1 → Q n t a w ws bb → Q n (t + 1) a1 w1 ws1 b1) (h : At FS puts t0 Q) : ∀ j, t0 + j ≤ 2000 → At FS puts (t0 + j) Q
  | 0, _ => h
  | j + 1, hj => by
    obtain ⟨S, b, e, hL, hD⟩ := At.steps hp hF h0 hQ h j (by omega)
    obtain ⟨S', b', e', hL', hN⟩ := hL.next (by omega) (by omega) hF (by omega) (by omega)
    refine ⟨S', b', ?_, hL', fun i hi => (hD i hi).step hi hN (fun a w ws bb a1 w1 ws1 b1 h1 h2 h3 => hQ _ _ _ _ _ _ _ _ _ _ h1 h2 h3)⟩
    show (runS FS puts (t0 + j)).bind (tickS FS puts (t0 + j)) = _
    rw [e, Option.bind_some, e']
theorem At.turn {FS : List GF} {puts : List Int} {t : Nat} {Q Q' : Nat → Nat → Nat → Nat → List (GMsg × Int) → Bool → Prop} (h : At FS puts t Q) (hQ : ∀ i a w ws bb, DS (plP puts i 45).length a w (t : Int) ws → Q (plP puts i 45).length t a w ws bb → Q' (plP puts i 45).length t a w ws bb) : At FS puts t Q' := by
  obtain ⟨S, b, e, hL, hD⟩ := h
  refine ⟨S, b, e, hL, fun i hi => ?_⟩
  obtain ⟨a, w, h1, h2, h3⟩ := hD i hi
  exact ⟨a, w, h1, h2, hQ i a w _ _ h2 h3⟩
theorem at45 {FS : List GF} {puts : List Int} (hp : puts.length ≤ 20) (hF : Few FS) : At FS puts 45 (fun _ t a w ws b => Q1 t a w ws b) := by
  have hp6 : puts.length ≤ 60 := by omega
  obtain ⟨S, e, h, hT, hb, hA⟩ := run_pot (FS := FS) (N := 46) (puts := puts) (Aux := Aux) ⟨fun k hk => (by cases hk), fun i _ y hy => (by cases hy), fun _ _ => rfl⟩ (fun t S S' _ hL hA hQ => hA.next hp6 hF hL hQ) hp6 (by omega) (bud46 _ (by omega)) 44 (by omega)
  have h1 : bud 46 puts.length 44 + (if 44 < puts.length then 46 + 3 - 44 else 0) + 8 * 45 ≤ 2000 := bud46 _ (by omega : puts.length < 21) 44 (by omega)
  rw [if_neg (by omega)] at h1
  obtain ⟨S', e', q', h', hT', hb'⟩ := tick_pot (FS := FS) (t := 44) (N := 46) hp6 (by omega) (by omega) h hT hb (by rw [if_neg (by omega)]; omega)
  obtain ⟨S1, Sb, S2, _, _, _, _, _, hL⟩ := late_K hp6 (by omega) hF (by omega) h hA h' hT' q'
  have hL : Late puts 45 S' _ := hL
  refine ⟨S', _, ?_, hL, fun i hi => ?_⟩
  · show (runS FS puts 44).bind (tickS FS puts 44) = _
    rw [e, Option.bind_some, e']
  · have ho := oth_two hi
    have hr := hL.lk.rc i hi
    have hro := hL.lk.rc (oth i) ho.1
    rw [ho.2.1] at hro
    obtain ⟨a, w0, w1⟩ := hr.ws
    have hG := plP_good puts hp6 i hi 45
    have hlen := congrArg List.length w0
    rw [List.length_map, List.length_drop] at hlen
    have hw := hro.wt
    have hD : DS (plP puts i 45).length a (S'.e (oth i)).wt.toNat ((45 : Nat) : Int) (S'.e i).ws := by
      refine ⟨by omega, fun j y hy => ?_, by omega, by omega, hL.la i hi⟩
      have h2 : ((S'.e i).ws.map (·.1))[j]? = some y.1 := by rw [List.getElem?_map, hy]; rfl
      rw [w0, List.getElem?_drop] at h2
      exact (hG.at_ _ _ h2).2.2.2.2.1
    exact ⟨a, _, by omega, hD, q1_start hD _⟩
theorem plP_sum (puts : List Int) : ∀ t, (plP puts 0 t).length + (plP puts 1 t).length = min t puts.length
  | 0 => by simp [plP]
  | t + 1 => by
    have ih := plP_sum puts t
    cases hpt : puts[t]? with
    | none =>
      have : puts.length ≤ t := List.getElem?_eq_none_iff.1 hpt
      simp only [plP, hpt]
      omega
    | some p =>
      have : t < puts.length := (List.getElem?_eq_some_iff.1 hpt).1
      simp only [plP, hpt]
      rcases (by omega : p % 2 = 0 ∨ p % 2 = 1) with h | h
      · rw [if_pos (by omega), if_neg (by omega), List.length_append]
        simp only [List.length_cons, List.length_nil]
        omega
      · rw [if_neg (by omega), if_pos (by omega), List.length_append]
        simp only [List.length_cons, List.length_nil]
        omega
theorem all_law {FS : List GF} {puts : List Int} (hp : puts.length ≤ 20) (hF : Few FS) : ∃ S, runS FS puts 120 = some S ∧ (S.e 0).ws = [] ∧ (S.e 1).ws = [] ∧ (S.g 0).length + (S.g 1).length = puts.length := by
  have hn : ∀ i, (plP puts i 45).length ≤ 20 := fun i => by have := (plP_len puts i 45).2; omega
  have a1 := (at45 hp hF).steps (by omega) hF (by omega) (fun n t a w ws bb a1 w1 ws1 b1 h1 h2 h3 => q1_step h1 h2 h3) 4 (by omega)
  have a2 := a1.turn (Q' := fun n t a w ws b => Q2 n t a w ws b) (fun i a w ws bb h1 h2 => q2_start (hn i) h1 h2)
  have a3 := a2.steps (by omega) hF (by omega) (fun n t a w ws bb a1 w1 ws1 b1 h1 h2 h3 => q2_step h1 h2 h3) 61 (by omega)
  have a4 := a3.turn (Q' := fun n t a w ws b => Q3L n t a w ws b) (fun i a w ws bb h1 h2 => q3_start h1 h2)
  have a5 := a4.steps (by omega) hF (by omega) (fun n t a w ws bb a1 w1 ws1 b1 h1 h2 h3 => q3_step h1 h2 h3) 9 (by omega)
  have a6 := a5.turn (Q' := fun n t a w ws b => w = n ∧ (b = true ∨ a = n)) (fun i a w ws bb h1 h2 => ⟨h2.1, by
    rcases h2.2 with h | h | ⟨y, hy, hB⟩
    · exact .inl h
    · exact .inr h
    · have := ep_ge ((119 : Nat) : Int) y.2
      have hB2 : ((119 : Nat) : Int) + ep ((119 : Nat) : Int) y.2 ≤ 114 := hB
      omega⟩)
  obtain ⟨S, b, e, hL, hD⟩ := a6
  obtain ⟨S', b', e', hL', hN⟩ := hL.next (by omega) (by omega) hF (by omega) (by omega)
  have hE : ∀ i, i < 2 → Dir (plP puts i 45).length i 120 S' b' (fun a w ws bb => w = (plP puts i 45).length ∧ a = (plP puts i 45).length) := fun i hi => (hD i hi).step hi hN (fun a w ws bb a1 w1 ws1 b1 h1 h2 h3 => by
    have h4 := h2.le
    have h5 := h2.ds.wn
    have h6 := h2.ds.len
    have h8 := h1.aw
    refine ⟨by omega, ?_⟩
    rcases h3.2 with h | h
    · have := h2.ack.1 h; omega
    · cases hb : bb with
      | true => have := h2.ack.1 hb; omega
      | false => have := h2.ack.2 hb; omega)
  have hws : ∀ i, i < 2 → (S'.e i).ws = [] ∧ (S'.e (oth i)).wt = ((plP puts i 45).length : Int) := fun i hi => by
    obtain ⟨a, w, h1, h2, h3, h4⟩ := hE i hi
    have := h2.len
    exact ⟨List.eq_nil_of_length_eq_zero (by omega), by omega⟩
  have hg : ∀ i, i < 2 → (S'.g i).length = (plP puts (oth i) 45).length := fun i hi => by
    have h0 := (hL'.lk.rc i hi).got
    have h1 := congrArg List.length h0
    rw [hL'.lk.gs i hi, List.append_nil, List.length_map, List.length_take] at h1
    have h2 := (hL'.lk.rc i hi).wt.2
    have h3 := (hws (oth i) (oth_two hi).1).2
    rw [(oth_two hi).2.1] at h3
    omega
  have e1 : runS FS puts 120 = some S' := by
    show (runS FS puts 119).bind (tickS FS puts 119) = _
    have e2 : runS FS puts 119 = some S := e
    have e3 : tickS FS puts 119 S = some S' := e'
    rw [e2, Option.bind_some, e3]
  have g0 : (S'.g 0).length = (plP puts 1 45).length := hg 0 (by omega)
  have g1 : (S'.g 1).length = (plP puts 0 45).length := hg 1 (by omega)
  have hs := plP_sum puts 45
  exact ⟨S', e1, (hws 0 (by omega)).1, (hws 1 (by omega)).1, by omega⟩
end Go.Proofs.Ytpnefacignalpaa

namespace Go.Gy
open Go Go.RowKit
section
variable {P : Program} {ops : Array Oper} {Q : Exit → Act → World → Prop} {o : Oper} {rest : List Oper} {a : Act} {w : World}
/-- x = x[1:], of a row that begins anywhere -/
theorem wpList_tailO (hgd : o.guard = none) (t : TypeId) (s : Operand) (ho : o.op = .slice t s (some (.const (.int .i64 1))) none none) (size : Nat)
    (hu : P.underlying t = some (.slice (P.elem t))) (hr : ∀ w, (sizeOf (P.elem t)).run P w = .ok size w) (g off n c : Nat) (hs : a.eval s = .slice (some ⟨g, off, none⟩) (n + 1) c) (hc : 0 < c) (hcn : n + 1 ≤ c) (Aq : Addr) (hAq : Aq = if c = 1 then ⟨g, off, none⟩ else ⟨g, off + size, none⟩)
    (h : wpList P ops Q rest (a.put o.dst (.slice (some Aq) n (c - 1))) w) : wpList P ops Q (o :: rest) a w := by
  subst hAq
  refine wpList_plain hgd fun _ hK => ?_
  have hrun : (Instr.slice t (.slice (some ⟨g, off, none⟩) (n + 1) c) (some (.int .i64 1)) none none).run P w = .ok (.slice (some (if c = 1 then ⟨g, off, none⟩ else ⟨g, off + size, none⟩)) n (c - 1)) w := by
    rw [run_slice_l w t _ _ _ hu .i64 1 (by omega) (by omega), hr]
    simp only [Result.andThen, sliced, Int.toNat_one, Nat.one_mul]
    by_cases h1 : c = 1
    · subst h1
      simp
    · rw [if_neg h1]
      simp [add_none]
      intro h2
      omega
  unfold Oper.wp execOp
  have hx1 : a.eval (Operand.const (.int .i64 1)) = .int .i64 1 := rfl
  simp only [ho, hs, hx1, Option.map_none, Option.map_some, run_sliceAt_slice w t _ _ _ _ hu, hrun, Sem.run_bind, Sem.run_pure, Result.andThen_ok]
  exact hK _ _ h
end
end Go.Gy
namespace Go.Proofs.Ytpnefacignalpaa
open Go.RowKit Go.Gy
set_option linter.unusedVariables false
set_option linter.unusedSimpArgs false
theorem exec_litC {ev : Operand → Value} {o : Oper} {W : World} (x : Operand) (ho : o.op = .buildSlice 41 1 #[(0, x)]) (k q : Int) (hx : ev x = .agg #[.int .i64 k, .int .i64 q]) :
    (execOp ev o).run Try.prog W = .ok (.value (.slice (some ⟨W.heap.size, 0, none⟩) 1 1)) (W.alloc (.cells #[.int .i64 k, .int .i64 q] 88)) := by
  unfold execOp
  simp only [ho, List.map_toArray, List.map_cons, List.map_nil, hx]
  go_simp
theorem size_msgs (w : World) : (sizeOf (Try.prog.elem 23)).run Try.prog w = .ok 6 w := by
  obtain ⟨i, hi, _⟩ := info_parts info_msgI
  exact (run_sizeOf (w := w) (show Try.prog.info? (Try.prog.elem 23) = some i from hi)).trans (congrArg (fun n => Result.ok n w) (by kernel_rfl))
def BgRel (w : World) (b : Nat) (i : Nat) (l : List Int) (L : List SM) (u k : Value) (wr : World) : Prop := ∃ (t : Nat) (M : List SM), t ≤ l.length ∧ k = .int .i64 t ∧ OffRow wr b 43 6 u M.length (M.flatMap encM) ∧ (∀ s ∈ M, s ∈ L) ∧ begF (i : Int) t (l.drop t) (M.map (·.m)) = true ∧ Below w.heap.size w wr
set_option maxRecDepth 100000 in
set_option maxHeartbeats 4000000 in
theorem begins_any (w : World) (u : Value) (L : List SM) (b : Nat) (hu : w.ownsRow b 43 6 u L.length (L.flatMap encM)) (hm : ∀ s ∈ L, MsgAt w w.heap.size s.m s.A s.n s.c) (A0 : Option Addr) (n0 c0 : Nat) (l : List Int) (hl : l.length = n0) (hr0 : Rd w w.heap.size 1 A0 n0 (l.map iv)) (hn0 : n0 ≤ 1000) (hin : ∀ x ∈ l, -9223372036854775808 ≤ x ∧ x ≤ 9223372036854775807) (i : Nat) (hi : i < 2) (hb : begF (i : Int) 0 l (L.map (·.m)) = true) :
    Calls Try.prog 25 #[u, .slice A0 n0 c0, .int .i64 (i : Int)] w fun e w' => e = .returned (.bool true) ∧ Below w.heap.size w w' := by
  have HL := Lib.hid (show ∀ W, Below w.heap.size w W → Rd W w.heap.size 1 A0 n0 (l.map iv) from fun W hW => hr0.below hW)
  have HLL := Lib.hid hl
  have HIN := Lib.hid hin
  have HM := Lib.hid (show ∀ W, Below w.heap.size w W → ∀ s ∈ L, MsgAt W W.heap.size s.m s.A s.n s.c from fun W hW s hs => ((hm s hs).below hW).more hW.size)
  have HB := Lib.hid hb
  have HU := Lib.hid (OffRow.of_own hu)
  clear hl hr0 hin hm hb hu
  go_enter Try.func25, Try.ntmps25
  go_wp2_with fail
  go_loopw [0, 12] (fun u k wr => BgRel w b i l L u k wr) (fun _ k _ => n0 - (intOf k).toNat)
  case atStart => exact ⟨0, L, Nat.zero_le _, rfl, HU.out, fun s hs => hs, by rw [List.drop_zero]; exact HB.out, Below.refl _ _⟩
  case round =>
    obtain ⟨t, M, ht, rfl, hro, hML, hbg, hbr⟩ := hrel
    have hzr := hbr.size
    by_cases hlt : t < n0
    · have hlt' : (t : Int) < (n0 : Int) := by omega
      have htl : t < l.length := by have := HLL.out; omega
      obtain ⟨p, hp⟩ : ∃ p, l[t]? = some p := ⟨_, List.getElem?_eq_getElem htl⟩
      have hdr : l.drop t = p :: l.drop (t + 1) := by
        obtain ⟨h1, h2⟩ := List.getElem?_eq_some_iff.1 hp
        rw [List.drop_eq_getElem_cons h1, h2]
      have hpr := HIN.out p (List.mem_of_getElem? hp)
      obtain ⟨bp, op, rfl, HC0⟩ : ∃ bp op, A0 = some ⟨bp, op, none⟩ ∧ Hid (∀ W, Below w.heap.size w W → W.cell? ⟨bp, op + t, none⟩ = some (.int .i64 p)) := by
        obtain ⟨b2, o2, e2, h2, h3⟩ := (HL.out w (Below.refl _ _)).2 (by omega)
        refine ⟨b2, o2, e2, Lib.hid fun W hW => ?_⟩
        have h4 : (l.map iv)[t]? = some (.int .i64 p) := by rw [List.getElem?_map, hp]; rfl
        exact (hW.cell (p := ⟨b2, o2 + t, none⟩) h2).trans (h3 t _ h4)
      have hc0 := HC0.out wr hbr
      rw [hdr] at hbg
      obtain ⟨p2, hp2⟩ : ∃ z, z = p.tdiv 2 := ⟨_, rfl⟩
      obtain ⟨p6, hp6⟩ : ∃ z, z = p.tdiv 6 := ⟨_, rfl⟩
      obtain ⟨pk, hpk⟩ : ∃ z, z = p2 % 3 := ⟨_, rfl⟩
      obtain ⟨px, hpx⟩ : ∃ z, z = p6 % 9 := ⟨_, rfl⟩
      obtain ⟨q60, hq60⟩ : ∃ z : Int, z = (t : Int) % 60 := ⟨_, rfl⟩
      obtain ⟨pb, hpb⟩ : ∃ z : Int, z = p % 2 := ⟨_, rfl⟩
      have HB2 := Lib.hid (fun W => show Calls Try.prog 15 #[.int .i64 p, .int .i64 2] W fun e w' => e = .returned (.int .i64 pb) ∧ W = w' from by rw [hpb]; exact below_any p 2 W (by omega) (by omega))
      have HB3 := Lib.hid (fun W => show Calls Try.prog 15 #[.int .i64 p2, .int .i64 3] W fun e w' => e = .returned (.int .i64 pk) ∧ W = w' from by rw [hpk]; exact below_any p2 3 W (by omega) (by omega))
      have HB9 := Lib.hid (fun W => show Calls Try.prog 15 #[.int .i64 p6, .int .i64 9] W fun e w' => e = .returned (.int .i64 px) ∧ W = w' from by rw [hpx]; exact below_any p6 9 W (by omega) (by omega))
      have h2d : p.tdiv 2 = p2 ∧ IntKind.i64.wrap p2 = p2 := ⟨hp2.symm, by have := tdiv_pm p 2 (by omega); rw [← hp2] at this; rw [IntKind.wrap_i64]; split at this <;> omega⟩
      have h6d : p.tdiv 6 = p6 ∧ IntKind.i64.wrap p6 = p6 := ⟨hp6.symm, by have := tdiv_pm p 6 (by omega); rw [← hp6] at this; rw [IntKind.wrap_i64]; split at this <;> omega⟩
      have h60d : (t : Int).tmod 60 = q60 ∧ IntKind.i64.wrap q60 = q60 := ⟨by rw [Int.tmod_eq_emod_of_nonneg (by omega), hq60], by rw [IntKind.wrap_i64]; omega⟩
      have hpb2 : 0 ≤ pb ∧ pb < 2 := by omega
      have HTL := Lib.hid htl
      cases M with
      | nil =>
        obtain ⟨A, c, rfl, _, _, hAc, _⟩ := hro.rd
        clear hp htl hdr hpr hbg hp2 hp6 hpk hpx hq60 hpb h2d h6d h60d hML hro hAc
        have Hbr := Lib.hid hbr
        clear hbr
        simp only [List.length_nil]
        go_wp2_with fail
        go_ret
        exact ⟨rfl, Hbr.out⟩
      | cons s M =>
        obtain ⟨⟨mk, ms, md, mq, mt, ml⟩, A7, n7, c7⟩ := s
        obtain ⟨A, c, rfl, hnc, hcm, hAc, hrd⟩ := hro.rd
        obtain ⟨g, o, rfl, hc1, hpop⟩ := hro.pop
        obtain ⟨Aq, hAq⟩ : ∃ Aq : Addr, Aq = if c = 1 then ⟨g, o, none⟩ else ⟨g, o + 6, none⟩ := ⟨_, rfl⟩
        rw [← hAq] at hpop
        have HAQ := Lib.hid hAq
        clear hAq
        have hmm := HM.out wr hbr _ (hML _ (List.mem_cons_self ..))
        have hML2 : ∀ s ∈ M, s ∈ L := fun s hs => hML s (List.mem_cons_of_mem _ hs)
        obtain ⟨g', o', e', hgs, hcc⟩ := hrd.2 (by simp)
        cases e'
        have c0 : wr.cell? ⟨g, o, none⟩ = some (.int .i64 mk) := hcc 0 _ rfl
        have c1 : wr.cell? ⟨g, o + 1, none⟩ = some (.int .i64 ms) := hcc 1 _ rfl
        have c2 : wr.cell? ⟨g, o + 2, none⟩ = some (.int .i64 md) := hcc 2 _ rfl
        have c3 : wr.cell? ⟨g, o + 3, none⟩ = some (.int .i64 mq) := hcc 3 _ rfl
        have c4 : wr.cell? ⟨g, o + 4, none⟩ = some (.int .u32 mt) := hcc 4 _ rfl
        have c5 : wr.cell? ⟨g, o + 5, none⟩ = some (.slice A7 n7 c7) := hcc 5 _ rfl
        have HRO := Lib.hid hro
        have HPOP := Lib.hid hpop
        have HML := Lib.hid hML
        have HML2 := Lib.hid hML2
        have HMM := Lib.hid hmm
        have Hbr := Lib.hid hbr
        clear hcc hrd hpop hro hML hML2 hmm hbr hAc
        by_cases hpi : pb = (i : Int)
        · subst hpi
          have hbb : mk = pk ∧ ml = [(px, q60)] ∧ begF (i : Int) (t + 1) (l.drop (t + 1)) (M.map (·.m)) = true := by
            rw [List.map_cons] at hbg
            unfold begF at hbg
            rw [if_pos hpb.symm] at hbg
            split at hbg
            · rename_i hh
              exact ⟨by rw [hpk, hp2]; exact hh.1, by rw [hpx, hp6, hq60]; exact hh.2, hbg⟩
            · cases hbg
          obtain ⟨rfl, rfl, hbg2⟩ := hbb
          have HBG := Lib.hid hbg2
          obtain ⟨h2a, h2b⟩ := h2d
          obtain ⟨h6a, h6b⟩ := h6d
          obtain ⟨h60a, h60b⟩ := h60d
          obtain rfl : n7 = 1 := HMM.out.len.symm
          clear hp htl hdr hpr hbg hbg2 hp2 hp6 hpk hpx hq60 hpb
          simp only [List.length_cons]
          go_wp2_with fail
          refine (HB2.out _).mono ?_
          rintro e w1 ⟨rfl, rfl⟩
          go_upto_region 8 with (fail)
          have hI := (In.start wr).alloc 43 #[.int .i64 mk, .int .i64 ms, .int .i64 md, .int .i64 mq, .int .u32 mt, .slice A7 1 c7]
          generalize wr.alloc (.cells #[.int .i64 mk, .int .i64 ms, .int .i64 md, .int .i64 mq, .int .u32 mt, .slice A7 1 c7] 43) = w7 at hI ⊢
          clear c0 c1 c2 c3 c4 c5 hc0
          have HK3 := Lib.hid (fun W (hW : Below wr.heap.size wr W) => show Calls Try.prog 15 #[.int .i64 p2, .int .i64 3] W (fun e w' => e = .returned (.int .i64 mk) ∧ Below W.heap.size W w') from (HB3.out W).mono fun e w' h => ⟨h.1, by rw [← h.2]; exact Below.refl _ _⟩)
          have HK9 := Lib.hid (fun W (hW : Below wr.heap.size wr W) => show Calls Try.prog 15 #[.int .i64 p6, .int .i64 9] W (fun e w' => e = .returned (.int .i64 px) ∧ Below W.heap.size W w') from (HB9.out W).mono fun e w' h => ⟨h.1, by rw [← h.2]; exact Below.refl _ _⟩)
          have HIW := Lib.hid hI
          clear hI
          go_upto_region 9 with (refine wpList_tailO rfl 23 _ rfl 6 (by kernel_rfl) size_msgs g o M.length c rfl hc1 hnc Aq HAQ.out ?_)
          have hI := HIW.out
          refine wp_region_seq_float (In wr [(wr.heap.size, 43, #[.int .i64 mk, .int .i64 ms, .int .i64 md, .int .i64 mq, .int .u32 mt, .slice A7 1 c7])]) (fun _ _ h hb => h.call hb) (fun v W => ∃ g, v = .slice (some ⟨g, 0, none⟩) 1 1 ∧ In wr [(g, 88, #[.int .i64 px, .int .i64 q60]), (wr.heap.size, 43, #[.int .i64 mk, .int .i64 ms, .int .i64 md, .int .i64 mq, .int .u32 mt, .slice A7 1 c7])] W) (fun v _ _ ⟨g, hv, h⟩ hb => ⟨g, hv, h.call hb⟩) (fun v _ ⟨g, _, h⟩ => h.tail) 15 _ (by kernel_rfl) (by kernel_rfl) rfl hI.drew ?_
          simp only [List.take_succ_cons, List.take_zero, List.drop_succ_cons, List.drop_zero]
          clear hI
          repeat (first
            | (refine wpSeq_off (by rfl) ?_; try simp only [Act.put, List.setIfInBounds_toArray, List.set_cons_zero, List.set_cons_succ])
            | (refine wpSeq_val (v := ?_) (by rfl) (fun W hS => ?_) ?_
               rotate_left
               · (have fx := hS.facts; simp only [factsOf, cellsOf, Nat.zero_add, Nat.reduceAdd] at fx; clear hS; go_simp; first | done | with_reducible rfl)
               try simp only [Act.put, List.setIfInBounds_toArray, List.set_cons_zero, List.set_cons_succ]))
          refine wpSeq_call (v := .int .i64 mk) (by rfl) (fun W hS => ?_) (fun W hS => (HK3.out W hS.bel)) ?_
          · (clear hS; go_simp; done)
          try simp only [Act.put, List.setIfInBounds_toArray, List.set_cons_zero, List.set_cons_succ]
          repeat (first
            | (refine wpSeq_off (by rfl) ?_; try simp only [Act.put, List.setIfInBounds_toArray, List.set_cons_zero, List.set_cons_succ])
            | (refine wpSeq_val (v := ?_) (by rfl) (fun W hS => ?_) ?_
               rotate_left
               · (have fx := hS.facts; simp only [factsOf, cellsOf, Nat.zero_add, Nat.reduceAdd] at fx; clear hS; go_simp; first | done | with_reducible rfl)
               try simp only [Act.put, List.setIfInBounds_toArray, List.set_cons_zero, List.set_cons_succ]))
          refine wpSeq_call (v := .int .i64 px) (by rfl) (fun W hS => ?_) (fun W hS => (HK9.out W hS.bel)) ?_
          · (clear hS; go_simp; done)
          try simp only [Act.put, List.setIfInBounds_toArray, List.set_cons_zero, List.set_cons_succ]
          repeat (first
            | (refine wpSeq_off (by rfl) ?_; try simp only [Act.put, List.setIfInBounds_toArray, List.set_cons_zero, List.set_cons_succ])
            | (refine wpSeq_val (v := ?_) (by rfl) (fun W hS => ?_) ?_
               rotate_left
               · (have fx := hS.facts; simp only [factsOf, cellsOf, Nat.zero_add, Nat.reduceAdd] at fx; clear hS; go_simp; first | done | with_reducible rfl)
               try simp only [Act.put, List.setIfInBounds_toArray, List.set_cons_zero, List.set_cons_succ]))
          refine wpSeq_nil ⟨rfl, fun W hS => ⟨_, _, exec_litC _ rfl px q60 rfl, _, rfl, hS.alloc _ _⟩, fun v W ⟨gL, hv, hI⟩ => ?_⟩
          subst hv
          simp only [List.setIfInBounds_toArray, List.set_cons_zero, List.set_cons_succ]
          have HEQ := Lib.hid (show Calls Try.prog 37 #[.slice A7 1 c7, .slice (some ⟨gL, 0, none⟩) 1 1] W (fun e w' => e = .returned (.bool true) ∧ ∃ q, w' = W.drewN q) from
            (equal_cells W A7 (some ⟨gL, 0, none⟩) 1 1 c7 1 W.heap.size [(px, q60)] [(px, q60)] rfl rfl (by omega) (by omega) ((HMM.out.below hI.bel).more hI.bel.size).rd ⟨rfl, fun _ => ⟨gL, 0, rfl, (hI.blkAt (k := 0) rfl).lt, fun j v hv => by
              rw [Nat.zero_add]
              exact (hI.blkAt (k := 0) rfl).cell j v (by simpa [encC] using hv)⟩⟩).mono fun e w' h => ⟨by rw [h.1, decide_eq_true rfl], h.2⟩)
          have hWb := hI.bel
          have HX := Lib.hid (show ∀ q, BgRel w b i l L (.slice (some Aq) M.length (c - 1)) (.int .i64 ((t : Int) + 1)) (W.drewN q) from fun q => ⟨t + 1, M, HTL.out, by simp, (HPOP.out.below hWb).below (below_drewN (Below.refl _ _) q), HML2.out, HBG.out, (Hbr.out.trans (hWb.mono hzr)).trans ((below_drewN (Below.refl _ _) q).mono (Nat.le_trans hzr hWb.size))⟩)
          clear hI hWb HPOP HML HML2 HRO HMM Hbr HIW HK3 HK9 HBG
          go_wp2_with fail
          refine HEQ.out.mono ?_
          rintro e w8 ⟨rfl, q, rfl⟩
          go_wp2_with fail
          go_roundw
          case rel => exact HX.out q
          case measure => simp [intOf]; omega
        · have HBG : Hid (begF (i : Int) (t + 1) (l.drop (t + 1)) ((⟨⟨mk, ms, md, mq, mt, ml⟩, A7, n7, c7⟩ :: M).map (·.m)) = true) := Lib.hid (by
            rw [List.map_cons] at hbg
            unfold begF at hbg
            rw [← hpb, if_neg hpi] at hbg
            exact hbg)
          have hpi1 : (pb == (i : Int)) = false := by simpa using hpi
          clear hp htl hdr hpr hbg hp2 hp6 hpk hpx hq60 hpb h2d h6d h60d c0 c1 c2 c3 c4 c5
          simp only [List.length_cons]
          go_wp2_with fail
          refine (HB2.out _).mono ?_
          rintro e w1 ⟨rfl, rfl⟩
          go_wp2_with fail
          go_roundw
          case rel => exact ⟨t + 1, ⟨⟨mk, ms, md, mq, mt, ml⟩, A7, n7, c7⟩ :: M, HTL.out, by go_num, HRO.out, HML.out, HBG.out, Hbr.out⟩
          case measure => simp [intOf]; omega
    · obtain rfl : t = n0 := by have := HLL.out; omega
      have hdr : l.drop t = [] := List.drop_eq_nil_of_le (by have := HLL.out; omega)
      rw [hdr] at hbg
      obtain rfl : M = [] := by
        cases M with
        | nil => rfl
        | cons s M => simp [begF] at hbg
      obtain ⟨A, c, rfl, _, _, hAc, _⟩ := hro.rd
      clear hro hAc hdr hbg hML
      have Hbr := Lib.hid hbr
      clear hbr
      simp only [List.length_nil]
      go_wp2_with fail
      go_ret
      exact ⟨rfl, Hbr.out⟩
end Go.Proofs.Ytpnefacignalpaa

namespace Go.Proofs.Ytpnefacignalpaa
open Go.RowKit Go.Gy
set_option linter.unusedVariables false
theorem first_dec : (match runS [] [0] 6 with | some S => (S.g 1).length == 1 && (S.e 0).ws.isEmpty | none => false) = true := by decide +kernel
theorem first_ok : ∃ S, runS [] [0] 6 = some S ∧ (S.g 1).length = 1 ∧ (S.e 0).ws = [] := by
  have h := first_dec
  cases hr : runS [] [0] 6 with
  | none => rw [hr] at h; cases h
  | some S =>
    rw [hr] at h
    simp only [Bool.and_eq_true, beq_iff_eq, List.isEmpty_iff] at h
    exact ⟨S, rfl, h.1, h.2⟩
def FirstPost (w : World) (e : Ending) (w' : World) : Prop := (∃ (A0 : Option Addr) (n0 c0 : Nat) (A1 : Option Addr) (c1 : Nat) (x : Int), e = .returned (.tuple #[.agg #[.slice A0 n0 c0, .slice A1 1 c1], .agg #[.int .i64 0, .int .i64 x], .bool true])) ∧ Below w.heap.size w w'
theorem linked_first (w : World) : Calls Try.prog 24 #[.slice none 0 0, .slice (some ⟨w.heap.size, 0, none⟩) 1 1, .int .i64 6] (w.alloc (.cells #[.int .i64 0] 3)) (FirstPost w) := by
  obtain ⟨S0, hS0, hg0, hw0⟩ := first_ok
  have hba : Below w.heap.size w (w.alloc (.cells #[.int .i64 0] 3)) := (Below.refl _ _).alloc (Nat.le_refl _) _
  have hR : Rd (w.alloc (.cells #[.int .i64 0] 3)) (w.alloc (.cells #[.int .i64 0] 3)).heap.size 1 (some ⟨w.heap.size, 0, none⟩) 1 ([0].map iv) := by
    have h := Rd.lit w 3 [.int .i64 0] 1 1 rfl
    rw [World.size_alloc]
    exact h
  refine (linked_any _ none 0 0 [] (fun _ => ⟨rfl, rfl⟩) rfl (by omega) ⟨rfl, fun h => absurd h (by omega)⟩ _ 1 1 [0] rfl hR (by omega) (fun x hx => ?_) 6 (by omega) (by rw [hS0]; rfl)).mono fun e w' h => ?_
  · obtain rfl := List.mem_singleton.1 hx
    omega
  · obtain ⟨S, u, gl, hS, rfl, hg, hb⟩ := h
    rw [hS0] at hS
    cases hS
    obtain ⟨A0, c0, h0, _⟩ := own_rd (hg 0 (by omega)).1
    obtain ⟨A1, c1, h1, _⟩ := own_rd (hg 1 (by omega)).1
    have hl : (gl 1).length = 1 := by
      have := congrArg List.length (hg 1 (by omega)).2.2
      rw [List.length_map, hg0] at this
      exact this
    rw [hl] at h1
    refine ⟨⟨A0, (gl 0).length, c0, A1, c1, ((S0.e 1).ws.length : Int), ?_⟩, hba.trans (hb.mono (by rw [World.size_alloc]; omega))⟩
    rw [h0, h1, hw0]
    rfl
def OrderPost (w : World) (l : List Int) (e : Ending) (w' : World) : Prop := ∃ (A0 : Option Addr) (c0 : Nat) (A1 : Option Addr) (c1 : Nat) (x y : Int) (g0 g1 : List SM), e = .returned (.tuple #[.agg #[.slice A0 g0.length c0, .slice A1 g1.length c1], .agg #[.int .i64 x, .int .i64 y], .bool true]) ∧
  (w'.ownsRow w.heap.size 43 6 (.slice A0 g0.length c0) g0.length (g0.flatMap encM) ∧ (∀ s ∈ g0, MOwn w' w.heap.size s) ∧ begF ((1 : Nat) : Int) 0 l (g0.map (·.m)) = true) ∧
  (w'.ownsRow w.heap.size 43 6 (.slice A1 g1.length c1) g1.length (g1.flatMap encM) ∧ (∀ s ∈ g1, MOwn w' w.heap.size s) ∧ begF ((0 : Nat) : Int) 0 l (g1.map (·.m)) = true) ∧ Below w.heap.size w w'
theorem linked_order (w : World) (Af : Option Addr) (nf cf : Nat) (FS : List GF) (hA : Af = none → nf = 0 ∧ cf = 0) (hFl : FS.length = nf) (hnf : nf ≤ 5864062014805) (hFd : Rd w w.heap.size 3 Af nf (FS.flatMap encF)) (A0 : Option Addr) (n0 c0 : Nat) (l : List Int) (hl : l.length = n0) (hr0 : Rd w w.heap.size 1 A0 n0 (l.map iv)) (hn0 : n0 ≤ 30) (hin : ∀ x ∈ l, -9223372036854775808 ≤ x ∧ x ≤ 9223372036854775807) :
    Calls Try.prog 24 #[.slice Af nf cf, .slice A0 n0 c0, .int .i64 60] w (OrderPost w l) := by
  obtain ⟨S0, hS0, hlk⟩ := order_run FS (puts := l) (by omega)
  refine (linked_any w Af nf cf FS hA hFl hnf hFd A0 n0 c0 l hl hr0 (by omega) hin 60 (by omega) (by rw [hS0]; rfl)).mono fun e w' h => ?_
  obtain ⟨S, u, gl, hS, rfl, hg, hb⟩ := h
  rw [hS0] at hS
  cases hS
  obtain ⟨h01, h02, h03⟩ := hg 0 (by omega)
  obtain ⟨h11, h12, h13⟩ := hg 1 (by omega)
  obtain ⟨A0', c0', h0, _⟩ := own_rd h01
  obtain ⟨A1', c1', h1, _⟩ := own_rd h11
  have b0 := order_law hlk (by omega) 0 (by omega)
  have b1 := order_law hlk (by omega) 1 (by omega)
  rw [← h03] at b0
  rw [← h13] at b1
  rw [h0] at h01
  rw [h1] at h11
  exact ⟨A0', c0', A1', c1', ((S0.e 0).ws.length : Int), ((S0.e 1).ws.length : Int), gl 0, gl 1, by rw [h0, h1], ⟨h01, h02, b0⟩, ⟨h11, h12, b1⟩, hb⟩
end Go.Proofs.Ytpnefacignalpaa

namespace Go.Proofs.Ytpnefacignalpaa
open Go.RowKit Go.Gy
set_option linter.unusedVariables false
theorem run_slice_to {P : Program} (t : TypeId) (s : Nat) (ht : P.underlying t = some (.slice (P.elem t))) (hs : ∀ w, (sizeOf (P.elem t)).run P w = .ok s w) (A : Option Addr) (N C k : Nat) (hk : k ≤ C) (w : World) :
    (Instr.slice t (.slice A N C) none (some (.int .i64 (k : Int))) none).run P w = .ok (.slice A k C) w := by
  rw [run_slice_h w t A N C ht .i64 k (by omega) (by omega), hs]
  simp only [Result.andThen, sliced, Nat.zero_mul, Int.toNat_natCast, Nat.sub_zero]
  split
  · rfl
  · cases A <;> rfl
section
variable {P : Program} {ops : Array Oper} {rest : List Oper} {o : Oper} {a : Act} {w : World} {Q : Exit → Act → World → Prop}
theorem wpList_slice_to (hgd : o.guard = none) (t : TypeId) (s x : Operand) (ho : o.op = .slice t s none (some x) none) (A : Option Addr) (N C k : Nat) (hs : a.eval s = .slice A N C) (hx : a.eval x = .int .i64 (k : Int))
    (hu : P.underlying t = some (.slice (P.elem t))) (hr : ∀ w, (Instr.slice t (.slice A N C) none (some (.int .i64 (k : Int))) none).run P w = .ok (.slice A k C) w)
    (h : wpList P ops Q rest (a.put o.dst (.slice A k C)) w) : wpList P ops Q (o :: rest) a w :=
  wpList_plain hgd fun _ hK => by
    unfold Oper.wp execOp
    simp only [ho, hs, hx, Option.map_none, Option.map_some, run_sliceAt_slice w t _ _ _ _ hu, hr, Sem.run_bind, Sem.run_pure, Result.andThen_ok]
    exact hK _ _ h
theorem wpList_min2 (hgd : o.guard = none) (x y : Operand) (ts : Array TypeId) (ho : o.op = .call { callee := .builtin .min, args := #[x, y], argTypes := ts }) (n m : Int) (hx : a.eval x = .int .i64 n) (hy : a.eval y = .int .i64 m) (k : Int) (hk : min n m = k)
    (h : wpList P ops Q rest (a.put o.dst (.int .i64 k)) w) : wpList P ops Q (o :: rest) a w :=
  wpList_plain hgd fun _ hK => by
    have e : (if m < n then m else n) = k := by rw [← hk]; split <;> omega
    unfold Oper.wp execOp
    simp only [ho, resolve, invoke, builtin, Sem.run_bind, Sem.run_pure, Result.andThen_ok, List.map_toArray, List.map_cons, List.map_nil, hx, hy, run_min_int2, e]
    exact hK _ _ h
end
set_option maxRecDepth 100000 in
theorem size_int' (w : World) : (sizeOf (Try.prog.elem 29)).run Try.prog w = .ok 1 w := by
  obtain ⟨i, hi, _⟩ := info_parts info_int
  exact (run_sizeOf (w := w) (show Try.prog.info? (Try.prog.elem 29) = some i from hi)).trans (congrArg (fun n => Result.ok n w) (by kernel_rfl))
theorem ints_to (A : Option Addr) (N C k : Nat) (hk : k ≤ C) (w : World) : (Instr.slice 29 (.slice A N C) none (some (.int .i64 (k : Int))) none).run Try.prog w = .ok (.slice A k C) w :=
  run_slice_to 29 1 (by kernel_rfl) size_int' A N C k hk w
end Go.Proofs.Ytpnefacignalpaa

namespace Go.Proofs.Ytpnefacignalpaa
open Go.RowKit Go.Gy Go.WideShapes
set_option linter.unusedVariables false
theorem arg_faultsl {H : Type} {enc : TypeId × Value → H} {W : World} {v : Value} {d : DataW H} {p : List MemPlace} {r : Reach} {b0 : Nat} (hv : Value.okWide Try.prog W r b0 36 v) (h : DataW.Trod enc Try.prog W 0 (fun _ => true) true 36 v d p) (hw : ∀ m ∈ d.weights Try.prog 36, m ≤ reachBytes) : SlArg Go.Gy.encF wfF 3 24 W v (bulk d) :=
  arg_faults Try.underlying36 Try.underlying66 Try.underlying3 (by kernel_rfl) (by exact ⟨rfl, by kernel_rfl⟩) (by exact ⟨rfl, by kernel_rfl⟩) (by exact ⟨rfl, by kernel_rfl⟩) rfl rfl rfl (by kernel_rfl) hv h hw
end Go.Proofs.Ytpnefacignalpaa

namespace Go.Proofs.Ytpnefacignalpaa.linkAll
open Go.RowKit Go.Gy
set_option linter.unusedVariables false
set_option linter.unusedSimpArgs false
section
variable {P : Program} {W : World} {ops : Array Oper} {rest : List Oper} {o : Oper} {a : Act} {Q : Exit → Act → World → Prop}
theorem wpList_pushB (hgd : o.guard = none) (s x : Operand) (t : TypeId)
    (ho : o.op = .call { callee := .builtin .append, args := #[s, x], argTypes := #[t, t] })
    (base : Nat) (e : TypeId) (i : TypeInfo) (z : Value) (size bytes : Nat) (ht : P.underlying t = some (.slice e)) (hi : P.info? e = some i) (hz : i.zero = some z)
    (hsize : i.size = size) (hby : i.bytes = bytes) (hzs : z.cells.size = size) (hsz : 0 < size)
    (v : Value) (n : Nat) (xs : List Value) (hs : a.eval s = v) (hown : W.ownsRow base e size v n xs)
    (g : Nat) (cs : Array Value) (hx : a.eval x = .slice (some ⟨g, 0, none⟩) 1 1) (hk : Blk W g e cs) (hl : cs.toList.length = size) (h1 : ∀ u ∈ cs.toList, u.oneCell' = true)
    (h63 : n + 1 ≤ maxLen) (hbytes : (n + 1) * bytes ≤ 140737488355328) (hbase : base ≤ W.heap.size)
    (h : ∀ v' w', w'.ownsRow base e size v' (n + 1) (xs ++ cs.toList) → Below base W w' → (∃ g c, v' = .slice (some ⟨g, 0, none⟩) (n + 1) c) → wpList P ops Q rest (a.put o.dst v') w') : wpList P ops Q (o :: rest) a W :=
  wpList_plain hgd fun _ hK => by
    obtain ⟨v', w', hr, h2, h3, h4⟩ := exec_append (P := P) (w := W) (ev := a.eval) s x t ho base e i z size bytes ht hi hz hsize hby hzs hsz v n xs hs hown g cs hx hk hl h1 h63 hbytes hbase
    unfold Oper.wp
    rw [hr]
    obtain ⟨g', c', hv, _⟩ := own_shape h2 (by omega)
    exact hK _ _ (h v' w' h2 ((Below.refl base W).grown h3 hbase fun k hk => (hown.lt k hk).1) ⟨g', c', hv⟩)
end
theorem size_fault (w : World) : (sizeOf (Try.prog.elem 36)).run Try.prog w = .ok 3 w := by
  obtain ⟨i, hi, _⟩ := info_parts info_fault
  exact (run_sizeOf (w := w) (show Try.prog.info? (Try.prog.elem 36) = some i from hi)).trans (congrArg (fun n => Result.ok n w) (by kernel_rfl))
theorem faults_to (A : Option Addr) (N C k : Nat) (hk : k ≤ C) (w : World) : (Instr.slice 36 (.slice A N C) none (some (.int .i64 (k : Int))) none).run Try.prog w = .ok (.slice A k C) w :=
  run_slice_to 36 3 (by kernel_rfl) size_fault A N C k hk w
/-- a fault as LinkAll makes it -/
def fewF (f : GF) : GF := (f.1 % 40, f.2.1 % 3, f.2.2 % 5)
theorem few_few (FS : List GF) : Few (FS.map fewF) := by
  intro f hf
  obtain ⟨g, _, rfl⟩ := List.mem_map.1 hf
  have h1 : g.1 % 40 < 40 := Int.emod_lt_of_pos _ (by decide)
  have h2 : g.2.2 % 5 < 5 := Int.emod_lt_of_pos _ (by decide)
  exact ⟨h1, by show g.2.2 % 5 ≤ 4; omega⟩
def AllPost (w : World) (n0 : Nat) (e : Ending) (w' : World) : Prop := (∃ (A0 : Option Addr) (k0 c0 : Nat) (A1 : Option Addr) (k1 c1 : Nat), k0 + k1 = n0 ∧ e = .returned (.tuple #[.agg #[.slice A0 k0 c0, .slice A1 k1 c1], .agg #[.int .i64 0, .int .i64 0], .bool true])) ∧ Below w.heap.size w w'
theorem linked_all (w : World) (Af : Option Addr) (nf cf : Nat) (FS : List GF) (hA : Af = none → nf = 0 ∧ cf = 0) (hFl : FS.length = nf) (hnf : nf ≤ 5864062014805) (hFd : Rd w w.heap.size 3 Af nf (FS.flatMap encF)) (A0 : Option Addr) (n0 c0 : Nat) (l : List Int) (hl : l.length = n0) (hr0 : Rd w w.heap.size 1 A0 n0 (l.map iv)) (hn0 : n0 ≤ 20) (hin : ∀ x ∈ l, -9223372036854775808 ≤ x ∧ x ≤ 9223372036854775807) (hF : Few FS) :
    Calls Try.prog 24 #[.slice Af nf cf, .slice A0 n0 c0, .int .i64 120] w (AllPost w n0) := by
  obtain ⟨S0, hS0, hw0, hw1, hsum⟩ := all_law (FS := FS) (puts := l) (by omega) hF
  refine (linked_any w Af nf cf FS hA hFl hnf hFd A0 n0 c0 l hl hr0 (by omega) hin 120 (by omega) (by rw [hS0]; rfl)).mono fun e w' h => ?_
  obtain ⟨S, u, gl, hS, rfl, hg, hb⟩ := h
  rw [hS0] at hS
  cases hS
  obtain ⟨h01, h02, h03⟩ := hg 0 (by omega)
  obtain ⟨h11, h12, h13⟩ := hg 1 (by omega)
  obtain ⟨A0', c0', h0, _⟩ := own_rd h01
  obtain ⟨A1', c1', h1, _⟩ := own_rd h11
  have e0 : (gl 0).length = (S0.g 0).length := by rw [← h03, List.length_map]
  have e1 : (gl 1).length = (S0.g 1).length := by rw [← h13, List.length_map]
  refine ⟨⟨A0', (gl 0).length, c0', A1', (gl 1).length, c1', by omega, ?_⟩, hb⟩
  rw [h0, h1, hw0, hw1]
  rfl
theorem exec_litF {ev : Operand → Value} {o : Oper} {W : World} (x : Operand) (ho : o.op = .buildSlice 36 1 #[(0, x)]) (p q r : Int) (hx : ev x = .agg #[.int .i64 p, .int .i64 q, .int .i64 r]) :
    (execOp ev o).run Try.prog W = .ok (.value (.slice (some ⟨W.heap.size, 0, none⟩) 1 1)) (W.alloc (.cells #[.int .i64 p, .int .i64 q, .int .i64 r] 66)) := by
  unfold execOp
  simp only [ho, List.map_toArray, List.map_cons, List.map_nil, hx]
  go_simp
theorem eq_two (W : World) : (Op.equalIn 10000 62 (.agg #[.int .i64 0, .int .i64 0]) (.agg #[.int .i64 0, .int .i64 0])).run Try.prog W = .ok true W := by
  have hu : Try.prog.underlying 62 = some (.array 2 3) := by kernel_rfl
  obtain ⟨i, hi, hz, hs, hb⟩ := info_parts info_int
  have hc : Try.prog.cellsOf 3 = 1 := by kernel_rfl
  have u3 := Try.underlying3
  have a3 := Try.isAgg3
  have z3 := Try.sizeOf3
  rw [show (10000 : Nat) = 9999 + 1 from rfl, run_equalIn_array W 9999 _ _ hu hi, hc, show List.range 2 = [0, 1] from rfl]
  simp only [Op.eqItems]
  go_simp
def FwRel (w : World) (FS : List GF) (n : Nat) (v i : Value) (wr : World) : Prop := ∃ k : Nat, k ≤ n ∧ i = .int .i64 k ∧ wr.ownsRow w.heap.size 66 3 v k (((FS.take k).map fewF).flatMap encF) ∧ Below w.heap.size w wr
set_option maxRecDepth 100000 in
set_option maxHeartbeats 8000000 in
theorem walk (v0 v1 : Value) (w : World) {b0 b1 : Nat} (f0 : SlArg Go.Gy.encF wfF 3 24 w v0 b0) (f1 : IntsArg w v1 b1) :
    Calls Try.prog 7 #[v0, v1] w fun e w' => e = .returned (.bool true) ∧ Below w.heap.size w w' := by
  obtain ⟨Af, nf, cf, FS, rfl, hFl, hFc, _, hFr, _, hFn, hFd, hFw⟩ := f0
  obtain ⟨l, ⟨A0, n0, c0, rfl, hl0, hn0, hA0, hr0⟩, hin, _, _⟩ := f1
  obtain ⟨N, hN⟩ : ∃ N : Nat, N = min n0 20 := ⟨_, rfl⟩
  obtain ⟨NF, hNF⟩ : ∃ N : Nat, N = min nf 12 := ⟨_, rfl⟩
  have HMIN := Lib.hid (show min ((n0 : Nat) : Int) 20 = (N : Int) by omega)
  have HTO := Lib.hid (ints_to A0 n0 c0 N (by omega))
  have HMINF := Lib.hid (show min ((nf : Nat) : Int) 12 = (NF : Int) by omega)
  have HTOF := Lib.hid (faults_to Af nf cf NF (by omega))
  have hrt : Rd w w.heap.size 1 A0 N ((l.take N).map iv) := by
    have h := hr0.take (k := N) (by omega)
    simpa [List.map_take] using h
  have HALL := Lib.hid (show ∀ W, Below w.heap.size w W → _ from fun W (hW : Below w.heap.size w W) Ag ng cg G hA hl hn hR hF => linked_all W Ag ng cg G hA hl hn hR A0 N c0 (l.take N) (by rw [List.length_take]; omega) ((hrt.below hW).more hW.size) (by omega) (fun x hx => hin x (List.mem_of_mem_take hx)) hF)
  have HRF := Lib.hid hFd
  have HFL := Lib.hid hFl
  have HFW := Lib.hid hFw
  have HF := Lib.hid (linked_first w)
  have hNF12 : NF ≤ 12 := by omega
  have hNFn : NF ≤ nf := by omega
  have hN20 : N ≤ 20 := by omega
  clear hr0 hl0 hin hFl hFr hFn hFd hrt hN hNF hn0 hA0 hFc hFw
  obtain ⟨j0, hj0, hy0, hy1, hy2⟩ := info_parts info_fault
  go_enter Try.func7, Try.ntmps7
  go_wp2_with fail
  refine HF.out.mono ?_
  rintro e w1 ⟨⟨B0, m0, k0, B1, k1, x, rfl⟩, hb1⟩
  go_upto_region 4 with (fail)
  have hb2 : Below w.heap.size w ((w1.alloc (.cells #[.slice B0 m0 k0, .slice B1 1 k1] 61)).alloc (.cells #[.int .i64 0, .int .i64 x] 62)) := (hb1.alloc hb1.size _).alloc (by rw [World.size_alloc]; have := hb1.size; omega) _
  generalize ((w1.alloc (.cells #[.slice B0 m0 k0, .slice B1 1 k1] 61)).alloc (.cells #[.int .i64 0, .int .i64 x] 62)) = w2 at hb2 ⊢
  have Hb2 := Lib.hid hb2
  clear hb1 hb2 HF
  go_wp2_with (first | (refine wpList_min2 rfl (.tmp 35) (.const (.int .i64 20)) _ rfl (n0 : Int) 20 rfl rfl (N : Int) HMIN.out ?_) | (refine wpList_slice_to rfl 29 (.tmp 33) (.tmp 36) rfl A0 n0 c0 (k := N) rfl rfl (by kernel_rfl) (fun w => HTO.out w) ?_) | (refine wpList_min2 rfl (.tmp 40) (.const (.int .i64 12)) _ rfl (nf : Int) 12 rfl rfl (NF : Int) HMINF.out ?_) | (refine wpList_slice_to rfl 36 (.tmp 38) (.tmp 41) rfl Af nf cf (k := NF) rfl rfl (by kernel_rfl) (fun w => HTOF.out w) ?_))
  go_loopw [8, 44] (fun v i wr => FwRel w FS NF v i wr) (fun _ i _ => NF - (intOf i).toNat)
  case atStart => exact ⟨0, Nat.zero_le _, rfl, World.ownsRow_nil _ _ _ _, Hb2.out⟩
  case round =>
    obtain ⟨k, hk, rfl, hrow, hbr⟩ := hrel
    have hzr := hbr.size
    by_cases hlt : k < NF
    · have hlt' : (k : Int) < (NF : Int) := by omega
      obtain ⟨bf, of, ⟨fa, fb, fc⟩, rfl, hbB, hg, hcc⟩ := (HRF.out.below hbr).elem encF_len HFL.out (show k < nf by omega)
      have c0 : wr.cell? ⟨bf, of + k * 3, none⟩ = some (.int .i64 fa) := hcc 0 _ rfl
      have c1 : wr.cell? ⟨bf, of + k * 3 + 1, none⟩ = some (.int .i64 fb) := hcc 1 _ rfl
      have c2 : wr.cell? ⟨bf, of + k * 3 + 2, none⟩ = some (.int .i64 fc) := hcc 2 _ rfl
      have hwf := HFW.out _ (List.mem_of_getElem? hg)
      have Hg := Lib.hid hg
      have HROW := Lib.hid hrow
      have Hbr := Lib.hid hbr
      clear hcc hg hrow hbr
      go_upto_region 9 with (fail)
      have hI := (In.start wr).alloc 66 #[.int .i64 fa, .int .i64 fb, .int .i64 fc]
      generalize wr.alloc (.cells #[.int .i64 fa, .int .i64 fb, .int .i64 fc] 66) = w7 at hI ⊢
      clear c0 c1 c2
      obtain ⟨qa, hqa⟩ : ∃ z : Int, z = fa % 40 := ⟨_, rfl⟩
      obtain ⟨qb, hqb⟩ : ∃ z : Int, z = fb % 3 := ⟨_, rfl⟩
      obtain ⟨qc, hqc⟩ : ∃ z : Int, z = fc % 5 := ⟨_, rfl⟩
      have HKA := Lib.hid (fun W (hW : Below wr.heap.size wr W) => show Calls Try.prog 15 #[.int .i64 fa, .int .i64 40] W (fun e w' => e = .returned (.int .i64 qa) ∧ Below W.heap.size W w') from (below_any fa 40 W (by omega) (by omega)).mono fun e w' h => ⟨by rw [hqa]; exact h.1, by rw [← h.2]; exact Below.refl _ _⟩)
      have HKB := Lib.hid (fun W (hW : Below wr.heap.size wr W) => show Calls Try.prog 15 #[.int .i64 fb, .int .i64 3] W (fun e w' => e = .returned (.int .i64 qb) ∧ Below W.heap.size W w') from (below_any fb 3 W (by omega) (by omega)).mono fun e w' h => ⟨by rw [hqb]; exact h.1, by rw [← h.2]; exact Below.refl _ _⟩)
      have HKC := Lib.hid (fun W (hW : Below wr.heap.size wr W) => show Calls Try.prog 15 #[.int .i64 fc, .int .i64 5] W (fun e w' => e = .returned (.int .i64 qc) ∧ Below W.heap.size W w') from (below_any fc 5 W (by omega) (by omega)).mono fun e w' h => ⟨by rw [hqc]; exact h.1, by rw [← h.2]; exact Below.refl _ _⟩)
      have HQ := Lib.hid (show fewF (fa, fb, fc) = (qa, qb, qc) by rw [hqa, hqb, hqc]; rfl)
      clear hqa hqb hqc
      refine wp_region_seq_float (In wr [(wr.heap.size, 66, #[.int .i64 fa, .int .i64 fb, .int .i64 fc])]) (fun _ _ h hb => h.call hb) (fun v W => ∃ g, v = .slice (some ⟨g, 0, none⟩) 1 1 ∧ In wr [(g, 66, #[.int .i64 qa, .int .i64 qb, .int .i64 qc]), (wr.heap.size, 66, #[.int .i64 fa, .int .i64 fb, .int .i64 fc])] W) (fun v _ _ ⟨g, hv, h⟩ hb => ⟨g, hv, h.call hb⟩) (fun v _ ⟨g, _, h⟩ => h.tail) 11 _ (by kernel_rfl) (by kernel_rfl) rfl hI.drew ?_
      simp only [List.take_succ_cons, List.take_zero, List.drop_succ_cons, List.drop_zero]
      clear hI
      repeat (first
        | (refine wpSeq_off (by rfl) ?_; try simp only [Act.put, List.setIfInBounds_toArray, List.set_cons_zero, List.set_cons_succ])
        | (refine wpSeq_val (v := ?_) (by rfl) (fun W hS => ?_) ?_
           rotate_left
           · (have fx := hS.facts; simp only [factsOf, cellsOf, Nat.zero_add, Nat.reduceAdd] at fx; clear hS; go_simp; first | done | with_reducible rfl)
           try simp only [Act.put, List.setIfInBounds_toArray, List.set_cons_zero, List.set_cons_succ]))
      refine wpSeq_call (v := .int .i64 qa) (by rfl) (fun W hS => ?_) (fun W hS => (HKA.out W hS.bel)) ?_
      · (clear hS; go_simp; done)
      try simp only [Act.put, List.setIfInBounds_toArray, List.set_cons_zero, List.set_cons_succ]
      repeat (first
        | (refine wpSeq_off (by rfl) ?_; try simp only [Act.put, List.setIfInBounds_toArray, List.set_cons_zero, List.set_cons_succ])
        | (refine wpSeq_val (v := ?_) (by rfl) (fun W hS => ?_) ?_
           rotate_left
           · (have fx := hS.facts; simp only [factsOf, cellsOf, Nat.zero_add, Nat.reduceAdd] at fx; clear hS; go_simp; first | done | with_reducible rfl)
           try simp only [Act.put, List.setIfInBounds_toArray, List.set_cons_zero, List.set_cons_succ]))
      refine wpSeq_call (v := .int .i64 qb) (by rfl) (fun W hS => ?_) (fun W hS => (HKB.out W hS.bel)) ?_
      · (clear hS; go_simp; done)
      try simp only [Act.put, List.setIfInBounds_toArray, List.set_cons_zero, List.set_cons_succ]
      repeat (first
        | (refine wpSeq_off (by rfl) ?_; try simp only [Act.put, List.setIfInBounds_toArray, List.set_cons_zero, List.set_cons_succ])
        | (refine wpSeq_val (v := ?_) (by rfl) (fun W hS => ?_) ?_
           rotate_left
           · (have fx := hS.facts; simp only [factsOf, cellsOf, Nat.zero_add, Nat.reduceAdd] at fx; clear hS; go_simp; first | done | with_reducible rfl)
           try simp only [Act.put, List.setIfInBounds_toArray, List.set_cons_zero, List.set_cons_succ]))
      refine wpSeq_call (v := .int .i64 qc) (by rfl) (fun W hS => ?_) (fun W hS => (HKC.out W hS.bel)) ?_
      · (clear hS; go_simp; done)
      try simp only [Act.put, List.setIfInBounds_toArray, List.set_cons_zero, List.set_cons_succ]
      repeat (first
        | (refine wpSeq_off (by rfl) ?_; try simp only [Act.put, List.setIfInBounds_toArray, List.set_cons_zero, List.set_cons_succ])
        | (refine wpSeq_val (v := ?_) (by rfl) (fun W hS => ?_) ?_
           rotate_left
           · (have fx := hS.facts; simp only [factsOf, cellsOf, Nat.zero_add, Nat.reduceAdd] at fx; clear hS; go_simp; first | done | with_reducible rfl)
           try simp only [Act.put, List.setIfInBounds_toArray, List.set_cons_zero, List.set_cons_succ]))
      refine wpSeq_nil ⟨rfl, fun W hS => ⟨_, _, exec_litF _ rfl qa qb qc rfl, _, rfl, hS.alloc _ _⟩, fun u W ⟨gL, hv, hI⟩ => ?_⟩
      subst hv
      simp only [List.setIfInBounds_toArray, List.set_cons_zero, List.set_cons_succ]
      have HIW := Lib.hid hI
      have hzW := hI.bel.size
      have HRW := Lib.hid (own_below HROW.out hI.bel (Nat.le_refl _))
      have HbW := Lib.hid (Hbr.out.trans (hI.bel.mono hzr))
      clear hI HROW Hbr HKA HKB HKC
      go_wp2_with (at_builtin; refine wpList_pushB rfl (.tmp 48) (.tmp 59) 36 rfl w.heap.size 66 j0 (.agg #[.int .i64 0, .int .i64 0, .int .i64 0]) 3 24 Try.underlying36 hj0 hy0 hy1 hy2 rfl (by omega) _ k _ rfl HRW.out gL #[.int .i64 qa, .int .i64 qb, .int .i64 qc] rfl (HIW.out.blkAt (k := 0) rfl) rfl (by simp [Value.oneCell']) (by unfold maxLen; omega) (by omega) (by omega) ?_; intro v8 w8 hn8 hb8 hs8)
      obtain ⟨g8, c8, rfl⟩ := hs8
      have HX := Lib.hid (show FwRel w FS NF (.slice (some ⟨g8, 0, none⟩) (k + 1) c8) (.int .i64 ((k : Int) + 1)) w8 from ⟨k + 1, by omega, by simp, by
        have hkl : k < FS.length := by have := HFL.out; omega
        have e : ((FS.take (k + 1)).map fewF).flatMap encF = ((FS.take k).map fewF).flatMap encF ++ #[Value.int .i64 qa, .int .i64 qb, .int .i64 qc].toList := by
          rw [List.take_add_one, Hg.out, Option.toList_some, List.map_append, List.flatMap_append, List.map_cons, List.map_nil, HQ.out]
          rfl
        rw [e]
        exact hn8, HbW.out.trans (hb8.mono (by omega))⟩)
      clear hn8 hb8 HRW HIW HbW
      go_wp2_with fail
      go_roundw
      case rel => exact HX.out
      case measure => simp [intOf]; omega
    · obtain rfl : k = NF := by omega
      obtain ⟨Ag, cg, hv, hnc, _, hAc, hrd⟩ := (OffRow.of_own hrow).rd
      have HC := Lib.hid (HALL.out wr hbr Ag k cg ((FS.take k).map fewF) (fun h => ⟨by have := hAc h; omega, hAc h⟩) (by have := HFL.out; rw [List.length_map, List.length_take]; omega) (by omega) hrd (few_few _))
      have Hbr := Lib.hid hbr
      clear hrow hrd hnc hAc hbr HALL HRF HFL HFW
      subst hv
      go_wp2_with fail
      refine HC.out.mono ?_
      rintro e w3 ⟨⟨C0, p0, d0, C1, p1, d1, hsum, rfl⟩, hb3⟩
      have Hb3 := Lib.hid (Hbr.out.trans (hb3.mono hzr))
      have hw : IntKind.i64.wrap ((p0 : Int) + (p1 : Int)) = (N : Int) := by rw [IntKind.wrap_i64]; omega
      clear hb3 hsum
      have hEq := eq_two ((w3.alloc (.cells #[.slice C0 p0 d0, .slice C1 p1 d1] 61)).alloc (.cells #[.int .i64 0, .int .i64 0] 62))
      go_wp2_with fail
      go_ret
      exact ⟨rfl, Hb3.out.trans ((((Below.refl _ _).alloc (Nat.le_refl _) _).alloc (by rw [World.size_alloc]; omega) _).mono Hb3.out.size)⟩
end Go.Proofs.Ytpnefacignalpaa.linkAll
