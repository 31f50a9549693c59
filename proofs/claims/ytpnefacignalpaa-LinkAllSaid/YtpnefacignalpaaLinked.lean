/- gantkeep5.linked, walked. Conditions: those typed. -/
import Derived.Test.YtpnefacignalpaaLinkStep
import Derived.Test.YtpnefacignalpaaIntsOpen
import Derived.Test.YtpnefacignalpaaLinkRes
import Derived.Test.YtpnefacignalpaaResTwo
namespace Go.Proofs.Ytpnefacignalpaa
open Go.RowKit Go.Gy
set_option linter.unusedVariables false
set_option linter.unusedSimpArgs false
def FRel (w : World) (base V6 V7 V9 V10 B : Nat) (FS : List GF) (i : Value) (wr : World) : Prop := ∃ (k : Nat) (p0 p1 : Value) (E0 E1 : Nat), k ≤ 2 ∧ i = .int .i64 k ∧ Blk wr V9 90 #[p0, p1] ∧ Blk wr V10 61 #[.slice none 0 0, .slice none 0 0] ∧ Blk wr V6 61 #[.slice none 0 0, .slice none 0 0] ∧ Blk wr V7 62 #[.int .i64 0, .int .i64 0] ∧ NetAt wr base B FS 0 (.slice none 0 0) [] ∧
  (1 ≤ k → p0 = .pointer (some ⟨E0, 0, none⟩) ∧ EndAt wr base E0 0 1 0 0 false (.slice none 0 0) [] (.slice none 0 0) []) ∧ (2 ≤ k → p1 = .pointer (some ⟨E1, 0, none⟩) ∧ EndAt wr base E1 1 0 0 0 false (.slice none 0 0) [] (.slice none 0 0) [] ∧ E1 ≠ E0) ∧ Below base w wr
theorem EndAt.more {W : World} {base base' E : Nat} {a b nx wt : Int} {ow : Bool} {vw vg : Value} {ws : List WK} {gs : List SM} (h : EndAt W base E a b nx wt ow vw ws vg gs) (hb : base' ≤ base) : EndAt W base' E a b nx wt ow vw ws vg gs :=
  ⟨Nat.le_trans hb h.lo, h.box, h.rw.more hb, own_mono h.rg hb, fun x hx => ⟨own_mono (h.mw x hx).1 hb, (h.mw x hx).2⟩, fun x hx => ⟨own_mono (h.mg x hx).1 hb, (h.mg x hx).2⟩⟩
/-- one more end lies in the array of ends -/
theorem FRel.step {w wr w1 : World} {base V6 V7 V9 V10 B k E p : Nat} {FS : List GF} {p0 p1 : Value} {E0 E1 : Nat} (h9 : Blk wr V9 90 #[p0, p1]) (h10 : Blk wr V10 61 #[.slice none 0 0, .slice none 0 0]) (h6 : Blk wr V6 61 #[.slice none 0 0, .slice none 0 0]) (h7 : Blk wr V7 62 #[.int .i64 0, .int .i64 0]) (hN : NetAt wr base B FS 0 (.slice none 0 0) []) (hb : Below base w wr) (h9lo : base ≤ V9) (hb1 : Below wr.heap.size wr w1) (i : Nat) (u : Value) :
    Blk (w1.setCell ⟨V9, i, none⟩ u) V9 90 (#[p0, p1].setIfInBounds i u) ∧ Blk (w1.setCell ⟨V9, i, none⟩ u) V10 61 #[.slice none 0 0, .slice none 0 0] ∧ Blk (w1.setCell ⟨V9, i, none⟩ u) V6 61 #[.slice none 0 0, .slice none 0 0] ∧ Blk (w1.setCell ⟨V9, i, none⟩ u) V7 62 #[.int .i64 0, .int .i64 0] ∧ NetAt (w1.setCell ⟨V9, i, none⟩ u) base B FS 0 (.slice none 0 0) [] ∧ Below base w (w1.setCell ⟨V9, i, none⟩ u) ∧ (∀ {E' : Nat} {a b nx wt : Int} {ow : Bool} {vw vg : Value} {ws : List WK} {gs : List SM}, EndAt w1 base E' a b nx wt ow vw ws vg gs → EndAt (w1.setCell ⟨V9, i, none⟩ u) base E' a b nx wt ow vw ws vg gs) := by
  have hS : Mod (fun g => g = V9) w1 (w1.setCell ⟨V9, i, none⟩ u) := (Mod.refl (fun g => g = V9) w1).set (g := V9) (fun _ => rfl) i u
  have k9 := h9.below hb1 h9.lt
  have hty : ∀ {t cs}, ∀ g, Blk w1 g t cs → t ≠ 90 → ¬ g = V9 := fun g hk ht e => by
    subst e
    exact ht (blk_type hk k9)
  have k10 := h10.below hb1 h10.lt
  have k6 := h6.below hb1 h6.lt
  have k7 := h7.below hb1 h7.lt
  have hbl := h9.lt
  refine ⟨k9.set i u, hS.blk k10 (hty _ k10 (by decide)), hS.blk k6 (hty _ k6 (by decide)), hS.blk k7 (hty _ k7 (by decide)), (hN.below hb1).keep hS (fun g t cs hk e => by
    subst e
    rw [blk_type hk k9]
    exact ⟨by decide, by decide, by decide, by decide⟩), (hb.trans (hb1.mono (by omega))).trans (hS.below (fun g hg e => by omega) (by have := hb1.size; omega)), fun he => he.keep hS (fun g t cs hk e => ⟨fun hf => ?_, ?_⟩)⟩
  · subst e
    rcases he.typ hk hf with e | e | e <;> rw [blk_type hk k9] at e <;> exact absurd e (by decide)
  · subst e
    rw [blk_type hk k9]
    decide
/-- the plain state and the parts in memory -/
structure SAt (S : Sys) (n : Nat) (m : Nat → Nat) (T : Int) (K : List AK) (x : Nat → ME) (gl : Nat → List SM) : Prop where
  T : S.T = T
  K : S.K = K
  e : ∀ i, i < 2 → (x i).abs = S.e i
  g : ∀ i, i < 2 → (gl i).map (·.m) = S.g i
  ok : ∀ i, i < 2 → MEok n (x i)
  gs : ∀ i, i < 2 → (x i).gs = []
  gl : ∀ i, i < 2 → (gl i).length ≤ 1000 * m i
def TkRel (w : World) (base V6 V7 V9 V10 B : Nat) (FS : List GF) (l : List Int) (E : Nat → Nat) (N : Nat) (i : Value) (wr : World) : Prop := ∃ (t : Nat) (S : Sys) (T : Int) (K : List AK) (x : Nat → ME) (u : Nat → Value) (gl : Nat → List SM), t ≤ N ∧ i = .int .i64 t ∧ runS FS l t = some S ∧ SAt S t (fun _ => t) T K x gl ∧ LkS w base V6 V7 V9 V10 B FS E T K x u gl wr
theorem run_le {FS : List GF} {l : List Int} : ∀ {t n : Nat}, t ≤ n → (runS FS l n).isSome = true → (runS FS l t).isSome = true
  | t, 0, h, hn => by
    obtain rfl : t = 0 := by omega
    exact hn
  | t, n + 1, h, hn => by
    by_cases e : t = n + 1
    · subst e; exact hn
    · refine run_le (n := n) (by omega) ?_
      unfold runS at hn
      cases hr : runS FS l n with
      | none => rw [hr] at hn; cases hn
      | some S => rfl
theorem run_next {FS : List GF} {l : List Int} {t N : Nat} {S : Sys} (h : runS FS l t = some S) (hN : (runS FS l N).isSome = true) (ht : t < N) : ∃ S', tickS FS l t S = some S' := by
  have h1 := run_le (t := t + 1) ht hN
  obtain ⟨S', h2⟩ := Option.isSome_iff_exists.1 h1
  refine ⟨S', ?_⟩
  have h3 : runS FS l (t + 1) = (runS FS l t).bind (tickS FS l t) := rfl
  rw [h3, h] at h2
  exact h2
theorem LapJ.callv {det : Nat → Option Value} {L : List (Nat × Nat)} {c1 : Nat} {R0 : World → Prop} {Sp : Nat → Value → World → Prop} {R1 : Value → World → Prop} {s : Nat → Bool} {vs : Nat → Value} {W W' : World} (h : LapJ det L c1 R0 Sp R1 s vs W) (hs : s c1 = false) (hl0 : Lasts R0) (hl : ∀ i v, Lasts (Sp i v)) {i : Nat} {u : Value} (hc : i ≠ c1) (hp : ∀ p ∈ L, p.2 = i → s p.1 = true) (hd : det i = some u) (hb : Below W.heap.size W W') : LapJ det L c1 R0 Sp R1 (updI s i true) (updI vs i u) W' := by
  have e1 : updI s i true c1 = s c1 := updI_ne s true (fun e => hc e.symm)
  refine ⟨fun j u' hj hdj => ?_, fun h0 => ⟨hl0 _ _ (h.w0 hs).1 hb, fun j hj hdj => ?_⟩, fun h1 => ?_, updI_pairs h.w2 hp⟩
  · by_cases hji : j = i
    · subst hji
      rw [updI_same]
      rw [hd] at hdj
      exact Option.some.inj hdj
    · rw [updI_ne s true hji] at hj
      rw [updI_ne vs u hji]
      exact h.dt j u' hj hdj
  · by_cases hji : j = i
    · subst hji; rw [hd] at hdj; cases hdj
    · rw [updI_ne s true hji] at hj
      rw [updI_ne vs u hji]
      exact hl _ _ _ _ ((h.w0 hs).2 j hj hdj) hb
  · rw [e1, hs] at h1; cases h1
theorem tdiv_pm (p n : Int) (hn : 0 < n) : p.tdiv n = if 0 ≤ p then p / n else -((-p) / n) := by
  split
  · rename_i h
    exact Int.tdiv_eq_ediv_of_nonneg h
  · rename_i h
    rw [← Int.tdiv_eq_ediv_of_nonneg (show 0 ≤ -p by omega), Int.neg_tdiv, Int.neg_neg]
def CellSp (cs : Array Value) (i : Nat) (v : Value) (W : World) : Prop := i = 18 → ∃ gL, v = .slice (some ⟨gL, 0, none⟩) 1 1 ∧ Blk W gL 88 cs
theorem CellSp.lasts {cs : Array Value} : ∀ i v, Lasts (CellSp cs i v) := by
  intro i v W W' h hb e
  obtain ⟨g, e1, h2⟩ := h e
  exact ⟨g, e1, h2.below hb h2.lt⟩
def mT (t k : Nat) : Nat → Nat := fun j => if j < k then t + 1 else t
def EnRel (w : World) (base V6 V7 V9 V10 B : Nat) (FS : List GF) (E : Nat → Nat) (t : Nat) (S1 S2 S3 : Sys) (i : Value) (wr : World) : Prop := ∃ (k : Nat) (S : Sys) (T : Int) (K : List AK) (x : Nat → ME) (u : Nat → Value) (gl : Nat → List SM), k ≤ 2 ∧ i = .int .i64 k ∧ (k = 0 → S = S1) ∧ (k = 1 → S = S2) ∧ (k = 2 → S = S3) ∧ SAt S (t + 1) (mT t k) T K x gl ∧ LkS w base V6 V7 V9 V10 B FS E T K x u gl wr
/-- end k takes its messages, one after the other -/
def RcRel (w : World) (base V6 V7 V9 V10 B : Nat) (FS : List GF) (E : Nat → Nat) (t k : Nat) (T : Int) (K : List AK) (x : Nat → ME) (u : Nat → Value) (gl : Nat → List SM) (b7 : Nat) (A : Option Addr) (c : Nat) (Ls : List SM) (i : Value) (wr : World) : Prop := ∃ (j : Nat) (y : ES) (y' : ME), j ≤ Ls.length ∧ i = .int .i64 j ∧ ((Ls.take j).map (·.m)).foldlM (inS (k : Int) ((oth k : Nat) : Int)) (x k).abs = some y ∧ y'.abs = y ∧ MEok (t + 1) y' ∧ y'.gs.length ≤ j ∧ LkS w base V6 V7 V9 V10 B FS E T K (updN x k y') u gl wr ∧ wr.ownsRow b7 43 6 (.slice A Ls.length c) Ls.length (Ls.flatMap encM) ∧ (∀ s ∈ Ls, MOwn wr base s) ∧ Apart y'.vg (.slice A Ls.length c)
theorem run_index_two (W : World) (p0 p1 : Option Addr) : (Instr.index 90 (.agg #[.pointer p0, .pointer p1]) (.int .i64 0)).run Try.prog W = .ok (.pointer p0) W ∧ (Instr.index 90 (.agg #[.pointer p0, .pointer p1]) (.int .i64 1)).run Try.prog W = .ok (.pointer p1) W := by
  have hu : Try.prog.underlying 90 = some (.array 2 (Try.prog.elem 90)) := by kernel_rfl
  have he : Try.prog.elem 90 = 24 := by kernel_rfl
  have hz : (sizeOf (Try.prog.elem 90)).run Try.prog W = .ok 1 W := by
    rw [he]
    go_simp
  constructor
  · unfold Instr.index
    simp [run_underlying hu, asIntOf, hz, Result.andThen]
    rw [he]
    go_simp
  · unfold Instr.index
    simp [run_underlying hu, asIntOf, hz, Result.andThen]
    rw [he]
    go_simp
theorem updN_self {α : Type} (f : Nat → α) (i : Nat) : updN f i (f i) = f := by
  funext k
  unfold updN
  split
  · rename_i h; rw [h]
  · rfl
theorem updN_twice {α : Type} (f : Nat → α) (i : Nat) (a b : α) : updN (updN f i a) i b = updN f i b := by
  funext k
  unfold updN
  split <;> rfl
theorem rc_in {w W : World} {base V6 V7 V9 V10 B t k : Nat} {FS : List GF} {E : Nat → Nat} {T : Int} {K : List AK} {x : Nat → ME} {u : Nat → Value} {gl : Nat → List SM} {y' : ME} {y2 : ES} {s : SM} (h : LkS w base V6 V7 V9 V10 B FS E T K (updN x k y') u gl W) (hk : k < 2) (hok : MEok (t + 1) y') (ht : t + 1 ≤ 500) (hgs : y'.gs.length ≤ 1000) (hs : MOwn W base s) (hy : inS (k : Int) ((oth k : Nat) : Int) y'.abs s.m = some y2) :
    Calls Try.prog 38 #[.pointer (some ⟨E k, 0, none⟩), msgV s.m s.A s.n s.c] W fun e w' => e = .returned (.int .i64 0) ∧ ∃ y3 : ME, y3.abs = y2 ∧ MEok (t + 1) y3 ∧ y3.gs.length ≤ y'.gs.length + 1 ∧ LkS w base V6 V7 V9 V10 B FS E T K (updN x k y3) u gl w' ∧ Mod (EndF (E k) y'.vw y'.vg) W w' ∧ NearV W y'.vg y3.vg := by
  have hE := h.a.ends k hk
  rw [updN_same] at hE
  refine (in_any W base (E k) k ((oth k : Nat) : Int) y'.nx y'.wt y'.ow y'.vw y'.vg y'.ws y'.gs hE h.a.blo (Nat.le_trans hok.ws ht) (by omega) s.m s.A s.n s.c hs.at_ (mown_off hE hs)).mono fun e w' hp => ?_
  have h1 := h.in_ (y := y2) (k := t + 1) (m := s.m) hk (by rw [updN_same]; exact hok) (by rw [updN_same]; exact hp) (by rw [updN_same]; exact hy)
  rw [updN_same] at h1
  obtain ⟨he, y3, a1, a2, a3, a4, a5, _, a6⟩ := h1
  rw [updN_twice] at a4
  exact ⟨he, y3, a1, a2, a3, a4, a5, a6⟩
theorem sd_send {w W : World} {base V6 V7 V9 V10 B t b : Nat} {FS : List GF} {E : Nat → Nat} {T : Int} {K : List AK} {x : Nat → ME} {u : Nat → Value} {gl : Nat → List SM} {s : SM} (h : LkS w base V6 V7 V9 V10 B FS E T K x u gl W) (hs : MOwn W b s) (hc : sendC FS T K (t : Int) s.m = 0) :
    Calls Try.prog 13 #[.pointer (some ⟨B, 0, none⟩), .int .i64 (t : Int), msgV s.m s.A s.n s.c] W fun e w' => e = .returned (.int .i64 0) ∧ LkS w base V6 V7 V9 V10 B FS E (t : Int) (K ++ flightsF FS (t : Int) s.m) x u gl w' ∧ ∃ F, Mod F W w' ∧ ∀ g t cs, Blk W g t cs → F g → t = 79 ∨ t = 82 := by
  obtain ⟨v, hv⟩ := h.a.net
  refine (send_any W base B FS T v K hv h.a.blo (t : Int) s.m s.A s.n s.c hs.at_ (fun h0 p hp hf => ?_)).mono fun e w' hp => h.send_ hv hc hp
  obtain ⟨cs, hk⟩ := own_blk hs.1 (g := p.block) (by rw [hp]; rfl)
  exact hv.off hk (by decide) (by decide) hf
def SdRel (w : World) (base V6 V7 V9 V10 B : Nat) (FS : List GF) (E : Nat → Nat) (t : Nat) (S0 : Sys) (x : Nat → ME) (u : Nat → Value) (gl : Nat → List SM) (b7 : Nat) (A : Option Addr) (c : Nat) (Ls : List SM) (i : Value) (wr : World) : Prop := ∃ (j : Nat) (S3 : Sys) (T3 : Int) (K3 : List AK), j ≤ Ls.length ∧ i = .int .i64 j ∧ ((Ls.take j).map (·.m)).foldlM (sendS FS (t : Int)) S0 = some S3 ∧ S3.T = T3 ∧ S3.K = K3 ∧ S3.e = S0.e ∧ S3.g = S0.g ∧ LkS w base V6 V7 V9 V10 B FS E T3 K3 x u gl wr ∧ wr.ownsRow b7 43 6 (.slice A Ls.length c) Ls.length (Ls.flatMap encM) ∧ ∀ s ∈ Ls, MOwn wr b7 s
theorem outG_len (x : ES) (a b T ck : Int) : (outG x a b T ck).length ≤ 9 := by
  unfold outG
  rw [List.length_append, List.length_map]
  have h1 := List.length_filter_le (dueP T) (x.ws.take 8)
  rw [List.length_take] at h1
  split
  · simp only [List.length_cons, List.length_nil]; omega
  · simp only [List.length_nil]; omega
theorem sat_recv {S Sr : Sys} {t k : Nat} {T : Int} {K : List AK} {x : Nat → ME} {gl : Nat → List SM} {y : ES} {y' : ME} (h : SAt S (t + 1) (mT t k) T K x gl) (hk : k < 2) (hy : y'.abs = y) (hok : MEok (t + 1) y') (hg : y'.gs.length ≤ 1000) (hSr : { S with K := restL S.K (t : Int) (k : Int), e := updN S.e k { y with gs := [] }, g := updN S.g k (S.g k ++ y.gs) } = Sr) :
    SAt Sr (t + 1) (mT t (k + 1)) T (restL K (t : Int) (k : Int)) (updN x k { y' with vg := .slice none 0 0, gs := [] }) (updN gl k (gl k ++ y'.gs)) := by
  subst hy
  subst hSr
  refine ⟨h.T, by rw [← h.K], fun j hj => ?_, fun j hj => ?_, fun j hj => ?_, fun j hj => ?_, fun j hj => ?_⟩
  · by_cases e : j = k
    · subst e; simp only [updN_same]; rfl
    · simp only [updN_ne _ _ e]; exact h.e j hj
  · by_cases e : j = k
    · subst e; simp only [updN_same]; rw [List.map_append, h.g j hj]; rfl
    · simp only [updN_ne _ _ e]; exact h.g j hj
  · by_cases e : j = k
    · subst e; rw [updN_same]; exact ⟨hok.nx, hok.ws, hok.la⟩
    · rw [updN_ne _ _ e]; exact h.ok j hj
  · by_cases e : j = k
    · subst e; rw [updN_same]
    · rw [updN_ne _ _ e]; exact h.gs j hj
  · have h1 := h.gl j hj
    unfold mT at h1 ⊢
    by_cases e : j = k
    · subst e
      rw [updN_same, List.length_append, if_pos (by omega)]
      rw [if_neg (by omega)] at h1
      omega
    · rw [updN_ne _ _ e]
      split at h1 <;> split <;> omega
theorem sat_emit {Sr S3 : Sys} {n k : Nat} {m : Nat → Nat} {T T3 : Int} {K K3 : List AK} {x : Nat → ME} {gl : Nat → List SM} {y4 : ME} (h : SAt Sr n m T K x gl) (hT : S3.T = T3) (hK : S3.K = K3) (he : S3.e = updN Sr.e k y4.abs) (hg : S3.g = Sr.g) (hok : MEok n y4) (hgs : y4.gs = []) : SAt S3 n m T3 K3 (updN x k y4) gl := by
  refine ⟨hT, hK, fun j hj => ?_, fun j hj => by rw [hg]; exact h.g j hj, fun j hj => ?_, fun j hj => ?_, h.gl⟩
  · rw [he]
    by_cases e : j = k
    · subst e; simp only [updN_same]
    · simp only [updN_ne _ _ e]; exact h.e j hj
  · by_cases e : j = k
    · subst e; rw [updN_same]; exact hok
    · rw [updN_ne _ _ e]; exact h.ok j hj
  · by_cases e : j = k
    · subst e; rw [updN_same]; exact hgs
    · rw [updN_ne _ _ e]; exact h.gs j hj
def ResQ (w : World) (base V6 V7 V9 V10 B : Nat) (FS : List GF) (T : Int) (K : List AK) (E : Nat → Nat) (x : Nat → ME) (u : Nat → Value) (gl : Nat → List SM) (a b : Value) (p q : Bool) (W : World) : Prop := Blk W V6 61 (match p with | true => #[a, b] | false => #[.slice none 0 0, .slice none 0 0]) ∧ Blk W V7 62 #[.int .i64 0, .int .i64 0] ∧ LkAt W base V9 V10 B FS T K E x u gl ∧ Below base w W
theorem ResQ.lasts {w : World} {base V6 V7 V9 V10 B : Nat} {FS : List GF} {T : Int} {K : List AK} {E : Nat → Nat} {x : Nat → ME} {u : Nat → Value} {gl : Nat → List SM} {a b : Value} : ∀ p q, Lasts (ResQ w base V6 V7 V9 V10 B FS T K E x u gl a b p q) := fun p q W W' h hb => ⟨h.1.below hb h.1.lt, h.2.1.below hb h.2.1.lt, h.2.2.1.below hb, h.2.2.2.trans (hb.mono h.2.2.1.blo)⟩
theorem ResQ.store {w W : World} {base V6 V7 V9 V10 B : Nat} {FS : List GF} {T : Int} {K : List AK} {E : Nat → Nat} {x : Nat → ME} {u : Nat → Value} {gl : Nat → List SM} {a b : Value} {q : Bool} (h : ResQ w base V6 V7 V9 V10 B FS T K E x u gl a b false q W) (hne : V6 ≠ V10) (hlo : base ≤ V6) : ResQ w base V6 V7 V9 V10 B FS T K E x u gl a b true q ((W.setCell ⟨V6, 0, none⟩ a).setCell ⟨V6, 1, none⟩ b) := by
  obtain ⟨h1, h2, h3, h4⟩ := h
  have hm : Mod (fun k => k = V6) W ((W.setCell ⟨V6, 0, none⟩ a).setCell ⟨V6, 1, none⟩ b) := ((Mod.refl (fun k => k = V6) W).set (g := V6) (fun _ => rfl) 0 a).set (g := V6) (fun _ => rfl) 1 b
  have h1' : Blk W V6 61 #[.slice none 0 0, .slice none 0 0] := h1
  refine ⟨?_, hm.blk h2 (fun e => ?_), h3.res h1' (by decide) hne hm, h4.trans (hm.below (fun g hg e => by omega) h3.blo)⟩
  · have := (h1'.set 0 a).set 1 b
    simpa using this
  · subst e
    exact absurd (blk_type h2 h1') (by decide)
def LinkedPost (w : World) (FS : List GF) (l : List Int) (N : Nat) (e : Ending) (w' : World) : Prop := ∃ (S : Sys) (u : Nat → Value) (gl : Nat → List SM), runS FS l N = some S ∧ e = .returned (.tuple #[.agg #[u 0, u 1], .agg #[.int .i64 ((S.e 0).ws.length : Int), .int .i64 ((S.e 1).ws.length : Int)], .bool true]) ∧ (∀ i, i < 2 → w'.ownsRow w.heap.size 43 6 (u i) (gl i).length ((gl i).flatMap encM) ∧ (∀ s ∈ gl i, MOwn w' w.heap.size s) ∧ (gl i).map (·.m) = S.g i) ∧ Below w.heap.size w w'
theorem fold_next {α β : Type} {f : α → β → Option α} {a b : α} : ∀ {l : List β} {j : Nat} {z : β}, l.foldlM f a = some b → l[j]? = some z → ∀ {y : α}, (l.take j).foldlM f a = some y → ∃ y', f y z = some y' ∧ (l.take (j + 1)).foldlM f a = some y'
  | [], j, z, _, hz, _, _ => by simp at hz
  | c :: l, 0, z, h, hz, y, hy => by
    simp only [List.getElem?_cons_zero, Option.some.injEq] at hz
    subst hz
    simp only [List.take_zero, List.foldlM_nil] at hy
    cases hy
    simp only [List.foldlM_cons] at h
    obtain ⟨y', h1, h2⟩ := Option.bind_eq_some_iff.1 h
    exact ⟨y', h1, by simp only [List.take_succ_cons, List.take_zero, List.foldlM_cons, List.foldlM_nil]; rw [h1]; rfl⟩
  | c :: l, j + 1, z, h, hz, y, hy => by
    simp only [List.getElem?_cons_succ] at hz
    simp only [List.foldlM_cons] at h
    obtain ⟨a', h1, h2⟩ := Option.bind_eq_some_iff.1 h
    simp only [List.take_succ_cons, List.foldlM_cons] at hy ⊢
    rw [h1] at hy ⊢
    exact fold_next (l := l) (j := j) h2 hz hy
set_option maxRecDepth 100000 in
set_option maxHeartbeats 16000000 in
theorem linked_any (w : World) (Af : Option Addr) (nf cf : Nat) (FS : List GF) (hA : Af = none → nf = 0 ∧ cf = 0) (hFl : FS.length = nf) (hnf : nf ≤ 5864062014805) (hFd : Rd w w.heap.size 3 Af nf (FS.flatMap encF)) (A0 : Option Addr) (n0 c0 : Nat) (l : List Int) (hl : l.length = n0) (hr0 : Rd w w.heap.size 1 A0 n0 (l.map iv)) (hn0 : n0 ≤ 1000) (hin : ∀ x ∈ l, -9223372036854775808 ≤ x ∧ x ≤ 9223372036854775807) (N : Nat) (hN : N ≤ 120) (hrun : (runS FS l N).isSome = true) :
    Calls Try.prog 24 #[.slice Af nf cf, .slice A0 n0 c0, .int .i64 (N : Int)] w (LinkedPost w FS l N) := by
  have HL := Lib.hid (show ∀ W, Below w.heap.size w W → Rd W w.heap.size 1 A0 n0 (l.map iv) from fun W hW => hr0.below hW)
  have HLL := Lib.hid hl
  have HIN := Lib.hid hin
  have HRUN := Lib.hid hrun
  have hbs : Below w.heap.size w ((((w.alloc (.cells #[.slice none 0 0, .slice none 0 0] 61)).alloc (.cells #[.int .i64 0, .int .i64 0] 62)).alloc (.cells #[.pointer none, .pointer none] 90)).alloc (.cells #[.slice none 0 0, .slice none 0 0] 61)) := ((((Below.refl _ _).alloc (Nat.le_refl _) _).alloc (by simp) _).alloc (by simp; omega) _).alloc (by simp; omega) _
  have HNEW := Lib.hid (netnew_any _ Af nf cf FS hA hFl hnf ((hFd.below hbs).more hbs.size))
  clear hr0 hl hrun hA hFl hFd hin
  go_enter Try.func24, Try.ntmps24
  go_upto_region 3 with (fail)
  obtain ⟨V6, hV6⟩ : ∃ V, V = w.heap.size := ⟨_, rfl⟩
  obtain ⟨V7, hV7⟩ : ∃ V, V = w.heap.size + 1 := ⟨_, rfl⟩
  obtain ⟨V9, hV9⟩ : ∃ V, V = w.heap.size + 1 + 1 := ⟨_, rfl⟩
  obtain ⟨V10, hV10⟩ : ∃ V, V = w.heap.size + 1 + 1 + 1 := ⟨_, rfl⟩
  have k6 : Blk ((((w.alloc (.cells #[.slice none 0 0, .slice none 0 0] 61)).alloc (.cells #[.int .i64 0, .int .i64 0] 62)).alloc (.cells #[.pointer none, .pointer none] 90)).alloc (.cells #[.slice none 0 0, .slice none 0 0] 61)) V6 61 #[.slice none 0 0, .slice none 0 0] := by
    rw [hV6]
    exact (((Blk.new w _ _).alloc _).alloc _).alloc _
  have k7 : Blk ((((w.alloc (.cells #[.slice none 0 0, .slice none 0 0] 61)).alloc (.cells #[.int .i64 0, .int .i64 0] 62)).alloc (.cells #[.pointer none, .pointer none] 90)).alloc (.cells #[.slice none 0 0, .slice none 0 0] 61)) V7 62 #[.int .i64 0, .int .i64 0] := by
    have := ((Blk.new (w.alloc (.cells #[.slice none 0 0, .slice none 0 0] 61)) 62 #[.int .i64 0, .int .i64 0]).alloc (.cells #[.pointer none, .pointer none] 90)).alloc (.cells #[.slice none 0 0, .slice none 0 0] 61)
    rw [World.size_alloc] at this
    rw [hV7]
    exact this
  have k9 : Blk ((((w.alloc (.cells #[.slice none 0 0, .slice none 0 0] 61)).alloc (.cells #[.int .i64 0, .int .i64 0] 62)).alloc (.cells #[.pointer none, .pointer none] 90)).alloc (.cells #[.slice none 0 0, .slice none 0 0] 61)) V9 90 #[.pointer none, .pointer none] := by
    have := (Blk.new ((w.alloc (.cells #[.slice none 0 0, .slice none 0 0] 61)).alloc (.cells #[.int .i64 0, .int .i64 0] 62)) 90 #[.pointer none, .pointer none]).alloc (.cells #[.slice none 0 0, .slice none 0 0] 61)
    rw [World.size_alloc, World.size_alloc] at this
    rw [hV9]
    exact this
  have k10 : Blk ((((w.alloc (.cells #[.slice none 0 0, .slice none 0 0] 61)).alloc (.cells #[.int .i64 0, .int .i64 0] 62)).alloc (.cells #[.pointer none, .pointer none] 90)).alloc (.cells #[.slice none 0 0, .slice none 0 0] 61)) V10 61 #[.slice none 0 0, .slice none 0 0] := by
    have := Blk.new (((w.alloc (.cells #[.slice none 0 0, .slice none 0 0] 61)).alloc (.cells #[.int .i64 0, .int .i64 0] 62)).alloc (.cells #[.pointer none, .pointer none] 90)) 61 #[.slice none 0 0, .slice none 0 0]
    rw [World.size_alloc, World.size_alloc, World.size_alloc] at this
    rw [hV10]
    exact this
  rw [← hV10, ← hV9, ← hV7, ← hV6]
  have hlo9 : w.heap.size ≤ V9 ∧ w.heap.size ≤ V10 ∧ V6 ≠ V10 ∧ w.heap.size ≤ V6 ∧ w.heap.size ≤ V7 := by omega
  generalize ((((w.alloc (.cells #[.slice none 0 0, .slice none 0 0] 61)).alloc (.cells #[.int .i64 0, .int .i64 0] 62)).alloc (.cells #[.pointer none, .pointer none] 90)).alloc (.cells #[.slice none 0 0, .slice none 0 0] 61)) = w1 at hbs HNEW k6 k7 k9 k10 ⊢
  have HB1 := Lib.hid hbs
  have HK6 := Lib.hid k6
  have HK7 := Lib.hid k7
  have HK9 := Lib.hid k9
  have HK10 := Lib.hid k10
  obtain ⟨base, hbase⟩ : ∃ base, base = w.heap.size := ⟨_, rfl⟩
  have HLO := Lib.hid hlo9
  clear hbs k6 k7 k9 k10 hV6 hV7 hV9 hV10 hlo9
  go_wp2_with fail
  refine HNEW.out.mono ?_
  rintro e w2 ⟨B, rfl, hN2, hb2⟩
  have hN2' : NetAt w2 base B FS 0 (.slice none 0 0) [] := by
    obtain ⟨q1, q2, Af', nf', cf', ks, q3, q4, q5, q6, q7, q8⟩ := hN2
    have := HB1.out.size
    exact ⟨by omega, q2, Af', nf', cf', ks, q3, q4, own_mono q5 (by omega), q6, own_mono q7 (by omega), fun k hk => ⟨own_mono (q8 k hk).1 (by omega), (q8 k hk).2⟩⟩
  have hB2 : Below base w w2 := by
    rw [hbase]
    exact HB1.out.trans (hb2.mono HB1.out.size)
  have hst := Lib.hid (show FRel w base V6 V7 V9 V10 B FS (.int .i64 0) w2 from ⟨0, _, _, 0, 0, by omega, rfl, HK9.out.below hb2 HK9.out.lt, HK10.out.below hb2 HK10.out.lt, HK6.out.below hb2 HK6.out.lt, HK7.out.below hb2 HK7.out.lt, hN2', fun h => absurd h (by omega), fun h => absurd h (by omega), hB2⟩)
  have HBASE := Lib.hid hbase
  clear hN2 hN2' hb2 hB2 HNEW HK6 HK7 HK9 HK10 HB1 hbase
  go_wp2_with fail
  go_loopw [25] (fun i wr => FRel w base V6 V7 V9 V10 B FS i wr) (fun i _ => 2 - (intOf i).toNat)
  case atStart => exact hst.out
  case round =>
    clear hst
    obtain ⟨k, p0, p1, E0, E1, hk, rfl, k9, k10, k6, k7, hN2, he0, he1, hb⟩ := hrel
    have hlo9 : base ≤ V9 := by have := HLO.out; have := HBASE.out; omega
    obtain rfl | rfl | rfl : k = 0 ∨ k = 1 ∨ k = 2 := by omega
    · have HNW := Lib.hid (new_ok wr 0 1 (by omega))
      have HK9 := Lib.hid k9
      have HST := Lib.hid (fun w1 hb1 => FRel.step (B := B) (p := 0) (E := 0) (k := 0) (E0 := 0) (E1 := 0) (w1 := w1) k9 k10 k6 k7 hN2 hb hlo9 hb1 0)
      have HLR := Lib.hid (Nat.le_trans hlo9 (Nat.le_of_lt k9.lt))
      clear k9 k10 k6 k7 hN2 he0 he1 hb
      go_wp2_with fail
      refine HNW.out.mono ?_
      rintro e w3 ⟨E, rfl, hE, hb3⟩
      have c0 := (HK9.out.below hb3 HK9.out.lt).cell 0 _ rfl
      have c1 := (HK9.out.below hb3 HK9.out.lt).cell 1 _ rfl
      have cf := fun i => (HK9.out.below hb3 HK9.out.lt).free i
      obtain ⟨q1, q2, q3, q4, q5, q6, q7⟩ := HST.out w3 hb3 (.pointer (some ⟨E, 0, none⟩))
      have HX := Lib.hid (show FRel w base V6 V7 V9 V10 B FS (.int .i64 1) (w3.setCell ⟨V9, 0, none⟩ (.pointer (some ⟨E, 0, none⟩))) from ⟨1, _, _, E, 0, by omega, rfl, q1, q2, q3, q4, q5, fun _ => ⟨rfl, q7 (hE.more HLR.out)⟩, fun h => absurd h (by omega), q6⟩)
      clear hE hb3 q1 q2 q3 q4 q5 q6 q7 HNW
      go_wp2_with fail
      go_roundw
      case rel => exact HX.out
      case measure => simp [intOf]
    · obtain ⟨rfl, hE0⟩ := he0 (by omega)
      have HNW := Lib.hid (new_ok wr 1 0 (by omega))
      have HK9 := Lib.hid k9
      have HE0 := Lib.hid hE0
      have HST := Lib.hid (fun w1 hb1 => FRel.step (B := B) (p := 0) (E := 0) (k := 0) (E0 := 0) (E1 := 0) (w1 := w1) k9 k10 k6 k7 hN2 hb hlo9 hb1 1)
      have HLR := Lib.hid (Nat.le_trans hlo9 (Nat.le_of_lt k9.lt))
      clear k9 k10 k6 k7 hN2 he0 he1 hb hE0
      go_wp2_with fail
      refine HNW.out.mono ?_
      rintro e w3 ⟨E, rfl, hE, hb3⟩
      have c0 := (HK9.out.below hb3 HK9.out.lt).cell 0 _ rfl
      have c1 := (HK9.out.below hb3 HK9.out.lt).cell 1 _ rfl
      have cf := fun i => (HK9.out.below hb3 HK9.out.lt).free i
      obtain ⟨q1, q2, q3, q4, q5, q6, q7⟩ := HST.out w3 hb3 (.pointer (some ⟨E, 0, none⟩))
      have hne : E ≠ E0 := by
        have := hE.lo
        have := HE0.out.box.lt
        omega
      have HX := Lib.hid (show FRel w base V6 V7 V9 V10 B FS (.int .i64 2) (w3.setCell ⟨V9, 1, none⟩ (.pointer (some ⟨E, 0, none⟩))) from ⟨2, _, _, E0, E, by omega, rfl, q1, q2, q3, q4, q5, fun _ => ⟨rfl, q7 (HE0.out.below hb3)⟩, fun _ => ⟨rfl, q7 (hE.more HLR.out), hne⟩, q6⟩)
      clear hE hb3 q1 q2 q3 q4 q5 q6 q7 HNW hne
      go_wp2_with fail
      go_roundw
      case rel => exact HX.out
      case measure => simp [intOf]
    · obtain ⟨rfl, hE0⟩ := he0 (by omega)
      obtain ⟨rfl, hE1, hne⟩ := he1 (by omega)
      obtain ⟨w4, rfl⟩ : ∃ w4, w4 = wr := ⟨_, rfl⟩
      have hE : ∃ E : Nat → Nat, E 0 = E0 ∧ E 1 = E1 := ⟨updN (fun _ => E0) 1 E1, rfl, rfl⟩
      obtain ⟨E, rfl, rfl⟩ := hE
      have hst2 := Lib.hid (show TkRel w base V6 V7 V9 V10 B FS l E N (.int .i64 0) w4 from ⟨0, start, 0, [], fun _ => ⟨0, 0, false, .slice none 0 0, [], .slice none 0 0, []⟩, fun _ => .slice none 0 0, fun _ => [], Nat.zero_le _, rfl, rfl, ⟨rfl, rfl, fun _ _ => rfl, fun _ _ => rfl, fun _ _ => ⟨by simp only; omega, Nat.zero_le _, fun y hy => (by cases hy)⟩, fun _ _ => rfl, fun _ _ => Nat.zero_le _⟩, ⟨⟨⟨_, hN2⟩, fun i hi => by
        obtain rfl | rfl : i = 0 ∨ i = 1 := by omega
        · exact hE0
        · exact hE1, k9, k10, fun i hi => ⟨World.ownsRow_nil _ _ _ _, fun s hs => (by cases hs)⟩, fun i j hi hj hij => by
        obtain rfl | rfl : i = 0 ∨ i = 1 := by omega
        · obtain rfl : j = 1 := by omega
          exact fun e => hne e.symm
        · obtain rfl : j = 0 := by omega
          exact hne, fun _ _ _ _ _ g h => (by cases h), fun _ _ _ _ _ g h => (by cases h), fun _ _ _ _ _ g h => (by cases h), fun _ _ _ _ g h => (by cases h), hlo9, by have := HLO.out; have := HBASE.out; omega⟩, k6, k7, hb, HLO.out.2.2.1⟩⟩)
      clear k9 k10 k6 k7 hN2 hb hE0 hE1 hne he0 he1 hk hlo9
      go_wp2_with fail
      go_loopw [52] (fun i wr => TkRel w base V6 V7 V9 V10 B FS l E N i wr) (fun i _ => N - (intOf i).toNat)
      case atStart => exact hst2.out
      case round =>
        clear hst2
        obtain ⟨t, S, T, K, x, u, gl, ht, rfl, hS, hsa, hls⟩ := hrel
        by_cases hlt : t < N
        · have hti : (t : Int) < (N : Int) := by omega
          have hwt : IntKind.i64.wrap ((t : Int) + 1) = (t : Int) + 1 := by rw [IntKind.wrap_i64]; omega
          obtain ⟨S', hS'⟩ := run_next hS HRUN.out hlt
          unfold tickS at hS'
          obtain ⟨S2, hS2, hE1'⟩ := Option.bind_eq_some_iff.1 hS'
          obtain ⟨S1, hP, hE0'⟩ := Option.bind_eq_some_iff.1 hS2
          have HP := Lib.hid hP
          have HE0 := Lib.hid hE0'
          have HE1 := Lib.hid hE1'
          have HS' := Lib.hid (show tickS FS l t S = some S' from hS')
          have HS := Lib.hid hS
          have HSA := Lib.hid hsa
          have HLS := Lib.hid hls
          clear hS' hS2 hE1' hP hE0' hS hsa hls
          go_upto_if 58 with (fail)
          go_cut [58] (fun _ wx => ∃ x', SAt S1 (t + 1) (fun _ => t) T K x' gl ∧ LkS w base V6 V7 V9 V10 B FS E T K x' u gl wx)
          case first =>
            by_cases htp : t < n0
            · have htpi : (t : Int) < (n0 : Int) := by omega
              have hbw : Below w.heap.size w wr := by rw [← HBASE.out]; exact HLS.out.bel
              obtain ⟨bp, op, uu, hA0, _, huu, hcc⟩ := (HL.out wr hbw).at_ htp
              subst hA0
              obtain ⟨p, hp, rfl⟩ : ∃ p, l[t]? = some p ∧ uu = .int .i64 p := by
                rw [List.getElem?_map] at huu
                cases hl : l[t]? with
                | none => rw [hl] at huu; cases huu
                | some p => rw [hl] at huu; exact ⟨p, rfl, (Option.some.inj huu).symm⟩
              have HCELL := Lib.hid (show ∀ W, Below base w W → W.cell? ⟨bp, op + t, none⟩ = some (.int .i64 p) from fun W hW => by
                rw [HBASE.out] at hW
                obtain ⟨b', o', u', e1, _, e2, e3⟩ := (HL.out W hW).at_ htp
                cases e1
                rw [List.getElem?_map, hp] at e2
                cases e2
                exact e3)
              obtain ⟨i, hi2, hip⟩ : ∃ i : Nat, i < 2 ∧ p % 2 = (i : Int) := ⟨(p % 2).toNat, by omega, by omega⟩
              obtain ⟨p2, hp2⟩ : ∃ z, z = p.tdiv 2 := ⟨_, rfl⟩
              obtain ⟨p6, hp6⟩ : ∃ z, z = p.tdiv 6 := ⟨_, rfl⟩
              obtain ⟨pk, hpk⟩ : ∃ z, z = p2 % 3 := ⟨_, rfl⟩
              obtain ⟨px, hpx⟩ : ∃ z, z = p6 % 9 := ⟨_, rfl⟩
              obtain ⟨q60, hq60⟩ : ∃ z : Int, z = (t : Int) % 60 := ⟨_, rfl⟩
              have HBI := Lib.hid (fun W => show Calls Try.prog 15 #[.int .i64 p, .int .i64 2] W fun e w' => e = .returned (.int .i64 (i : Int)) ∧ W = w' from by rw [← hip]; exact below_any p 2 W (by omega) (by omega))
              have HB3 := Lib.hid (fun W => show Calls Try.prog 15 #[.int .i64 p2, .int .i64 3] W fun e w' => e = .returned (.int .i64 pk) ∧ W = w' from by rw [hpk]; exact below_any p2 3 W (by omega) (by omega))
              have HB9 := Lib.hid (fun W => show Calls Try.prog 15 #[.int .i64 p6, .int .i64 9] W fun e w' => e = .returned (.int .i64 px) ∧ W = w' from by rw [hpx]; exact below_any p6 9 W (by omega) (by omega))
              have hwf := HIN.out p (List.mem_of_getElem? hp)
              have h2d : p.tdiv 2 = p2 ∧ IntKind.i64.wrap p2 = p2 := ⟨hp2.symm, by have := tdiv_pm p 2 (by omega); rw [← hp2] at this; rw [IntKind.wrap_i64]; split at this <;> omega⟩
              have h6d : p.tdiv 6 = p6 ∧ IntKind.i64.wrap p6 = p6 := ⟨hp6.symm, by have := tdiv_pm p 6 (by omega); rw [← hp6] at this; rw [IntKind.wrap_i64]; split at this <;> omega⟩
              have h60d : (t : Int).tmod 60 = q60 ∧ IntKind.i64.wrap q60 = q60 := ⟨by rw [Int.tmod_eq_emod_of_nonneg (by omega), hq60], by rw [IntKind.wrap_i64]; omega⟩
              have hq := HP.out
              unfold putT at hq
              rw [hp] at hq
              simp only [hip] at hq
              rw [← hp2, ← hp6, ← hpk, ← hpx, ← hq60] at hq
              obtain ⟨y, hy, hS1⟩ := Option.map_eq_some_iff.1 hq
              have hoth : (1 : Int) - (i : Int) = ((oth i : Nat) : Int) := by unfold oth; omega
              rw [hoth, show ((i : Int)).toNat = i from Int.toNat_natCast i, ← HSA.out.e i hi2] at hy
              rw [show ((i : Int)).toNat = i from Int.toNat_natCast i] at hS1
              have HPUT := Lib.hid (fun W (hW : LkS w base V6 V7 V9 V10 B FS E T K x u gl W) gL (hk : Blk W gL 88 #[.int .i64 px, .int .i64 q60]) => show Calls Try.prog 27 #[.pointer (some ⟨E i, 0, none⟩), .int .i64 pk, .slice (some ⟨gL, 0, none⟩) 1 1] W (fun e w' => e = .returned (.int .i64 0) ∧ ∃ x', SAt S1 (t + 1) (fun _ => t) T K x' gl ∧ LkS w base V6 V7 V9 V10 B FS E T K x' u gl w') from
                (put_any W base (E i) i ((oth i : Nat) : Int) (x i).nx (x i).wt (x i).ow (x i).vw (x i).vg (x i).ws (x i).gs (hW.a.ends i hi2) hW.a.blo (by have := (HSA.out.ok i hi2).ws; omega) (by have := (HSA.out.ok i hi2).nx; omega) pk (some ⟨gL, 0, none⟩) 1 1 [(px, q60)] ⟨rfl, Nat.le_refl _, fun h => (by cases h), by omega, ⟨rfl, fun _ => ⟨gL, 0, rfl, hk.lt, fun j v hv => by
                  rw [Nat.zero_add]
                  exact hk.cell j v (by simpa [encC] using hv)⟩⟩⟩).mono fun e w' hpp => by
                  obtain ⟨he, y', hy1, hy2, hy3, hy4⟩ := hW.put_ hi2 (HSA.out.ok i hi2) hpp hy
                  refine ⟨he, updN x i y', ?_, hy4⟩
                  rw [← hS1]
                  refine ⟨HSA.out.T, HSA.out.K, fun j hj => ?_, HSA.out.g, fun j hj => ?_, fun j hj => ?_, HSA.out.gl⟩
                  · by_cases e : j = i
                    · subst e; simp only [updN_same]; exact hy1
                    · simp only [updN_ne _ _ e]; exact HSA.out.e j hj
                  · by_cases e : j = i
                    · subst e; rw [updN_same]; exact hy2
                    · rw [updN_ne _ _ e]; exact (HSA.out.ok j hj).mono (Nat.le_succ _)
                  · by_cases e : j = i
                    · subst e; rw [updN_same, hy3]; exact HSA.out.gs j hj
                    · rw [updN_ne _ _ e]; exact HSA.out.gs j hj)
              have c0 := HCELL.out wr HLS.out.bel
              have hi2i : (i : Int) < 2 := by omega
              obtain ⟨h2a, h2b⟩ := h2d
              obtain ⟨h6a, h6b⟩ := h6d
              obtain ⟨h60a, h60b⟩ := h60d
              have HARR := Lib.hid (show ∀ W, Blk W V9 90 #[.pointer (some ⟨E 0, 0, none⟩), .pointer (some ⟨E 1, 0, none⟩)] → W.cell? ⟨V9, i, none⟩ = some (.pointer (some ⟨E i, 0, none⟩)) from fun W hk => by
                obtain rfl | rfl : i = 0 ∨ i = 1 := by omega
                · exact hk.cell 0 _ rfl
                · exact hk.cell 1 _ rfl)
              clear hcc huu hp hip hp2 hp6 hpk hpx hq60 hq hy hS1 hoth hbw hwf
              go_wp2_with fail
              refine (HBI.out _).mono ?_
              rintro e w5 ⟨rfl, rfl⟩
              go_upto_region 17 with (fail)
              clear c0
              refine wp_region_invK 20 (LapJ (fun idx => ([some (.int .i64 (i : Int)), some (.pointer (some ⟨V9, i, none⟩)), some (.pointer (some ⟨E i, 0, none⟩)), some (.slice (some ⟨bp, op, none⟩) n0 c0), some (.int .i64 (t : Int)), some (.pointer (some ⟨bp, op + t, none⟩)), some (.int .i64 p), some (.int .i64 p2), some (.int .i64 pk), some (.slice (some ⟨bp, op, none⟩) n0 c0), some (.int .i64 (t : Int)), some (.pointer (some ⟨bp, op + t, none⟩)), some (.int .i64 p), some (.int .i64 p6), some (.int .i64 px), some (.int .i64 (t : Int)), some (.int .i64 q60), some (.agg #[.int .i64 px, .int .i64 q60]), none, none] : List (Option Value)).getD idx none) [(8, 19), (14, 17), (17, 18), (18, 19)] 19 (LkS w base V6 V7 V9 V10 B FS E T K x u gl) (CellSp #[.int .i64 px, .int .i64 q60]) (fun v W => v = .int .i64 0 ∧ ∃ x', SAt S1 (t + 1) (fun _ => t) T K x' gl ∧ LkS w base V6 V7 V9 V10 B FS E T K x' u gl W)) (by kernel_rfl) (by kernel_rfl) (LapJ.start (HLS.out.below (Below.refl _ _).drew)) ?_ ?_
              · intro i9 o hi ho s vs W hJ hs9 hdep
                have hE : W.cell? ⟨V9, i, none⟩ = some (.pointer (some ⟨E i, 0, none⟩)) ∧ W.cell? ⟨bp, op + t, none⟩ = some (.int .i64 p) := hJ.all (X := fun W => W.cell? ⟨V9, i, none⟩ = some (.pointer (some ⟨E i, 0, none⟩)) ∧ W.cell? ⟨bp, op + t, none⟩ = some (.int .i64 p)) (fun W h => ⟨HARR.out W h.a.arr, HCELL.out W h.bel⟩) (fun v W ⟨_, x', _, h⟩ => ⟨HARR.out W h.a.arr, HCELL.out W h.bel⟩)
                rcases i9 with _ | _ | _ | _ | _ | _ | _ | _ | _ | _ | _ | _ | _ | _ | _ | _ | _ | _ | _ | _ | i9
                all_goals first | omega | skip
                all_goals (simp only [List.getElem?_cons_succ, List.getElem?_cons_zero, Option.some.injEq] at ho; subst ho)
                · refine StepJ.val (v := .int .i64 (i : Int)) rfl ?_ (hJ.same (by omega) (by simp) rfl)
                  clear hJ hdep hE
                  unfold lexA
                  simp only [putAll, preI, Nat.reduceLT, Nat.reduceAdd, decide_false, Bool.false_eq_true, if_false]
                  go_simp
                · have d0 : vs 0 = .int .i64 (i : Int) := hJ.dt 0 _ (hdep ⟨0, .data⟩ (by simp) rfl) rfl
                  refine StepJ.val (v := .pointer (some ⟨V9, i, none⟩)) rfl ?_ (hJ.same (by omega) (by simp) rfl)
                  clear hJ hdep hE
                  unfold lexA
                  simp only [putAll, preI, Nat.reduceLT, Nat.reduceAdd, decide_true, decide_false, Bool.false_eq_true, if_true, if_false, Act.put, List.setIfInBounds_toArray, List.set_cons_zero, List.set_cons_succ]
                  go_simp
                · have d1 : vs 1 = .pointer (some ⟨V9, i, none⟩) := hJ.dt 1 _ (hdep ⟨1, .data⟩ (by simp) rfl) rfl
                  refine StepJ.val (v := .pointer (some ⟨E i, 0, none⟩)) rfl ?_ (hJ.same (by omega) (by simp) rfl)
                  have y0 := hE.1
                  have y1 := hE.2
                  clear hJ hdep hE
                  unfold lexA
                  simp only [putAll, preI, Nat.reduceLT, Nat.reduceAdd, decide_true, decide_false, Bool.false_eq_true, if_true, if_false, Act.put, List.setIfInBounds_toArray, List.set_cons_zero, List.set_cons_succ]
                  go_simp
                · refine StepJ.val (v := .slice (some ⟨bp, op, none⟩) n0 c0) rfl ?_ (hJ.same (by omega) (by simp) rfl)
                  clear hJ hdep hE
                  unfold lexA
                  simp only [putAll, preI, Nat.reduceLT, Nat.reduceAdd, decide_true, decide_false, Bool.false_eq_true, if_true, if_false, Act.put, List.setIfInBounds_toArray, List.set_cons_zero, List.set_cons_succ]
                  go_simp
                · refine StepJ.val (v := .int .i64 (t : Int)) rfl ?_ (hJ.same (by omega) (by simp) rfl)
                  clear hJ hdep hE
                  unfold lexA
                  simp only [putAll, preI, Nat.reduceLT, Nat.reduceAdd, decide_true, decide_false, Bool.false_eq_true, if_true, if_false, Act.put, List.setIfInBounds_toArray, List.set_cons_zero, List.set_cons_succ]
                  go_simp
                · have d3 : vs 3 = .slice (some ⟨bp, op, none⟩) n0 c0 := hJ.dt 3 _ (hdep ⟨3, .data⟩ (by simp) rfl) rfl
                  have d4 : vs 4 = .int .i64 (t : Int) := hJ.dt 4 _ (hdep ⟨4, .data⟩ (by simp) rfl) rfl
                  refine StepJ.val (v := .pointer (some ⟨bp, op + t, none⟩)) rfl ?_ (hJ.same (by omega) (by simp) rfl)
                  clear hJ hdep hE
                  unfold lexA
                  simp only [putAll, preI, Nat.reduceLT, Nat.reduceAdd, decide_true, decide_false, Bool.false_eq_true, if_true, if_false, Act.put, List.setIfInBounds_toArray, List.set_cons_zero, List.set_cons_succ]
                  go_simp
                · have d5 : vs 5 = .pointer (some ⟨bp, op + t, none⟩) := hJ.dt 5 _ (hdep ⟨5, .data⟩ (by simp) rfl) rfl
                  refine StepJ.val (v := .int .i64 p) rfl ?_ (hJ.same (by omega) (by simp) rfl)
                  have y0 := hE.1
                  have y1 := hE.2
                  clear hJ hdep hE
                  unfold lexA
                  simp only [putAll, preI, Nat.reduceLT, Nat.reduceAdd, decide_true, decide_false, Bool.false_eq_true, if_true, if_false, Act.put, List.setIfInBounds_toArray, List.set_cons_zero, List.set_cons_succ]
                  go_simp
                · have d6 : vs 6 = .int .i64 p := hJ.dt 6 _ (hdep ⟨6, .data⟩ (by simp) rfl) rfl
                  refine StepJ.val (v := .int .i64 p2) rfl ?_ (hJ.same (by omega) (by simp) rfl)
                  clear hJ hdep hE
                  unfold lexA
                  simp only [putAll, preI, Nat.reduceLT, Nat.reduceAdd, decide_true, decide_false, Bool.false_eq_true, if_true, if_false, Act.put, List.setIfInBounds_toArray, List.set_cons_zero, List.set_cons_succ]
                  go_simp
                · have d7 : vs 7 = .int .i64 p2 := hJ.dt 7 _ (hdep ⟨7, .data⟩ (by simp) rfl) rfl
                  have h19 : s 19 = false := by
                    cases e : s 19 with
                    | false => rfl
                    | true => exact absurd (hJ.w2 (8, 19) (by simp) e) (by simp [hs9])
                  refine StepJ.call rfl ?_ ((HB3.out W).mono fun e W' ⟨he, hw⟩ => ⟨_, he, hJ.callv h19 LkS.lasts CellSp.lasts (by omega) (by simp) rfl (by rw [← hw]; exact Below.refl _ _)⟩)
                  clear hJ hdep hE
                  unfold lexA
                  simp only [putAll, preI, Nat.reduceLT, Nat.reduceAdd, decide_true, decide_false, Bool.false_eq_true, if_true, if_false, Act.put, List.setIfInBounds_toArray, List.set_cons_zero, List.set_cons_succ]
                  go_simp
                · refine StepJ.val (v := .slice (some ⟨bp, op, none⟩) n0 c0) rfl ?_ (hJ.same (by omega) (by simp) rfl)
                  clear hJ hdep hE
                  unfold lexA
                  simp only [putAll, preI, Nat.reduceLT, Nat.reduceAdd, decide_true, decide_false, Bool.false_eq_true, if_true, if_false, Act.put, List.setIfInBounds_toArray, List.set_cons_zero, List.set_cons_succ]
                  go_simp
                · refine StepJ.val (v := .int .i64 (t : Int)) rfl ?_ (hJ.same (by omega) (by simp) rfl)
                  clear hJ hdep hE
                  unfold lexA
                  simp only [putAll, preI, Nat.reduceLT, Nat.reduceAdd, decide_true, decide_false, Bool.false_eq_true, if_true, if_false, Act.put, List.setIfInBounds_toArray, List.set_cons_zero, List.set_cons_succ]
                  go_simp
                · have d9 : vs 9 = .slice (some ⟨bp, op, none⟩) n0 c0 := hJ.dt 9 _ (hdep ⟨9, .data⟩ (by simp) rfl) rfl
                  have d10 : vs 10 = .int .i64 (t : Int) := hJ.dt 10 _ (hdep ⟨10, .data⟩ (by simp) rfl) rfl
                  refine StepJ.val (v := .pointer (some ⟨bp, op + t, none⟩)) rfl ?_ (hJ.same (by omega) (by simp) rfl)
                  clear hJ hdep hE
                  unfold lexA
                  simp only [putAll, preI, Nat.reduceLT, Nat.reduceAdd, decide_true, decide_false, Bool.false_eq_true, if_true, if_false, Act.put, List.setIfInBounds_toArray, List.set_cons_zero, List.set_cons_succ]
                  go_simp
                · have d11 : vs 11 = .pointer (some ⟨bp, op + t, none⟩) := hJ.dt 11 _ (hdep ⟨11, .data⟩ (by simp) rfl) rfl
                  refine StepJ.val (v := .int .i64 p) rfl ?_ (hJ.same (by omega) (by simp) rfl)
                  have y0 := hE.1
                  have y1 := hE.2
                  clear hJ hdep hE
                  unfold lexA
                  simp only [putAll, preI, Nat.reduceLT, Nat.reduceAdd, decide_true, decide_false, Bool.false_eq_true, if_true, if_false, Act.put, List.setIfInBounds_toArray, List.set_cons_zero, List.set_cons_succ]
                  go_simp
                · have d12 : vs 12 = .int .i64 p := hJ.dt 12 _ (hdep ⟨12, .data⟩ (by simp) rfl) rfl
                  refine StepJ.val (v := .int .i64 p6) rfl ?_ (hJ.same (by omega) (by simp) rfl)
                  clear hJ hdep hE
                  unfold lexA
                  simp only [putAll, preI, Nat.reduceLT, Nat.reduceAdd, decide_true, decide_false, Bool.false_eq_true, if_true, if_false, Act.put, List.setIfInBounds_toArray, List.set_cons_zero, List.set_cons_succ]
                  go_simp
                · have d13 : vs 13 = .int .i64 p6 := hJ.dt 13 _ (hdep ⟨13, .data⟩ (by simp) rfl) rfl
                  have h19 : s 19 = false := by
                    cases e : s 19 with
                    | false => rfl
                    | true => exact absurd (hJ.w2 (14, 17) (by simp) (hJ.w2 (17, 18) (by simp) (hJ.w2 (18, 19) (by simp) e))) (by simp [hs9])
                  refine StepJ.call rfl ?_ ((HB9.out W).mono fun e W' ⟨he, hw⟩ => ⟨_, he, hJ.callv h19 LkS.lasts CellSp.lasts (by omega) (by simp) rfl (by rw [← hw]; exact Below.refl _ _)⟩)
                  clear hJ hdep hE
                  unfold lexA
                  simp only [putAll, preI, Nat.reduceLT, Nat.reduceAdd, decide_true, decide_false, Bool.false_eq_true, if_true, if_false, Act.put, List.setIfInBounds_toArray, List.set_cons_zero, List.set_cons_succ]
                  go_simp
                · refine StepJ.val (v := .int .i64 (t : Int)) rfl ?_ (hJ.same (by omega) (by simp) rfl)
                  clear hJ hdep hE
                  unfold lexA
                  simp only [putAll, preI, Nat.reduceLT, Nat.reduceAdd, decide_true, decide_false, Bool.false_eq_true, if_true, if_false, Act.put, List.setIfInBounds_toArray, List.set_cons_zero, List.set_cons_succ]
                  go_simp
                · have d15 : vs 15 = .int .i64 (t : Int) := hJ.dt 15 _ (hdep ⟨15, .data⟩ (by simp) rfl) rfl
                  refine StepJ.val (v := .int .i64 q60) rfl ?_ (hJ.same (by omega) (by simp) rfl)
                  clear hJ hdep hE
                  unfold lexA
                  simp only [putAll, preI, Nat.reduceLT, Nat.reduceAdd, decide_true, decide_false, Bool.false_eq_true, if_true, if_false, Act.put, List.setIfInBounds_toArray, List.set_cons_zero, List.set_cons_succ]
                  go_simp
                · have d14 : vs 14 = .int .i64 px := hJ.dt 14 _ (hdep ⟨14, .data⟩ (by simp) rfl) rfl
                  have d16 : vs 16 = .int .i64 q60 := hJ.dt 16 _ (hdep ⟨16, .data⟩ (by simp) rfl) rfl
                  have h14 : s 14 = true := hdep ⟨14, .data⟩ (by simp) rfl
                  refine StepJ.val (v := .agg #[.int .i64 px, .int .i64 q60]) rfl ?_ (hJ.same (by omega) (by simp; exact h14) rfl)
                  clear hJ hdep hE
                  unfold lexA
                  simp only [putAll, preI, Nat.reduceLT, Nat.reduceAdd, decide_true, decide_false, Bool.false_eq_true, if_true, if_false, Act.put, List.setIfInBounds_toArray, List.set_cons_zero, List.set_cons_succ]
                  go_simp
                · have d17 : vs 17 = .agg #[.int .i64 px, .int .i64 q60] := hJ.dt 17 _ (hdep ⟨17, .data⟩ (by simp) rfl) rfl
                  have h17 : s 17 = true := hdep ⟨17, .data⟩ (by simp) rfl
                  have h19 : s 19 = false := by
                    cases e : s 19 with
                    | false => rfl
                    | true => exact absurd (hJ.w2 (18, 19) (by simp) e) (by simp [hs9])
                  refine StepJ.val (v := .slice (some ⟨W.heap.size, 0, none⟩) 1 1) (W' := W.alloc (.cells #[.int .i64 px, .int .i64 q60] 88)) rfl ?_ (hJ.some_ h19 (hl0 := LkS.lasts) (hl := CellSp.lasts) (by omega) (by simp; exact h17) rfl ((Below.refl _ _).alloc (Nat.le_refl _) _) (fun _ => ⟨W.heap.size, rfl, Blk.new _ _ _⟩))
                  clear hJ hdep hE
                  unfold lexA
                  simp only [putAll, preI, Nat.reduceLT, Nat.reduceAdd, decide_true, decide_false, Bool.false_eq_true, if_true, if_false, Act.put, List.setIfInBounds_toArray, List.set_cons_zero, List.set_cons_succ]
                  go_simp
                · have d2 : vs 2 = .pointer (some ⟨E i, 0, none⟩) := hJ.dt 2 _ (hdep ⟨2, .data⟩ (by simp) rfl) rfl
                  have d8 : vs 8 = .int .i64 pk := hJ.dt 8 _ (hdep ⟨8, .data⟩ (by simp) rfl) rfl
                  obtain ⟨hS, hsp⟩ := hJ.w0 hs9
                  obtain ⟨gL, d18, hkL⟩ := hsp 18 (hdep ⟨18, .data⟩ (by simp) rfl) rfl rfl
                  have h18 : s 18 = true := hdep ⟨18, .data⟩ (by simp) rfl
                  have h8 : s 8 = true := hdep ⟨8, .data⟩ (by simp) rfl
                  refine StepJ.call rfl ?_ ((HPUT.out W hS gL hkL).mono fun e W' ⟨he, hR⟩ => ⟨_, he, hJ.app (by simp; exact ⟨h8, h18⟩) rfl ⟨rfl, hR⟩⟩)
                  clear hJ hdep hE hS hsp hkL
                  unfold lexA
                  simp only [putAll, preI, Nat.reduceLT, Nat.reduceAdd, decide_true, decide_false, Bool.false_eq_true, if_true, if_false, Act.put, List.setIfInBounds_toArray, List.set_cons_zero, List.set_cons_succ]
                  go_simp
              · intro s vs W hall hJ
                obtain ⟨d19, x', hs1, hs2⟩ := hJ.w1 (hall 19 (by omega))
                have HX1 := Lib.hid hs1
                have HX2 := Lib.hid hs2
                clear hJ hall hs1 hs2
                unfold lexA
                simp only [putAll, preI, Nat.reduceLT, Nat.reduceAdd, decide_true, decide_false, Bool.false_eq_true, if_true, if_false, Act.put, List.setIfInBounds_toArray, List.set_cons_zero, List.set_cons_succ, List.drop_succ_cons, List.drop_zero]
                rw [d19]
                go_wp2_with fail
                go_meet
                exact ⟨x', HX1.out, HX2.out⟩
            · have htpi : ¬ (t : Int) < (n0 : Int) := by omega
              have hq := HP.out
              unfold putT at hq
              rw [List.getElem?_eq_none (by rw [HLL.out]; omega)] at hq
              have hq2 := Option.some.inj hq
              have HQ := Lib.hid hq2
              clear hq hq2
              go_wp2_with fail
              go_meet
              exact ⟨x, by rw [← HQ.out]; exact ⟨HSA.out.T, HSA.out.K, HSA.out.e, HSA.out.g, fun j hj => (HSA.out.ok j hj).mono (Nat.le_succ _), HSA.out.gs, HSA.out.gl⟩, HLS.out⟩
          case rest =>
            obtain ⟨x1, hsa1, hls1⟩ := hcut
            obtain ⟨w5, rfl⟩ : ∃ w5, w5 = wc := ⟨_, rfl⟩
            have c0 := hls1.a.arr.cell 0 _ rfl
            have c1 := hls1.a.arr.cell 1 _ rfl
            have hst3 := Lib.hid (show EnRel w base V6 V7 V9 V10 B FS E t S1 S2 S' (.int .i64 0) w5 from ⟨0, S1, T, K, x1, u, gl, by omega, rfl, fun _ => rfl, fun h => absurd h (by omega), fun h => absurd h (by omega), ⟨hsa1.T, hsa1.K, hsa1.e, hsa1.g, hsa1.ok, hsa1.gs, fun j hj => by unfold mT; rw [if_neg (by omega)]; exact hsa1.gl j hj⟩, hls1⟩)
            clear hsa1 hls1 HLS HSA
            go_wp2_with fail
            clear c0 c1
            go_loopw [88] (fun i wr => EnRel w base V6 V7 V9 V10 B FS E t S1 S2 S' i wr) (fun i _ => 2 - (intOf i).toNat)
            case atStart => exact hst3.out
            case round =>
              clear hst3
              obtain ⟨k, Sk, T, K, x, u, gl, hk, rfl, hk0, hk1, hk2, hsa, hls⟩ := hrel
              obtain rfl | rfl | rfl : k = 0 ∨ k = 1 ∨ k = 2 := by omega
              · have HEE := Lib.hid (show endS FS t 0 Sk = some S2 from by rw [hk0 rfl]; exact HE0.out)
                clear hk0 hk1 hk2
                obtain ⟨Sr, hrv, hem⟩ := Option.bind_eq_some_iff.1 HEE.out
                unfold recvS at hrv
                obtain ⟨y, hfold, hSr⟩ := Option.map_eq_some_iff.1 hrv
                rw [← hsa.e 0 (by omega), hsa.K] at hfold
                obtain ⟨v, hNv⟩ := hls.a.net
                have HTK := Lib.hid (take_any wr base B FS T v K hNv hls.a.blo (t : Int) 0)
                have HNV := Lib.hid hNv
                have HFO := Lib.hid hfold
                have HSR := Lib.hid hSr
                have HEM := Lib.hid hem
                have HSA := Lib.hid hsa
                have HLS := Lib.hid hls
                have hix0 := (run_index_two wr (some ⟨E 0, 0, none⟩) (some ⟨E 1, 0, none⟩)).1
                have hix1 := (run_index_two wr (some ⟨E 0, 0, none⟩) (some ⟨E 1, 0, none⟩)).2
                clear hrv hfold hSr hem hsa hls hNv
                go_wp2_with fail
                clear hix0 hix1
                refine HTK.out.mono ?_
                intro e w7 hp7
                obtain ⟨A7, c7, Ls, rfl, hLm, hLn, hro7, hmo7, hls7⟩ := HLS.out.take_ HNV.out hp7
                have hbase7 : wr.heap.size ≤ w7.heap.size := by
                  obtain ⟨_, _, _, _, _, _, _, _, _, hm⟩ := hp7
                  exact hm.size
                have hstR := Lib.hid (show RcRel w base V6 V7 V9 V10 B FS E t 0 T (restL K (t : Int) 0) x u gl wr.heap.size A7 c7 Ls (.int .i64 0) w7 from ⟨0, (x 0).abs, x 0, Nat.zero_le _, rfl, rfl, rfl, HSA.out.ok 0 (by omega), by rw [HSA.out.gs 0 (by omega)]; exact Nat.zero_le _, by rw [updN_self]; exact hls7, hro7, hmo7, fun g h1 h2 => by
                  have h3 := ((HLS.out.a.ends 0 (by omega)).rg.lt g h1).2
                  have h4 := (hro7.lt g h2).1
                  omega⟩)
                have HLM := Lib.hid (show Ls.map (·.m) = (takeL K (t : Int) ((0 : Nat) : Int)).map (·.2) from hLm)
                clear hp7 hLm hro7 hmo7 hls7 HTK HNV hbase7
                go_wp2_with fail
                go_loopw [97] (fun i wq => RcRel w base V6 V7 V9 V10 B FS E t 0 T (restL K (t : Int) 0) x u gl wr.heap.size A7 c7 Ls i wq) (fun i _ => Ls.length - (intOf i).toNat)
                case atStart => exact hstR.out
                case round =>
                  clear hstR
                  obtain ⟨wq, rfl⟩ : ∃ wq, wq = wr := ⟨_, rfl⟩
                  obtain ⟨j, y1, y', hj, rfl, hfj, hya, hyo, hyg, hlq, hrow, hmow, hap⟩ := hrel
                  by_cases hjl : j < Ls.length
                  · have hji : (j : Int) < (Ls.length : Int) := by omega
                    have hwj : IntKind.i64.wrap ((j : Int) + 1) = (j : Int) + 1 := by rw [IntKind.wrap_i64]; omega
                    obtain ⟨_, _, hse, _, _, hrd⟩ := own_rd hrow
                    injection hse with e1 e2 e3
                    subst e1 e3
                    obtain ⟨bf, of, ⟨⟨mk, ms, mt, mq, mc, ml⟩, Am, nm, cm⟩, rfl, hbB, hg, hcc⟩ := hrd.elem encM_len rfl hjl
                    have x0 : wq.cell? ⟨bf, of + j * 6, none⟩ = some (.int .i64 mk) := hcc 0 _ rfl
                    have x1 : wq.cell? ⟨bf, of + j * 6 + 1, none⟩ = some (.int .i64 ms) := hcc 1 _ rfl
                    have x2 : wq.cell? ⟨bf, of + j * 6 + 2, none⟩ = some (.int .i64 mt) := hcc 2 _ rfl
                    have x3 : wq.cell? ⟨bf, of + j * 6 + 3, none⟩ = some (.int .i64 mq) := hcc 3 _ rfl
                    have x4 : wq.cell? ⟨bf, of + j * 6 + 4, none⟩ = some (.int .u32 mc) := hcc 4 _ rfl
                    have x5 : wq.cell? ⟨bf, of + j * 6 + 5, none⟩ = some (.slice Am nm cm) := hcc 5 _ rfl
                    have hfl := HFO.out
                    rw [← HLM.out] at hfl
                    obtain ⟨y2, hy2, hfj2⟩ := fold_next (l := Ls.map (·.m)) hfl (j := j) (z := ⟨mk, ms, mt, mq, mc, ml⟩) (by rw [List.getElem?_map, hg]; rfl) (by rw [← List.map_take]; exact hfj)
                    rw [← hya] at hy2
                    rw [← List.map_take] at hfj2
                    have HY2 := Lib.hid hy2
                    have HFJ2 := Lib.hid hfj2
                    have HMEM := Lib.hid (List.mem_of_getElem? hg)
                    have HLQ := Lib.hid hlq
                    have HROW := Lib.hid hrow
                    have HMOW := Lib.hid hmow
                    have HAP := Lib.hid hap
                    have HYO := Lib.hid hyo
                    clear hcc hg hfl hy2 hfj2 hfj hya hlq hrow hmow hap hyo hrd e2
                    go_upto_region 25 with (fail)
                    have hk9 := Blk.new wq 43 #[.int .i64 mk, .int .i64 ms, .int .i64 mt, .int .i64 mq, .int .u32 mc, .slice Am nm cm]
                    have hb9 : Below wq.heap.size wq (wq.alloc (.cells #[.int .i64 mk, .int .i64 ms, .int .i64 mt, .int .i64 mq, .int .u32 mc, .slice Am nm cm] 43)) := (Below.refl _ _).alloc (Nat.le_refl _) _
                    generalize wq.alloc (.cells #[.int .i64 mk, .int .i64 ms, .int .i64 mt, .int .i64 mq, .int .u32 mc, .slice Am nm cm] 43) = w9 at hk9 hb9 ⊢
                    have z0 := hk9.cell 0 _ rfl
                    have z1 := hk9.cell 1 _ rfl
                    have z2 := hk9.cell 2 _ rfl
                    have z3 := hk9.cell 3 _ rfl
                    have z4 := hk9.cell 4 _ rfl
                    have z5 := hk9.cell 5 _ rfl
                    have hlq9 := HLQ.out.below hb9
                    have hro9 := own_below HROW.out hb9 (Nat.le_refl _)
                    have hmo9 : ∀ s ∈ Ls, MOwn w9 base s := fun s hs => (HMOW.out s hs).below hb9
                    have HIN := Lib.hid (rc_in hlq9 (show 0 < 2 by omega) HYO.out (by omega) (by omega) (hmo9 _ HMEM.out) HY2.out)
                    have HLQ9 := Lib.hid hlq9
                    have HRO9 := Lib.hid hro9
                    have HMO9 := Lib.hid hmo9
                    clear hk9 hb9 hlq9 hro9 hmo9 x0 x1 x2 x3 x4 x5 HLQ HROW HMOW
                    go_wp2_with fail
                    refine HIN.out.mono ?_
                    rintro e wa ⟨rfl, y3, a1, a2, a3, a4, a5, a6⟩
                    have hE9 := HLQ9.out.a.ends 0 (by omega)
                    rw [updN_same] at hE9
                    have HX := Lib.hid (show RcRel w base V6 V7 V9 V10 B FS E t 0 T (restL K (t : Int) 0) x u gl wr.heap.size (some ⟨bf, of, none⟩) c7 Ls (.int .i64 ((j : Int) + 1)) wa from ⟨j + 1, y2, y3, hjl, by simp, HFJ2.out, a1, a2, by omega, a4, a5.own HRO9.out (fun g cs hg hk hf => by
                      rcases hf with e | e | e
                      · subst e
                        exact absurd (blk_type hk hE9.box) (by decide)
                      · obtain ⟨cs', hk'⟩ := hE9.rw.blk e
                        exact absurd (blk_type hk hk') (by decide)
                      · exact HAP.out g e hg), fun s hs => ⟨a5.own (HMO9.out s hs).1 (fun g cs _ hk hf => by
                      rcases hE9.typ hk hf with e | e | e <;> exact absurd e (by decide)), (HMO9.out s hs).2⟩, fun g h1 h2 => by
                      rcases a6 g h1 with h3 | h3
                      · exact HAP.out g h3 h2
                      · have := (HRO9.out.lt g h2).2
                        omega⟩)
                    clear a1 a2 a3 a4 a5 a6 hE9 z0 z1 z2 z3 z4 z5
                    go_wp2_with fail
                    go_roundw
                    case rel => exact HX.out
                    case measure => simp [intOf]; omega
                  · obtain rfl : j = Ls.length := by omega
                    have hji : ¬ (Ls.length : Int) < (Ls.length : Int) := by omega
                    rw [List.take_length, HLM.out] at hfj
                    obtain rfl : y = y1 := Option.some.inj (HFO.out.symm.trans hfj)
                    obtain ⟨Ag, cg, hvg, _⟩ : ∃ A c, y'.vg = .slice A y'.gs.length c ∧ True := by
                      have hE := hlq.a.ends 0 (by omega)
                      rw [updN_same] at hE
                      obtain ⟨A, c, e, _⟩ := own_rd hE.rg
                      exact ⟨A, c, e, trivial⟩
                    obtain ⟨Au, cu, huk, _⟩ := own_rd (hlq.a.rows 0 (by omega)).1
                    have HYA := Lib.hid hya
                    have HYO := Lib.hid hyo
                    have HLQ := Lib.hid hlq
                    have HUK := Lib.hid huk
                    have HVG := Lib.hid hvg
                    have hglb := HSA.out.gl 0 (by omega)
                    have hglb2 : (gl 0).length ≤ 121000 := by
                      unfold mT at hglb
                      split at hglb <;> omega
                    obtain ⟨j0, hj0, hy0, hy1, hy2⟩ := info_parts info_msgI
                    clear hfj hya hyo hlq hrow hmow hap huk hvg hglb
                    go_upto_region 28 with (fail)
                    refine wp_region_invK 8 (CapJ (fun idx => ([some (.int .i64 0), some (.int .i64 0), some (.pointer (some ⟨V10, 0, none⟩)), some (.slice Au (gl 0).length cu), some (.pointer (some ⟨E 0, 0, none⟩)), none, none, some (.pointer (some ⟨V10, 0, none⟩))] : List (Option Value)).getD idx none) 5 6 (LkS w base V6 V7 V9 V10 B FS E T (restL K (t : Int) 0) (updN x 0 y') u gl) (fun v W => v = y'.vg ∧ W.ownsRow base 43 6 y'.vg y'.gs.length (y'.gs.flatMap encM) ∧ (∀ s ∈ y'.gs, MOwn W base s) ∧ LkS w base V6 V7 V9 V10 B FS E T (restL K (t : Int) 0) (updN x 0 { y' with vg := .slice none 0 0, gs := [] }) u gl W) (fun v W => (∃ A c, v = .slice A ((gl 0).length + y'.gs.length) c) ∧ Blk W V10 61 #[u 0, u 1] ∧ LkS w base V6 V7 V9 V10 B FS E T (restL K (t : Int) 0) (updN x 0 { y' with vg := .slice none 0 0, gs := [] }) (updN u 0 v) (updN gl 0 (gl 0 ++ y'.gs)) (W.setCell ⟨V10, 0, none⟩ v))) (by kernel_rfl) (by kernel_rfl) (CapJ.start (HLQ.out.below (Below.refl _ _).drew)) ?_ ?_
                    · intro i9 o hi ho s vs W hJ hs9 hdep
                      have hE : Blk W V10 61 #[u 0, u 1] := hJ.all (X := fun W => Blk W V10 61 #[u 0, u 1]) (fun W h => h.a.got) (fun v W h => h.2.2.2.a.got) (fun v W h => h.2.1)
                      rcases i9 with _ | _ | _ | _ | _ | _ | _ | _ | i9
                      all_goals first | omega | skip
                      all_goals (simp only [List.getElem?_cons_succ, List.getElem?_cons_zero, Option.some.injEq] at ho; subst ho)
                      · refine StepJ.val (v := .int .i64 0) rfl ?_ (hJ.same (by omega) (by omega) rfl)
                        clear hJ hdep hE
                        unfold lexA
                        simp only [putAll, preI, Nat.reduceLT, Nat.reduceAdd, decide_false, Bool.false_eq_true, if_false]
                        go_simp
                      · refine StepJ.val (v := .int .i64 0) rfl ?_ (hJ.same (by omega) (by omega) rfl)
                        clear hJ hdep hE
                        unfold lexA
                        simp only [putAll, preI, Nat.reduceLT, Nat.reduceAdd, decide_true, decide_false, Bool.false_eq_true, if_true, if_false, Act.put, List.setIfInBounds_toArray, List.set_cons_zero, List.set_cons_succ]
                        go_simp
                      · have d1 : vs 1 = .int .i64 0 := hJ.dt 1 _ (hdep ⟨1, .data⟩ (by simp) rfl) rfl
                        refine StepJ.val (v := .pointer (some ⟨V10, 0, none⟩)) rfl ?_ (hJ.same (by omega) (by omega) rfl)
                        clear hJ hdep hE
                        unfold lexA
                        simp only [putAll, preI, Nat.reduceLT, Nat.reduceAdd, decide_true, decide_false, Bool.false_eq_true, if_true, if_false, Act.put, List.setIfInBounds_toArray, List.set_cons_zero, List.set_cons_succ]
                        go_simp
                      · have d2 : vs 2 = .pointer (some ⟨V10, 0, none⟩) := hJ.dt 2 _ (hdep ⟨2, .data⟩ (by simp) rfl) rfl
                        have c10 : W.cell? ⟨V10, 0, none⟩ = some (.slice Au (gl 0).length cu) := (hE.cell 0 _ rfl).trans (congrArg some HUK.out)
                        refine StepJ.val (v := .slice Au (gl 0).length cu) rfl ?_ (hJ.same (by omega) (by omega) rfl)
                        clear hJ hdep hE
                        unfold lexA
                        simp only [putAll, preI, Nat.reduceLT, Nat.reduceAdd, decide_true, decide_false, Bool.false_eq_true, if_true, if_false, Act.put, List.setIfInBounds_toArray, List.set_cons_zero, List.set_cons_succ]
                        go_simp
                      · refine StepJ.val (v := .pointer (some ⟨E 0, 0, none⟩)) rfl ?_ (hJ.same (by omega) (by omega) rfl)
                        clear hJ hdep hE
                        unfold lexA
                        simp only [putAll, preI, Nat.reduceLT, Nat.reduceAdd, decide_true, decide_false, Bool.false_eq_true, if_true, if_false, Act.put, List.setIfInBounds_toArray, List.set_cons_zero, List.set_cons_succ]
                        go_simp
                      · have d4 : vs 4 = .pointer (some ⟨E 0, 0, none⟩) := hJ.dt 4 _ (hdep ⟨4, .data⟩ (by simp) rfl) rfl
                        have hR0 := (hJ.w0 hs9).1
                        have hE5 := hR0.a.ends 0 (by omega)
                        rw [updN_same] at hE5
                        refine StepJ.call rfl ?_ ((ltake_any hE5).mono fun e W' hp => ?_)
                        · clear hJ hdep hE hR0 hE5
                          unfold lexA
                          simp only [putAll, preI, Nat.reduceLT, Nat.reduceAdd, decide_true, decide_false, Bool.false_eq_true, if_true, if_false, Act.put, List.setIfInBounds_toArray, List.set_cons_zero, List.set_cons_succ]
                          go_simp
                        · have h1 := hR0.ltake_ (i := 0) (k := t + 1) (by omega) (by rw [updN_same]; exact HYO.out) (by rw [updN_same]; exact hp)
                          rw [updN_same, updN_twice] at h1
                          exact ⟨_, h1.1, hJ.call hs9 (by omega) rfl ⟨rfl, h1.2.1, h1.2.2.1, h1.2.2.2⟩⟩
                      · have d3 : vs 3 = .slice Au (gl 0).length cu := hJ.dt 3 _ (hdep ⟨3, .data⟩ (by simp) rfl) rfl
                        have h5 : s 5 = true := hdep ⟨5, .data⟩ (by simp) rfl
                        obtain ⟨d5, hr5, hm5, hL5⟩ := hJ.w1 h5 hs9
                        rw [HVG.out] at d5 hr5
                        have hru := (hL5.a.rows 0 (by omega)).1
                        rw [HUK.out] at hru
                        obtain ⟨_, _, hsg, _, _, hrdg⟩ := own_rd hr5
                        injection hsg with g1 g2 g3
                        subst g1 g3
                        have hnog := own_none hr5
                        have hyl : y'.gs.length ≤ 1000 := by omega
                        refine StepJ.app rfl (exec_extend (.tmp 111) (.tmp 113) 23 rfl base 43 j0 (.agg #[.int .i64 0, .int .i64 0, .int .i64 0, .int .i64 0, .int .u32 0, .slice none 0 0]) 6 64 Try.underlying23 hj0 hy0 hy1 hy2 rfl (by omega) (.slice Au (gl 0).length cu) (gl 0).length ((gl 0).flatMap encM) ?_ hru Ag y'.gs.length cg W.heap.size _ ?_ (fun h => (hnog h).2) hrdg (encM_one _) (by unfold maxLen; omega) (by omega) hL5.a.blo) (fun vn Wn ⟨hon, hgn, hnn⟩ => hJ.app h5 (by omega) rfl ⟨?_, ?_, ?_⟩)
                        · clear hJ hdep hE hL5 hm5 hr5 hru hrdg
                          unfold lexA
                          simp only [putAll, preI, Nat.reduceLT, Nat.reduceAdd, decide_true, decide_false, Bool.false_eq_true, if_true, if_false, Act.put, List.setIfInBounds_toArray, List.set_cons_zero, List.set_cons_succ]
                          rw [d3]
                          rfl
                        · clear hJ hdep hE hL5 hm5 hr5 hru hrdg
                          unfold lexA
                          simp only [putAll, preI, Nat.reduceLT, Nat.reduceAdd, decide_true, decide_false, Bool.false_eq_true, if_true, if_false, Act.put, List.setIfInBounds_toArray, List.set_cons_zero, List.set_cons_succ]
                          rw [d5]
                          rfl
                        · obtain ⟨A9, c9, e9, _⟩ := own_rd hon
                          exact ⟨A9, c9, e9⟩
                        · refine hgn.blk hE (fun hg => ?_)
                          obtain ⟨cs', hk'⟩ := own_blk hru hg
                          exact absurd (blk_type hE hk') (by decide)
                        · rw [← HUK.out] at hgn hnn
                          exact hL5.got_ (by omega) hgn hon hnn hm5
                      · have d0 : vs 0 = .int .i64 0 := hJ.dt 0 _ (hdep ⟨0, .data⟩ (by simp) rfl) rfl
                        refine StepJ.val (v := .pointer (some ⟨V10, 0, none⟩)) rfl ?_ (hJ.same (by omega) (by omega) rfl)
                        clear hJ hdep hE
                        unfold lexA
                        simp only [putAll, preI, Nat.reduceLT, Nat.reduceAdd, decide_true, decide_false, Bool.false_eq_true, if_true, if_false, Act.put, List.setIfInBounds_toArray, List.set_cons_zero, List.set_cons_succ]
                        go_simp
                    · intro s vs W hall hJ
                      obtain ⟨⟨A8, c8, d6⟩, hg10, hL⟩ := hJ.w2 (hall 6 (by omega))
                      rw [d6] at hL
                      have y10 := hg10.cell 0 _ rfl
                      have yf := hg10.free 0
                      have d7 : vs 7 = .pointer (some ⟨V10, 0, none⟩) := hJ.dt 7 _ (hall 7 (by omega)) rfl
                      have HL12 := Lib.hid hL
                      clear hJ hall hg10 hL
                      unfold lexA
                      simp only [putAll, preI, Nat.reduceLT, Nat.reduceAdd, decide_true, decide_false, Bool.false_eq_true, if_true, if_false, Act.put, List.setIfInBounds_toArray, List.set_cons_zero, List.set_cons_succ, List.drop_succ_cons, List.drop_zero]
                      rw [d6, d7]
                      go_upto_region 29 with (fail)
                      clear y10 yf d6 d7
                      generalize W.setCell ⟨V10, 0, none⟩ (.slice A8 ((gl 0).length + y'.gs.length) c8) = w12 at HL12 ⊢
                      obtain ⟨x12, hx12⟩ : ∃ x12, x12 = updN x 0 { y' with vg := .slice none 0 0, gs := [] } := ⟨_, rfl⟩
                      obtain ⟨u12, hu12⟩ : ∃ u12, u12 = updN u 0 (.slice A8 ((gl 0).length + y'.gs.length) c8) := ⟨_, rfl⟩
                      obtain ⟨gl12, hgl12⟩ : ∃ gl12, gl12 = updN gl 0 (gl 0 ++ y'.gs) := ⟨_, rfl⟩
                      have hSAr : SAt Sr (t + 1) (mT t (0 + 1)) T (restL K (t : Int) ((0 : Nat) : Int)) x12 gl12 := by
                        have hq := sat_recv (S := Sk) (Sr := Sr) (k := 0) (y := y) (y' := y') HSA.out (by omega) HYA.out HYO.out (by omega) HSR.out
                        rw [hx12, hgl12]
                        exact hq
                      rw [← hx12, ← hu12, ← hgl12] at HL12
                      have hls12 : LkS w base V6 V7 V9 V10 B FS E T (restL K (t : Int) ((0 : Nat) : Int)) x12 u12 gl12 w12 := HL12.out
                      have hem := HEM.out
                      unfold emitS at hem
                      rw [← hSAr.e 0 (by omega)] at hem
                      have hck : (t : Int) % 4294967296 = (t : Int) := by omega
                      have HOT := Lib.hid (out_any w12 base (E 0) 0 ((oth 0 : Nat) : Int) (x12 0).nx (x12 0).wt (x12 0).ow (x12 0).vw (x12 0).vg (x12 0).ws (x12 0).gs (hls12.a.ends 0 (by omega)) hls12.a.blo (hSAr.ok 0 (by omega)).la (t : Int) (t : Int) (t : Int) (by omega))
                      have HL13 := Lib.hid hls12
                      have HSAR := Lib.hid hSAr
                      have HEM2 := Lib.hid hem
                      clear hx12 hu12 hgl12 hSAr hls12 hem HL12 HEM HLQ HUK HVG HYA HYO hj
                      go_wp2_with fail
                      refine HOT.out.mono ?_
                      intro e w13 hp13
                      have hsz13 : w12.heap.size ≤ w13.heap.size := by
                        obtain ⟨_, _, _, _, _, _, _, hm⟩ := hp13
                        exact hm.size
                      obtain ⟨Ao, co, Lo, y4, rfl, hLo, hro, hmo, hya4, hok4, hgs4, hls13⟩ := HL13.out.out_ (i := 0) (k := t + 1) (by omega) (HSAR.out.ok 0 (by omega)) (by omega) hp13
                      have hln : Lo.length ≤ 9 := by
                        have h1 := congrArg List.length hLo
                        rw [List.length_map] at h1
                        rw [h1]
                        exact outG_len _ _ _ _ _
                      have hem := HEM2.out
                      rw [← hLo, ← hya4] at hem
                      have hstS := Lib.hid (show SdRel w base V6 V7 V9 V10 B FS E t { Sr with e := updN Sr.e 0 y4.abs } (updN x12 0 y4) u12 gl12 w12.heap.size Ao co Lo (.int .i64 0) w13 from ⟨0, _, _, _, Nat.zero_le _, rfl, rfl, HSAR.out.T, HSAR.out.K, rfl, rfl, hls13, hro, hmo⟩)
                      have HEM3 := Lib.hid hem
                      have HOK4 := Lib.hid hok4
                      have HGS4 := Lib.hid (hgs4.trans (HSAR.out.gs 0 (by omega)))
                      clear hp13 hsz13 hLo hro hmo hya4 hok4 hgs4 hls13 hem HEM2 HOT hck
                      go_wp2_with fail
                      go_loopw [122] (fun i wq => SdRel w base V6 V7 V9 V10 B FS E t { Sr with e := updN Sr.e 0 y4.abs } (updN x12 0 y4) u12 gl12 w12.heap.size Ao co Lo i wq) (fun i _ => Lo.length - (intOf i).toNat)
                      case atStart => exact hstS.out
                      case round =>
                        clear hstS
                        obtain ⟨wz, rfl⟩ : ∃ wz, wz = wr := ⟨_, rfl⟩
                        obtain ⟨j, S3, T3, K3, hj, rfl, hfj, hT3, hK3, he3, hg3, hlz, hroz, hmoz⟩ := hrel
                        by_cases hjl : j < Lo.length
                        · have hji : (j : Int) < (Lo.length : Int) := by omega
                          have hwj : IntKind.i64.wrap ((j : Int) + 1) = (j : Int) + 1 := by rw [IntKind.wrap_i64]; omega
                          obtain ⟨_, _, hse, _, _, hrd⟩ := own_rd hroz
                          injection hse with e1 e2 e3
                          subst e1 e3
                          obtain ⟨bf, of, ⟨⟨mk, ms, mt, mq, mc, ml⟩, Am, nm, cm⟩, rfl, hbB, hg, hcc⟩ := hrd.elem encM_len rfl hjl
                          have x0 : wz.cell? ⟨bf, of + j * 6, none⟩ = some (.int .i64 mk) := hcc 0 _ rfl
                          have x1 : wz.cell? ⟨bf, of + j * 6 + 1, none⟩ = some (.int .i64 ms) := hcc 1 _ rfl
                          have x2 : wz.cell? ⟨bf, of + j * 6 + 2, none⟩ = some (.int .i64 mt) := hcc 2 _ rfl
                          have x3 : wz.cell? ⟨bf, of + j * 6 + 3, none⟩ = some (.int .i64 mq) := hcc 3 _ rfl
                          have x4 : wz.cell? ⟨bf, of + j * 6 + 4, none⟩ = some (.int .u32 mc) := hcc 4 _ rfl
                          have x5 : wz.cell? ⟨bf, of + j * 6 + 5, none⟩ = some (.slice Am nm cm) := hcc 5 _ rfl
                          obtain ⟨S4, hs4, hfj2⟩ := fold_next (l := Lo.map (·.m)) HEM3.out (j := j) (z := ⟨mk, ms, mt, mq, mc, ml⟩) (by rw [List.getElem?_map, hg]; rfl) (by rw [← List.map_take]; exact hfj)
                          rw [← List.map_take] at hfj2
                          unfold sendS at hs4
                          rw [hT3, hK3] at hs4
                          split at hs4
                          · rename_i hsc
                            have hS4 := Option.some.inj hs4
                            have HSC := Lib.hid hsc
                            have HS4 := Lib.hid hS4
                            have HFJ2 := Lib.hid hfj2
                            have HMEM := Lib.hid (List.mem_of_getElem? hg)
                            have HLZ := Lib.hid hlz
                            have HROZ := Lib.hid hroz
                            have HMOZ := Lib.hid hmoz
                            have HE3 := Lib.hid (And.intro he3 hg3)
                            clear hcc hg hs4 hsc hS4 hfj2 hfj hT3 hK3 he3 hg3 hlz hroz hmoz hrd e2
                            go_upto_region 32 with (fail)
                            have hk9 := Blk.new wz 43 #[.int .i64 mk, .int .i64 ms, .int .i64 mt, .int .i64 mq, .int .u32 mc, .slice Am nm cm]
                            have hb9 : Below wz.heap.size wz (wz.alloc (.cells #[.int .i64 mk, .int .i64 ms, .int .i64 mt, .int .i64 mq, .int .u32 mc, .slice Am nm cm] 43)) := (Below.refl _ _).alloc (Nat.le_refl _) _
                            generalize wz.alloc (.cells #[.int .i64 mk, .int .i64 ms, .int .i64 mt, .int .i64 mq, .int .u32 mc, .slice Am nm cm] 43) = w9 at hk9 hb9 ⊢
                            have z0 := hk9.cell 0 _ rfl
                            have z1 := hk9.cell 1 _ rfl
                            have z2 := hk9.cell 2 _ rfl
                            have z3 := hk9.cell 3 _ rfl
                            have z4 := hk9.cell 4 _ rfl
                            have z5 := hk9.cell 5 _ rfl
                            have hmo9 : ∀ s ∈ Lo, MOwn w9 w12.heap.size s := fun s hs => (HMOZ.out s hs).below hb9
                            have HSND := Lib.hid (sd_send (HLZ.out.below hb9) (hmo9 _ HMEM.out) HSC.out)
                            have HRO9 := Lib.hid (own_below HROZ.out hb9 (Nat.le_refl _))
                            have HMO9 := Lib.hid hmo9
                            clear hk9 hb9 hmo9 x0 x1 x2 x3 x4 x5 HLZ HROZ HMOZ
                            go_wp2_with fail
                            refine HSND.out.mono ?_
                            rintro e wa ⟨rfl, hla, F, hmF, htF⟩
                            have HX := Lib.hid (show SdRel w base V6 V7 V9 V10 B FS E t { Sr with e := updN Sr.e 0 y4.abs } (updN x12 0 y4) u12 gl12 w12.heap.size (some ⟨bf, of, none⟩) co Lo (.int .i64 ((j : Int) + 1)) wa from ⟨j + 1, S4, _, _, hjl, by simp, HFJ2.out, by rw [← HS4.out], by rw [← HS4.out], by rw [← HS4.out]; exact HE3.out.1, by rw [← HS4.out]; exact HE3.out.2, hla, hmF.own HRO9.out (fun g cs _ hk hf => by
                              rcases htF g _ _ hk hf with e | e <;> exact absurd e (by decide)), fun s hs => ⟨hmF.own (HMO9.out s hs).1 (fun g cs _ hk hf => by
                              rcases htF g _ _ hk hf with e | e <;> exact absurd e (by decide)), (HMO9.out s hs).2⟩⟩)
                            clear hla hmF htF z0 z1 z2 z3 z4 z5
                            go_wp2_with fail
                            go_roundw
                            case rel => exact HX.out
                            case measure => simp [intOf]; omega
                          · cases hs4
                        · obtain rfl : j = Lo.length := by omega
                          have hji : ¬ (Lo.length : Int) < (Lo.length : Int) := by omega
                          rw [List.take_length] at hfj
                          have hSN := Option.some.inj (HEM3.out.symm.trans hfj)
                          have HX := Lib.hid (show EnRel w base V6 V7 V9 V10 B FS E t S1 S2 S' (.int .i64 1) wz from ⟨0 + 1, S3, T3, K3, updN x12 0 y4, u12, gl12, by omega, rfl, fun h => absurd h (by omega), fun h => by first | exact hSN.symm | exact absurd h (by omega), fun h => by first | exact hSN.symm | exact absurd h (by omega), sat_emit HSAR.out hT3 hK3 he3 hg3 HOK4.out HGS4.out, hlz⟩)
                          clear hfj hSN hT3 hK3 he3 hg3 hlz hroz hmoz
                          go_wp2_with fail
                          go_roundw
                          case rel => exact ⟨_, _, _, _, _, _, HX.out, rfl, rfl, rfl, rfl, rfl, rfl⟩
                          case measure => simp [intOf]
              · have HEE := Lib.hid (show endS FS t 1 Sk = some S' from by rw [hk1 rfl]; exact HE1.out)
                clear hk0 hk1 hk2
                obtain ⟨Sr, hrv, hem⟩ := Option.bind_eq_some_iff.1 HEE.out
                unfold recvS at hrv
                obtain ⟨y, hfold, hSr⟩ := Option.map_eq_some_iff.1 hrv
                rw [← hsa.e 1 (by omega), hsa.K] at hfold
                obtain ⟨v, hNv⟩ := hls.a.net
                have HTK := Lib.hid (take_any wr base B FS T v K hNv hls.a.blo (t : Int) 1)
                have HNV := Lib.hid hNv
                have HFO := Lib.hid hfold
                have HSR := Lib.hid hSr
                have HEM := Lib.hid hem
                have HSA := Lib.hid hsa
                have HLS := Lib.hid hls
                have hix0 := (run_index_two wr (some ⟨E 0, 0, none⟩) (some ⟨E 1, 0, none⟩)).1
                have hix1 := (run_index_two wr (some ⟨E 0, 0, none⟩) (some ⟨E 1, 0, none⟩)).2
                clear hrv hfold hSr hem hsa hls hNv
                go_wp2_with fail
                clear hix0 hix1
                refine HTK.out.mono ?_
                intro e w7 hp7
                obtain ⟨A7, c7, Ls, rfl, hLm, hLn, hro7, hmo7, hls7⟩ := HLS.out.take_ HNV.out hp7
                have hbase7 : wr.heap.size ≤ w7.heap.size := by
                  obtain ⟨_, _, _, _, _, _, _, _, _, hm⟩ := hp7
                  exact hm.size
                have hstR := Lib.hid (show RcRel w base V6 V7 V9 V10 B FS E t 1 T (restL K (t : Int) 1) x u gl wr.heap.size A7 c7 Ls (.int .i64 0) w7 from ⟨0, (x 1).abs, x 1, Nat.zero_le _, rfl, rfl, rfl, HSA.out.ok 1 (by omega), by rw [HSA.out.gs 1 (by omega)]; exact Nat.zero_le _, by rw [updN_self]; exact hls7, hro7, hmo7, fun g h1 h2 => by
                  have h3 := ((HLS.out.a.ends 1 (by omega)).rg.lt g h1).2
                  have h4 := (hro7.lt g h2).1
                  omega⟩)
                have HLM := Lib.hid (show Ls.map (·.m) = (takeL K (t : Int) ((1 : Nat) : Int)).map (·.2) from hLm)
                clear hp7 hLm hro7 hmo7 hls7 HTK HNV hbase7
                go_wp2_with fail
                go_loopw [97] (fun i wq => RcRel w base V6 V7 V9 V10 B FS E t 1 T (restL K (t : Int) 1) x u gl wr.heap.size A7 c7 Ls i wq) (fun i _ => Ls.length - (intOf i).toNat)
                case atStart => exact hstR.out
                case round =>
                  clear hstR
                  obtain ⟨wq, rfl⟩ : ∃ wq, wq = wr := ⟨_, rfl⟩
                  obtain ⟨j, y1, y', hj, rfl, hfj, hya, hyo, hyg, hlq, hrow, hmow, hap⟩ := hrel
                  by_cases hjl : j < Ls.length
                  · have hji : (j : Int) < (Ls.length : Int) := by omega
                    have hwj : IntKind.i64.wrap ((j : Int) + 1) = (j : Int) + 1 := by rw [IntKind.wrap_i64]; omega
                    obtain ⟨_, _, hse, _, _, hrd⟩ := own_rd hrow
                    injection hse with e1 e2 e3
                    subst e1 e3
                    obtain ⟨bf, of, ⟨⟨mk, ms, mt, mq, mc, ml⟩, Am, nm, cm⟩, rfl, hbB, hg, hcc⟩ := hrd.elem encM_len rfl hjl
                    have x0 : wq.cell? ⟨bf, of + j * 6, none⟩ = some (.int .i64 mk) := hcc 0 _ rfl
                    have x1 : wq.cell? ⟨bf, of + j * 6 + 1, none⟩ = some (.int .i64 ms) := hcc 1 _ rfl
                    have x2 : wq.cell? ⟨bf, of + j * 6 + 2, none⟩ = some (.int .i64 mt) := hcc 2 _ rfl
                    have x3 : wq.cell? ⟨bf, of + j * 6 + 3, none⟩ = some (.int .i64 mq) := hcc 3 _ rfl
                    have x4 : wq.cell? ⟨bf, of + j * 6 + 4, none⟩ = some (.int .u32 mc) := hcc 4 _ rfl
                    have x5 : wq.cell? ⟨bf, of + j * 6 + 5, none⟩ = some (.slice Am nm cm) := hcc 5 _ rfl
                    have hfl := HFO.out
                    rw [← HLM.out] at hfl
                    obtain ⟨y2, hy2, hfj2⟩ := fold_next (l := Ls.map (·.m)) hfl (j := j) (z := ⟨mk, ms, mt, mq, mc, ml⟩) (by rw [List.getElem?_map, hg]; rfl) (by rw [← List.map_take]; exact hfj)
                    rw [← hya] at hy2
                    rw [← List.map_take] at hfj2
                    have HY2 := Lib.hid hy2
                    have HFJ2 := Lib.hid hfj2
                    have HMEM := Lib.hid (List.mem_of_getElem? hg)
                    have HLQ := Lib.hid hlq
                    have HROW := Lib.hid hrow
                    have HMOW := Lib.hid hmow
                    have HAP := Lib.hid hap
                    have HYO := Lib.hid hyo
                    clear hcc hg hfl hy2 hfj2 hfj hya hlq hrow hmow hap hyo hrd e2
                    go_upto_region 25 with (fail)
                    have hk9 := Blk.new wq 43 #[.int .i64 mk, .int .i64 ms, .int .i64 mt, .int .i64 mq, .int .u32 mc, .slice Am nm cm]
                    have hb9 : Below wq.heap.size wq (wq.alloc (.cells #[.int .i64 mk, .int .i64 ms, .int .i64 mt, .int .i64 mq, .int .u32 mc, .slice Am nm cm] 43)) := (Below.refl _ _).alloc (Nat.le_refl _) _
                    generalize wq.alloc (.cells #[.int .i64 mk, .int .i64 ms, .int .i64 mt, .int .i64 mq, .int .u32 mc, .slice Am nm cm] 43) = w9 at hk9 hb9 ⊢
                    have z0 := hk9.cell 0 _ rfl
                    have z1 := hk9.cell 1 _ rfl
                    have z2 := hk9.cell 2 _ rfl
                    have z3 := hk9.cell 3 _ rfl
                    have z4 := hk9.cell 4 _ rfl
                    have z5 := hk9.cell 5 _ rfl
                    have hlq9 := HLQ.out.below hb9
                    have hro9 := own_below HROW.out hb9 (Nat.le_refl _)
                    have hmo9 : ∀ s ∈ Ls, MOwn w9 base s := fun s hs => (HMOW.out s hs).below hb9
                    have HIN := Lib.hid (rc_in hlq9 (show 1 < 2 by omega) HYO.out (by omega) (by omega) (hmo9 _ HMEM.out) HY2.out)
                    have HLQ9 := Lib.hid hlq9
                    have HRO9 := Lib.hid hro9
                    have HMO9 := Lib.hid hmo9
                    clear hk9 hb9 hlq9 hro9 hmo9 x0 x1 x2 x3 x4 x5 HLQ HROW HMOW
                    go_wp2_with fail
                    refine HIN.out.mono ?_
                    rintro e wa ⟨rfl, y3, a1, a2, a3, a4, a5, a6⟩
                    have hE9 := HLQ9.out.a.ends 1 (by omega)
                    rw [updN_same] at hE9
                    have HX := Lib.hid (show RcRel w base V6 V7 V9 V10 B FS E t 1 T (restL K (t : Int) 1) x u gl wr.heap.size (some ⟨bf, of, none⟩) c7 Ls (.int .i64 ((j : Int) + 1)) wa from ⟨j + 1, y2, y3, hjl, by simp, HFJ2.out, a1, a2, by omega, a4, a5.own HRO9.out (fun g cs hg hk hf => by
                      rcases hf with e | e | e
                      · subst e
                        exact absurd (blk_type hk hE9.box) (by decide)
                      · obtain ⟨cs', hk'⟩ := hE9.rw.blk e
                        exact absurd (blk_type hk hk') (by decide)
                      · exact HAP.out g e hg), fun s hs => ⟨a5.own (HMO9.out s hs).1 (fun g cs _ hk hf => by
                      rcases hE9.typ hk hf with e | e | e <;> exact absurd e (by decide)), (HMO9.out s hs).2⟩, fun g h1 h2 => by
                      rcases a6 g h1 with h3 | h3
                      · exact HAP.out g h3 h2
                      · have := (HRO9.out.lt g h2).2
                        omega⟩)
                    clear a1 a2 a3 a4 a5 a6 hE9 z0 z1 z2 z3 z4 z5
                    go_wp2_with fail
                    go_roundw
                    case rel => exact HX.out
                    case measure => simp [intOf]; omega
                  · obtain rfl : j = Ls.length := by omega
                    have hji : ¬ (Ls.length : Int) < (Ls.length : Int) := by omega
                    rw [List.take_length, HLM.out] at hfj
                    obtain rfl : y = y1 := Option.some.inj (HFO.out.symm.trans hfj)
                    obtain ⟨Ag, cg, hvg, _⟩ : ∃ A c, y'.vg = .slice A y'.gs.length c ∧ True := by
                      have hE := hlq.a.ends 1 (by omega)
                      rw [updN_same] at hE
                      obtain ⟨A, c, e, _⟩ := own_rd hE.rg
                      exact ⟨A, c, e, trivial⟩
                    obtain ⟨Au, cu, huk, _⟩ := own_rd (hlq.a.rows 1 (by omega)).1
                    have HYA := Lib.hid hya
                    have HYO := Lib.hid hyo
                    have HLQ := Lib.hid hlq
                    have HUK := Lib.hid huk
                    have HVG := Lib.hid hvg
                    have hglb := HSA.out.gl 1 (by omega)
                    have hglb2 : (gl 1).length ≤ 121000 := by
                      unfold mT at hglb
                      split at hglb <;> omega
                    obtain ⟨j0, hj0, hy0, hy1, hy2⟩ := info_parts info_msgI
                    clear hfj hya hyo hlq hrow hmow hap huk hvg hglb
                    go_upto_region 28 with (fail)
                    refine wp_region_invK 8 (CapJ (fun idx => ([some (.int .i64 1), some (.int .i64 1), some (.pointer (some ⟨V10, 1, none⟩)), some (.slice Au (gl 1).length cu), some (.pointer (some ⟨E 1, 0, none⟩)), none, none, some (.pointer (some ⟨V10, 1, none⟩))] : List (Option Value)).getD idx none) 5 6 (LkS w base V6 V7 V9 V10 B FS E T (restL K (t : Int) 1) (updN x 1 y') u gl) (fun v W => v = y'.vg ∧ W.ownsRow base 43 6 y'.vg y'.gs.length (y'.gs.flatMap encM) ∧ (∀ s ∈ y'.gs, MOwn W base s) ∧ LkS w base V6 V7 V9 V10 B FS E T (restL K (t : Int) 1) (updN x 1 { y' with vg := .slice none 0 0, gs := [] }) u gl W) (fun v W => (∃ A c, v = .slice A ((gl 1).length + y'.gs.length) c) ∧ Blk W V10 61 #[u 0, u 1] ∧ LkS w base V6 V7 V9 V10 B FS E T (restL K (t : Int) 1) (updN x 1 { y' with vg := .slice none 0 0, gs := [] }) (updN u 1 v) (updN gl 1 (gl 1 ++ y'.gs)) (W.setCell ⟨V10, 1, none⟩ v))) (by kernel_rfl) (by kernel_rfl) (CapJ.start (HLQ.out.below (Below.refl _ _).drew)) ?_ ?_
                    · intro i9 o hi ho s vs W hJ hs9 hdep
                      have hE : Blk W V10 61 #[u 0, u 1] := hJ.all (X := fun W => Blk W V10 61 #[u 0, u 1]) (fun W h => h.a.got) (fun v W h => h.2.2.2.a.got) (fun v W h => h.2.1)
                      rcases i9 with _ | _ | _ | _ | _ | _ | _ | _ | i9
                      all_goals first | omega | skip
                      all_goals (simp only [List.getElem?_cons_succ, List.getElem?_cons_zero, Option.some.injEq] at ho; subst ho)
                      · refine StepJ.val (v := .int .i64 1) rfl ?_ (hJ.same (by omega) (by omega) rfl)
                        clear hJ hdep hE
                        unfold lexA
                        simp only [putAll, preI, Nat.reduceLT, Nat.reduceAdd, decide_false, Bool.false_eq_true, if_false]
                        go_simp
                      · refine StepJ.val (v := .int .i64 1) rfl ?_ (hJ.same (by omega) (by omega) rfl)
                        clear hJ hdep hE
                        unfold lexA
                        simp only [putAll, preI, Nat.reduceLT, Nat.reduceAdd, decide_true, decide_false, Bool.false_eq_true, if_true, if_false, Act.put, List.setIfInBounds_toArray, List.set_cons_zero, List.set_cons_succ]
                        go_simp
                      · have d1 : vs 1 = .int .i64 1 := hJ.dt 1 _ (hdep ⟨1, .data⟩ (by simp) rfl) rfl
                        refine StepJ.val (v := .pointer (some ⟨V10, 1, none⟩)) rfl ?_ (hJ.same (by omega) (by omega) rfl)
                        clear hJ hdep hE
                        unfold lexA
                        simp only [putAll, preI, Nat.reduceLT, Nat.reduceAdd, decide_true, decide_false, Bool.false_eq_true, if_true, if_false, Act.put, List.setIfInBounds_toArray, List.set_cons_zero, List.set_cons_succ]
                        go_simp
                      · have d2 : vs 2 = .pointer (some ⟨V10, 1, none⟩) := hJ.dt 2 _ (hdep ⟨2, .data⟩ (by simp) rfl) rfl
                        have c10 : W.cell? ⟨V10, 1, none⟩ = some (.slice Au (gl 1).length cu) := (hE.cell 1 _ rfl).trans (congrArg some HUK.out)
                        refine StepJ.val (v := .slice Au (gl 1).length cu) rfl ?_ (hJ.same (by omega) (by omega) rfl)
                        clear hJ hdep hE
                        unfold lexA
                        simp only [putAll, preI, Nat.reduceLT, Nat.reduceAdd, decide_true, decide_false, Bool.false_eq_true, if_true, if_false, Act.put, List.setIfInBounds_toArray, List.set_cons_zero, List.set_cons_succ]
                        go_simp
                      · refine StepJ.val (v := .pointer (some ⟨E 1, 0, none⟩)) rfl ?_ (hJ.same (by omega) (by omega) rfl)
                        clear hJ hdep hE
                        unfold lexA
                        simp only [putAll, preI, Nat.reduceLT, Nat.reduceAdd, decide_true, decide_false, Bool.false_eq_true, if_true, if_false, Act.put, List.setIfInBounds_toArray, List.set_cons_zero, List.set_cons_succ]
                        go_simp
                      · have d4 : vs 4 = .pointer (some ⟨E 1, 0, none⟩) := hJ.dt 4 _ (hdep ⟨4, .data⟩ (by simp) rfl) rfl
                        have hR0 := (hJ.w0 hs9).1
                        have hE5 := hR0.a.ends 1 (by omega)
                        rw [updN_same] at hE5
                        refine StepJ.call rfl ?_ ((ltake_any hE5).mono fun e W' hp => ?_)
                        · clear hJ hdep hE hR0 hE5
                          unfold lexA
                          simp only [putAll, preI, Nat.reduceLT, Nat.reduceAdd, decide_true, decide_false, Bool.false_eq_true, if_true, if_false, Act.put, List.setIfInBounds_toArray, List.set_cons_zero, List.set_cons_succ]
                          go_simp
                        · have h1 := hR0.ltake_ (i := 1) (k := t + 1) (by omega) (by rw [updN_same]; exact HYO.out) (by rw [updN_same]; exact hp)
                          rw [updN_same, updN_twice] at h1
                          exact ⟨_, h1.1, hJ.call hs9 (by omega) rfl ⟨rfl, h1.2.1, h1.2.2.1, h1.2.2.2⟩⟩
                      · have d3 : vs 3 = .slice Au (gl 1).length cu := hJ.dt 3 _ (hdep ⟨3, .data⟩ (by simp) rfl) rfl
                        have h5 : s 5 = true := hdep ⟨5, .data⟩ (by simp) rfl
                        obtain ⟨d5, hr5, hm5, hL5⟩ := hJ.w1 h5 hs9
                        rw [HVG.out] at d5 hr5
                        have hru := (hL5.a.rows 1 (by omega)).1
                        rw [HUK.out] at hru
                        obtain ⟨_, _, hsg, _, _, hrdg⟩ := own_rd hr5
                        injection hsg with g1 g2 g3
                        subst g1 g3
                        have hnog := own_none hr5
                        have hyl : y'.gs.length ≤ 1000 := by omega
                        refine StepJ.app rfl (exec_extend (.tmp 111) (.tmp 113) 23 rfl base 43 j0 (.agg #[.int .i64 0, .int .i64 0, .int .i64 0, .int .i64 0, .int .u32 0, .slice none 0 0]) 6 64 Try.underlying23 hj0 hy0 hy1 hy2 rfl (by omega) (.slice Au (gl 1).length cu) (gl 1).length ((gl 1).flatMap encM) ?_ hru Ag y'.gs.length cg W.heap.size _ ?_ (fun h => (hnog h).2) hrdg (encM_one _) (by unfold maxLen; omega) (by omega) hL5.a.blo) (fun vn Wn ⟨hon, hgn, hnn⟩ => hJ.app h5 (by omega) rfl ⟨?_, ?_, ?_⟩)
                        · clear hJ hdep hE hL5 hm5 hr5 hru hrdg
                          unfold lexA
                          simp only [putAll, preI, Nat.reduceLT, Nat.reduceAdd, decide_true, decide_false, Bool.false_eq_true, if_true, if_false, Act.put, List.setIfInBounds_toArray, List.set_cons_zero, List.set_cons_succ]
                          rw [d3]
                          rfl
                        · clear hJ hdep hE hL5 hm5 hr5 hru hrdg
                          unfold lexA
                          simp only [putAll, preI, Nat.reduceLT, Nat.reduceAdd, decide_true, decide_false, Bool.false_eq_true, if_true, if_false, Act.put, List.setIfInBounds_toArray, List.set_cons_zero, List.set_cons_succ]
                          rw [d5]
                          rfl
                        · obtain ⟨A9, c9, e9, _⟩ := own_rd hon
                          exact ⟨A9, c9, e9⟩
                        · refine hgn.blk hE (fun hg => ?_)
                          obtain ⟨cs', hk'⟩ := own_blk hru hg
                          exact absurd (blk_type hE hk') (by decide)
                        · rw [← HUK.out] at hgn hnn
                          exact hL5.got_ (by omega) hgn hon hnn hm5
                      · have d0 : vs 0 = .int .i64 1 := hJ.dt 0 _ (hdep ⟨0, .data⟩ (by simp) rfl) rfl
                        refine StepJ.val (v := .pointer (some ⟨V10, 1, none⟩)) rfl ?_ (hJ.same (by omega) (by omega) rfl)
                        clear hJ hdep hE
                        unfold lexA
                        simp only [putAll, preI, Nat.reduceLT, Nat.reduceAdd, decide_true, decide_false, Bool.false_eq_true, if_true, if_false, Act.put, List.setIfInBounds_toArray, List.set_cons_zero, List.set_cons_succ]
                        go_simp
                    · intro s vs W hall hJ
                      obtain ⟨⟨A8, c8, d6⟩, hg10, hL⟩ := hJ.w2 (hall 6 (by omega))
                      rw [d6] at hL
                      have y10 := hg10.cell 1 _ rfl
                      have yf := hg10.free 1
                      have d7 : vs 7 = .pointer (some ⟨V10, 1, none⟩) := hJ.dt 7 _ (hall 7 (by omega)) rfl
                      have HL12 := Lib.hid hL
                      clear hJ hall hg10 hL
                      unfold lexA
                      simp only [putAll, preI, Nat.reduceLT, Nat.reduceAdd, decide_true, decide_false, Bool.false_eq_true, if_true, if_false, Act.put, List.setIfInBounds_toArray, List.set_cons_zero, List.set_cons_succ, List.drop_succ_cons, List.drop_zero]
                      rw [d6, d7]
                      go_upto_region 29 with (fail)
                      clear y10 yf d6 d7
                      generalize W.setCell ⟨V10, 1, none⟩ (.slice A8 ((gl 1).length + y'.gs.length) c8) = w12 at HL12 ⊢
                      obtain ⟨x12, hx12⟩ : ∃ x12, x12 = updN x 1 { y' with vg := .slice none 0 0, gs := [] } := ⟨_, rfl⟩
                      obtain ⟨u12, hu12⟩ : ∃ u12, u12 = updN u 1 (.slice A8 ((gl 1).length + y'.gs.length) c8) := ⟨_, rfl⟩
                      obtain ⟨gl12, hgl12⟩ : ∃ gl12, gl12 = updN gl 1 (gl 1 ++ y'.gs) := ⟨_, rfl⟩
                      have hSAr : SAt Sr (t + 1) (mT t (1 + 1)) T (restL K (t : Int) ((1 : Nat) : Int)) x12 gl12 := by
                        have hq := sat_recv (S := Sk) (Sr := Sr) (k := 1) (y := y) (y' := y') HSA.out (by omega) HYA.out HYO.out (by omega) HSR.out
                        rw [hx12, hgl12]
                        exact hq
                      rw [← hx12, ← hu12, ← hgl12] at HL12
                      have hls12 : LkS w base V6 V7 V9 V10 B FS E T (restL K (t : Int) ((1 : Nat) : Int)) x12 u12 gl12 w12 := HL12.out
                      have hem := HEM.out
                      unfold emitS at hem
                      rw [← hSAr.e 1 (by omega)] at hem
                      have hck : (t : Int) % 4294967296 = (t : Int) := by omega
                      have HOT := Lib.hid (out_any w12 base (E 1) 1 ((oth 1 : Nat) : Int) (x12 1).nx (x12 1).wt (x12 1).ow (x12 1).vw (x12 1).vg (x12 1).ws (x12 1).gs (hls12.a.ends 1 (by omega)) hls12.a.blo (hSAr.ok 1 (by omega)).la (t : Int) (t : Int) (t : Int) (by omega))
                      have HL13 := Lib.hid hls12
                      have HSAR := Lib.hid hSAr
                      have HEM2 := Lib.hid hem
                      clear hx12 hu12 hgl12 hSAr hls12 hem HL12 HEM HLQ HUK HVG HYA HYO hj
                      go_wp2_with fail
                      refine HOT.out.mono ?_
                      intro e w13 hp13
                      have hsz13 : w12.heap.size ≤ w13.heap.size := by
                        obtain ⟨_, _, _, _, _, _, _, hm⟩ := hp13
                        exact hm.size
                      obtain ⟨Ao, co, Lo, y4, rfl, hLo, hro, hmo, hya4, hok4, hgs4, hls13⟩ := HL13.out.out_ (i := 1) (k := t + 1) (by omega) (HSAR.out.ok 1 (by omega)) (by omega) hp13
                      have hln : Lo.length ≤ 9 := by
                        have h1 := congrArg List.length hLo
                        rw [List.length_map] at h1
                        rw [h1]
                        exact outG_len _ _ _ _ _
                      have hem := HEM2.out
                      rw [← hLo, ← hya4] at hem
                      have hstS := Lib.hid (show SdRel w base V6 V7 V9 V10 B FS E t { Sr with e := updN Sr.e 1 y4.abs } (updN x12 1 y4) u12 gl12 w12.heap.size Ao co Lo (.int .i64 0) w13 from ⟨0, _, _, _, Nat.zero_le _, rfl, rfl, HSAR.out.T, HSAR.out.K, rfl, rfl, hls13, hro, hmo⟩)
                      have HEM3 := Lib.hid hem
                      have HOK4 := Lib.hid hok4
                      have HGS4 := Lib.hid (hgs4.trans (HSAR.out.gs 1 (by omega)))
                      clear hp13 hsz13 hLo hro hmo hya4 hok4 hgs4 hls13 hem HEM2 HOT hck
                      go_wp2_with fail
                      go_loopw [122] (fun i wq => SdRel w base V6 V7 V9 V10 B FS E t { Sr with e := updN Sr.e 1 y4.abs } (updN x12 1 y4) u12 gl12 w12.heap.size Ao co Lo i wq) (fun i _ => Lo.length - (intOf i).toNat)
                      case atStart => exact hstS.out
                      case round =>
                        clear hstS
                        obtain ⟨wz, rfl⟩ : ∃ wz, wz = wr := ⟨_, rfl⟩
                        obtain ⟨j, S3, T3, K3, hj, rfl, hfj, hT3, hK3, he3, hg3, hlz, hroz, hmoz⟩ := hrel
                        by_cases hjl : j < Lo.length
                        · have hji : (j : Int) < (Lo.length : Int) := by omega
                          have hwj : IntKind.i64.wrap ((j : Int) + 1) = (j : Int) + 1 := by rw [IntKind.wrap_i64]; omega
                          obtain ⟨_, _, hse, _, _, hrd⟩ := own_rd hroz
                          injection hse with e1 e2 e3
                          subst e1 e3
                          obtain ⟨bf, of, ⟨⟨mk, ms, mt, mq, mc, ml⟩, Am, nm, cm⟩, rfl, hbB, hg, hcc⟩ := hrd.elem encM_len rfl hjl
                          have x0 : wz.cell? ⟨bf, of + j * 6, none⟩ = some (.int .i64 mk) := hcc 0 _ rfl
                          have x1 : wz.cell? ⟨bf, of + j * 6 + 1, none⟩ = some (.int .i64 ms) := hcc 1 _ rfl
                          have x2 : wz.cell? ⟨bf, of + j * 6 + 2, none⟩ = some (.int .i64 mt) := hcc 2 _ rfl
                          have x3 : wz.cell? ⟨bf, of + j * 6 + 3, none⟩ = some (.int .i64 mq) := hcc 3 _ rfl
                          have x4 : wz.cell? ⟨bf, of + j * 6 + 4, none⟩ = some (.int .u32 mc) := hcc 4 _ rfl
                          have x5 : wz.cell? ⟨bf, of + j * 6 + 5, none⟩ = some (.slice Am nm cm) := hcc 5 _ rfl
                          obtain ⟨S4, hs4, hfj2⟩ := fold_next (l := Lo.map (·.m)) HEM3.out (j := j) (z := ⟨mk, ms, mt, mq, mc, ml⟩) (by rw [List.getElem?_map, hg]; rfl) (by rw [← List.map_take]; exact hfj)
                          rw [← List.map_take] at hfj2
                          unfold sendS at hs4
                          rw [hT3, hK3] at hs4
                          split at hs4
                          · rename_i hsc
                            have hS4 := Option.some.inj hs4
                            have HSC := Lib.hid hsc
                            have HS4 := Lib.hid hS4
                            have HFJ2 := Lib.hid hfj2
                            have HMEM := Lib.hid (List.mem_of_getElem? hg)
                            have HLZ := Lib.hid hlz
                            have HROZ := Lib.hid hroz
                            have HMOZ := Lib.hid hmoz
                            have HE3 := Lib.hid (And.intro he3 hg3)
                            clear hcc hg hs4 hsc hS4 hfj2 hfj hT3 hK3 he3 hg3 hlz hroz hmoz hrd e2
                            go_upto_region 32 with (fail)
                            have hk9 := Blk.new wz 43 #[.int .i64 mk, .int .i64 ms, .int .i64 mt, .int .i64 mq, .int .u32 mc, .slice Am nm cm]
                            have hb9 : Below wz.heap.size wz (wz.alloc (.cells #[.int .i64 mk, .int .i64 ms, .int .i64 mt, .int .i64 mq, .int .u32 mc, .slice Am nm cm] 43)) := (Below.refl _ _).alloc (Nat.le_refl _) _
                            generalize wz.alloc (.cells #[.int .i64 mk, .int .i64 ms, .int .i64 mt, .int .i64 mq, .int .u32 mc, .slice Am nm cm] 43) = w9 at hk9 hb9 ⊢
                            have z0 := hk9.cell 0 _ rfl
                            have z1 := hk9.cell 1 _ rfl
                            have z2 := hk9.cell 2 _ rfl
                            have z3 := hk9.cell 3 _ rfl
                            have z4 := hk9.cell 4 _ rfl
                            have z5 := hk9.cell 5 _ rfl
                            have hmo9 : ∀ s ∈ Lo, MOwn w9 w12.heap.size s := fun s hs => (HMOZ.out s hs).below hb9
                            have HSND := Lib.hid (sd_send (HLZ.out.below hb9) (hmo9 _ HMEM.out) HSC.out)
                            have HRO9 := Lib.hid (own_below HROZ.out hb9 (Nat.le_refl _))
                            have HMO9 := Lib.hid hmo9
                            clear hk9 hb9 hmo9 x0 x1 x2 x3 x4 x5 HLZ HROZ HMOZ
                            go_wp2_with fail
                            refine HSND.out.mono ?_
                            rintro e wa ⟨rfl, hla, F, hmF, htF⟩
                            have HX := Lib.hid (show SdRel w base V6 V7 V9 V10 B FS E t { Sr with e := updN Sr.e 1 y4.abs } (updN x12 1 y4) u12 gl12 w12.heap.size (some ⟨bf, of, none⟩) co Lo (.int .i64 ((j : Int) + 1)) wa from ⟨j + 1, S4, _, _, hjl, by simp, HFJ2.out, by rw [← HS4.out], by rw [← HS4.out], by rw [← HS4.out]; exact HE3.out.1, by rw [← HS4.out]; exact HE3.out.2, hla, hmF.own HRO9.out (fun g cs _ hk hf => by
                              rcases htF g _ _ hk hf with e | e <;> exact absurd e (by decide)), fun s hs => ⟨hmF.own (HMO9.out s hs).1 (fun g cs _ hk hf => by
                              rcases htF g _ _ hk hf with e | e <;> exact absurd e (by decide)), (HMO9.out s hs).2⟩⟩)
                            clear hla hmF htF z0 z1 z2 z3 z4 z5
                            go_wp2_with fail
                            go_roundw
                            case rel => exact HX.out
                            case measure => simp [intOf]; omega
                          · cases hs4
                        · obtain rfl : j = Lo.length := by omega
                          have hji : ¬ (Lo.length : Int) < (Lo.length : Int) := by omega
                          rw [List.take_length] at hfj
                          have hSN := Option.some.inj (HEM3.out.symm.trans hfj)
                          have HX := Lib.hid (show EnRel w base V6 V7 V9 V10 B FS E t S1 S2 S' (.int .i64 2) wz from ⟨1 + 1, S3, T3, K3, updN x12 1 y4, u12, gl12, by omega, rfl, fun h => absurd h (by omega), fun h => by first | exact hSN.symm | exact absurd h (by omega), fun h => by first | exact hSN.symm | exact absurd h (by omega), sat_emit HSAR.out hT3 hK3 he3 hg3 HOK4.out HGS4.out, hlz⟩)
                          clear hfj hSN hT3 hK3 he3 hg3 hlz hroz hmoz
                          go_wp2_with fail
                          go_roundw
                          case rel => exact ⟨_, _, _, _, _, _, HX.out, rfl, rfl, rfl, rfl, rfl, rfl⟩
                          case measure => simp [intOf]
              · obtain rfl := hk2 rfl
                have HX := Lib.hid (show TkRel w base V6 V7 V9 V10 B FS l E N (.int .i64 ((t : Int) + 1)) wr from ⟨t + 1, Sk, T, K, x, u, gl, hlt, by simp, by
                  show (runS FS l t).bind (tickS FS l t) = some Sk
                  rw [HS.out]
                  exact HS'.out, ⟨hsa.T, hsa.K, hsa.e, hsa.g, hsa.ok, hsa.gs, fun j hj => by have := hsa.gl j hj; unfold mT at this; rw [if_pos hj] at this; exact this⟩, hls⟩)
                clear hsa hls hk0 hk1
                go_wp2_with fail
                go_roundw
                case rel => exact HX.out
                case measure => simp [intOf]; omega
        · obtain rfl : t = N := by omega
          have hti : ¬ (t : Int) < (t : Int) := by omega
          obtain ⟨Au0, cu0, hu0, _⟩ := own_rd (hls.a.rows 0 (by omega)).1
          obtain ⟨Au1, cu1, hu1, _⟩ := own_rd (hls.a.rows 1 (by omega)).1
          have HU0 := Lib.hid hu0
          have HU1 := Lib.hid hu1
          have HS := Lib.hid hS
          have HSA := Lib.hid hsa
          have HNE6 := Lib.hid hls.ne
          have HLS := Lib.hid hls
          clear hu0 hu1 hS hsa hls
          go_upto_region 37 with (fail)
          refine wp_region_invK 9 (SetJ (fun idx => ([some (.agg #[.slice Au0 (gl 0).length cu0, .slice Au1 (gl 1).length cu1]), some (.pointer (some ⟨V9, 0, none⟩)), some (.pointer (some ⟨E 0, 0, none⟩)), some (.int .i64 ((x 0).ws.length : Int)), some (.pointer (some ⟨V9, 1, none⟩)), some (.pointer (some ⟨E 1, 0, none⟩)), some (.int .i64 ((x 1).ws.length : Int)), some (.agg #[.int .i64 ((x 0).ws.length : Int), .int .i64 ((x 1).ws.length : Int)]), none] : List (Option Value)).getD idx none) [] 8 99 (fun p _ W => ResQ w base V6 V7 V9 V10 B FS T K E x u gl (.slice Au0 (gl 0).length cu0) (.slice Au1 (gl 1).length cu1) p false W)) (by kernel_rfl) (by kernel_rfl) (SetJ.start (ResQ.lasts false false _ _ ⟨HLS.out.b6, HLS.out.b7, HLS.out.a, HLS.out.bel⟩ (Below.refl _ _).drew)) ?_ ?_
          · intro i9 o hi ho s vs W hJ hs9 hdep
            have hE := hJ.q.2.2.1
            rcases i9 with _ | _ | _ | _ | _ | _ | _ | _ | _ | i9
            all_goals first | omega | skip
            all_goals (simp only [List.getElem?_cons_succ, List.getElem?_cons_zero, Option.some.injEq] at ho; subst ho)
            · refine StepJ.val (v := .agg #[.slice Au0 (gl 0).length cu0, .slice Au1 (gl 1).length cu1]) rfl ?_ (hJ.same (by omega) (by omega) (by simp) rfl)
              have y0 : W.cell? ⟨V10, 0, none⟩ = some (.slice Au0 (gl 0).length cu0) := (hE.got.cell 0 _ rfl).trans (congrArg some HU0.out)
              have y1 : W.cell? ⟨V10, 1, none⟩ = some (.slice Au1 (gl 1).length cu1) := (hE.got.cell 1 _ rfl).trans (congrArg some HU1.out)
              have y2 := hE.arr.cell 0 _ rfl
              have y3 := hE.arr.cell 1 _ rfl
              clear hJ hdep hE
              unfold lexA
              simp only [putAll, preI, Nat.reduceLT, Nat.reduceAdd, decide_false, Bool.false_eq_true, if_false]
              go_simp
            · refine StepJ.val (v := .pointer (some ⟨V9, 0, none⟩)) rfl ?_ (hJ.same (by omega) (by omega) (by simp) rfl)
              clear hJ hdep hE
              unfold lexA
              simp only [putAll, preI, Nat.reduceLT, Nat.reduceAdd, decide_true, decide_false, Bool.false_eq_true, if_true, if_false, Act.put, List.setIfInBounds_toArray, List.set_cons_zero, List.set_cons_succ]
              go_simp
            · have d1 : vs 1 = .pointer (some ⟨V9, 0, none⟩) := hJ.dt 1 _ (hdep ⟨1, .data⟩ (by simp) rfl) rfl
              refine StepJ.val (v := .pointer (some ⟨E 0, 0, none⟩)) rfl ?_ (hJ.same (by omega) (by omega) (by simp) rfl)
              have y0 : W.cell? ⟨V10, 0, none⟩ = some (.slice Au0 (gl 0).length cu0) := (hE.got.cell 0 _ rfl).trans (congrArg some HU0.out)
              have y1 : W.cell? ⟨V10, 1, none⟩ = some (.slice Au1 (gl 1).length cu1) := (hE.got.cell 1 _ rfl).trans (congrArg some HU1.out)
              have y2 := hE.arr.cell 0 _ rfl
              have y3 := hE.arr.cell 1 _ rfl
              clear hJ hdep hE
              unfold lexA
              simp only [putAll, preI, Nat.reduceLT, Nat.reduceAdd, decide_true, decide_false, Bool.false_eq_true, if_true, if_false, Act.put, List.setIfInBounds_toArray, List.set_cons_zero, List.set_cons_succ]
              go_simp
            · have d2 : vs 2 = .pointer (some ⟨E 0, 0, none⟩) := hJ.dt 2 _ (hdep ⟨2, .data⟩ (by simp) rfl) rfl
              refine StepJ.call rfl ?_ ((waits_any (hE.ends 0 (by omega))).mono fun e W' ⟨he, hb⟩ => ⟨_, he, hJ.callv ResQ.lasts (by omega) (by omega) (by simp) rfl hb⟩)
              clear hJ hdep hE
              unfold lexA
              simp only [putAll, preI, Nat.reduceLT, Nat.reduceAdd, decide_true, decide_false, Bool.false_eq_true, if_true, if_false, Act.put, List.setIfInBounds_toArray, List.set_cons_zero, List.set_cons_succ]
              go_simp
            · refine StepJ.val (v := .pointer (some ⟨V9, 1, none⟩)) rfl ?_ (hJ.same (by omega) (by omega) (by simp) rfl)
              clear hJ hdep hE
              unfold lexA
              simp only [putAll, preI, Nat.reduceLT, Nat.reduceAdd, decide_true, decide_false, Bool.false_eq_true, if_true, if_false, Act.put, List.setIfInBounds_toArray, List.set_cons_zero, List.set_cons_succ]
              go_simp
            · have d4 : vs 4 = .pointer (some ⟨V9, 1, none⟩) := hJ.dt 4 _ (hdep ⟨4, .data⟩ (by simp) rfl) rfl
              refine StepJ.val (v := .pointer (some ⟨E 1, 0, none⟩)) rfl ?_ (hJ.same (by omega) (by omega) (by simp) rfl)
              have y0 : W.cell? ⟨V10, 0, none⟩ = some (.slice Au0 (gl 0).length cu0) := (hE.got.cell 0 _ rfl).trans (congrArg some HU0.out)
              have y1 : W.cell? ⟨V10, 1, none⟩ = some (.slice Au1 (gl 1).length cu1) := (hE.got.cell 1 _ rfl).trans (congrArg some HU1.out)
              have y2 := hE.arr.cell 0 _ rfl
              have y3 := hE.arr.cell 1 _ rfl
              clear hJ hdep hE
              unfold lexA
              simp only [putAll, preI, Nat.reduceLT, Nat.reduceAdd, decide_true, decide_false, Bool.false_eq_true, if_true, if_false, Act.put, List.setIfInBounds_toArray, List.set_cons_zero, List.set_cons_succ]
              go_simp
            · have d5 : vs 5 = .pointer (some ⟨E 1, 0, none⟩) := hJ.dt 5 _ (hdep ⟨5, .data⟩ (by simp) rfl) rfl
              refine StepJ.call rfl ?_ ((waits_any (hE.ends 1 (by omega))).mono fun e W' ⟨he, hb⟩ => ⟨_, he, hJ.callv ResQ.lasts (by omega) (by omega) (by simp) rfl hb⟩)
              clear hJ hdep hE
              unfold lexA
              simp only [putAll, preI, Nat.reduceLT, Nat.reduceAdd, decide_true, decide_false, Bool.false_eq_true, if_true, if_false, Act.put, List.setIfInBounds_toArray, List.set_cons_zero, List.set_cons_succ]
              go_simp
            · have d3 : vs 3 = .int .i64 ((x 0).ws.length : Int) := hJ.dt 3 _ (hdep ⟨3, .data⟩ (by simp) rfl) rfl
              have d6 : vs 6 = .int .i64 ((x 1).ws.length : Int) := hJ.dt 6 _ (hdep ⟨6, .data⟩ (by simp) rfl) rfl
              refine StepJ.val (v := .agg #[.int .i64 ((x 0).ws.length : Int), .int .i64 ((x 1).ws.length : Int)]) rfl ?_ (hJ.same (by omega) (by omega) (by simp) rfl)
              clear hJ hdep hE
              unfold lexA
              simp only [putAll, preI, Nat.reduceLT, Nat.reduceAdd, decide_true, decide_false, Bool.false_eq_true, if_true, if_false, Act.put, List.setIfInBounds_toArray, List.set_cons_zero, List.set_cons_succ]
              go_simp
            · have d0 : vs 0 = .agg #[.slice Au0 (gl 0).length cu0, .slice Au1 (gl 1).length cu1] := hJ.dt 0 _ (hdep ⟨0, .data⟩ (by simp) rfl) rfl
              have hq := hJ.q
              rw [hs9] at hq
              have r0 : W.cell? ⟨V6, 0, none⟩ = some (.slice none 0 0) := hq.1.cell 0 _ rfl
              have r1 : W.cell? ⟨V6, 1, none⟩ = some (.slice none 0 0) := hq.1.cell 1 _ rfl
              have rf := fun i => hq.1.free i
              refine StepJ.skip (W' := (W.setCell ⟨V6, 0, none⟩ (.slice Au0 (gl 0).length cu0)).setCell ⟨V6, 1, none⟩ (.slice Au1 (gl 1).length cu1)) rfl ?_ (hJ.set1 (by omega) (by simp) rfl (hq.store HNE6.out (by have := HLO.out; have := HBASE.out; omega)))
              clear hJ hdep hE hq
              unfold lexA
              simp only [putAll, preI, Nat.reduceLT, Nat.reduceAdd, decide_true, decide_false, Bool.false_eq_true, if_true, if_false, Act.put, List.setIfInBounds_toArray, List.set_cons_zero, List.set_cons_succ]
              go_simp
          · intro s vs W hall hJ
            have hq := hJ.q
            rw [hall 8 (by omega)] at hq
            have d7 : vs 7 = .agg #[.int .i64 ((x 0).ws.length : Int), .int .i64 ((x 1).ws.length : Int)] := hJ.dt 7 _ (hall 7 (by omega)) rfl
            have r0 := hq.2.1.cell 0 _ rfl
            have r1 := hq.2.1.cell 1 _ rfl
            have rf := fun i => hq.2.1.free i
            have HQ := Lib.hid hq
            clear hJ hall hq
            unfold lexA
            simp only [putAll, preI, Nat.reduceLT, Nat.reduceAdd, decide_true, decide_false, Bool.false_eq_true, if_true, if_false, Act.put, List.setIfInBounds_toArray, List.set_cons_zero, List.set_cons_succ, List.drop_succ_cons, List.drop_zero]
            rw [d7]
            go_wp2_with fail
            have hq := HQ.out
            have hm : Mod (fun k => k = V7) W ((W.setCell ⟨V7, 0, none⟩ (.int .i64 ((x 0).ws.length : Int))).setCell ⟨V7, 1, none⟩ (.int .i64 ((x 1).ws.length : Int))) := ((Mod.refl (fun k => k = V7) W).set (g := V7) (fun _ => rfl) 0 _).set (g := V7) (fun _ => rfl) 1 _
            have k6 : Blk W V6 61 #[.slice Au0 (gl 0).length cu0, .slice Au1 (gl 1).length cu1] := hq.1
            have k6' := hm.blk k6 (fun e => by
              subst e
              exact absurd (blk_type k6 hq.2.1) (by decide))
            have k7' : Blk ((W.setCell ⟨V7, 0, none⟩ (.int .i64 ((x 0).ws.length : Int))).setCell ⟨V7, 1, none⟩ (.int .i64 ((x 1).ws.length : Int))) V7 62 #[.int .i64 ((x 0).ws.length : Int), .int .i64 ((x 1).ws.length : Int)] := by
              have := (hq.2.1.set 0 (.int .i64 ((x 0).ws.length : Int))).set 1 (.int .i64 ((x 1).ws.length : Int))
              simpa using this
            have hat := hq.2.2.1.res hq.2.1 (by decide) (fun e => by
              have h1 := hq.2.1
              rw [e] at h1
              exact absurd (blk_type h1 hq.2.2.1.got) (by decide)) hm
            have hb9 : Below base w _ := hq.2.2.2.trans (hm.below (fun g hg e => by have := HLO.out; have := HBASE.out; omega) hq.2.2.1.blo)
            clear r0 r1 rf
            generalize (W.setCell ⟨V7, 0, none⟩ (.int .i64 ((x 0).ws.length : Int))).setCell ⟨V7, 1, none⟩ (.int .i64 ((x 1).ws.length : Int)) = W9 at k6' k7' hat hb9 ⊢
            refine bodyPost_ret (results_cells_three Try.results24 _ _ V6 V7 _ _ _ _ (.bool true) rfl rfl rfl k6' k7' Try.underlying61 rfl (by kernel_rfl) Try.underlying62 rfl (by kernel_rfl)) rfl ?_
            refine ⟨S, u, gl, HS.out, by rw [HU0.out, HU1.out, ← HSA.out.e 0 (by omega), ← HSA.out.e 1 (by omega)]; simp [ME.abs], fun i hi => ?_, ?_⟩
            · rw [← HBASE.out]
              exact ⟨(hat.rows i hi).1, (hat.rows i hi).2, HSA.out.g i hi⟩
            · rw [← HBASE.out]
              exact hb9
end Go.Proofs.Ytpnefacignalpaa
