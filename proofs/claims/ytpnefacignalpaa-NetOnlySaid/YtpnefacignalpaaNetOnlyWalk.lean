/- NetOnly's walk: it returns true. Conditions: those typed. -/
import Derived.Test.YtpnefacignalpaaPlainN
import Derived.Test.YtpnefacignalpaaMapI
import Derived.Test.YtpnefacignalpaaFaultArg
import Derived.Test.YtpnefacignalpaaIn
import Derived.Carry
namespace Go.Proofs.Ytpnefacignalpaa.netOnly
open Go.RowKit Go.Gy
set_option linter.unusedVariables false
set_option linter.unusedSimpArgs false
def sentF (lim : Nat) (c : Int) : Option Int := if 0 ≤ c ∧ c < (lim : Int) then some c else none
/-- what is on its way (K), what is being received (X), what has been (G): no message more than twice -/
structure OInv (lim : Nat) (K : List AK) (X : List GMsg) (G : Int → Nat) (ng : Nat) : Prop where
  k : ∀ k ∈ K, 0 ≤ k.2.seq ∧ k.2.seq < (lim : Int) ∧ k.2.seq + 1 ≤ k.1
  x : ∀ m ∈ X, 0 ≤ m.seq ∧ m.seq < (lim : Int)
  cnt : ∀ c : Int, G c + X.countP (fun m => decide (m.seq = c)) + K.countP (fun k => decide (k.2.seq = c)) ≤ 2
  dom : ∀ c : Int, G c ≠ 0 → 0 ≤ c ∧ c < (lim : Int)
  num : ng + X.length + K.length ≤ 2 * lim
theorem split_perm (p : AK → Bool) (K : List AK) : (K.filter p ++ K.filter (fun k => !p k)).Perm K := by
  have h := filter_or p (fun k => !p k) (fun _ => true) K (fun x _ => ⟨by cases p x <;> rfl, fun ⟨h1, h2⟩ => by rw [h1] at h2; cases h2⟩)
  rwa [List.filter_eq_self.2 (fun _ _ => rfl)] at h
theorem OInv.take {lim ng : Nat} {K : List AK} {G : Int → Nat} {t rcv : Int} (h : OInv lim K [] G ng) (hok : KOk K) : OInv lim (restL K t rcv) ((takeL K t rcv).map (·.2)) G ng ∧ ∀ m ∈ (takeL K t rcv).map (·.2), m.seq + 1 ≤ t := by
  have hf := hok.filter (goesB t rcv)
  have p1 : (takeL K t rcv).Perm (K.filter (goesB t rcv)) := dueSort_perm (fun x hx => ⟨(hf.2 x hx).1, by have := (hf.2 x hx).2.1; omega⟩)
  have p2 : (takeL K t rcv ++ restL K t rcv).Perm K := (p1.append_right _).trans (split_perm _ K)
  have hm : ∀ k ∈ takeL K t rcv, k ∈ K ∧ goesB t rcv k = true := fun k hk => List.mem_filter.1 (p1.mem_iff.1 hk)
  refine ⟨⟨fun k hk => h.k k (List.mem_filter.1 hk).1, fun m hm' => ?_, fun c => ?_, h.dom, ?_⟩, fun m hm' => ?_⟩
  · obtain ⟨k, hk, rfl⟩ := List.mem_map.1 hm'
    have := h.k k (hm k hk).1
    exact ⟨this.1, this.2.1⟩
  · have h1 := h.cnt c
    have h2 := p2.countP_eq (fun k => decide (k.2.seq = c))
    rw [List.countP_append] at h2
    rw [List.countP_map]
    have e : ((fun m : GMsg => decide (m.seq = c)) ∘ fun k : AK => k.2) = fun k : AK => decide (k.2.seq = c) := rfl
    rw [e]
    simp only [List.countP_nil] at h1
    omega
  · have h1 := h.num
    have h2 := p2.length_eq
    rw [List.length_append] at h2
    rw [List.length_map]
    simp only [List.length_nil] at h1
    omega
  · obtain ⟨k, hk, rfl⟩ := List.mem_map.1 hm'
    have h1 := h.k k (hm k hk).1
    have h2 := (hm k hk).2
    unfold goesB at h2
    simp only [Bool.and_eq_true, decide_eq_true_eq] at h2
    omega
theorem OInv.got {lim ng : Nat} {K : List AK} {G : Int → Nat} {m : GMsg} {X : List GMsg} (h : OInv lim K (m :: X) G ng) : G m.seq + 1 ≤ 2 ∧ OInv lim K X (fun c => if c = m.seq then G c + 1 else G c) (ng + 1) := by
  have hc := h.cnt m.seq
  rw [List.countP_cons_of_pos (by simp)] at hc
  refine ⟨by omega, h.k, fun m' hm' => h.x m' (List.mem_cons_of_mem _ hm'), fun c => ?_, fun c hne => ?_, ?_⟩
  · have h1 := h.cnt c
    by_cases e : c = m.seq
    · subst e
      rw [if_pos rfl]
      omega
    · rw [if_neg e]
      rw [List.countP_cons_of_neg (by simp; exact fun h => e h.symm)] at h1
      omega
  · by_cases e : c = m.seq
    · subst e
      exact h.x m (List.mem_cons_self ..)
    · rw [if_neg e] at hne
      exact h.dom c hne
  · have := h.num
    rw [List.length_cons] at this
    omega
theorem OInv.send {lim ng : Nat} {K : List AK} {G : Int → Nat} {m : GMsg} {FS : List GF} (h : OInv lim K [] G ng) (hm : m.seq = (lim : Int)) : OInv (lim + 1) (K ++ flightsF FS (lim : Int) m) [] G ng := by
  have hp := planF_le (lim : Int) m.src FS
  refine ⟨fun k hk => ?_, fun m hm => (by cases hm), fun c => ?_, fun c hne => ?_, ?_⟩
  · rcases List.mem_append.1 hk with hk | hk
    · have := h.k k hk; omega
    · obtain rfl := List.eq_of_mem_replicate hk
      simp only
      omega
  · have h1 := h.cnt c
    rw [List.countP_append]
    unfold flightsF
    rw [List.countP_replicate]
    by_cases e : c = (lim : Int)
    · have hG : G c = 0 := by
        rcases Nat.eq_zero_or_pos (G c) with h2 | h2
        · exact h2
        · have := h.dom c (by omega); omega
      have hK : K.countP (fun k => decide (k.2.seq = c)) = 0 := by
        rw [List.countP_eq_zero]
        intro k hk
        have := h.k k hk
        simp
        omega
      rw [hG, hK]
      simp only [List.countP_nil]
      split <;> omega
    · rw [if_neg (by simp [hm]; exact fun h => e h.symm)]
      omega
  · have := h.dom c hne; omega
  · have := h.num
    rw [List.length_append, flightsF_len]
    simp only [List.length_nil] at this ⊢
    omega
/-- the net, the two maps -/
structure OSt (w : World) (B bs bg : Nat) (FS : List GF) (lim : Nat) (Tm : Int) (K : List AK) (G : Int → Nat) (ng : Nat) (W : World) : Prop where
  net : ∃ T v, T ≤ Tm ∧ NetAt W w.heap.size B FS T v K
  sent : IntM W bs lim (sentF lim)
  got : ∃ fg, IntM W bg ng fg ∧ ∀ c, (fg c).getD 0 = (G c : Int)
  ne : bs ≠ bg ∧ w.heap.size ≤ bs ∧ w.heap.size ≤ bg
  bel : Below w.heap.size w W
theorem OSt.mod {w W W' : World} {B bs bg : Nat} {FS : List GF} {lim : Nat} {Tm : Int} {K K' : List AK} {G : Int → Nat} {ng : Nat} {F : Nat → Prop} (h : OSt w B bs bg FS lim Tm K G ng W) (hm : Mod F W W') (hnet : ∃ T v, T ≤ Tm ∧ NetAt W' w.heap.size B FS T v K') (hF : ∀ g, F g → ∃ t cs, Blk W g t cs) (hlo : ∀ g, F g → w.heap.size ≤ g) : OSt w B bs bg FS lim Tm K' G ng W' := by
  obtain ⟨_, h2, ⟨fg, h3, h4⟩, h5, h6⟩ := h
  exact ⟨hnet, h2.keep (hm.block bs h2.lt (fun hf => by obtain ⟨t, cs, hk⟩ := hF bs hf; exact h2.noblk hk)), ⟨fg, h3.keep (hm.block bg h3.lt (fun hf => by obtain ⟨t, cs, hk⟩ := hF bg hf; exact h3.noblk hk)), h4⟩, h5, h6.trans (hm.below (fun k hk hf => by have := hlo k hf; omega) h6.size)⟩
theorem OSt.below {w W W' : World} {B bs bg : Nat} {FS : List GF} {lim : Nat} {Tm : Int} {K : List AK} {G : Int → Nat} {ng : Nat} (h : OSt w B bs bg FS lim Tm K G ng W) (hb : Below W.heap.size W W') : OSt w B bs bg FS lim Tm K G ng W' := by
  obtain ⟨T, v, h1, h2⟩ := h.net
  exact h.mod (F := fun _ => False) (Mod.of_below hb) ⟨T, v, h1, h2.below hb⟩ (fun g hf => hf.elim) (fun g hf => hf.elim)
theorem OSt.take {w W W' : World} {B bs bg : Nat} {FS : List GF} {lim : Nat} {Tm tick rcv : Int} {K : List AK} {G : Int → Nat} {ng : Nat} {e : Ending} (h : OSt w B bs bg FS lim Tm K G ng W) {T : Int} {v : Value} (hT : T ≤ Tm) (hN : NetAt W w.heap.size B FS T v K) (hp : TakePost W w.heap.size B FS T K tick rcv e W') :
    ∃ A c, ∃ Ls : List SM, e = .returned (.slice A Ls.length c) ∧ Ls.map (·.m) = (takeL K tick rcv).map (·.2) ∧ W'.ownsRow w.heap.size 43 6 (.slice A Ls.length c) Ls.length (Ls.flatMap encM) ∧ OSt w B bs bg FS lim Tm (restL K tick rcv) G ng W' := by
  obtain ⟨out, Ls, v', rfl, h1, h2, h3, h4, h5, h6⟩ := hp
  obtain ⟨A, c, rfl, _⟩ := own_rd h2
  have hB := hN.lo
  obtain ⟨_, _, Af, nf, cf, ks, _, hk, _⟩ := hN
  exact ⟨A, c, Ls, rfl, h1, own_mono h2 h.bel.size, h.mod h6 ⟨T, v', hT, h4⟩ (fun g e => by subst e; exact ⟨_, _, hk⟩) (fun g e => by subst e; exact hB)⟩
theorem OSt.send {w W W' : World} {B bs bg : Nat} {FS : List GF} {lim : Nat} {Tm : Int} {K : List AK} {G : Int → Nat} {ng t : Nat} {m : GMsg} {e : Ending} (h : OSt w B bs bg FS lim Tm K G ng W) (ht : t < 40) {T : Int} {v : Value} (hT : T ≤ (t : Int)) (hN : NetAt W w.heap.size B FS T v K) (hm : msgF m = 0) (hK : K.length ≤ 80) (hp : SendPost W w.heap.size B FS T v K (t : Int) m e W') :
    e = .returned (.int .i64 0) ∧ OSt w B bs bg FS lim (t : Int) (K ++ flightsF FS (t : Int) m) G ng W' := by
  obtain ⟨v', rfl, h4, h6, h7⟩ := hp
  have hpl := planF_le (t : Int) m.src FS
  have h0 : sendC FS T K (t : Int) m = 0 := by
    unfold sendC
    rw [if_neg (by omega), if_neg (by omega), if_neg (by rw [hm]; simp), if_neg (by rw [flightsF_len]; omega)]
  have hB := hN.lo
  have hvl := hN.vlt
  obtain ⟨_, _, Af, nf, cf, ks, _, hk, _, _, hv, _⟩ := id hN
  unfold sendT sendK at h4
  rw [h0, if_pos rfl, if_pos rfl] at h4
  refine ⟨by rw [h0]; rfl, ?_⟩
  obtain ⟨_, k2, k3, k5, k6⟩ := h
  have h' : OSt w B bs bg FS lim (t : Int) K G ng W := ⟨⟨T, v, hT, hN⟩, k2, k3, k5, k6⟩
  refine h'.mod h6 ⟨t, v', Int.le_refl _, h4⟩ (fun g hf => ?_) (fun g hf => ?_)
  · rcases hf with rfl | hf
    · exact ⟨_, _, hk⟩
    · obtain ⟨cs, hk'⟩ := own_blk hv hf
      exact ⟨_, cs, hk'⟩
  · rcases hf with rfl | hf
    · exact hB
    · exact (hvl g hf).1
theorem beat_ok (a b n : Int) (ha : 0 ≤ a ∧ a ≤ 4) (hb : 0 ≤ b ∧ b ≤ 4) (hab : a ≠ b) (hn : 0 ≤ n ∧ n ≤ 1000) : msgF ⟨3, a, b, n, 0, []⟩ = 0 := by
  have h0 : msgF0 ⟨3, a, b, n, 0, []⟩ = 0 := by
    unfold msgF0
    simp only
    rw [if_neg (by omega), if_neg (by omega), if_neg (by omega), if_neg (by simp)]
  unfold msgF
  rw [if_pos h0]
  rfl
theorem OSt.map {w W W' : World} {B bs bg b : Nat} {FS : List GF} {lim lim' : Nat} {Tm : Int} {K : List AK} {G G' : Int → Nat} {ng ng' : Nat} (h : OSt w B bs bg FS lim Tm K G ng W) (hg : W.grownBy W' (some b)) (hb : b = bs ∨ b = bg) (h1 : IntM W' bs lim' (sentF lim')) (h2 : ∃ fg, IntM W' bg ng' fg ∧ ∀ c, (fg c).getD 0 = (G' c : Int)) : OSt w B bs bg FS lim' Tm K G' ng' W' := by
  obtain ⟨⟨T, v, hT, hN⟩, k2, ⟨fg, k3, k4⟩, k5, k6⟩ := h
  have hno : ∀ (t : TypeId) (cs : Array Value), ¬ Blk W b t cs := fun t cs hk => by
    rcases hb with rfl | rfl
    · exact k2.noblk hk
    · exact k3.noblk hk
  have hM := Mod.of_grown hg
  refine ⟨⟨T, v, hT, hN.keep hM (fun g t cs hk hf => by
    have := Option.some.inj hf
    subst this
    exact absurd hk (hno t cs))⟩, h1, h2, k5, k6.trans (hM.below (fun k hk hf => by
    have := Option.some.inj hf
    rcases hb with rfl | rfl <;> omega) k6.size)⟩
theorem sentF_next (lim : Nat) : (fun d : Int => if d = (lim : Int) then some (lim : Int) else sentF lim d) = sentF (lim + 1) := by
  funext d
  unfold sentF
  by_cases h : d = (lim : Int)
  · subst h
    rw [if_pos rfl, if_pos (by omega)]
  · rw [if_neg h]
    by_cases h2 : 0 ≤ d ∧ d < (lim : Int)
    · rw [if_pos h2, if_pos (by omega)]
    · rw [if_neg h2, if_neg (by omega)]
def ORel (w : World) (B bs bg : Nat) (FS : List GF) (n0 : Nat) (i : Value) (wr : World) : Prop := ∃ (t : Nat) (K : List AK) (G : Int → Nat) (ng : Nat), t ≤ 40 ∧ i = .int .i64 t ∧ OSt w B bs bg FS (min t n0) t K G ng wr ∧ OInv (min t n0) K [] G ng
def TRel (w : World) (B bs bg : Nat) (FS : List GF) (lim t : Nat) (i : Value) (wr : World) : Prop := ∃ (rcv : Nat) (K : List AK) (G : Int → Nat) (ng : Nat), rcv ≤ 5 ∧ i = .int .i64 rcv ∧ OSt w B bs bg FS lim t K G ng wr ∧ OInv lim K [] G ng
def MRel (w : World) (B bs bg : Nat) (FS : List GF) (lim t : Nat) (K : List AK) (A : Option Addr) (c : Nat) (Ls : List SM) (i : Value) (wr : World) : Prop := ∃ (j : Nat) (G : Int → Nat) (ng : Nat), j ≤ Ls.length ∧ i = .int .i64 j ∧ OSt w B bs bg FS lim t K G ng wr ∧ OInv lim K ((Ls.map (·.m)).drop j) G ng ∧ wr.ownsRow w.heap.size 43 6 (.slice A Ls.length c) Ls.length (Ls.flatMap encM)
set_option maxRecDepth 100000 in
set_option maxHeartbeats 8000000 in
theorem walk (v0 v1 : Value) (w : World) {b0 b1 : Nat} (f0 : SlArg Go.Gy.encF wfF 3 24 w v0 b0) (f1 : IntsArg w v1 b1) :
    Calls Try.prog 4 #[v0, v1] w fun e w' => e = .returned (.bool true) ∧ Below w.heap.size w w' := by
  obtain ⟨Af, nf, cf, FS, rfl, hFl, _, _, hFr, _, hFn, hFd, _⟩ := f0
  obtain ⟨l, ⟨A0, n0, c0, rfl, hl0, _, _, hr0⟩, hin, _, _⟩ := f1
  have HL := Lib.hid (show ∀ W, Below w.heap.size w W → Rd W w.heap.size 1 A0 n0 (l.map iv) from fun W hW => hr0.below hW)
  have HIN := Lib.hid hin
  have HNEW := Lib.hid (netnew_any w Af nf cf FS (fun h => ⟨by have := hFn h; omega, hFn h⟩) hFl (by unfold reachBytes at *; omega) hFd)
  clear hr0 hl0 hin hFl hFr hFn hFd
  go_enter Try.func4, Try.ntmps4
  go_wp2_with fail
  refine HNEW.out.mono ?_
  rintro e w1 ⟨B, rfl, hN1, hb1⟩
  have HN1 := Lib.hid hN1
  have HB1 := Lib.hid hb1
  have HBT := Lib.hid (fun W => beat_any W 0 1 1)
  clear hN1 hb1 HNEW
  go_wp2_with fail
  refine (HBT.out _).mono ?_
  rintro e w2 ⟨rfl, hb2⟩
  have hN2 := HN1.out.below hb2
  have hB2 := HB1.out.trans (hb2.mono HB1.out.size)
  have hS := send_any w2 w.heap.size B FS 0 _ [] hN2 hB2.size (-1) (beatG 0 1 1) none 0 0 ⟨rfl, Nat.le_refl _, fun _ => ⟨rfl, rfl⟩, by omega, ⟨rfl, fun h => absurd h (Nat.lt_irrefl 0)⟩⟩ (fun h => absurd h (Nat.lt_irrefl 0))
  have HS := Lib.hid hS
  have HB2 := Lib.hid hB2
  clear hb2 hN2 hB2 hS HBT
  go_wp2_with fail
  refine HS.out.mono ?_
  rintro e w3 ⟨v3, rfl, hN3, hm3, _⟩
  have hc : sendC FS 0 [] (-1) (beatG 0 1 1) = 1 := by unfold sendC; rw [if_pos (.inl (by decide))]
  unfold sendT sendK at hN3
  rw [hc, if_neg (by decide), if_neg (by decide)] at hN3
  rw [hc]
  have HN3 := Lib.hid hN3
  have HB3 := Lib.hid (HB2.out.trans (hm3.below (fun k hk hf => by
    rcases hf with hf | hf
    · have := HN1.out.lo; omega
    · cases hf) HB2.out.size))
  clear hN3 hm3 hc HS HB2
  have hmm := @run_makeMap Try.prog
  go_upto_region 6 with (fail)
  have hz3 := HB3.out.size
  have hm1 := IntM.made w3
  have hb1 : Below w3.heap.size w3 (w3.alloc (.map #[] 0)) := (Below.refl _ _).alloc (Nat.le_refl _) _
  have hm2 := IntM.made (w3.alloc (.map #[] 0))
  have hb2 : Below (w3.alloc (.map #[] 0)).heap.size (w3.alloc (.map #[] 0)) ((w3.alloc (.map #[] 0)).alloc (.map #[] 0)) := (Below.refl _ _).alloc (Nat.le_refl _) _
  have hm1' := hm1.below hb2 hm1.lt
  have hst := Lib.hid (show ORel w B w3.heap.size (w3.alloc (.map #[] 0)).heap.size FS n0 (.int .i64 0) ((w3.alloc (.map #[] 0)).alloc (.map #[] 0)) from ⟨0, [], fun _ => 0, 0, by omega, rfl, ⟨⟨0, v3, by omega, (HN3.out.below hb1).below hb2⟩, by
    rw [show min 0 n0 = 0 by omega]
    exact hm1'.congr (fun c => if_neg (by omega)), ⟨_, hm2, fun c => rfl⟩, ⟨by simp, hz3, by simp; omega⟩, (HB3.out.trans (hb1.mono hz3)).trans (hb2.mono (by simp; omega))⟩, ⟨fun k hk => (by cases hk), fun m hm => (by cases hm), fun c => by simp, fun c h => absurd rfl h, by simp⟩⟩)
  simp only [World.size_alloc] at hst ⊢
  obtain ⟨bs, hbs⟩ : ∃ bs, bs = w3.heap.size := ⟨_, rfl⟩
  obtain ⟨bg, hbg⟩ : ∃ bg, bg = w3.heap.size + 1 := ⟨_, rfl⟩
  rw [← hbg, ← hbs] at hst ⊢
  generalize (w3.alloc (.map #[] 0)).alloc (.map #[] 0) = w4 at hst ⊢
  clear hbs hbg hm1 hm1' hm2 hb1 hb2 hz3 HN3 HB3 HN1 HB1 hmm
  go_wp2_with fail
  go_loopw [27] (fun i wr => ORel w B bs bg FS n0 i wr) (fun i _ => 40 - (intOf i).toNat)
  case atStart => exact hst.out
  case round =>
    clear hst
    obtain ⟨t, K, G, ng, ht, rfl, hS, hI⟩ := hrel
    by_cases ht4 : t < 40
    · have hti : (t : Int) < 40 := by omega
      have hwt : IntKind.i64.wrap ((t : Int) + 1) = (t : Int) + 1 := by rw [IntKind.wrap_i64]; omega
      go_upto_region 9 with (fail)
      go_cut [33] (fun q wx => (∃ Bo, q = .bool Bo ∧ Hid (Bo = decide (t < n0))) ∧ wx = wr)
      case first => as_aux_lemma =>
        by_cases c1 : t < n0
        · have c1' : (t : Int) < (n0 : Int) := by omega
          have hB := Lib.hid (show true = decide (t < n0) by simp [c1])
          clear hS hI
          go_wp2_with fail
          go_meet
          exact ⟨⟨_, rfl, hB⟩, rfl⟩
        · have c1' : ¬ (t : Int) < (n0 : Int) := by omega
          have hB := Lib.hid (show false = decide (t < n0) by simp [c1])
          clear hS hI
          go_wp2_with fail
          go_meet
          exact ⟨⟨_, rfl, hB⟩, rfl⟩
      case rest =>
        obtain ⟨⟨Bo, rfl, HBo⟩, hwx⟩ := hcut
        obtain rfl : wr = wc := hwx.symm
        have HS := Lib.hid hS
        have HI := Lib.hid hI
        clear hS hI
        go_upto_if 33 with (fail)
        go_cut [] (fun wx => ∃ K G ng, OSt w B bs bg FS (min (t + 1) n0) t K G ng wx ∧ OInv (min (t + 1) n0) K [] G ng)
        case first =>
          cases Bo
          · as_aux_lemma =>
            have hc := of_decide_eq_false HBo.out.symm
            have hX := Lib.hid (show ∃ K G ng, OSt w B bs bg FS (min (t + 1) n0) t K G ng wr ∧ OInv (min (t + 1) n0) K [] G ng from ⟨K, G, ng, by rw [show min (t + 1) n0 = min t n0 by omega]; exact ⟨HS.out, HI.out⟩⟩)
            clear hc HBo
            go_wp2_with fail
            go_meet
            exact hX.out
          · as_aux_lemma =>
            have hc := of_decide_eq_true HBo.out.symm
            have hq0 : 0 ≤ (t : Int) ∧ (t : Int) < (n0 : Int) := by omega
            obtain ⟨bl, ol, x, rfl, hbl, hx, hcx⟩ := (HL.out wr HS.out.bel).one hc
            have hlim : min t n0 = t := by omega
            have hlim1 : min (t + 1) n0 = t + 1 := by omega
            have HLM := Lib.hid (And.intro hlim hlim1)
            obtain ⟨a, ha⟩ : ∃ a, x % 5 = a := ⟨_, rfl⟩
            have ha4 : 0 ≤ a ∧ a < 5 := by omega
            obtain ⟨d, hd⟩ : ∃ d, (a + 1) % 5 = d := ⟨_, rfl⟩
            have hd4 : 0 ≤ d ∧ d < 5 ∧ a ≠ d := by omega
            have HAD := Lib.hid (And.intro ha4 hd4)
            have hwa1 : IntKind.i64.wrap (a + 1) = a + 1 := by rw [IntKind.wrap_i64]; omega
            have hB1 := Lib.hid (fun W (_ : Below wr.heap.size wr W) => show Calls Try.prog 15 #[.int .i64 x, .int .i64 5] W (fun e w' => e = .returned (.int .i64 a) ∧ Below W.heap.size W w') from by
              rw [← ha]
              exact (below_any x 5 W (by decide) (by decide)).mono fun e w' h => ⟨h.1, by rw [← h.2]; exact Below.refl _ _⟩)
            have hB2 := Lib.hid (fun W => below_any (a + 1) 5 W (by decide) (by decide))
            rw [hd] at hB2
            have hBT := Lib.hid (fun W (_ : Below wr.heap.size wr W) => show Calls Try.prog 14 #[.int .i64 a, .int .i64 (a + 1), .int .i64 0] W (fun e w' => e = .returned (.agg #[.int .i64 3, .int .i64 a, .int .i64 (a + 1), .int .i64 0, .int .u32 0, .slice none 0 0]) ∧ Below W.heap.size W w') from beat_any W a (a + 1) 0)
            have HCX := Lib.hid (fun W (hW : Below wr.heap.size wr W) => (hW.cell (p := ⟨bl, ol + t, none⟩) (by show bl < _; exact Nat.lt_of_lt_of_le hbl HS.out.bel.size)).trans hcx)
            clear hx hbl hcx ha hd hlim hlim1 hd4 ha4 HBo
            have hI0 := In.start wr
            go_upto_region 10 with (fail)
            refine wp_region_in_float 12 _ 43 #[.int .i64 0, .int .i64 0, .int .i64 0, .int .i64 0, .int .u32 0, .slice none 0 0] hI0 (by kernel_rfl) (by kernel_rfl) rfl ?_
            simp only [List.take_succ_cons, List.take_zero, List.drop_succ_cons, List.drop_zero]
            repeat (first
              | (refine wpSeq_off (by rfl) ?_; try simp only [Act.put, List.setIfInBounds_toArray, List.set_cons_zero, List.set_cons_succ])
              | (refine wpSeq_val (v := ?_) (by rfl) (fun W hS => ?_) ?_
                 rotate_left
                 · (have fx := hS.facts; simp only [factsOf, cellsOf, Nat.zero_add, Nat.reduceAdd] at fx; have fy0 := HCX.out W hS.bel; clear hS; go_simp; first | done | with_reducible rfl)
                 try simp only [Act.put, List.setIfInBounds_toArray, List.set_cons_zero, List.set_cons_succ]))
            refine wpSeq_call (v := .int .i64 a) (by rfl) (fun W hS => ?_) (fun W hS => (hB1.out W hS.bel)) ?_
            · (clear hS; go_simp; done)
            try simp only [Act.put, List.setIfInBounds_toArray, List.set_cons_zero, List.set_cons_succ]
            repeat (first
              | (refine wpSeq_off (by rfl) ?_; try simp only [Act.put, List.setIfInBounds_toArray, List.set_cons_zero, List.set_cons_succ])
              | (refine wpSeq_val (v := ?_) (by rfl) (fun W hS => ?_) ?_
                 rotate_left
                 · (have fx := hS.facts; simp only [factsOf, cellsOf, Nat.zero_add, Nat.reduceAdd] at fx; have fy0 := HCX.out W hS.bel; clear hS; go_simp; first | done | with_reducible rfl)
                 try simp only [Act.put, List.setIfInBounds_toArray, List.set_cons_zero, List.set_cons_succ]))
            refine wpSeq_call (v := .int .i64 a) (by rfl) (fun W hS => ?_) (fun W hS => (hB1.out W hS.bel)) ?_
            · (clear hS; go_simp; done)
            try simp only [Act.put, List.setIfInBounds_toArray, List.set_cons_zero, List.set_cons_succ]
            repeat (first
              | (refine wpSeq_off (by rfl) ?_; try simp only [Act.put, List.setIfInBounds_toArray, List.set_cons_zero, List.set_cons_succ])
              | (refine wpSeq_val (v := ?_) (by rfl) (fun W hS => ?_) ?_
                 rotate_left
                 · (have fx := hS.facts; simp only [factsOf, cellsOf, Nat.zero_add, Nat.reduceAdd] at fx; have fy0 := HCX.out W hS.bel; clear hS; go_simp; first | done | with_reducible rfl)
                 try simp only [Act.put, List.setIfInBounds_toArray, List.set_cons_zero, List.set_cons_succ]))
            refine wpSeq_call (v := .agg #[.int .i64 3, .int .i64 a, .int .i64 (a + 1), .int .i64 0, .int .u32 0, .slice none 0 0]) (by rfl) (fun W hS => ?_) (fun W hS => (hBT.out W hS.bel)) ?_
            · (clear hS; go_simp; done)
            try simp only [Act.put, List.setIfInBounds_toArray, List.set_cons_zero, List.set_cons_succ]
            refine wpSeq_nil ⟨rfl, fun W hS => ?_, fun g W hI => ?_⟩
            · go_simp
            simp only [List.setIfInBounds_toArray, List.set_cons_zero, List.set_cons_succ]
            have hfx := hI.facts
            simp only [factsOf, cellsOf, Nat.zero_add, Nat.reduceAdd] at hfx
            have hfz := fun i => hI.free (k := 0) (i := i) rfl
            have HK := Lib.hid (hI.all6 (a := []) (.int .i64 3) (.int .i64 a) (.int .i64 (a + 1)) (.int .i64 0) (.int .u32 0) (.slice none 0 0))
            clear hI hI0
            go_upto_region 11 with (fail)
            have hK := HK.out
            generalize World.setCell _ _ _ = W2 at hK ⊢
            clear HK hfx hfz
            have hK : In wr [(g, 43, #[.int .i64 3, .int .i64 a, .int .i64 (a + 1), .int .i64 0, .int .u32 0, .slice none 0 0])] W2 := hK
            have hB3 := Lib.hid (fun W (_ : Below wr.heap.size wr W) => show Calls Try.prog 15 #[.int .i64 (a + 1), .int .i64 5] W (fun e w' => e = .returned (.int .i64 d) ∧ Below W.heap.size W w') from (hB2.out W).mono fun e w' h => ⟨h.1, by rw [← h.2]; exact Below.refl _ _⟩)
            refine wp_region_in_plain 5 hK ?_
            simp only [List.take_succ_cons, List.take_zero, List.drop_succ_cons, List.drop_zero]
            repeat (first
              | (refine wpSeq_off (by rfl) ?_; try simp only [Act.put, List.setIfInBounds_toArray, List.set_cons_zero, List.set_cons_succ])
              | (refine wpSeq_val (v := ?_) (by rfl) (fun W hS => ?_) ?_
                 rotate_left
                 · (have fx := hS.facts; simp only [factsOf, cellsOf, Nat.zero_add, Nat.reduceAdd] at fx; clear hS; go_simp; first | done | with_reducible rfl)
                 try simp only [Act.put, List.setIfInBounds_toArray, List.set_cons_zero, List.set_cons_succ]))
            refine wpSeq_call (v := .int .i64 d) (by rfl) (fun W hS => ?_) (fun W hS => (hB3.out W hS.bel)) ?_
            · (clear hS; go_simp; done)
            try simp only [Act.put, List.setIfInBounds_toArray, List.set_cons_zero, List.set_cons_succ]
            repeat (first
              | (refine wpSeq_off (by rfl) ?_; try simp only [Act.put, List.setIfInBounds_toArray, List.set_cons_zero, List.set_cons_succ])
              | (refine wpSeq_val (v := ?_) (by rfl) (fun W hS => ?_) ?_
                 rotate_left
                 · (have fx := hS.facts; simp only [factsOf, cellsOf, Nat.zero_add, Nat.reduceAdd] at fx; clear hS; go_simp; first | done | with_reducible rfl)
                 try simp only [Act.put, List.setIfInBounds_toArray, List.set_cons_zero, List.set_cons_succ]))
            refine wpSeq_nil (fun W hS => ?_)
            have hkb := hS.blkAt (k := 0) rfl
            have y2 := hkb.cell 2 _ rfl
            have y3 := hkb.cell 3 _ rfl
            have z2 := hkb.free 2
            have z3 := hkb.free 3
            have k1 : In wr [(g, 43, #[.int .i64 3, .int .i64 a, .int .i64 d, .int .i64 0, .int .u32 0, .slice none 0 0])] (W.setCell ⟨g, 2, none⟩ (.int .i64 d)) := hS.set (a := []) 2 _
            have k2 : In wr [(g, 43, #[.int .i64 3, .int .i64 a, .int .i64 d, .int .i64 (t : Int), .int .u32 0, .slice none 0 0])] ((W.setCell ⟨g, 2, none⟩ (.int .i64 d)).setCell ⟨g, 3, none⟩ (.int .i64 (t : Int))) := k1.set (a := []) 3 _
            have HK := Lib.hid k2
            clear hS hK hkb k1 k2 hwx
            go_upto_region 12 with (fail)
            have hK := HK.out
            generalize World.setCell _ _ _ = W5 at hK ⊢
            have hkb := hK.blkAt (k := 0) rfl
            have hO := HS.out.below hK.bel
            obtain ⟨T, v, hTt, hN⟩ := hO.net
            have HO := Lib.hid hO
            have HN := Lib.hid hN
            have HTT := Lib.hid hTt
            have y0 := hkb.cell 0 _ rfl
            have y1 := hkb.cell 1 _ rfl
            have y2 := hkb.cell 2 _ rfl
            have y3 := hkb.cell 3 _ rfl
            have y4 := hkb.cell 4 _ rfl
            have y5 := hkb.cell 5 _ rfl
            have HSD := Lib.hid (show Calls Try.prog 13 #[.pointer (some ⟨B, 0, none⟩), .int .i64 (t : Int), .agg #[.int .i64 3, .int .i64 a, .int .i64 d, .int .i64 (t : Int), .int .u32 0, .slice none 0 0]] W5 (SendPost W5 w.heap.size B FS T v K t ⟨3, a, d, t, 0, []⟩) from send_any W5 w.heap.size B FS T v K hN hO.bel.size t ⟨3, a, d, t, 0, []⟩ none 0 0 ⟨rfl, Nat.le_refl _, fun _ => ⟨rfl, rfl⟩, by omega, ⟨rfl, fun h => absurd h (Nat.lt_irrefl 0)⟩⟩ (fun h => absurd h (Nat.lt_irrefl 0)))
            clear HK hK hkb hO hN hTt hB1 hB2 hB3 hBT HCX
            go_wp2_with fail
            refine HSD.out.mono ?_
            rintro e w6 hp6
            obtain ⟨rfl, hO6⟩ := HO.out.send ht4 HTT.out HN.out (beat_ok a d t (by have := HAD.out; omega) (by have := HAD.out; omega) HAD.out.2.2.2 (by omega)) (by have := HI.out.num; omega) hp6
            rw [HLM.out.1] at hO6
            have HO6 := Lib.hid hO6
            have HS6 := Lib.hid hO6.sent
            have hI6 := HI.out
            rw [HLM.out.1] at hI6
            have HI6 := Lib.hid (hI6.send (m := ⟨3, a, d, t, 0, []⟩) (FS := FS) rfl)
            clear hp6 hO6 hI6 HSD HO HN HTT y0 y1 y2 y3 y4 y5 HI HS
            go_wp2_with (at_mapUpdate; refine wpList_put_int rfl _ _ _ 45 rfl Try.underlying45 bs t (by unfold maxLen; omega) (sentF t) (t : Int) (t : Int) (WfI.of (by omega)) (WfI.of (by omega)) rfl rfl rfl HS6.out ?_; intro w7 hs7 hg7; have HO7 := Lib.hid (show OSt w B bs bg FS (t + 1) t (K ++ flightsF FS (t : Int) ⟨3, a, d, t, 0, []⟩) G ng w7 from HO6.out.map hg7 (.inl rfl) (by rw [← sentF_next]; exact hs7) (by
              obtain ⟨fg, h1, h2⟩ := HO6.out.got
              exact ⟨fg, h1.keep (hg7.block bg h1.lt (fun e => HO6.out.ne.1 (Option.some.inj e).symm)), h2⟩)); clear hs7 hg7)
            go_meet
            exact ⟨_, G, ng, by rw [HLM.out.2]; exact ⟨HO7.out, HI6.out⟩⟩
        case rest =>
          obtain ⟨K, G, ng, hS, hI⟩ := hcut
          obtain ⟨lim, hlim⟩ : ∃ lim, lim = min (t + 1) n0 := ⟨_, rfl⟩
          rw [← hlim] at hS hI
          have hl41 : lim ≤ 41 := by omega
          have HLIM := Lib.hid hlim
          have hst2 := Lib.hid (show TRel w B bs bg FS lim t (.int .i64 0) wc from ⟨0, K, G, ng, by omega, rfl, hS, hI⟩)
          clear hS hI hlim HS HI HBo hwx
          go_wp2_with fail
          go_loopw [60] (fun i wr => TRel w B bs bg FS lim t i wr) (fun i _ => 5 - (intOf i).toNat)
          case atStart => exact hst2.out
          case round =>
            clear hst2
            obtain ⟨rcv, K, G, ng, hrc, rfl, hS, hI⟩ := hrel
            by_cases hr5 : rcv < 5
            · as_aux_lemma =>
              have hri : (rcv : Int) < 5 := by omega
              have hwr : IntKind.i64.wrap ((rcv : Int) + 1) = (rcv : Int) + 1 := by rw [IntKind.wrap_i64]; omega
              obtain ⟨T, v, hT, hN⟩ := hS.net
              have hok := hN.ok
              obtain ⟨hI2, hX2⟩ := hI.take (t := (t : Int)) (rcv := (rcv : Int)) hok
              have HS := Lib.hid hS
              have HN := Lib.hid hN
              have HT := Lib.hid hT
              have HI2 := Lib.hid hI2
              have HX2 := Lib.hid hX2
              have HTK := Lib.hid (take_any wr w.heap.size B FS T v K hN hS.bel.size t rcv)
              clear hS hN hT hok hI2 hX2 hI
              go_wp2_with fail
              refine HTK.out.mono ?_
              rintro e w8 hp8
              obtain ⟨A, c, Ls, rfl, hLm, hrow, hO8⟩ := HS.out.take HT.out HN.out hp8
              rw [← hLm] at HI2 HX2
              have hLn : Ls.length ≤ 100 := by
                have := HI2.out.num
                rw [List.length_map] at this
                omega
              have hst3 := Lib.hid (show MRel w B bs bg FS lim t (restL K (t : Int) (rcv : Int)) A c Ls (.int .i64 0) w8 from ⟨0, G, ng, Nat.zero_le _, rfl, hO8, by rw [List.drop_zero]; exact HI2.out, hrow⟩)
              clear hp8 hLm hrow hO8 HTK HS HN HT HI2
              go_wp2_with fail
              go_loopw [68] (fun i wr => MRel w B bs bg FS lim t (restL K (t : Int) (rcv : Int)) A c Ls i wr) (fun i _ => Ls.length - (intOf i).toNat)
              case atStart => exact hst3.out
              case round =>
                clear hst3
                obtain ⟨j, G, ng, hj, rfl, hO, hI, hrow⟩ := hrel
                by_cases hlt : j < Ls.length
                · have hji : (j : Int) < (Ls.length : Int) := by omega
                  have hwj : IntKind.i64.wrap ((j : Int) + 1) = (j : Int) + 1 := by rw [IntKind.wrap_i64]; omega
                  obtain ⟨_, _, hse, _, _, hrd⟩ := own_rd hrow
                  injection hse with e1 e2 e3
                  subst e1 e3
                  obtain ⟨bf, of, ⟨⟨mk, ms, mt, mq, mc, ml⟩, Am, nm, cm⟩, rfl, hbB, hg, hcc⟩ := hrd.elem encM_len rfl hlt
                  have x0 : wr.cell? ⟨bf, of + j * 6, none⟩ = some (.int .i64 mk) := hcc 0 _ rfl
                  have x1 : wr.cell? ⟨bf, of + j * 6 + 1, none⟩ = some (.int .i64 ms) := hcc 1 _ rfl
                  have x2 : wr.cell? ⟨bf, of + j * 6 + 2, none⟩ = some (.int .i64 mt) := hcc 2 _ rfl
                  have x3 : wr.cell? ⟨bf, of + j * 6 + 3, none⟩ = some (.int .i64 mq) := hcc 3 _ rfl
                  have x4 : wr.cell? ⟨bf, of + j * 6 + 4, none⟩ = some (.int .u32 mc) := hcc 4 _ rfl
                  have x5 : wr.cell? ⟨bf, of + j * 6 + 5, none⟩ = some (.slice Am nm cm) := hcc 5 _ rfl
                  have hdrop : (Ls.map (·.m)).drop j = ⟨mk, ms, mt, mq, mc, ml⟩ :: (Ls.map (·.m)).drop (j + 1) := by
                    obtain ⟨hj', e⟩ := List.getElem?_eq_some_iff.1 hg
                    rw [List.drop_eq_getElem_cons (by rw [List.length_map]; exact hj'), List.getElem_map, e]
                  rw [hdrop] at hI
                  have hin : (⟨mk, ms, mt, mq, mc, ml⟩ : GMsg) ∈ Ls.map (·.m) := List.mem_map_of_mem (List.mem_of_getElem? hg)
                  have hsq := hI.x _ (List.mem_cons_self ..)
                  have hst := HX2.out _ hin
                  simp only at hsq hst
                  obtain ⟨hg2, hI2⟩ := hI.got
                  simp only at hg2
                  have HI2 := Lib.hid hI2
                  have HWQ := Lib.hid (show WfI mq from WfI.of (by omega))
                  have hge : ¬ (t : Int) ≤ mq := by omega
                  clear hcc hg hdrop hin hI hI2 hrd e2
                  go_upto_region 21 with (fail)
                  have hk3 := Blk.new wr 43 #[.int .i64 mk, .int .i64 ms, .int .i64 mt, .int .i64 mq, .int .u32 mc, .slice Am nm cm]
                  have hb3 : Below wr.heap.size wr (wr.alloc (.cells #[.int .i64 mk, .int .i64 ms, .int .i64 mt, .int .i64 mq, .int .u32 mc, .slice Am nm cm] 43)) := (Below.refl _ _).alloc (Nat.le_refl _) _
                  generalize wr.alloc (.cells #[.int .i64 mk, .int .i64 ms, .int .i64 mt, .int .i64 mq, .int .u32 mc, .slice Am nm cm] 43) = w9 at hk3 hb3 ⊢
                  have y3 := hk3.cell 3 _ rfl
                  have hO9 := hO.below hb3
                  have hr9 := own_below hrow hb3 (Nat.le_refl _)
                  obtain ⟨fg, hg9, hgG⟩ := hO9.got
                  have HS9 := Lib.hid hO9.sent
                  have HG9 := Lib.hid hg9
                  have HO9 := Lib.hid hO9
                  have HR9 := Lib.hid hr9
                  have HK9 := Lib.hid hk3
                  obtain ⟨cq, hcq⟩ : ∃ cq : Nat, cq = G mq := ⟨_, rfl⟩
                  have HGQ := Lib.hid (show (fg mq).getD 0 = (cq : Int) by rw [hcq]; exact hgG mq)
                  have HGG := Lib.hid hgG
                  have hc2 : ¬ (2 : Int) < (cq : Int) + 1 := by omega
                  have hwc : IntKind.i64.wrap ((cq : Int) + 1) = (cq : Int) + 1 := by rw [IntKind.wrap_i64]; omega
                  have HCQ := Lib.hid hcq
                  have hngb : ng < maxLen := by
                    have := HI2.out.num
                    unfold maxLen
                    omega
                  have HSQ := Lib.hid (show sentF lim mq = some mq from if_pos hsq)
                  clear hk3 hb3 x0 x1 x2 x3 x4 x5 hO9 hr9 hg9 hgG hO hrow hcq hsq hst
                  go_wp2_with (first
                    | (at_lookup; refine wpList_look_some rfl _ _ 45 rfl Try.underlying45 bs lim (sentF lim) mq HWQ.out rfl rfl HS9.out mq HSQ.out ?_)
                    | (at_lookup; refine wpList_look_eq rfl _ _ 45 rfl Try.underlying45 bg ng fg mq HWQ.out rfl rfl HG9.out (cq : Int) HGQ.out ?_)
                    | (at_lookup; refine wpList_look_eqW (by rfl) _ _ 45 rfl Try.underlying45 bg (ng + 1) (fun d => if d = mq then some ((cq : Int) + 1) else fg d) mq HWQ.out rfl rfl HGN.out ((cq : Int) + 1) (by simp) ?_)
                    | (at_mapUpdate; refine wpList_put_int rfl _ _ _ 45 rfl Try.underlying45 bg ng hngb fg mq ((cq : Int) + 1) HWQ.out (WfI.of (by omega)) rfl rfl rfl HG9.out ?_; intro w10 hs10 hg10; have HGN := Lib.hid hs10; have HG10 := Lib.hid hg10; have y3 := (((Mod.of_grown hg10).blk HK9.out (fun e => by have e := Option.some.inj e; rw [← e] at HK9; exact HG9.out.noblk HK9.out)).cell 3 _ rfl); clear hs10 hg10))
                  go_roundw
                  case rel =>
                    refine ⟨j + 1, _, ng + 1, hlt, by simp, HO9.out.map HG10.out (.inr rfl) (HO9.out.sent.keep (HG10.out.block bs HO9.out.sent.lt (fun e => HO9.out.ne.1 (Option.some.inj e)))) ⟨_, HGN.out, fun c => ?_⟩, HI2.out, (Mod.of_grown HG10.out).own HR9.out (fun g cs _ hk hf => by
                      have := Option.some.inj hf
                      subst this
                      exact HG9.out.noblk hk)⟩
                    by_cases e : c = mq
                    · subst e
                      have := HCQ.out
                      simp only [if_pos]
                      rw [← this]
                      simp
                    · simp only [if_neg e]
                      exact HGG.out c
                  case measure => simp [intOf]; omega
                · obtain rfl : j = Ls.length := by omega
                  have hji : ¬ (Ls.length : Int) < (Ls.length : Int) := by omega
                  have HX := Lib.hid (show TRel w B bs bg FS lim t (.int .i64 ((rcv : Int) + 1)) wr from ⟨rcv + 1, restL K (t : Int) (rcv : Int), G, ng, by omega, by simp, hO, by
                    rw [List.drop_of_length_le (by rw [List.length_map]; exact Nat.le_refl _)] at hI
                    exact hI⟩)
                  clear hO hI hrow
                  go_wp2_with fail
                  go_roundw
                  case rel => exact HX.out
                  case measure => simp [intOf]; omega
            · obtain rfl : rcv = 5 := by omega
              have hri : ¬ ((5 : Nat) : Int) < 5 := by omega
              have HX := Lib.hid (show ORel w B bs bg FS n0 (.int .i64 ((t : Int) + 1)) wr from ⟨t + 1, K, G, ng, by omega, by simp, by
                rw [← HLIM.out]
                obtain ⟨⟨T, v, h1, h2⟩, k2, k3, k4, k5⟩ := hS
                exact ⟨⟨T, v, by omega, h2⟩, k2, k3, k4, k5⟩, by rw [← HLIM.out]; exact hI⟩)
              clear hS hI
              go_wp2
              go_roundw
              case rel => exact HX.out
              case measure => simp [intOf]; omega
    · obtain rfl : t = 40 := by omega
      have HX := Lib.hid hS.bel
      clear hS hI
      go_wp2
      go_ret
      exact ⟨rfl, HX.out⟩
end Go.Proofs.Ytpnefacignalpaa.netOnly
