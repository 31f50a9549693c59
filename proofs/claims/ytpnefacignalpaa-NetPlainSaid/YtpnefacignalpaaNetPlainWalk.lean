/- NetPlain's walk: it returns true. Conditions: those typed. -/
import Derived.Test.YtpnefacignalpaaPlainN
import Derived.Test.YtpnefacignalpaaAppJ
import Derived.Test.YtpnefacignalpaaDetJ
namespace Go.Proofs.Ytpnefacignalpaa.netPlain
open Go.RowKit Go.Gy
set_option linter.unusedVariables false
set_option linter.unusedSimpArgs false
/-- messages on their way, all due at once, to receivers from lo on; what is wanted of each -/
structure PInv (due lo : Int) (K : List AK) (Ms : List (List GMsg)) : Prop where
  few : K.length ≤ 2
  all : ∀ k ∈ K, k.1 = due ∧ lo ≤ k.2.dst ∧ k.2.dst ≤ 4
  len : Ms.length = 5
  ms : ∀ i : Nat, i < 5 → Ms[i]? = some ((K.filter (fun k => decide (k.2.dst = (i : Int)))).map (·.2))
theorem PInv.take {t lo : Nat} {K : List AK} {Ms : List (List GMsg)} (h : PInv (t : Int) (lo : Int) K Ms) (ht : t < 60) (hl : lo < 5) : takeL K (t : Int) (lo : Int) = K.filter (fun k => decide (k.2.dst = (lo : Int))) := by
  have e : K.filter (goesB (t : Int) (lo : Int)) = K.filter (fun k => decide (k.2.dst = (lo : Int))) := List.filter_congr (fun k hk => by
    unfold goesB
    rw [(h.all k hk).1]
    simp)
  unfold takeL
  rw [e]
  exact dueSort_same (d := (t : Int)) (by omega) (by omega) (fun x hx => (h.all x (List.mem_filter.1 hx).1).1)
theorem PInv.next {t lo : Nat} {K : List AK} {Ms : List (List GMsg)} (h : PInv (t : Int) (lo : Int) K Ms) (hl : lo < 5) : PInv (t : Int) ((lo + 1 : Nat) : Int) (restL K (t : Int) (lo : Int)) (Ms.set lo []) := by
  have e : restL K (t : Int) (lo : Int) = K.filter (fun k => !decide (k.2.dst = (lo : Int))) := List.filter_congr (fun k hk => by
    unfold goesB
    rw [(h.all k hk).1]
    simp)
  refine ⟨Nat.le_trans (List.length_filter_le _ _) h.few, fun k hk => ?_, by rw [List.length_set]; exact h.len, fun i hi => ?_⟩
  · rw [e] at hk
    obtain ⟨hk, hn⟩ := List.mem_filter.1 hk
    have h1 := h.all k hk
    have h2 : k.2.dst ≠ (lo : Int) := by simpa using hn
    exact ⟨h1.1, by omega, h1.2.2⟩
  · rw [List.getElem?_set, e, List.filter_filter]
    by_cases hli : lo = i
    · subst hli
      rw [if_pos rfl, if_pos (by rw [h.len]; exact hl)]
      congr 1
      rw [List.filter_eq_nil_iff.2 (fun k _ => by simp)]
      rfl
    · rw [if_neg hli, h.ms i hi]
      congr 2
      refine List.filter_congr (fun k _ => ?_)
      by_cases h1 : k.2.dst = (i : Int)
      · rw [decide_eq_true h1, show decide (k.2.dst = (lo : Int)) = false from decide_eq_false (by omega)]
        rfl
      · rw [decide_eq_false h1]
        rfl
theorem PInv.empty {t : Nat} {K : List AK} {Ms : List (List GMsg)} (h : PInv (t : Int) ((5 : Nat) : Int) K Ms) (d : Int) : K = [] ∧ PInv d 0 [] Ms := by
  have e : K = [] := by
    cases K with
    | nil => rfl
    | cons k K =>
      have := (h.all k (List.mem_cons_self ..)).2
      omega
  subst e
  exact ⟨rfl, by simp, fun k hk => (by cases hk), h.len, h.ms⟩
theorem PInv.send {due : Int} {d : Nat} {K : List AK} {Ms : List (List GMsg)} {m : GMsg} {M : List GMsg} (h : PInv due 0 K Ms) (hk : K.length ≤ 1) (hd : m.dst = (d : Int)) (hd5 : d < 5) (hM : Ms[d]? = some M) : PInv due 0 (K ++ [(due, m)]) (Ms.set d (M ++ [m])) := by
  refine ⟨by rw [List.length_append]; simp; omega, fun k hk => ?_, by rw [List.length_set]; exact h.len, fun i hi => ?_⟩
  · rcases List.mem_append.1 hk with hk | hk
    · exact h.all k hk
    · obtain rfl := List.mem_singleton.1 hk
      exact ⟨rfl, by simp only; omega, by simp only; omega⟩
  · rw [List.getElem?_set, List.filter_append, List.map_append]
    by_cases hdi : d = i
    · subst hdi
      rw [if_pos rfl, if_pos (by rw [h.len]; exact hd5)]
      have := h.ms d hd5
      rw [hM] at this
      rw [Option.some.inj this, List.filter_cons_of_pos (by simpa using hd)]
      rfl
    · rw [if_neg hdi, h.ms i hi, List.filter_cons_of_neg (by simp [hd]; omega), List.filter_nil]
      simp
theorem planF_none (tick src : Int) : planF tick src [] = (1, 0) := rfl
theorem flights_none (tick : Int) (m : GMsg) : flightsF [] tick m = [(tick + 1, m)] := by
  unfold flightsF
  rw [planF_none]
  simp
theorem send_ok {T : Int} {K : List AK} {t : Nat} {m : GMsg} (ht : t < 60) (hT : T ≤ t) (hm : msgF m = 0) (hK : K.length ≤ 1) : sendC [] T K (t : Int) m = 0 ∧ sendT [] T K (t : Int) m = t ∧ sendK [] T K (t : Int) m = K ++ [((t : Int) + 1, m)] := by
  have h0 : sendC [] T K (t : Int) m = 0 := by
    unfold sendC
    rw [if_neg (by omega), if_neg (by omega), if_neg (by rw [hm]; simp), if_neg (by rw [flights_none]; simp; omega)]
  refine ⟨h0, ?_, ?_⟩
  · unfold sendT; rw [h0]; rfl
  · unfold sendK; rw [h0, flights_none]; rfl
theorem beat_ok (a b n : Int) (ha : 0 ≤ a ∧ a ≤ 4) (hb : 0 ≤ b ∧ b ≤ 4) (hab : a ≠ b) : msgF (beatG a b n) = 0 := by
  have h0 : msgF0 (beatG a b n) = 0 := by
    unfold msgF0 beatG
    simp only
    rw [if_neg (by omega), if_neg (by omega), if_neg (by omega), if_neg (by simp)]
  unfold msgF
  rw [if_pos h0]
  rfl
/-- the net, what is wanted, and the rest -/
structure St (w : World) (B V : Nat) (due lo : Int) (Tm : Int) (n : Nat) (K : List AK) (Ms : List (List GMsg)) (W : World) : Prop where
  net : ∃ T v, T ≤ Tm ∧ NetAt W w.heap.size B [] T v K
  want : WantAt W w.heap.size V Ms
  inv : PInv due lo K Ms
  len : K.length ≤ n
  bel : Below w.heap.size w W
theorem St.below {w W W' : World} {B V n : Nat} {due lo Tm : Int} {K : List AK} {Ms : List (List GMsg)} (h : St w B V due lo Tm n K Ms W) (hb : Below W.heap.size W W') : St w B V due lo Tm n K Ms W' := by
  obtain ⟨⟨T, v, h1, h2⟩, h3, h4, h5, h6⟩ := h
  exact ⟨⟨T, v, h1, h2.below hb⟩, h3.below hb, h4, h5, h6.trans (hb.mono h6.size)⟩
/-- what is known while a row that was taken is compared -/
structure StT (w : World) (B V : Nat) (Tm : Int) (K : List AK) (Ms : List (List GMsg)) (lo : Nat) (u : Value) (M : List GMsg) (W : World) : Prop where
  net : ∃ T v, T ≤ Tm ∧ NetAt W w.heap.size B [] T v K
  want : WantAt W w.heap.size V Ms
  at_ : W.cell? ⟨V, lo, none⟩ = some u
  row : W.ownsRow w.heap.size 43 6 u M.length (M.flatMap encM0)
  bel : Below w.heap.size w W
theorem StT.below {w W W' : World} {B V lo : Nat} {Tm : Int} {K : List AK} {Ms : List (List GMsg)} {u : Value} {M : List GMsg} (h : StT w B V Tm K Ms lo u M W) (hb : Below W.heap.size W W') : StT w B V Tm K Ms lo u M W' := by
  obtain ⟨⟨T, v, h1, h2⟩, h3, h4, h5, h6⟩ := h
  exact ⟨⟨T, v, h1, h2.below hb⟩, h3.below hb, (hb.cell (p := ⟨V, lo, none⟩) h3.lt).trans h4, own_below h5 hb (Nat.le_refl _), h6.trans (hb.mono h6.size)⟩
def TkR (w : World) (B V : Nat) (Tm : Int) (K : List AK) (Ms : List (List GMsg)) (lo : Nat) (u : Value) (M : List GMsg) (Lm : List GMsg) (out : Value) (W : World) : Prop := StT w B V Tm K Ms lo u M W ∧ ∃ Ls : List SM, Ls.map (·.m) = Lm ∧ MsgsAt W w.heap.size out Ls
theorem TkR.below {w W W' : World} {B V lo : Nat} {Tm : Int} {K : List AK} {Ms : List (List GMsg)} {u : Value} {M Lm : List GMsg} {out : Value} (h : TkR w B V Tm K Ms lo u M Lm out W) (hb : Below W.heap.size W W') : TkR w B V Tm K Ms lo u M Lm out W' := by
  obtain ⟨h1, Ls, h2, h3⟩ := h
  exact ⟨h1.below hb, Ls, h2, h3.below hb⟩
/-- a net takes: what else is there stays -/
theorem StT.take {w W W' : World} {B V lo : Nat} {Tm tick rcv : Int} {K : List AK} {Ms : List (List GMsg)} {u : Value} {M : List GMsg} {e : Ending} (h : StT w B V Tm K Ms lo u M W) {T : Int} {v : Value} (hT : T ≤ Tm) (hN : NetAt W w.heap.size B [] T v K) (hp : TakePost W w.heap.size B [] T K tick rcv e W') :
    ∃ out, e = .returned out ∧ TkR w B V Tm (restL K tick rcv) Ms lo u M ((takeL K tick rcv).map (·.2)) out W' := by
  obtain ⟨out, Ls, v', rfl, h1, h2, h3, h4, h5, h6⟩ := hp
  obtain ⟨_, h7, h8, h9, h10⟩ := h
  have hB := hN.lo
  obtain ⟨_, _, Af, nf, cf, ks, _, hk, _⟩ := hN
  have hoff : ∀ g t cs, Blk W g t cs → g = B → t = 79 := fun g t cs hk' e => by
    subst e
    exact blk_type hk' hk
  have hVB : V ≠ B := fun e => by
    obtain ⟨_, _, us, _, _, hV, _⟩ := h7
    have := hoff V _ _ hV e
    exact absurd this (by decide)
  refine ⟨out, rfl, ⟨⟨T, v', hT, h4⟩, h7.keep h6 (fun g t cs hk' hf => by rw [hoff g t cs hk' hf]; exact ⟨by decide, by decide⟩), ?_, h6.own h9 (fun g cs _ hk' hf => absurd (hoff g _ cs hk' hf) (by decide)), h10.trans (h6.below (fun k hk' hf => by omega) h10.size)⟩, Ls, h1, MsgsAt.of (own_mono h2 h10.size) h3⟩
  exact (World.cell?_of_block (a := ⟨V, lo, none⟩) (h6.block V h7.lt hVB)).trans h8
/-- a net is sent to: what else is there stays -/
theorem StT.send {w W W' : World} {B V d t : Nat} {Tm : Int} {K : List AK} {Ms : List (List GMsg)} {u : Value} {M : List GMsg} {m : GMsg} {e : Ending} (h : StT w B V Tm K Ms d u M W) {T : Int} {v : Value} (hT : T ≤ (t : Int)) (ht : t < 60) (hm : msgF m = 0) (hK : K.length ≤ 1) (hN : NetAt W w.heap.size B [] T v K) (hp : SendPost W w.heap.size B [] T v K (t : Int) m e W') :
    e = .returned (.int .i64 0) ∧ StT w B V (t : Int) (K ++ [((t : Int) + 1, m)]) Ms d u M W' ∧ ∀ g ty cs, Blk W g ty cs → ty ≠ 79 → ty ≠ 82 → Blk W' g ty cs := by
  obtain ⟨v', rfl, h4, h6, h7'⟩ := hp
  obtain ⟨e1, e2, e3⟩ := send_ok ht hT hm hK
  rw [e2, e3] at h4
  obtain ⟨_, h7, h8, h9, h10⟩ := h
  have hoff : ∀ g ty cs, Blk W g ty cs → ty ≠ 79 → ty ≠ 82 → ¬ NetF B v g := fun g ty cs hk k1 k2 => hN.off hk k1 k2
  have hV := h7
  obtain ⟨_, _, us, _, _, hVb, _⟩ := hV
  have hvl := hN.vlt
  have hBl := hN.lo
  refine ⟨by rw [e1]; rfl, ⟨⟨t, v', Int.le_refl _, h4⟩, h7.keep h6 (fun g ty cs hk hf => ⟨fun e => hoff g ty cs hk (by rw [e]; decide) (by rw [e]; decide) hf, fun e => hoff g ty cs hk (by rw [e]; decide) (by rw [e]; decide) hf⟩), ?_, h6.own h9 (fun g cs _ hk hf => hoff g _ cs hk (by decide) (by decide) hf), h10.trans (h6.below (fun k hk hf => ?_) h10.size)⟩, fun g ty cs hk k1 k2 => h6.blk hk (hoff g ty cs hk k1 k2)⟩
  · exact (World.cell?_of_block (a := ⟨V, d, none⟩) (h6.block V h7.lt (hoff V _ _ hVb (by decide) (by decide)))).trans h8
  · rcases hf with hf | hf
    · omega
    · have := (hvl k hf).1; omega
def AppR (w wq : World) (A : Option Addr) (n c : Nat) (M : List GMsg) (m : GMsg) (v : Value) (W : World) : Prop := W.ownsRow w.heap.size 43 6 v (M.length + 1) (M.flatMap encM0 ++ encM0 m) ∧ NearV wq (.slice A n c) v ∧ Mod (fun k => (Value.slice A n c).ownBlock = some k) wq W
def ORel (w : World) (B V : Nat) (i : Value) (wr : World) : Prop := ∃ (t : Nat) (K : List AK) (Ms : List (List GMsg)), t ≤ 60 ∧ i = .int .i64 t ∧ St w B V t 0 t 2 K Ms wr
def IRel (w : World) (B V t : Nat) (i : Value) (wr : World) : Prop := ∃ (lo : Nat) (K : List AK) (Ms : List (List GMsg)), lo ≤ 5 ∧ i = .int .i64 lo ∧ St w B V t lo t 2 K Ms wr
def KRel (w : World) (B V t : Nat) (i : Value) (wr : World) : Prop := ∃ (k : Nat) (K : List AK) (Ms : List (List GMsg)), k ≤ 2 ∧ i = .int .i64 k ∧ St w B V ((t : Int) + 1) 0 t k K Ms wr
set_option maxRecDepth 100000 in
set_option maxHeartbeats 8000000 in
theorem walk (v0 : Value) (w : World) {b0 : Nat} (f0 : IntsArg w v0 b0) :
    Calls Try.prog 6 #[v0] w fun e w' => e = .returned (.bool true) ∧ Below w.heap.size w w' := by
  obtain ⟨l, ⟨A0, n0, c0, rfl, hl0, _, _, hr0⟩, hin, _, _⟩ := f0
  have HL := Lib.hid (show ∀ W, Below w.heap.size w W → Rd W w.heap.size 1 A0 n0 (l.map iv) from fun W hW => hr0.below hW)
  have HLL := Lib.hid hl0
  have HIN := Lib.hid hin
  have HNEW := Lib.hid (netnew_any w none 0 0 [] (fun _ => ⟨rfl, rfl⟩) rfl (by omega) ⟨rfl, fun h => absurd h (Nat.lt_irrefl 0)⟩)
  clear hr0 hl0 hin
  go_enter Try.func6, Try.ntmps6
  go_wp2_with fail
  refine HNEW.out.mono ?_
  rintro e w1 ⟨B, rfl, hN1, hb1⟩
  have HN1 := Lib.hid hN1
  have HB1 := Lib.hid hb1
  have HBT := Lib.hid (fun W => beat_any W 0 1 5)
  clear hN1 hb1 HNEW
  go_wp2_with fail
  refine (HBT.out _).mono ?_
  rintro e w2 ⟨rfl, hb2⟩
  have hN2 := HN1.out.below hb2
  have hM2 : MsgAt w2 w2.heap.size (beatG 0 1 5) none 0 0 := ⟨rfl, Nat.le_refl _, fun _ => ⟨rfl, rfl⟩, by omega, ⟨rfl, fun h => absurd h (Nat.lt_irrefl 0)⟩⟩
  have hB2 := HB1.out.trans (hb2.mono HB1.out.size)
  have hS := send_any w2 w.heap.size B [] 0 _ [] hN2 hB2.size 0 (beatG 0 1 5) none 0 0 hM2 (fun h => absurd h (Nat.lt_irrefl 0))
  have HS := Lib.hid hS
  have HB2 := Lib.hid hB2
  have hok := send_ok (T := 0) (K := []) (t := 0) (m := beatG 0 1 5) (by omega) (by omega) (beat_ok 0 1 5 (by omega) (by omega) (by omega)) (by simp)
  have HOK := Lib.hid hok
  clear hb2 hN2 hM2 hB2 hS hok HBT
  go_wp2_with fail
  refine HS.out.mono ?_
  rintro e w3 ⟨v3, rfl, hN3, hm3, _⟩
  obtain ⟨e1, e2, e3⟩ := HOK.out
  rw [show ((0 : Nat) : Int) = 0 from rfl] at e1 e2 e3
  rw [e2, e3] at hN3
  rw [e1]
  have HN3 := Lib.hid hN3
  have hB3 := HB2.out.trans (hm3.below (fun k hk hf => by
    rcases hf with hf | hf
    · have := HN1.out.lo; omega
    · cases hf) HB2.out.size)
  have HB3 := Lib.hid hB3
  have HKP := Lib.hid (kept_any w3 w.heap.size B [] 0 v3 _ hN3)
  clear hN3 hm3 hB3 e1 e2 e3 HOK HS
  rw [show (([] : List AK) ++ [((0 : Int) + 1, beatG 0 1 5)]).length = 1 from rfl] at HKP
  go_wp2_with fail
  refine HKP.out.mono ?_
  rintro e w4 ⟨rfl, hb4⟩
  have HB4 := Lib.hid (HB3.out.trans (hb4.mono HB3.out.size))
  have HTK := Lib.hid (take_any w4 w.heap.size B [] 0 v3 _ (HN3.out.below hb4) HB4.out.size 9 1)
  clear hb4 HKP HN3
  go_wp2_with fail
  refine HTK.out.mono ?_
  rintro e w5 ⟨out5, Ls5, v5, rfl, _, ho5, _, hN5, _, hm5⟩
  rw [show restL (([] : List AK) ++ [((0 : Int) + 1, beatG 0 1 5)]) 9 1 = [] from by simp [restL, goesB, beatG]] at hN5
  obtain ⟨A5, c5, rfl, _⟩ := own_rd ho5
  have HN5 := Lib.hid hN5
  have HB5 := Lib.hid (HB4.out.trans (hm5.below (fun k hk e => by have := HN1.out.lo; omega) HB4.out.size))
  clear ho5 hN5 hm5 HTK
  go_upto_region 6 with (fail)
  have hV := Blk.new w5 57 #[.slice none 0 0, .slice none 0 0, .slice none 0 0, .slice none 0 0, .slice none 0 0]
  have hbV : Below w5.heap.size w5 (w5.alloc (.cells #[.slice none 0 0, .slice none 0 0, .slice none 0 0, .slice none 0 0, .slice none 0 0] 57)) := (Below.refl _ _).alloc (Nat.le_refl _) _
  have hst := Lib.hid (show ORel w B w5.heap.size (.int .i64 0) (w5.alloc (.cells #[.slice none 0 0, .slice none 0 0, .slice none 0 0, .slice none 0 0, .slice none 0 0] 57)) from ⟨0, [], [[], [], [], [], []], by omega, rfl, ⟨⟨0, v5, by omega, HN5.out.below hbV⟩, ⟨HB5.out.size, fun M hM m hm => (by
    simp only [List.mem_cons, List.not_mem_nil, or_false] at hM
    rcases hM with rfl | rfl | rfl | rfl | rfl <;> cases hm), [.slice none 0 0, .slice none 0 0, .slice none 0 0, .slice none 0 0, .slice none 0 0], rfl, rfl, hV, fun i u M hu hM => (by
    rcases i with _ | _ | _ | _ | _ | i
    all_goals first | (simp only [List.getElem?_cons_succ, List.getElem?_cons_zero, Option.some.injEq] at hu hM; subst hu hM; exact World.ownsRow_nil _ _ _ _) | (simp at hu)), fun i j u u' hij hu hu' g hg => (by
    have : u = .slice none 0 0 := by
      have := List.mem_of_getElem? hu
      simp only [List.mem_cons, List.not_mem_nil, or_false, or_self] at this
      exact this
    subst this
    cases hg)⟩, ⟨by simp, fun k hk => (by cases hk), rfl, fun i hi => (by
    rcases i with _ | _ | _ | _ | _ | i
    all_goals first | rfl | omega)⟩, by simp, HB5.out.trans (hbV.mono HB5.out.size)⟩⟩)
  generalize w5.alloc (.cells #[.slice none 0 0, .slice none 0 0, .slice none 0 0, .slice none 0 0, .slice none 0 0] 57) = w6 at hst ⊢
  obtain ⟨V, hV5⟩ : ∃ V, V = w5.heap.size := ⟨_, rfl⟩
  rw [← hV5] at hst ⊢
  clear hV hbV HN5 HB5 HB4 HB3 HB2 HN1 HB1 hV5
  go_wp2_with fail
  go_loopw [26] (fun i wr => ORel w B V i wr) (fun i _ => 60 - (intOf i).toNat)
  case atStart => exact hst.out
  case round =>
    clear hst
    obtain ⟨t, K, Ms, ht, rfl, hS⟩ := hrel
    by_cases ht6 : t < 60
    · have hti : (t : Int) < 60 := by omega
      have hwt : IntKind.i64.wrap ((t : Int) + 1) = (t : Int) + 1 := by rw [IntKind.wrap_i64]; omega
      have hst2 := Lib.hid (show IRel w B V t (.int .i64 0) wr from ⟨0, K, Ms, by omega, rfl, hS⟩)
      clear hS
      go_wp2_with fail
      go_loopw [29] (fun i wr => IRel w B V t i wr) (fun i _ => 5 - (intOf i).toNat)
      case atStart => exact hst2.out
      case round =>
        clear hst2
        obtain ⟨lo, K, Ms, hlo, rfl, hS⟩ := hrel
        by_cases hl5 : lo < 5
        · as_aux_lemma =>
          have hli : (lo : Int) < 5 := by omega
          have hl0 : 0 ≤ (lo : Int) := by omega
          have hwl : IntKind.i64.wrap ((lo : Int) + 1) = (lo : Int) + 1 := by rw [IntKind.wrap_i64]; omega
          have HS := Lib.hid hS
          obtain ⟨A, n, c, M, hM, hMn, hcell, hrow⟩ := hS.want.get hl5
          have hdr : Below wr.heap.size wr wr.drew := (Below.refl _ _).drew
          have HT0 := Lib.hid (show StT w B V t K Ms lo (.slice A n c) M wr.drew from StT.below ⟨hS.net, hS.want, hcell, hrow, hS.bel⟩ hdr)
          have HM := Lib.hid hM
          have hMk : M = (takeL K (t : Int) (lo : Int)).map (·.2) := by
            have h1 := hS.inv.ms lo hl5
            rw [hM] at h1
            rw [Option.some.inj h1, hS.inv.take ht6 hl5]
          have HMK := Lib.hid hMk
          have hKl := hS.len
          have HML := Lib.hid (show M.length ≤ 2 by
            have h1 := hS.inv.ms lo hl5
            rw [hM] at h1
            rw [Option.some.inj h1, List.length_map]
            exact Nat.le_trans (List.length_filter_le _ _) hKl)
          clear hS hcell hrow hM hMk hMn hdr
          go_upto_region 12 with (fail)
          refine wp_region_invJ 8 (DetJ (fun i => ([some (.pointer (some ⟨B, 0, none⟩)), some (.int .i64 t), some (.int .i64 lo), none, some (.int .i64 lo), some (.pointer (some ⟨V, lo, none⟩)), some (.slice A n c), some (.bool true)] : List (Option Value)).getD i none) 3 (StT w B V t K Ms lo (.slice A n c) M) (TkR w B V t (restL K (t : Int) (lo : Int)) Ms lo (.slice A n c) M M)) (by kernel_rfl) (by kernel_rfl) (DetJ.start HT0.out) ?_ ?_
          · intro i o hi ho s vs W hJ hs hdep
            rcases i with _ | _ | _ | _ | _ | _ | _ | _ | i
            all_goals first | omega | skip
            all_goals (simp only [List.getElem?_cons_succ, List.getElem?_cons_zero, Option.some.injEq] at ho; subst ho)
            · refine StepJ.val (v := .pointer (some ⟨B, 0, none⟩)) rfl ?_ (hJ.same (by omega) rfl)
              unfold lexA
              simp only [putAll, preI, Nat.reduceLT, Nat.reduceAdd, decide_false, Bool.false_eq_true, if_false]
              go_simp
            · refine StepJ.val (v := .int .i64 t) rfl ?_ (hJ.same (by omega) rfl)
              unfold lexA
              simp only [putAll, preI, Nat.reduceLT, Nat.reduceAdd, decide_true, decide_false, Bool.false_eq_true, if_true, if_false, Act.put, List.setIfInBounds_toArray, List.set_cons_zero, List.set_cons_succ]
              go_simp
            · refine StepJ.val (v := .int .i64 lo) rfl ?_ (hJ.same (by omega) rfl)
              unfold lexA
              simp only [putAll, preI, Nat.reduceLT, Nat.reduceAdd, decide_true, decide_false, Bool.false_eq_true, if_true, if_false, Act.put, List.setIfInBounds_toArray, List.set_cons_zero, List.set_cons_succ]
              go_simp
            · have d0 : vs 0 = .pointer (some ⟨B, 0, none⟩) := hJ.dt 0 _ (hdep ⟨0, .data⟩ (by simp) rfl) rfl
              have d1 : vs 1 = .int .i64 t := hJ.dt 1 _ (hdep ⟨1, .data⟩ (by simp) rfl) rfl
              have d2 : vs 2 = .int .i64 lo := hJ.dt 2 _ (hdep ⟨2, .data⟩ (by simp) rfl) rfl
              have h0 := hJ.w0 hs
              obtain ⟨T, v, hT, hN⟩ := h0.net
              refine StepJ.call rfl ?_ ((take_any W w.heap.size B [] T v K hN h0.bel.size t lo).mono fun e W' hp => ?_)
              · clear hJ hdep h0 hN
                unfold lexA
                simp only [putAll, preI, Nat.reduceLT, Nat.reduceAdd, decide_true, decide_false, Bool.false_eq_true, if_true, if_false, Act.put, List.setIfInBounds_toArray, List.set_cons_zero, List.set_cons_succ]
                go_simp
              · obtain ⟨out, he, hR⟩ := h0.take hT hN hp
                exact ⟨out, he, hJ.mid rfl (by rw [← HMK.out] at hR; exact hR)⟩
            · refine StepJ.val (v := .int .i64 lo) rfl ?_ (hJ.same (by omega) rfl)
              unfold lexA
              simp only [putAll, preI, Nat.reduceLT, Nat.reduceAdd, decide_true, decide_false, Bool.false_eq_true, if_true, if_false, Act.put, List.setIfInBounds_toArray, List.set_cons_zero, List.set_cons_succ]
              go_simp
            · have d4 : vs 4 = .int .i64 lo := hJ.dt 4 _ (hdep ⟨4, .data⟩ (by simp) rfl) rfl
              refine StepJ.val (v := .pointer (some ⟨V, lo, none⟩)) rfl ?_ (hJ.same (by omega) rfl)
              clear hJ hdep
              unfold lexA
              simp only [putAll, preI, Nat.reduceLT, Nat.reduceAdd, decide_true, decide_false, Bool.false_eq_true, if_true, if_false, Act.put, List.setIfInBounds_toArray, List.set_cons_zero, List.set_cons_succ]
              go_simp
            · have d5 : vs 5 = .pointer (some ⟨V, lo, none⟩) := hJ.dt 5 _ (hdep ⟨5, .data⟩ (by simp) rfl) rfl
              have hc6 : W.cell? ⟨V, lo, none⟩ = some (.slice A n c) := by
                cases h3 : s 3 with
                | false => exact (hJ.w0 h3).at_
                | true => exact (hJ.w1 h3).1.at_
              refine StepJ.val (v := .slice A n c) rfl ?_ (hJ.same (by omega) rfl)
              clear hJ hdep
              unfold lexA
              simp only [putAll, preI, Nat.reduceLT, Nat.reduceAdd, decide_true, decide_false, Bool.false_eq_true, if_true, if_false, Act.put, List.setIfInBounds_toArray, List.set_cons_zero, List.set_cons_succ]
              go_simp
            · have d6 : vs 6 = .slice A n c := hJ.dt 6 _ (hdep ⟨6, .data⟩ (by simp) rfl) rfl
              have h3 : s 3 = true := hdep ⟨3, .data⟩ (by simp) rfl
              obtain ⟨hT, Ls, hLm, hLs⟩ := hJ.w1 h3
              have hE := eqmsgs_msg W _ _ _ _ Ls (M.map (fun m => (⟨m, none, 0, 0⟩ : SM))) hLs (hT.want.at_ HM.out hT.row) (by
                rw [hLm, List.map_map]
                exact (List.map_id'' (fun _ => rfl) M).symm) (by
                have h1 := congrArg List.length hLm
                rw [List.length_map] at h1
                have := HML.out
                omega)
              refine StepJ.call rfl ?_ (hE.mono fun e W' ⟨he, hb⟩ => ⟨_, he, hJ.step (fun W W' h hb => h.below hb) (fun v W W' h hb => h.below hb) (by omega) rfl hb⟩)
              clear hJ hdep hT hLs hE
              unfold lexA
              simp only [putAll, preI, Nat.reduceLT, Nat.reduceAdd, decide_true, decide_false, Bool.false_eq_true, if_true, if_false, Act.put, List.setIfInBounds_toArray, List.set_cons_zero, List.set_cons_succ]
              go_simp
          · intro s vs W hall hJ
            have d7 : vs 7 = .bool true := hJ.dt 7 _ (hall 7 (by omega)) rfl
            obtain ⟨hT, _⟩ := hJ.w1 (hall 3 (by omega))
            have y0 := hT.at_
            have y1 := hT.want.free lo
            have HX := Lib.hid (show IRel w B V t (.int .i64 ((lo : Int) + 1)) (W.setCell ⟨V, lo, none⟩ (.slice none 0 0)) from by
              have hw := hT.want.put (M := []) hl5 hT.at_ (Mod.refl _ W) (fun m hm => by cases hm) (World.ownsRow_nil _ _ _ _) (fun g hg => by cases hg)
              have hS := Mod.of_grow (GroW.set W V lo (.slice none 0 0))
              obtain ⟨T, v, hTt, hN⟩ := hT.net
              obtain ⟨_, _, us, _, _, hV, _⟩ := id hT.want
              refine ⟨lo + 1, restL K (t : Int) (lo : Int), Ms.set lo [], by omega, by simp, ⟨⟨T, v, hTt, hN.keep hS (fun g ty cs hk e => by
                subst e
                rw [blk_type hk hV]
                exact ⟨by decide, by decide, by decide, by decide⟩)⟩, hw, HS.out.inv.next hl5, Nat.le_trans (List.length_filter_le _ _) HS.out.len, hT.bel.setCell hT.want.lo _⟩⟩)
            clear hJ hT hall
            unfold lexA
            simp only [putAll, preI, Nat.reduceLT, Nat.reduceAdd, decide_true, decide_false, Bool.false_eq_true, if_true, if_false, Act.put, List.setIfInBounds_toArray, List.set_cons_zero, List.set_cons_succ, List.drop_succ_cons, List.drop_zero]
            rw [d7]
            go_wp2_with fail
            go_roundw
            case rel => exact HX.out
            case measure => simp [intOf]; omega
        · obtain rfl : lo = 5 := by omega
          have hli : ¬ ((5 : Nat) : Int) < 5 := by omega
          obtain ⟨hK, hI⟩ := hS.inv.empty ((t : Int) + 1)
          have hst3 := Lib.hid (show KRel w B V t (.int .i64 0) wr from ⟨0, [], Ms, by omega, rfl, ⟨by rw [hK] at hS; exact hS.net, hS.want, hI, by simp, hS.bel⟩⟩)
          clear hS hI hK hlo
          go_wp2_with fail
          go_loopw [44] (fun i wr => KRel w B V t i wr) (fun i _ => 2 - (intOf i).toNat)
          case atStart => exact hst3.out
          case round =>
            clear hst3
            obtain ⟨k, K, Ms, hk, rfl, hS⟩ := hrel
            by_cases hk2 : k < 2
            · as_aux_lemma =>
              have hki : (k : Int) < 2 := by omega
              have hwk : IntKind.i64.wrap ((k : Int) + 1) = (k : Int) + 1 := by rw [IntKind.wrap_i64]; omega
              obtain ⟨Q, hQ⟩ : ∃ Q : Nat, Q = 2 * t + k := ⟨_, rfl⟩
              have hw1 : IntKind.i64.wrap (2 * (t : Int)) = 2 * (t : Int) := by rw [IntKind.wrap_i64]; omega
              have hw2 : IntKind.i64.wrap (2 * (t : Int) + (k : Int)) = (Q : Int) := by rw [IntKind.wrap_i64]; omega
              by_cases hqn : n0 ≤ Q
              · have hqi : (n0 : Int) ≤ (Q : Int) := by omega
                have HX := Lib.hid (show KRel w B V t (.int .i64 ((k : Int) + 1)) wr from ⟨k + 1, K, Ms, by omega, by simp, ⟨hS.net, hS.want, hS.inv, by have := hS.len; omega, hS.bel⟩⟩)
                clear hS hQ
                go_wp2
                go_roundw
                case rel => exact HX.out
                case measure => simp [intOf]; omega
              · have hqi : ¬ (n0 : Int) ≤ (Q : Int) := by omega
                have hq0 : 0 ≤ (Q : Int) ∧ (Q : Int) < (n0 : Int) := by omega
                obtain ⟨bl, ol, x, rfl, hbl, hx, hcx⟩ := (HL.out wr hS.bel).one (show Q < n0 by omega)
                have hxi := HIN.out x (List.mem_of_getElem? hx)
                obtain ⟨hx1, hx2⟩ : -9223372036854775808 ≤ x ∧ x ≤ 9223372036854775807 := hxi
                obtain ⟨y, hy⟩ : ∃ y, x.tdiv 5 = y := ⟨_, rfl⟩
                obtain ⟨z, hz⟩ : ∃ z, x.tdiv 25 = z := ⟨_, rfl⟩
                have htd : ∀ d : Int, 0 < d → -9223372036854775808 ≤ x.tdiv d ∧ x.tdiv d ≤ 9223372036854775807 := fun d hd => by
                  have h1 : (x.tdiv d).natAbs ≤ x.natAbs := by
                    rw [Int.natAbs_tdiv]
                    exact Nat.div_le_self _ _
                  by_cases h9 : d = 1
                  · subst h9; rw [Int.tdiv_one]; exact ⟨hx1, hx2⟩
                  · have h2 : (x.tdiv d).natAbs ≤ x.natAbs / 2 := by
                      rw [Int.natAbs_tdiv]
                      exact Nat.div_le_div_left (by omega) (by omega)
                    omega
                have hwy : IntKind.i64.wrap y = y := by have := htd 5 (by omega); rw [hy] at this; rw [IntKind.wrap_i64]; omega
                have hwz : IntKind.i64.wrap z = z := by have := htd 25 (by omega); rw [hz] at this; rw [IntKind.wrap_i64]; omega
                obtain ⟨a, ha⟩ : ∃ a, x % 5 = a := ⟨_, rfl⟩
                obtain ⟨f, hf⟩ : ∃ f, y % 4 = f := ⟨_, rfl⟩
                have ha4 : 0 ≤ a ∧ a < 5 := by omega
                have hf4 : 0 ≤ f ∧ f < 4 := by omega
                obtain ⟨d, hd⟩ : ∃ d : Nat, (a + 1 + f) % 5 = (d : Int) := ⟨((a + 1 + f) % 5).toNat, by omega⟩
                have hd5 : d < 5 := by omega
                have had : a ≠ (d : Int) := by omega
                have hwa1 : IntKind.i64.wrap (a + 1) = a + 1 := by rw [IntKind.wrap_i64]; omega
                have hwa2 : IntKind.i64.wrap (a + 1 + f) = a + 1 + f := by rw [IntKind.wrap_i64]; omega
                have hB1 := Lib.hid (fun W => below_any x 5 W (by decide) (by decide))
                have hB2 := Lib.hid (fun W => below_any y 4 W (by decide) (by decide))
                have hB3 := Lib.hid (fun W => below_any (a + 1 + f) 5 W (by decide) (by decide))
                have hBT := Lib.hid (fun W => show Calls Try.prog 14 #[.int .i64 a, .int .i64 (d : Int), .int .i64 z] W (fun e w' => e = .returned (.agg #[.int .i64 3, .int .i64 a, .int .i64 (d : Int), .int .i64 (z % 1000), .int .u32 0, .slice none 0 0]) ∧ Below W.heap.size W w') from beat_any W a (d : Int) z)
                rw [ha] at hB1
                rw [hf] at hB2
                rw [hd] at hB3
                have HS := Lib.hid hS
                have HOKM := Lib.hid (beat_ok a (d : Int) z (by omega) (by omega) had)
                clear hx hbl hx1 hx2 htd ha hf hd hQ hS ha4 hf4
                go_wp2_with fail
                refine (hB1.out _).mono ?_
                rintro e wn ⟨rfl, rfl⟩
                go_wp2_with fail
                refine (hB1.out _).mono ?_
                rintro e wn ⟨rfl, rfl⟩
                go_wp2_with fail
                refine (hB2.out _).mono ?_
                rintro e wn ⟨rfl, rfl⟩
                go_wp2_with fail
                refine (hB3.out _).mono ?_
                rintro e wn ⟨rfl, rfl⟩
                go_wp2_with fail
                refine (hBT.out _).mono ?_
                rintro e w7 ⟨rfl, hb7⟩
                have hS7 := HS.out.below hb7
                obtain ⟨A, n, c, M, hM, hMn, hcell, hrow⟩ := hS7.want.get hd5
                subst hMn
                have hT7 : StT w B V t K Ms d (.slice A M.length c) M w7 := ⟨hS7.net, hS7.want, hcell, hrow, hS7.bel⟩
                have hrl := hrow.lt
                have HM := Lib.hid hM
                have HRL := Lib.hid (show ∀ g, (Value.slice A M.length c).ownBlock = some g → g < w7.heap.size from fun g hg => (hrl g hg).2)
                have HINV := Lib.hid (And.intro hS7.inv hS7.len)
                have HMN := Lib.hid (show M.length ≤ 2 by
                  have h1 := hS7.inv.ms d hd5
                  rw [hM] at h1
                  rw [Option.some.inj h1, List.length_map]
                  exact Nat.le_trans (List.length_filter_le _ _) hS7.inv.few)
                clear hb7 hS7 hcell hrow hM hrl hB1 hB2 hB3 hBT HS hcx
                go_upto_region 22 with (fail)
                have hk8 := Blk.new w7 43 #[.int .i64 3, .int .i64 a, .int .i64 (d : Int), .int .i64 (z % 1000), .int .u32 0, .slice none 0 0]
                have hb8 : Below w7.heap.size w7 (w7.alloc (.cells #[.int .i64 3, .int .i64 a, .int .i64 (d : Int), .int .i64 (z % 1000), .int .u32 0, .slice none 0 0] 43)) := (Below.refl _ _).alloc (Nat.le_refl _) _
                have hT8 := hT7.below hb8
                obtain ⟨w8, hw8⟩ : ∃ w8, w8 = w7.alloc (.cells #[.int .i64 3, .int .i64 a, .int .i64 (d : Int), .int .i64 (z % 1000), .int .u32 0, .slice none 0 0] 43) := ⟨_, rfl⟩
                obtain ⟨bx, hbx⟩ : ∃ bx, bx = w7.heap.size := ⟨_, rfl⟩
                rw [← hw8] at hT8 hk8 ⊢
                rw [← hbx] at HRL hk8 ⊢
                clear hT7 hb8 hw8 hbx
                have y0 := hk8.cell 0 _ rfl
                have y1 := hk8.cell 1 _ rfl
                have y2 := hk8.cell 2 _ rfl
                have y3 := hk8.cell 3 _ rfl
                have y4 := hk8.cell 4 _ rfl
                have y5 := hk8.cell 5 _ rfl
                obtain ⟨T, v, hTt, hN8⟩ := hT8.net
                have HT8 := Lib.hid hT8
                have HN8 := Lib.hid hN8
                have HTT := Lib.hid hTt
                have HK8 := Lib.hid hk8
                have HSD := Lib.hid (show Calls Try.prog 13 #[.pointer (some ⟨B, 0, none⟩), .int .i64 (t : Int), .agg #[.int .i64 3, .int .i64 a, .int .i64 (d : Int), .int .i64 (z % 1000), .int .u32 0, .slice none 0 0]] w8 (SendPost w8 w.heap.size B [] T v K t (beatG a (d : Int) z)) from send_any w8 w.heap.size B [] T v K hN8 hT8.bel.size t (beatG a (d : Int) z) none 0 0 ⟨rfl, Nat.le_refl _, fun _ => ⟨rfl, rfl⟩, by omega, ⟨rfl, fun h => absurd h (Nat.lt_irrefl 0)⟩⟩ (fun h => absurd h (Nat.lt_irrefl 0)))
                clear hT8 hN8 hTt hk8
                go_wp2_with fail
                refine HSD.out.mono ?_
                rintro e w9 hp9
                obtain ⟨rfl, hT9, hoff9⟩ := HT8.out.send HTT.out ht6 HOKM.out (by have := HINV.out.2; omega) HN8.out hp9
                have hk9 := hoff9 _ _ _ HK8.out (by decide) (by decide)
                have HT9 := Lib.hid hT9
                have HK9 := Lib.hid hk9
                clear hp9 hT9 hoff9 hk9 HSD HT8 HN8 HK8 HTT y0 y1 y2 y3 y4 y5
                go_wp2_with fail
                obtain ⟨wq, hwq⟩ : ∃ wq, w9.drew = wq := ⟨_, rfl⟩
                have hdr : Below w9.heap.size w9 w9.drew := (Below.refl _ _).drew
                have HTQ := Lib.hid (HT9.out.below hdr)
                have HKQ := Lib.hid (HK9.out.below hdr HK9.out.lt)
                rw [hwq] at HTQ HKQ
                have HBXN := Lib.hid (show ¬ (Value.slice A M.length c).ownBlock = some bx from fun e => by have := HRL.out bx e; omega)
                obtain ⟨j0, hj0, hz0, hz1, hz2⟩ := info_parts info_msgI
                have HVN := Lib.hid (show ¬ (Value.slice A M.length c).ownBlock = some V from fun e => by
                  obtain ⟨_, _, us, _, _, hVb, _⟩ := HTQ.out.want
                  obtain ⟨cs, hk⟩ := own_blk HTQ.out.row e
                  exact absurd (blk_type hk hVb) (by decide))
                clear hdr HT9 HK9
                go_upto_region 24 with (fail)
                refine wp_region_invJ 9 (AppJ (fun i => ([some (.pointer (some ⟨bx, 2, none⟩)), some (.int .i64 (d : Int)), some (.pointer (some ⟨bx, 2, none⟩)), some (.int .i64 (d : Int)), some (.pointer (some ⟨V, d, none⟩)), some (.slice A M.length c), some (.agg #[.int .i64 3, .int .i64 a, .int .i64 (d : Int), .int .i64 (z % 1000), .int .u32 0, .slice none 0 0]), some (.slice (some ⟨wq.heap.size, 0, none⟩) 1 1)] : List (Option Value)).getD i none) 7 8 wq (.cells #[.int .i64 3, .int .i64 a, .int .i64 (d : Int), .int .i64 (z % 1000), .int .u32 0, .slice none 0 0] 43) (AppR w wq A M.length c M (beatG a (d : Int) z))) (by kernel_rfl) (by kernel_rfl) (by rw [hwq]; exact AppJ.start) ?_ ?_
                · intro i o hi ho s vs W hJ hs hdep
                  have hbxW : Blk W bx 43 #[.int .i64 3, .int .i64 a, .int .i64 (d : Int), .int .i64 (z % 1000), .int .u32 0, .slice none 0 0] ∧ W.cell? ⟨V, d, none⟩ = some (.slice A M.length c) := hJ.all (X := fun W => Blk W bx 43 #[.int .i64 3, .int .i64 a, .int .i64 (d : Int), .int .i64 (z % 1000), .int .u32 0, .slice none 0 0] ∧ W.cell? ⟨V, d, none⟩ = some (.slice A M.length c)) ⟨HKQ.out, HTQ.out.at_⟩ ⟨HKQ.out.alloc _, (World.cell?_alloc_lt wq _ ⟨V, d, none⟩ HTQ.out.want.lt).trans HTQ.out.at_⟩ (fun v W hR => ⟨hR.2.2.blk HKQ.out HBXN.out, (World.cell?_of_block (a := ⟨V, d, none⟩) (hR.2.2.block V HTQ.out.want.lt HVN.out)).trans HTQ.out.at_⟩)
                  obtain ⟨hbW, hcW⟩ := hbxW
                  rcases i with _ | _ | _ | _ | _ | _ | _ | _ | _ | i
                  all_goals first | omega | skip
                  all_goals (simp only [List.getElem?_cons_succ, List.getElem?_cons_zero, Option.some.injEq] at ho; subst ho)
                  · refine StepJ.val (v := .pointer (some ⟨bx, 2, none⟩)) rfl ?_ (hJ.same (by omega) (by omega) rfl)
                    clear hJ hdep hbW hcW
                    unfold lexA
                    simp only [putAll, preI, Nat.reduceLT, Nat.reduceAdd, decide_false, Bool.false_eq_true, if_false]
                    go_simp
                  · have d0 : vs 0 = .pointer (some ⟨bx, 2, none⟩) := hJ.dt 0 _ (hdep ⟨0, .data⟩ (by simp) rfl) rfl
                    have y2 := hbW.cell 2 _ rfl
                    refine StepJ.val (v := .int .i64 (d : Int)) rfl ?_ (hJ.same (by omega) (by omega) rfl)
                    clear hJ hdep hbW hcW
                    unfold lexA
                    simp only [putAll, preI, Nat.reduceLT, Nat.reduceAdd, decide_true, decide_false, Bool.false_eq_true, if_true, if_false, Act.put, List.setIfInBounds_toArray, List.set_cons_zero, List.set_cons_succ]
                    go_simp
                  · refine StepJ.val (v := .pointer (some ⟨bx, 2, none⟩)) rfl ?_ (hJ.same (by omega) (by omega) rfl)
                    clear hJ hdep hbW hcW
                    unfold lexA
                    simp only [putAll, preI, Nat.reduceLT, Nat.reduceAdd, decide_true, decide_false, Bool.false_eq_true, if_true, if_false, Act.put, List.setIfInBounds_toArray, List.set_cons_zero, List.set_cons_succ]
                    go_simp
                  · have d2 : vs 2 = .pointer (some ⟨bx, 2, none⟩) := hJ.dt 2 _ (hdep ⟨2, .data⟩ (by simp) rfl) rfl
                    have y2 := hbW.cell 2 _ rfl
                    refine StepJ.val (v := .int .i64 (d : Int)) rfl ?_ (hJ.same (by omega) (by omega) rfl)
                    clear hJ hdep hbW hcW
                    unfold lexA
                    simp only [putAll, preI, Nat.reduceLT, Nat.reduceAdd, decide_true, decide_false, Bool.false_eq_true, if_true, if_false, Act.put, List.setIfInBounds_toArray, List.set_cons_zero, List.set_cons_succ]
                    go_simp
                  · have d3 : vs 3 = .int .i64 (d : Int) := hJ.dt 3 _ (hdep ⟨3, .data⟩ (by simp) rfl) rfl
                    have hd0 : 0 ≤ (d : Int) ∧ (d : Int) < 5 := by omega
                    refine StepJ.val (v := .pointer (some ⟨V, d, none⟩)) rfl ?_ (hJ.same (by omega) (by omega) rfl)
                    clear hJ hdep hbW hcW
                    unfold lexA
                    simp only [putAll, preI, Nat.reduceLT, Nat.reduceAdd, decide_true, decide_false, Bool.false_eq_true, if_true, if_false, Act.put, List.setIfInBounds_toArray, List.set_cons_zero, List.set_cons_succ]
                    go_simp
                  · have d4 : vs 4 = .pointer (some ⟨V, d, none⟩) := hJ.dt 4 _ (hdep ⟨4, .data⟩ (by simp) rfl) rfl
                    refine StepJ.val (v := .slice A M.length c) rfl ?_ (hJ.same (by omega) (by omega) rfl)
                    clear hJ hdep hbW
                    unfold lexA
                    simp only [putAll, preI, Nat.reduceLT, Nat.reduceAdd, decide_true, decide_false, Bool.false_eq_true, if_true, if_false, Act.put, List.setIfInBounds_toArray, List.set_cons_zero, List.set_cons_succ]
                    go_simp
                  · have y0 := hbW.cell 0 _ rfl
                    have y1 := hbW.cell 1 _ rfl
                    have y2 := hbW.cell 2 _ rfl
                    have y3 := hbW.cell 3 _ rfl
                    have y4 := hbW.cell 4 _ rfl
                    have y5 := hbW.cell 5 _ rfl
                    refine StepJ.val (v := .agg #[.int .i64 3, .int .i64 a, .int .i64 (d : Int), .int .i64 (z % 1000), .int .u32 0, .slice none 0 0]) rfl ?_ (hJ.same (by omega) (by omega) rfl)
                    clear hJ hdep hbW hcW
                    unfold lexA
                    simp only [putAll, preI, Nat.reduceLT, Nat.reduceAdd, decide_true, decide_false, Bool.false_eq_true, if_true, if_false, Act.put, List.setIfInBounds_toArray, List.set_cons_zero, List.set_cons_succ]
                    go_simp
                  · have d6 : vs 6 = .agg #[.int .i64 3, .int .i64 a, .int .i64 (d : Int), .int .i64 (z % 1000), .int .u32 0, .slice none 0 0] := hJ.dt 6 _ (hdep ⟨6, .data⟩ (by simp) rfl) rfl
                    have hWq : W = wq := (hJ.w0 hs).1
                    refine StepJ.val (v := .slice (some ⟨wq.heap.size, 0, none⟩) 1 1) (W' := W.alloc (.cells #[.int .i64 3, .int .i64 a, .int .i64 (d : Int), .int .i64 (z % 1000), .int .u32 0, .slice none 0 0] 43)) rfl ?_ (hJ.lit hs (by omega) rfl rfl)
                    clear hJ hdep hbW hcW
                    rw [hWq]
                    refine exec_lit (.tmp 85) rfl _ _ _ _ _ _ _ _ ?_
                    unfold lexA
                    simp only [putAll, preI, Nat.reduceLT, Nat.reduceAdd, decide_true, decide_false, Bool.false_eq_true, if_true, if_false, Act.put, List.setIfInBounds_toArray, List.set_cons_zero, List.set_cons_succ]
                    rw [d6]
                    rfl
                  · have d5 : vs 5 = .slice A M.length c := hJ.dt 5 _ (hdep ⟨5, .data⟩ (by simp) rfl) rfl
                    have d7 : vs 7 = .slice (some ⟨wq.heap.size, 0, none⟩) 1 1 := hJ.dt 7 _ (hdep ⟨7, .data⟩ (by simp) rfl) rfl
                    have h7 : s 7 = true := hdep ⟨7, .data⟩ (by simp) rfl
                    have hWq := hJ.w1 h7 hs
                    have hbq : w.heap.size ≤ wq.heap.size := HTQ.out.bel.size
                    refine StepJ.app rfl (exec_append (.tmp 84) (.tmp 86) 23 rfl w.heap.size 43 j0 _ 6 64 Try.underlying23 hj0 hz0 hz1 hz2 rfl (by omega) (.slice A M.length c) M.length (M.flatMap encM0) ?_ (by rw [hWq]; exact HTQ.out.row.alloc _) wq.heap.size #[.int .i64 3, .int .i64 a, .int .i64 (d : Int), .int .i64 (z % 1000), .int .u32 0, .slice none 0 0] ?_ (by rw [hWq]; exact Blk.new _ _ _) rfl (by simp [Value.oneCell']) (by have := HMN.out; unfold maxLen; omega) (by have := HMN.out; omega) (by rw [hWq]; simp; omega)) (fun vn Wn ⟨hon, hgn, hnn⟩ => hJ.app h7 (by omega) rfl ⟨hon, fun g hg => ?_, ?_⟩)
                    · clear hJ hdep hbW hcW hWq
                      unfold lexA
                      simp only [putAll, preI, Nat.reduceLT, Nat.reduceAdd, decide_true, decide_false, Bool.false_eq_true, if_true, if_false, Act.put, List.setIfInBounds_toArray, List.set_cons_zero, List.set_cons_succ]
                      rw [d5]
                      rfl
                    · clear hJ hdep hbW hcW hWq
                      unfold lexA
                      simp only [putAll, preI, Nat.reduceLT, Nat.reduceAdd, decide_true, decide_false, Bool.false_eq_true, if_true, if_false, Act.put, List.setIfInBounds_toArray, List.set_cons_zero, List.set_cons_succ]
                      rw [d7]
                      rfl
                    · rcases hnn with hnn | hnn
                      · rw [hnn] at hg; exact .inl hg
                      · rw [hnn] at hg
                        have := Option.some.inj hg
                        rw [hWq, World.size_alloc] at this
                        exact .inr (by omega)
                    · rw [hWq] at hgn
                      exact Mod.of_grown (grown_alloc hgn)
                · intro s vs W hall hJ
                  have d1 : vs 1 = .int .i64 (d : Int) := hJ.dt 1 _ (hall 1 (by omega)) rfl
                  obtain ⟨hov, hnv, hmv⟩ := hJ.w2 (hall 8 (by omega))
                  obtain ⟨A3, c3, d8, _, _, _⟩ := own_rd hov
                  rw [d8] at hov hnv
                  have y0 := (World.cell?_of_block (a := ⟨V, d, none⟩) (hmv.block V HTQ.out.want.lt HVN.out)).trans HTQ.out.at_
                  obtain ⟨_, _, us, _, _, hVb, _⟩ := id HTQ.out.want
                  have y1 := (hmv.blk hVb HVN.out).free d
                  have hd0 : 0 ≤ (d : Int) ∧ (d : Int) < 5 := by omega
                  have HX := Lib.hid (show KRel w B V t (.int .i64 ((k : Int) + 1)) (W.setCell ⟨V, d, none⟩ (.slice A3 (M.length + 1) c3)) from by
                    have hno : ∀ m ∈ M ++ [beatG a (d : Int) z], m.cells = [] := fun m hm => by
                      rcases List.mem_append.1 hm with hm | hm
                      · exact HTQ.out.want.no M (List.mem_of_getElem? HM.out) m hm
                      · rw [List.mem_singleton.1 hm]; rfl
                    have hw := HTQ.out.want.put (M := M ++ [beatG a (d : Int) z]) hd5 HTQ.out.at_ hmv hno (by
                      rw [List.length_append, List.flatMap_append]
                      simpa using hov) hnv
                    have hS := Mod.of_grow (GroW.set W V d (.slice A3 (M.length + 1) c3))
                    obtain ⟨T, v, hTt, hN⟩ := HTQ.out.net
                    have hNW := hN.keep hmv (fun g ty cs hk e => by
                      obtain ⟨cs', hk'⟩ := own_blk HTQ.out.row e
                      rw [blk_type hk hk']
                      exact ⟨by decide, by decide, by decide, by decide⟩)
                    have hVW := hmv.blk hVb HVN.out
                    have hbelW : Below w.heap.size w W := HTQ.out.bel.trans (hmv.below (fun g hg e => by have := (HTQ.out.row.lt g e).1; omega) HTQ.out.bel.size)
                    exact ⟨k + 1, _, _, by omega, by simp, ⟨⟨T, v, hTt, hNW.keep hS (fun g ty cs hk e => by
                      subst e
                      rw [blk_type hk hVW]
                      exact ⟨by decide, by decide, by decide, by decide⟩)⟩, hw, HINV.out.1.send (by have := HINV.out.2; omega) rfl hd5 HM.out, by rw [List.length_append]; have := HINV.out.2; simp; omega, hbelW.setCell HTQ.out.want.lo _⟩⟩)
                  clear hov hnv hmv hJ hall hVb
                  unfold lexA
                  simp only [putAll, preI, Nat.reduceLT, Nat.reduceAdd, decide_true, decide_false, Bool.false_eq_true, if_true, if_false, Act.put, List.setIfInBounds_toArray, List.set_cons_zero, List.set_cons_succ, List.drop_succ_cons, List.drop_zero]
                  rw [d1, d8]
                  go_wp2_with fail
                  go_roundw
                  case rel => exact HX.out
                  case measure => simp [intOf]; omega
            · obtain rfl : k = 2 := by omega
              have hki : ¬ ((2 : Nat) : Int) < 2 := by omega
              have HX := Lib.hid (show ORel w B V (.int .i64 ((t : Int) + 1)) wr from ⟨t + 1, K, Ms, by omega, by simp, ⟨by
                obtain ⟨T, v, h1, h2⟩ := hS.net
                exact ⟨T, v, by omega, h2⟩, hS.want, by simpa using hS.inv, hS.len, hS.bel⟩⟩)
              clear hS
              go_wp2
              go_roundw
              case rel => exact HX.out
              case measure => simp [intOf]; omega
    · obtain rfl : t = 60 := by omega
      have HX := Lib.hid hS.bel
      clear hS
      go_wp2
      go_ret
      exact ⟨rfl, HX.out⟩
end Go.Proofs.Ytpnefacignalpaa.netPlain
