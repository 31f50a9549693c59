/- NetPlays' walk: it returns true. Conditions: those typed. -/
import Derived.Test.YtpnefacignalpaaTakes
import Derived.Test.YtpnefacignalpaaPlayArg
import Derived.Test.YtpnefacignalpaaFaultArg
import Derived.Test.YtpnefacignalpaaDetJ
import Derived.Test.YtpnefacignalpaaExtN
namespace Go.Proofs.Ytpnefacignalpaa.netPlays
open Go.RowKit Go.Gy
set_option linter.unusedVariables false
set_option linter.unusedSimpArgs false
/-- the net and the list of flights -/
structure PSt (w : World) (B p : Nat) (FS : List GF) (T : Int) (ks : List SE) (W : World) : Prop where
  net : ∃ v, NetAt W w.heap.size B FS T v (ks.map absK)
  way : ∃ u, WayAt W w.heap.size p u ks
  tick : 0 ≤ T ∧ T ≤ 2000
  bel : Below w.heap.size w W
theorem PSt.below {w W W' : World} {B p : Nat} {FS : List GF} {T : Int} {ks : List SE} (h : PSt w B p FS T ks W) (hb : Below W.heap.size W W') : PSt w B p FS T ks W' := by
  obtain ⟨⟨v, h1⟩, ⟨u, h2⟩, h3, h4⟩ := h
  exact ⟨⟨v, h1.below hb⟩, ⟨u, h2.below hb⟩, h3, h4.trans (hb.mono h4.size)⟩
theorem PSt.takes {w W W' : World} {B p : Nat} {FS : List GF} {T : Int} {ks : List SE} {tick rcv : Int} {e : Ending} (h : PSt w B p FS T ks W) (hp : TakesPost W w.heap.size B p FS T ks tick rcv e W') : e = .returned (.bool true) ∧ ∃ ks', PSt w B p FS T ks' W' := by
  obtain ⟨he, ⟨v', h1⟩, ⟨u', ks', h2, h3⟩, h4⟩ := hp
  exact ⟨he, ks', ⟨v', by rw [h3]; exact h1⟩, ⟨u', h2⟩, h.tick, h.bel.trans h4⟩
theorem PSt.send {w W W' : World} {B p : Nat} {FS : List GF} {T tick : Int} {ks : List SE} {m : GMsg} {v : Value} {e : Ending} {k : Nat} (h : PSt w B p FS T ks W) (hN : NetAt W w.heap.size B FS T v (ks.map absK)) (hk : sendC FS T (ks.map absK) tick m = k) (h0 : k ≠ 0) (hp : SendPost W w.heap.size B FS T v (ks.map absK) tick m e W') : e = .returned (.int .i64 (k : Int)) ∧ PSt w B p FS T ks W' := by
  obtain ⟨v', he, h1, h2, _⟩ := hp
  unfold sendT sendK at h1
  rw [hk, if_neg h0, if_neg h0] at h1
  rw [hk] at he
  obtain ⟨_, ⟨u, hu⟩, h4, h5⟩ := h
  obtain ⟨q1, q2, q3, q4⟩ := id hu
  refine ⟨he, ⟨v', h1⟩, ⟨u, q1, h2.blk q2 (hN.off q2 (by decide) (by decide)), h2.own q3 (fun g cs _ hkb => hN.off hkb (by decide) (by decide)), fun k hk => (q4 k hk).below (h2.below (fun g hg hf => ?_) (by have := q2.lt; omega))⟩, h4, h5.trans (h2.below (fun g hg hf => ?_) h5.size)⟩
  all_goals
    rcases hf with rfl | hf
    · have := hN.lo; omega
    · have := (hN.vlt g hf).1; omega
theorem PSt.keep {w W W' : World} {B p : Nat} {FS : List GF} {T : Int} {ks : List SE} {F : Nat → Prop} (h : PSt w B p FS T ks W) (hm : Mod F W W') (hF : ∀ g t cs, Blk W g t cs → F g → t = 43) (hlo : ∀ g, F g → w.heap.size ≤ g) : PSt w B p FS T ks W' := by
  obtain ⟨⟨v, h1⟩, ⟨u, q1, q2, q3, q4⟩, h3, h4⟩ := h
  refine ⟨⟨v, h1.keep hm (fun g t cs hk hf => by
    rw [hF g t cs hk hf]
    exact ⟨by decide, by decide, by decide, by decide⟩)⟩, ⟨u, q1, hm.blk q2 (fun hf => absurd (hF _ _ _ q2 hf) (by decide)), hm.own q3 (fun g cs _ hk hf => absurd (hF _ _ _ hk hf) (by decide)), fun k hk => (q4 k hk).below (hm.below (fun g hg hf => ?_) (by have := q2.lt; omega))⟩, h3, h4.trans (hm.below (fun g hg hf => ?_) h4.size)⟩
  all_goals (have := hlo g hf; omega)
theorem box6 {W : World} {g : Nat} {t : TypeId} {a0 a1 a2 a3 a4 a5 : Value} (h : Blk W g t #[a0, a1, a2, a3, a4, a5]) (b0 b1 b2 b3 b4 b5 : Value) : Blk ((((((W.setCell ⟨g, 0, none⟩ b0).setCell ⟨g, 1, none⟩ b1).setCell ⟨g, 2, none⟩ b2).setCell ⟨g, 3, none⟩ b3).setCell ⟨g, 4, none⟩ b4).setCell ⟨g, 5, none⟩ b5) g t #[b0, b1, b2, b3, b4, b5] := by
  have := (((((h.set 0 b0).set 1 b1).set 2 b2).set 3 b3).set 4 b4).set 5 b5
  simpa using this
theorem mod6 (W : World) (g : Nat) (b0 b1 b2 b3 b4 b5 : Value) : Mod (fun k => k = g) W ((((((W.setCell ⟨g, 0, none⟩ b0).setCell ⟨g, 1, none⟩ b1).setCell ⟨g, 2, none⟩ b2).setCell ⟨g, 3, none⟩ b3).setCell ⟨g, 4, none⟩ b4).setCell ⟨g, 5, none⟩ b5) :=
  ((((((Mod.refl (fun k => k = g) W).set (g := g) (fun _ => rfl) 0 b0).set (g := g) (fun _ => rfl) 1 b1).set (g := g) (fun _ => rfl) 2 b2).set (g := g) (fun _ => rfl) 3 b3).set (g := g) (fun _ => rfl) 4 b4).set (g := g) (fun _ => rfl) 5 b5
theorem PSt.sendAt {w W : World} {B p : Nat} {FS : List GF} {T : Int} {ks : List SE} (h : PSt w B p FS T ks W) {m : GMsg} {A : Option Addr} {n c : Nat} (hM : MsgAt w w.heap.size m A n c) (tick : Int) {v : Value} (hN : NetAt W w.heap.size B FS T v (ks.map absK)) :
    Calls Try.prog 13 #[.pointer (some ⟨B, 0, none⟩), .int .i64 tick, msgV m A n c] W (SendPost W w.heap.size B FS T v (ks.map absK) tick m) :=
  send_any W w.heap.size B FS T v _ hN h.bel.size tick m A n c ((hM.below h.bel).more h.bel.size) (fun h0 q hq hf => by
    obtain ⟨b, o, e, hb, _⟩ := hM.rd.2 h0
    rw [e] at hq
    cases hq
    rcases hf with hf | hf
    · have := hN.lo; simp only at hf; omega
    · have := (hN.vlt _ hf).1; simp only at this; omega)
/-- the net has sent -/
theorem PSt.sent {w W W' : World} {B p : Nat} {FS : List GF} {T tick : Int} {ks : List SE} {m : GMsg} {v : Value} {e : Ending} (h : PSt w B p FS T ks W) (hN : NetAt W w.heap.size B FS T v (ks.map absK)) (hk : sendC FS T (ks.map absK) tick m = 0) (hp : SendPost W w.heap.size B FS T v (ks.map absK) tick m e W') :
    e = .returned (.int .i64 0) ∧ (∃ v', NetAt W' w.heap.size B FS tick v' (ks.map absK ++ flightsF FS tick m)) ∧ (∃ u, WayAt W' w.heap.size p u ks) ∧ Below w.heap.size w W' ∧ Mod (NetF B v) W W' := by
  obtain ⟨v', he, h1, h2, _⟩ := hp
  unfold sendT sendK at h1
  rw [hk, if_pos rfl, if_pos rfl] at h1
  rw [hk] at he
  obtain ⟨_, ⟨u, hu⟩, h4, h5⟩ := h
  obtain ⟨q1, q2, q3, q4⟩ := id hu
  refine ⟨he, ⟨v', h1⟩, ⟨u, q1, h2.blk q2 (hN.off q2 (by decide) (by decide)), h2.own q3 (fun g cs _ hkb => hN.off hkb (by decide) (by decide)), fun k hk => (q4 k hk).below (h2.below (fun g hg hf => ?_) (by have := q2.lt; omega))⟩, h5.trans (h2.below (fun g hg hf => ?_) h5.size), h2⟩
  all_goals
    rcases hf with rfl | hf
    · have := hN.lo; omega
    · have := (hN.vlt g hf).1; omega
structure FSt (w : World) (B p : Nat) (FS : List GF) (T : Int) (ks : List SE) (gm : Nat) (Au : Option Addr) (cu : Nat) (cs : Array Value) (W : World) : Prop where
  way : WayAt W w.heap.size p (.slice Au ks.length cu) ks
  box : Blk W gm 43 cs
  st : PSt w B p FS T ks W
theorem FSt.below {w W W' : World} {B p : Nat} {FS : List GF} {T : Int} {ks : List SE} {gm : Nat} {Au : Option Addr} {cu : Nat} {cs : Array Value} (h : FSt w B p FS T ks gm Au cu cs W) (hb : Below W.heap.size W W') : FSt w B p FS T ks gm Au cu cs W' := ⟨h.way.below hb, h.box.below hb h.box.lt, h.st.below hb⟩
/-- the net is ahead of the list -/
structure GSt (w : World) (B p : Nat) (FS : List GF) (T : Int) (K : List AK) (ks : List SE) (gm : Nat) (Au : Option Addr) (nu cu : Nat) (cs : Array Value) (W : World) : Prop where
  net : ∃ v, NetAt W w.heap.size B FS T v K
  lo : w.heap.size ≤ p
  pb : Blk W p 50 #[.slice Au nu cu]
  box : Blk W gm 43 cs
  ms : ∀ k ∈ ks, MsgAt W w.heap.size k.2.m k.2.A k.2.n k.2.c
  bel : Below w.heap.size w W
theorem GSt.below {w W W' : World} {B p : Nat} {FS : List GF} {T : Int} {K : List AK} {ks : List SE} {gm : Nat} {Au : Option Addr} {nu cu : Nat} {cs : Array Value} (h : GSt w B p FS T K ks gm Au nu cu cs W) (hb : Below W.heap.size W W') : GSt w B p FS T K ks gm Au nu cu cs W' := by
  obtain ⟨⟨v, h1⟩, h2, h3, h4, h5, h6⟩ := h
  exact ⟨⟨v, h1.below hb⟩, h2, h3.below hb h3.lt, h4.below hb h4.lt, fun k hk => (h5 k hk).below (hb.mono h6.size), h6.trans (hb.mono h6.size)⟩
theorem GSt.keep {w W W' : World} {B p : Nat} {FS : List GF} {T : Int} {K : List AK} {ks : List SE} {gm : Nat} {Au : Option Addr} {nu cu : Nat} {cs : Array Value} {F : Nat → Prop} (h : GSt w B p FS T K ks gm Au nu cu cs W) (hm : Mod F W W') (hF : ∀ g t cs, Blk W g t cs → F g → t = 86) (hlo : ∀ g, F g → w.heap.size ≤ g) : GSt w B p FS T K ks gm Au nu cu cs W' := by
  obtain ⟨⟨v, h1⟩, h2, h3, h4, h5, h6⟩ := h
  have hb : Below w.heap.size W W' := hm.below (fun g hg hf => by have := hlo g hf; omega) h6.size
  exact ⟨⟨v, h1.keep hm (fun g t cs hk hf => by
    rw [hF g t cs hk hf]
    exact ⟨by decide, by decide, by decide, by decide⟩)⟩, h2, hm.blk h3 (fun hf => absurd (hF _ _ _ h3 hf) (by decide)), hm.blk h4 (fun hf => absurd (hF _ _ _ h4 hf) (by decide)), fun k hk => (h5 k hk).below hb, h6.trans hb⟩
theorem GSt.done {w W : World} {B p : Nat} {FS : List GF} {T : Int} {ks : List SE} {gm : Nat} {Au : Option Addr} {nu cu : Nat} {cs : Array Value} {A3 : Option Addr} {c3 : Nat} (h : GSt w B p FS T (ks.map absK) ks gm Au nu cu cs W) (hr : W.ownsRow w.heap.size 86 7 (.slice A3 ks.length c3) ks.length (ks.flatMap encS)) (hT : 0 ≤ T ∧ T ≤ 2000) : PSt w B p FS T ks (W.setCell ⟨p, 0, none⟩ (.slice A3 ks.length c3)) := by
  obtain ⟨⟨v, h1⟩, h2, h3, h4, h5, h6⟩ := h
  have hS := Mod.of_grow (GroW.set W p 0 (.slice A3 ks.length c3))
  have hb : Below w.heap.size W (W.setCell ⟨p, 0, none⟩ (.slice A3 ks.length c3)) := hS.below (fun g hg e => by omega) h6.size
  refine ⟨⟨v, h1.keep hS (fun g t cs hk e => by
    subst e
    rw [blk_type hk h3]
    exact ⟨by decide, by decide, by decide, by decide⟩)⟩, ⟨_, h2, h3.set 0 _, hS.own hr (fun g cs _ hk e => by
    subst e
    exact absurd (blk_type hk h3) (by decide)), fun k hk => (h5 k hk).below hb⟩, hT, h6.trans hb⟩
theorem encS_one (L : List SE) : ∀ u ∈ L.flatMap encS, u.oneCell' = true := by
  intro u hu
  obtain ⟨c, _, h⟩ := List.mem_flatMap.1 hu
  simp only [encS, encM, List.mem_cons, List.not_mem_nil, or_false] at h
  rcases h with rfl | rfl | rfl | rfl | rfl | rfl | rfl <;> rfl
/-- a number as an index -/
theorem idx_ok (x : Int) (n : Nat) (h0 : 0 < n) (hn : n ≤ 4398046511103) : ∃ a b : Int, ∃ i : Nat, x.tmod n = a ∧ a + n = b ∧ b.tmod n = (i : Int) ∧ i < n ∧ IntKind.i64.wrap a = a ∧ IntKind.i64.wrap b = b ∧ IntKind.i64.wrap (i : Int) = i := by
  have e := Int.emod_nonneg x (show (n : Int) ≠ 0 by omega)
  have e2 := Int.emod_lt_of_pos x (show (0 : Int) < n by omega)
  have h1 : -(n : Int) < x.tmod n ∧ x.tmod n < n := by
    rw [Int.tmod_eq_emod]
    split
    · omega
    · rename_i h
      have h3 : x % (n : Int) ≠ 0 := fun h0 => h (.inr (Int.dvd_of_emod_eq_zero h0))
      omega
  have h2 : (x.tmod n + n).tmod n = (x.tmod n + n) % n := Int.tmod_eq_emod_of_nonneg (by omega)
  have h3 := Int.emod_nonneg (x.tmod n + n) (show (n : Int) ≠ 0 by omega)
  have h4 := Int.emod_lt_of_pos (x.tmod n + n) (show (0 : Int) < n by omega)
  refine ⟨_, _, ((x.tmod n + n) % n).toNat, rfl, rfl, by rw [h2]; omega, by omega, ?_, ?_, ?_⟩
  all_goals rw [IntKind.wrap_i64]; omega
def MCut (w : World) (B p : Nat) (FS : List GF) (T : Int) (ks : List SE) (gm : Nat) (wx : World) : Prop := ∃ s : SM, MsgAt w w.heap.size s.m s.A s.n s.c ∧ Blk wx gm 43 (encM s).toArray ∧ PSt w B p FS T ks wx
def PRel (w : World) (B p : Nat) (FS : List GF) (n : Nat) (i last : Value) (wr : World) : Prop := ∃ (j : Nat) (T : Int) (ks : List SE), j ≤ n ∧ i = .int .i64 j ∧ last = .int .i64 T ∧ PSt w B p FS T ks wr
set_option maxRecDepth 100000 in
set_option maxHeartbeats 8000000 in
theorem walk (v0 v1 v2 : Value) (w : World) {b0 b1 b2 : Nat} (f0 : SlArg Go.Gy.encF wfF 3 24 w v0 b0) (f1 : SlArg encD wfD 3 24 w v1 b1) (f2 : MsgsArg w v2 b2) :
    Calls Try.prog 5 #[v0, v1, v2] w fun e w' => e = .returned (.bool true) ∧ Below w.heap.size w w' := by
  obtain ⟨Af, nf, cf, FS, rfl, hFl, _, _, hFr, _, hFn, hFd, _⟩ := f0
  obtain ⟨Ad, nd, cd, DS, rfl, hDl, _, _, hDr, _, hDn, hDd, hDw⟩ := f1
  obtain ⟨Am, nm, cm, L, rfl, hLl, hLc, hLr, _, hLn, hLd, hLm⟩ := f2
  have hnd : nd ≤ 5864062014805 := by unfold reachBytes at *; omega
  have hnm : nm ≤ 4398046511103 := by unfold reachBytes at *; omega
  have HNEW := Lib.hid (netnew_any w Af nf cf FS (fun h => ⟨by have := hFn h; omega, hFn h⟩) hFl (by unfold reachBytes at *; omega) hFd)
  have HFL := Lib.hid (show ∀ W, Below w.heap.size w W → ∀ (tick : Int), 0 ≤ tick ∧ tick ≤ 2000 → ∀ (m : GMsg) A n c, Calls Try.prog 20 #[.slice Af nf cf, .int .i64 tick, msgV m A n c] W (FlPost W FS tick m A n c) from fun W hW tick ht m A n c => flights_any W Af nf cf FS hFl (by unfold reachBytes at *; omega) ((hFd.below hW).more hW.size) tick ht m A n c)
  have HDD := Lib.hid hDd
  have HDL := Lib.hid hDl
  have HDW := Lib.hid hDw
  have HLL := Lib.hid hLl
  have HLD := Lib.hid hLd
  have HLM := Lib.hid hLm
  clear hFl hFr hFn hFd hDl hDr hDn hDd hDw hLl hLc hLr hLn hLd hLm
  go_enter Try.func5, Try.ntmps5
  go_wp2_with fail
  refine HNEW.out.mono ?_
  rintro e w1 ⟨B, rfl, hN1, hb1⟩
  have HN1 := Lib.hid hN1
  have HB1 := Lib.hid hb1
  have hS := send_any w1 w.heap.size B FS 0 _ [] hN1 hb1.size 0 ⟨9, 0, 0, 0, 0, []⟩ none 0 0 ⟨rfl, Nat.le_refl _, fun _ => ⟨rfl, rfl⟩, by omega, ⟨rfl, fun h => absurd h (Nat.lt_irrefl 0)⟩⟩ (fun h => absurd h (Nat.lt_irrefl 0))
  have HS := Lib.hid hS
  clear hN1 hb1 hS HNEW
  go_wp2_with fail
  refine HS.out.mono ?_
  rintro e w3 ⟨v3, rfl, hN3, hm3, _⟩
  have hc : sendC FS 0 [] 0 ⟨9, 0, 0, 0, 0, []⟩ = 1 := by
    unfold sendC
    rw [if_neg (by omega), if_neg (by omega)]
    rfl
  unfold sendT sendK at hN3
  rw [hc, if_neg (by decide), if_neg (by decide)] at hN3
  rw [hc]
  have HN3 := Lib.hid hN3
  have HB3 := Lib.hid (HB1.out.trans (hm3.below (fun k hk hf => by
    rcases hf with hf | hf
    · have := HN1.out.lo; omega
    · cases hf) HB1.out.size))
  clear hN3 hm3 hc HS
  go_upto_region 5 with (fail)
  have hk4 := Blk.new w3 50 #[.slice none 0 0]
  have hb4 : Below w3.heap.size w3 (w3.alloc (.cells #[.slice none 0 0] 50)) := (Below.refl _ _).alloc (Nat.le_refl _) _
  have hst := Lib.hid (show PRel w B w3.heap.size FS nd (.int .i64 0) (.int .i64 0) (w3.alloc (.cells #[.slice none 0 0] 50)) from ⟨0, 0, [], Nat.zero_le _, rfl, rfl, ⟨v3, HN3.out.below hb4⟩, ⟨.slice none 0 0, HB3.out.size, hk4, World.ownsRow_nil _ _ _ _, fun k hk => (by cases hk)⟩, by omega, HB3.out.trans (hb4.mono HB3.out.size)⟩)
  generalize w3.alloc (.cells #[.slice none 0 0] 50) = w4 at hst ⊢
  obtain ⟨p, hp⟩ : ∃ p, p = w3.heap.size := ⟨_, rfl⟩
  rw [← hp] at hst ⊢
  clear hk4 hb4 HN3 HB3 HN1 HB1 hp
  go_wp2_with fail
  go_loopw [27, 9] (fun i last wr => PRel w B p FS nd i last wr) (fun i _ _ => nd - (intOf i).toNat)
  case atStart => exact hst.out
  case round =>
    clear hst
    obtain ⟨j, T, ks, hj, rfl, rfl, hP⟩ := hrel
    by_cases hlt : j < nd
    · have hji : (j : Int) < (nd : Int) := by omega
      have hwj : IntKind.i64.wrap ((j : Int) + 1) = (j : Int) + 1 := by rw [IntKind.wrap_i64]; omega
      obtain ⟨bd, od, ⟨d0, d1, d2⟩, rfl, hbB, hg, hcc⟩ := (HDD.out.below hP.bel).elem encD_len HDL.out hlt
      have x0 : wr.cell? ⟨bd, od + j * 3, none⟩ = some (.int .i64 d0) := hcc 0 _ rfl
      have x1 : wr.cell? ⟨bd, od + j * 3 + 1, none⟩ = some (.int .i64 d1) := hcc 1 _ rfl
      have x2 : wr.cell? ⟨bd, od + j * 3 + 2, none⟩ = some (.int .i64 d2) := hcc 2 _ rfl
      have HP := Lib.hid hP
      clear hcc hg hP
      go_upto_region 9 with (fail)
      have hk5 := Blk.new wr 32 #[.int .i64 d0, .int .i64 d1, .int .i64 d2]
      have hb5 : Below wr.heap.size wr (wr.alloc (.cells #[.int .i64 d0, .int .i64 d1, .int .i64 d2] 32)) := (Below.refl _ _).alloc (Nat.le_refl _) _
      generalize wr.alloc (.cells #[.int .i64 d0, .int .i64 d1, .int .i64 d2] 32) = w5 at hk5 hb5 ⊢
      have y0 := hk5.cell 0 _ rfl
      have y1 := hk5.cell 1 _ rfl
      have y2 := hk5.cell 2 _ rfl
      have hP5 := HP.out.below hb5
      have hwev : IntKind.i64.wrap (d0.tmod 2) = d0.tmod 2 := by
        obtain ⟨a, b, i, h1, _, _, _, h2, _⟩ := idx_ok d0 2 (by omega) (by omega)
        have h1 : d0.tmod 2 = a := h1
        rw [h1]
        exact h2
      by_cases hev : d0.tmod 2 = 0
      · obtain ⟨⟨v, hN⟩, ⟨u, hW⟩, hT, hB⟩ := id hP5
        have HTK := Lib.hid (takes_any w5 w.heap.size B p FS T v u ks hN hB.size hW d1 d2)
        have HP5 := Lib.hid hP5
        have hevb : (d0.tmod 2 == 0) = true := by rw [hev]; rfl
        clear hk5 hb5 hP5 hN hW hT hB x0 x1 x2
        go_wp2_with fail
        refine HTK.out.mono ?_
        intro e w6 hp6
        obtain ⟨rfl, ks', hP6⟩ := HP5.out.takes hp6
        have HX := Lib.hid (show PRel w B p FS nd (.int .i64 ((j : Int) + 1)) (.int .i64 T) w6 from ⟨j + 1, T, ks', hlt, by simp, rfl, hP6⟩)
        clear hp6 hP6 HTK
        go_wp2_with fail
        go_roundw
        case rel => exact HX.out
        case measure => simp [intOf]; omega
      · have hevb : (d0.tmod 2 == 0) = false := by simpa using hev
        have HP5 := Lib.hid hP5
        have HK5 := Lib.hid hk5
        clear hb5 hP5 hk5 x0 x1 x2
        go_upto_if 46 with (fail)
        have hk6 := Blk.new w5 43 #[.int .i64 0, .int .i64 1, .int .i64 0, .int .i64 0, .int .u32 0, .slice none 0 0]
        have hb6 : Below w5.heap.size w5 (w5.alloc (.cells #[.int .i64 0, .int .i64 1, .int .i64 0, .int .i64 0, .int .u32 0, .slice none 0 0] 43)) := (Below.refl _ _).alloc (Nat.le_refl _) _
        have hg5 : w.heap.size ≤ w5.heap.size := HP5.out.bel.size
        generalize w5.alloc (.cells #[.int .i64 0, .int .i64 1, .int .i64 0, .int .i64 0, .int .u32 0, .slice none 0 0] 43) = w6 at hk6 hb6 ⊢
        have hk5 := HK5.out.below hb6 HK5.out.lt
        have y2 := hk5.cell 2 _ rfl
        have hP6 := HP5.out.below hb6
        obtain ⟨gm, hgm⟩ : ∃ gm, gm = w5.heap.size := ⟨_, rfl⟩
        rw [← hgm] at hk6 hg5 ⊢
        have HP6 := Lib.hid hP6
        have HK6 := Lib.hid hk6
        have HG5 := Lib.hid hg5
        clear hk6 hb6 hk5 hP6 hg5 hgm HK5 HP5 y0 y1
        go_cut [46] (fun _ wx => MCut w B p FS T ks gm wx)
        case first =>
          by_cases hm0 : 0 < nm
          · have hmi : (0 : Int) < (nm : Int) := by omega
            have hmz : ((nm : Int) == 0) = false := by simp; omega
            obtain ⟨a, b, ix, e1, e2, e3, e4, e5, e6, e7⟩ := idx_ok d2 nm hm0 hnm
            obtain ⟨bm, om, ⟨⟨mk, ms, mt, mq, mc, ml⟩, A, n, c⟩, rfl, hbM, hgM, hcM⟩ := (HLD.out.below HP6.out.bel).elem encM_len HLL.out e4
            have x0 : w6.cell? ⟨bm, om + ix * 6, none⟩ = some (.int .i64 mk) := hcM 0 _ rfl
            have x1 : w6.cell? ⟨bm, om + ix * 6 + 1, none⟩ = some (.int .i64 ms) := hcM 1 _ rfl
            have x2 : w6.cell? ⟨bm, om + ix * 6 + 2, none⟩ = some (.int .i64 mt) := hcM 2 _ rfl
            have x3 : w6.cell? ⟨bm, om + ix * 6 + 3, none⟩ = some (.int .i64 mq) := hcM 3 _ rfl
            have x4 : w6.cell? ⟨bm, om + ix * 6 + 4, none⟩ = some (.int .u32 mc) := hcM 4 _ rfl
            have x5 : w6.cell? ⟨bm, om + ix * 6 + 5, none⟩ = some (.slice A n c) := hcM 5 _ rfl
            have HMA := Lib.hid (HLM.out _ (List.mem_of_getElem? hgM)).1
            have zf := fun i => HK6.out.free i
            have z0 := HK6.out.cell 0 _ rfl
            have z1 := HK6.out.cell 1 _ rfl
            have z2 := HK6.out.cell 2 _ rfl
            have z3 := HK6.out.cell 3 _ rfl
            have z4 := HK6.out.cell 4 _ rfl
            have z5 := HK6.out.cell 5 _ rfl
            clear hcM hgM
            go_wp2_with fail
            go_meet
            exact ⟨⟨⟨mk, ms, mt, mq, mc, ml⟩, A, n, c⟩, HMA.out, box6 HK6.out _ _ _ _ _ _, HP6.out.keep (mod6 w6 gm _ _ _ _ _ _) (fun g t cs hk e => by
              subst e
              exact blk_type hk HK6.out) (fun g e => by
              subst e
              exact HG5.out)⟩
          · have hm0' : ¬ (0 : Int) < (nm : Int) := by omega
            go_wp2_with fail
            go_meet
            exact ⟨⟨⟨0, 1, 0, 0, 0, []⟩, none, 0, 0⟩, ⟨rfl, Nat.le_refl _, fun _ => ⟨rfl, rfl⟩, Nat.zero_le _, ⟨rfl, fun h => absurd h (Nat.lt_irrefl 0)⟩⟩, HK6.out, HP6.out⟩
        case rest =>
          obtain ⟨⟨⟨mk, ms, mt, mq, mc, ml⟩, A, n, c⟩, hMA, hk7, hP7⟩ := hcut
          obtain ⟨w7, rfl⟩ : ∃ w7, w7 = wc := ⟨_, rfl⟩
          obtain ⟨m, hm⟩ : ∃ m : GMsg, m = ⟨mk, ms, mt, mq, mc, ml⟩ := ⟨_, rfl⟩
          obtain ⟨F0, hF0⟩ : ∃ F0, F0 = msgF0 m := ⟨_, rfl⟩
          obtain ⟨F1, hF1⟩ : ∃ F1, F1 = cellsF ml := ⟨_, rfl⟩
          have HMF := Lib.hid (fun W => show Calls Try.prog 18 #[.agg #[.int .i64 mk, .int .i64 ms, .int .i64 mt, .int .i64 mq, .int .u32 mc, .slice A n c]] W fun e w' => e = .returned (.int .i64 (F0 : Int)) ∧ Below W.heap.size W w' from by rw [hF0, hm]; exact msgfault_any W ⟨mk, ms, mt, mq, mc, ml⟩ A n c hMA.len)
          have HCF := Lib.hid (fun W (hW : Below w.heap.size w W) => show Calls Try.prog 19 #[.slice A n c] W fun e w' => e = .returned (.int .i64 (F1 : Int)) ∧ Below W.heap.size W w' from by rw [hF1]; exact cellsfault_any W A n c ml hMA.len ((hMA.rd.below hW).more hW.size))
          have HSC := Lib.hid (show sendC FS T (ks.map absK) d1 m = (if d1 < 0 ∨ 2000 < d1 then 1 else if d1 < T then 9 else if F0 ≠ 0 then F0 else if F1 ≠ 0 then F1 else if 1000 < ks.length + (flightsF FS d1 m).length then 6 else 0) from by
            unfold sendC
            rw [List.length_map, hF0, hF1]
            unfold msgF
            rw [hm]
            by_cases e : msgF0 ⟨mk, ms, mt, mq, mc, ml⟩ = 0
            · simp only [e, if_true, ne_eq, not_true_eq_false, if_false]
            · simp only [e, if_false, ne_eq, not_false_eq_true, if_true])
          have HM := Lib.hid hm
          have HMA := Lib.hid hMA
          have HK7 := Lib.hid hk7
          have HP7 := Lib.hid hP7
          clear hF0 hF1 hm hMA hk7 hP7
          by_cases ht0 : d1 < 0
          · have HSK := Lib.hid (show sendC FS T (ks.map absK) d1 m = 1 from by rw [HSC.out, if_pos (.inl ht0)])
            have z0 := HK7.out.cell 0 _ rfl
            have z1 := HK7.out.cell 1 _ rfl
            have z2 := HK7.out.cell 2 _ rfl
            have z3 := HK7.out.cell 3 _ rfl
            have z4 := HK7.out.cell 4 _ rfl
            have z5 := HK7.out.cell 5 _ rfl
            go_upto_region 27 with (fail)
            obtain ⟨⟨v, hN⟩, _⟩ := id HP7.out
            have HSD := Lib.hid (HP7.out.sendAt HMA.out d1 hN)
            have HN := Lib.hid hN
            clear hN
            go_wp2_with fail
            refine HSD.out.mono ?_
            intro e w9 hp9
            obtain ⟨rfl, hP9⟩ := HP7.out.send HN.out HSK.out (by omega) (by rw [HM.out]; exact hp9)
            have HP9 := Lib.hid hP9
            clear z0 z1 z2 z3 z4 z5
            clear hp9 hP9 HSD HN
            obtain ⟨⟨v9, hN9⟩, ⟨u9, hW9⟩, hT, hB9⟩ := id HP9.out
            obtain ⟨Au, cu, rfl, _⟩ := own_rd hW9.row
            have HKP := Lib.hid (fun W (hS : NetAt W w.heap.size B FS T v9 (ks.map absK) ∧ WayAt W w.heap.size p (.slice Au ks.length cu) ks ∧ PSt w B p FS T ks W) => kept_any W w.heap.size B FS T v9 _ hS.1)
            rw [List.length_map] at HKP
            go_upto_region 32 with (fail)
            refine wp_region_seq (fun W => NetAt W w.heap.size B FS T v9 (ks.map absK) ∧ WayAt W w.heap.size p (.slice Au ks.length cu) ks ∧ PSt w B p FS T ks W) (fun W W' h hb => ⟨h.1.below hb, h.2.1.below hb, h.2.2.below hb⟩) (by kernel_rfl) (by kernel_rfl) ⟨hN9.below (Below.refl _ _).drew, hW9.below (Below.refl _ _).drew, HP9.out.below (Below.refl _ _).drew⟩ ?_
            clear hN9 hW9 hT hB9
            repeat (first
              | (refine wpSeq_off (by rfl) ?_; try simp only [Act.put, List.setIfInBounds_toArray, List.set_cons_zero, List.set_cons_succ])
              | (refine wpSeq_val (v := ?_) (by rfl) (fun W hS => ?_) ?_
                 rotate_left
                 · ((have fx := hS.2.1.box.cell 0 _ rfl; clear hS); go_simp; first | done | with_reducible rfl)
                 try simp only [Act.put, List.setIfInBounds_toArray, List.set_cons_zero, List.set_cons_succ]))
            refine wpSeq_call (v := .int .i64 (ks.length : Int)) (by rfl) (fun W hS => ?_) (fun W hS => ((fun W hS => HKP.out W hS) W hS)) ?_
            · (clear hS; go_simp; done)
            try simp only [Act.put, List.setIfInBounds_toArray, List.set_cons_zero, List.set_cons_succ]
            repeat (first
              | (refine wpSeq_off (by rfl) ?_; try simp only [Act.put, List.setIfInBounds_toArray, List.set_cons_zero, List.set_cons_succ])
              | (refine wpSeq_val (v := ?_) (by rfl) (fun W hS => ?_) ?_
                 rotate_left
                 · ((have fx := hS.2.1.box.cell 0 _ rfl; clear hS); go_simp; first | done | with_reducible rfl)
                 try simp only [Act.put, List.setIfInBounds_toArray, List.set_cons_zero, List.set_cons_succ]))
            refine wpSeq_nil (fun W hS => ?_)
            have HX := Lib.hid (show PRel w B p FS nd (.int .i64 ((j : Int) + 1)) (.int .i64 T) W from ⟨j + 1, T, ks, hlt, by simp, rfl, hS.2.2⟩)
            clear hS
            go_wp2_with fail
            go_roundw
            case rel => exact HX.out
            case measure => simp [intOf]; omega
          · by_cases ht1 : 2000 < d1
            · have HSK := Lib.hid (show sendC FS T (ks.map absK) d1 m = 1 from by rw [HSC.out, if_pos (.inr ht1)])
              have z0 := HK7.out.cell 0 _ rfl
              have z1 := HK7.out.cell 1 _ rfl
              have z2 := HK7.out.cell 2 _ rfl
              have z3 := HK7.out.cell 3 _ rfl
              have z4 := HK7.out.cell 4 _ rfl
              have z5 := HK7.out.cell 5 _ rfl
              go_upto_region 27 with (fail)
              obtain ⟨⟨v, hN⟩, _⟩ := id HP7.out
              have HSD := Lib.hid (HP7.out.sendAt HMA.out d1 hN)
              have HN := Lib.hid hN
              clear hN
              go_wp2_with fail
              refine HSD.out.mono ?_
              intro e w9 hp9
              obtain ⟨rfl, hP9⟩ := HP7.out.send HN.out HSK.out (by omega) (by rw [HM.out]; exact hp9)
              have HP9 := Lib.hid hP9
              clear z0 z1 z2 z3 z4 z5
              clear hp9 hP9 HSD HN
              obtain ⟨⟨v9, hN9⟩, ⟨u9, hW9⟩, hT, hB9⟩ := id HP9.out
              obtain ⟨Au, cu, rfl, _⟩ := own_rd hW9.row
              have HKP := Lib.hid (fun W (hS : NetAt W w.heap.size B FS T v9 (ks.map absK) ∧ WayAt W w.heap.size p (.slice Au ks.length cu) ks ∧ PSt w B p FS T ks W) => kept_any W w.heap.size B FS T v9 _ hS.1)
              rw [List.length_map] at HKP
              go_upto_region 32 with (fail)
              refine wp_region_seq (fun W => NetAt W w.heap.size B FS T v9 (ks.map absK) ∧ WayAt W w.heap.size p (.slice Au ks.length cu) ks ∧ PSt w B p FS T ks W) (fun W W' h hb => ⟨h.1.below hb, h.2.1.below hb, h.2.2.below hb⟩) (by kernel_rfl) (by kernel_rfl) ⟨hN9.below (Below.refl _ _).drew, hW9.below (Below.refl _ _).drew, HP9.out.below (Below.refl _ _).drew⟩ ?_
              clear hN9 hW9 hT hB9
              repeat (first
                | (refine wpSeq_off (by rfl) ?_; try simp only [Act.put, List.setIfInBounds_toArray, List.set_cons_zero, List.set_cons_succ])
                | (refine wpSeq_val (v := ?_) (by rfl) (fun W hS => ?_) ?_
                   rotate_left
                   · ((have fx := hS.2.1.box.cell 0 _ rfl; clear hS); go_simp; first | done | with_reducible rfl)
                   try simp only [Act.put, List.setIfInBounds_toArray, List.set_cons_zero, List.set_cons_succ]))
              refine wpSeq_call (v := .int .i64 (ks.length : Int)) (by rfl) (fun W hS => ?_) (fun W hS => ((fun W hS => HKP.out W hS) W hS)) ?_
              · (clear hS; go_simp; done)
              try simp only [Act.put, List.setIfInBounds_toArray, List.set_cons_zero, List.set_cons_succ]
              repeat (first
                | (refine wpSeq_off (by rfl) ?_; try simp only [Act.put, List.setIfInBounds_toArray, List.set_cons_zero, List.set_cons_succ])
                | (refine wpSeq_val (v := ?_) (by rfl) (fun W hS => ?_) ?_
                   rotate_left
                   · ((have fx := hS.2.1.box.cell 0 _ rfl; clear hS); go_simp; first | done | with_reducible rfl)
                   try simp only [Act.put, List.setIfInBounds_toArray, List.set_cons_zero, List.set_cons_succ]))
              refine wpSeq_nil (fun W hS => ?_)
              have HX := Lib.hid (show PRel w B p FS nd (.int .i64 ((j : Int) + 1)) (.int .i64 T) W from ⟨j + 1, T, ks, hlt, by simp, rfl, hS.2.2⟩)
              clear hS
              go_wp2_with fail
              go_roundw
              case rel => exact HX.out
              case measure => simp [intOf]; omega
            · by_cases ht2 : d1 < T
              · have HSK := Lib.hid (show sendC FS T (ks.map absK) d1 m = 9 from by rw [HSC.out, if_neg (by omega), if_pos ht2])
                have z0 := HK7.out.cell 0 _ rfl
                have z1 := HK7.out.cell 1 _ rfl
                have z2 := HK7.out.cell 2 _ rfl
                have z3 := HK7.out.cell 3 _ rfl
                have z4 := HK7.out.cell 4 _ rfl
                have z5 := HK7.out.cell 5 _ rfl
                go_upto_region 27 with (fail)
                obtain ⟨⟨v, hN⟩, _⟩ := id HP7.out
                have HSD := Lib.hid (HP7.out.sendAt HMA.out d1 hN)
                have HN := Lib.hid hN
                clear hN
                go_wp2_with fail
                refine HSD.out.mono ?_
                intro e w9 hp9
                obtain ⟨rfl, hP9⟩ := HP7.out.send HN.out HSK.out (by omega) (by rw [HM.out]; exact hp9)
                have HP9 := Lib.hid hP9
                clear z0 z1 z2 z3 z4 z5
                clear hp9 hP9 HSD HN
                obtain ⟨⟨v9, hN9⟩, ⟨u9, hW9⟩, hT, hB9⟩ := id HP9.out
                obtain ⟨Au, cu, rfl, _⟩ := own_rd hW9.row
                have HKP := Lib.hid (fun W (hS : NetAt W w.heap.size B FS T v9 (ks.map absK) ∧ WayAt W w.heap.size p (.slice Au ks.length cu) ks ∧ PSt w B p FS T ks W) => kept_any W w.heap.size B FS T v9 _ hS.1)
                rw [List.length_map] at HKP
                go_upto_region 32 with (fail)
                refine wp_region_seq (fun W => NetAt W w.heap.size B FS T v9 (ks.map absK) ∧ WayAt W w.heap.size p (.slice Au ks.length cu) ks ∧ PSt w B p FS T ks W) (fun W W' h hb => ⟨h.1.below hb, h.2.1.below hb, h.2.2.below hb⟩) (by kernel_rfl) (by kernel_rfl) ⟨hN9.below (Below.refl _ _).drew, hW9.below (Below.refl _ _).drew, HP9.out.below (Below.refl _ _).drew⟩ ?_
                clear hN9 hW9 hT hB9
                repeat (first
                  | (refine wpSeq_off (by rfl) ?_; try simp only [Act.put, List.setIfInBounds_toArray, List.set_cons_zero, List.set_cons_succ])
                  | (refine wpSeq_val (v := ?_) (by rfl) (fun W hS => ?_) ?_
                     rotate_left
                     · ((have fx := hS.2.1.box.cell 0 _ rfl; clear hS); go_simp; first | done | with_reducible rfl)
                     try simp only [Act.put, List.setIfInBounds_toArray, List.set_cons_zero, List.set_cons_succ]))
                refine wpSeq_call (v := .int .i64 (ks.length : Int)) (by rfl) (fun W hS => ?_) (fun W hS => ((fun W hS => HKP.out W hS) W hS)) ?_
                · (clear hS; go_simp; done)
                try simp only [Act.put, List.setIfInBounds_toArray, List.set_cons_zero, List.set_cons_succ]
                repeat (first
                  | (refine wpSeq_off (by rfl) ?_; try simp only [Act.put, List.setIfInBounds_toArray, List.set_cons_zero, List.set_cons_succ])
                  | (refine wpSeq_val (v := ?_) (by rfl) (fun W hS => ?_) ?_
                     rotate_left
                     · ((have fx := hS.2.1.box.cell 0 _ rfl; clear hS); go_simp; first | done | with_reducible rfl)
                     try simp only [Act.put, List.setIfInBounds_toArray, List.set_cons_zero, List.set_cons_succ]))
                refine wpSeq_nil (fun W hS => ?_)
                have HX := Lib.hid (show PRel w B p FS nd (.int .i64 ((j : Int) + 1)) (.int .i64 T) W from ⟨j + 1, T, ks, hlt, by simp, rfl, hS.2.2⟩)
                clear hS
                go_wp2_with fail
                go_roundw
                case rel => exact HX.out
                case measure => simp [intOf]; omega
              · have HSC2 := Lib.hid (HSC.out.trans ((if_neg (by omega)).trans (if_neg ht2)))
                clear HSC
                by_cases hf0 : F0 = 0
                · subst hf0
                  have z0 := HK7.out.cell 0 _ rfl
                  have z1 := HK7.out.cell 1 _ rfl
                  have z2 := HK7.out.cell 2 _ rfl
                  have z3 := HK7.out.cell 3 _ rfl
                  have z4 := HK7.out.cell 4 _ rfl
                  have z5 := HK7.out.cell 5 _ rfl
                  go_upto_region 21 with (fail)
                  go_wp2_with fail
                  refine (HMF.out _).mono ?_
                  rintro e w8 ⟨rfl, hb8⟩
                  have hK8 := HK7.out.below hb8 HK7.out.lt
                  have hP8 := HP7.out.below hb8
                  clear z0 z1 z2 z3 z4 z5
                  clear HK7 HP7
                  have HK7 := Lib.hid hK8
                  have HP7 := Lib.hid hP8
                  have z0 := HK7.out.cell 0 _ rfl
                  have z1 := HK7.out.cell 1 _ rfl
                  have z2 := HK7.out.cell 2 _ rfl
                  have z3 := HK7.out.cell 3 _ rfl
                  have z4 := HK7.out.cell 4 _ rfl
                  have z5 := HK7.out.cell 5 _ rfl
                  clear hK8 hP8 hb8
                  go_upto_region 23 with (fail)
                  go_wp2_with fail
                  refine (HCF.out _ HP7.out.bel).mono ?_
                  rintro e w8 ⟨rfl, hb8⟩
                  have hK8 := HK7.out.below hb8 HK7.out.lt
                  have hP8 := HP7.out.below hb8
                  clear z0 z1 z2 z3 z4 z5
                  clear HK7 HP7
                  have HK7 := Lib.hid hK8
                  have HP7 := Lib.hid hP8
                  have z0 := HK7.out.cell 0 _ rfl
                  have z1 := HK7.out.cell 1 _ rfl
                  have z2 := HK7.out.cell 2 _ rfl
                  have z3 := HK7.out.cell 3 _ rfl
                  have z4 := HK7.out.cell 4 _ rfl
                  have z5 := HK7.out.cell 5 _ rfl
                  clear hK8 hP8 hb8
                  by_cases hf1 : F1 = 0
                  · subst hf1
                    go_upto_region 25 with (fail)
                    obtain ⟨⟨v, hN⟩, ⟨u, hW⟩, hT, hB⟩ := id HP7.out
                    obtain ⟨Au, cu, rfl, _⟩ := own_rd hW.row
                    obtain ⟨fl, hfl⟩ : ∃ fl, fl = (flightsF FS d1 ⟨mk, ms, mt, mq, mc, ml⟩).length := ⟨_, rfl⟩
                    have hfl2 : fl ≤ 2 := by rw [hfl, flightsF_len]; exact (planF_le ..).1
                    have hkl : ks.length ≤ 1000 := by rw [← List.length_map (f := absK)]; exact hN.ok.1
                    have hwf : IntKind.i64.wrap ((ks.length : Int) + fl) = (ks.length : Int) + fl := by rw [IntKind.wrap_i64]; omega
                    obtain ⟨b, hb⟩ : ∃ b, b = decide ((1000 : Int) < (ks.length : Int) + fl) := ⟨_, rfl⟩
                    have HFLL := Lib.hid hfl
                    have HBB := Lib.hid hb
                    have HW7 := Lib.hid hW
                    have HN7 := Lib.hid hN
                    have hdt : 0 ≤ d1 ∧ d1 ≤ 2000 := by omega
                    have HDT := Lib.hid hdt
                    have HFX := Lib.hid (fun W hW => HFL.out W hW d1 hdt ⟨mk, ms, mt, mq, mc, ml⟩ A n c)
                    clear z0 z1 z2 z3 z4 z5
                    clear hfl hb hN hW hT hB hdt
                    refine wp_region_invJ 9 (DetJ (fun i => ([some (.slice Au ks.length cu), some (.int .i64 (ks.length : Int)), some (.slice Af nf cf), some (.int .i64 d1), some (.agg #[.int .i64 mk, .int .i64 ms, .int .i64 mt, .int .i64 mq, .int .u32 mc, .slice A n c]), none, some (.int .i64 (fl : Int)), some (.int .i64 ((ks.length : Int) + fl)), some (.bool b)] : List (Option Value)).getD i none) 5 (FSt w B p FS T ks gm Au cu #[.int .i64 mk, .int .i64 ms, .int .i64 mt, .int .i64 mq, .int .u32 mc, .slice A n c]) (fun v W => FSt w B p FS T ks gm Au cu #[.int .i64 mk, .int .i64 ms, .int .i64 mt, .int .i64 mq, .int .u32 mc, .slice A n c] W ∧ ∃ A c, v = .slice A fl c)) (by kernel_rfl) (by kernel_rfl) (DetJ.start ((FSt.mk HW7.out HK7.out HP7.out).below (Below.refl _ _).drew)) ?_ ?_
                    · intro i o hi ho s vs W hJ hs hdep
                      have hF : FSt w B p FS T ks gm Au cu #[.int .i64 mk, .int .i64 ms, .int .i64 mt, .int .i64 mq, .int .u32 mc, .slice A n c] W := by
                        cases e5 : s 5 with
                        | false => exact hJ.w0 e5
                        | true => exact (hJ.w1 e5).1
                      rcases i with _ | _ | _ | _ | _ | _ | _ | _ | _ | i
                      all_goals first | omega | skip
                      all_goals (simp only [List.getElem?_cons_succ, List.getElem?_cons_zero, Option.some.injEq] at ho; subst ho)
                      · refine StepJ.val (v := .slice Au ks.length cu) rfl ?_ (hJ.same (by omega) rfl)
                        have x0 := hF.way.box.cell 0 _ rfl
                        clear hJ hdep hF
                        unfold lexA
                        simp only [putAll, preI, Nat.reduceLT, Nat.reduceAdd, decide_false, Bool.false_eq_true, if_false]
                        go_simp
                      · have d0 : vs 0 = .slice Au ks.length cu := hJ.dt 0 _ (hdep ⟨0, .data⟩ (by simp) rfl) rfl
                        refine StepJ.val (v := .int .i64 (ks.length : Int)) rfl ?_ (hJ.same (by omega) rfl)
                        clear hJ hdep hF
                        unfold lexA
                        simp only [putAll, preI, Nat.reduceLT, Nat.reduceAdd, decide_true, decide_false, Bool.false_eq_true, if_true, if_false, Act.put, List.setIfInBounds_toArray, List.set_cons_zero, List.set_cons_succ]
                        go_simp
                      · refine StepJ.val (v := .slice Af nf cf) rfl ?_ (hJ.same (by omega) rfl)
                        clear hJ hdep hF
                        unfold lexA
                        simp only [putAll, preI, Nat.reduceLT, Nat.reduceAdd, decide_true, decide_false, Bool.false_eq_true, if_true, if_false, Act.put, List.setIfInBounds_toArray, List.set_cons_zero, List.set_cons_succ]
                        go_simp
                      · refine StepJ.val (v := .int .i64 d1) rfl ?_ (hJ.same (by omega) rfl)
                        clear hJ hdep hF
                        unfold lexA
                        simp only [putAll, preI, Nat.reduceLT, Nat.reduceAdd, decide_true, decide_false, Bool.false_eq_true, if_true, if_false, Act.put, List.setIfInBounds_toArray, List.set_cons_zero, List.set_cons_succ]
                        go_simp
                      · refine StepJ.val (v := .agg #[.int .i64 mk, .int .i64 ms, .int .i64 mt, .int .i64 mq, .int .u32 mc, .slice A n c]) rfl ?_ (hJ.same (by omega) rfl)
                        have x0 := hF.box.cell 0 _ rfl
                        have x1 := hF.box.cell 1 _ rfl
                        have x2 := hF.box.cell 2 _ rfl
                        have x3 := hF.box.cell 3 _ rfl
                        have x4 := hF.box.cell 4 _ rfl
                        have x5 := hF.box.cell 5 _ rfl
                        clear hJ hdep hF
                        unfold lexA
                        simp only [putAll, preI, Nat.reduceLT, Nat.reduceAdd, decide_true, decide_false, Bool.false_eq_true, if_true, if_false, Act.put, List.setIfInBounds_toArray, List.set_cons_zero, List.set_cons_succ]
                        go_simp
                      · have d2 : vs 2 = .slice Af nf cf := hJ.dt 2 _ (hdep ⟨2, .data⟩ (by simp) rfl) rfl
                        have d3 : vs 3 = .int .i64 d1 := hJ.dt 3 _ (hdep ⟨3, .data⟩ (by simp) rfl) rfl
                        have d4 : vs 4 = .agg #[.int .i64 mk, .int .i64 ms, .int .i64 mt, .int .i64 mq, .int .u32 mc, .slice A n c] := hJ.dt 4 _ (hdep ⟨4, .data⟩ (by simp) rfl) rfl
                        refine StepJ.call rfl ?_ ((HFX.out W hF.st.bel).mono fun e W' ⟨vv, he, ho, hb⟩ => ⟨vv, he, hJ.mid rfl ⟨hF.below hb, ?_⟩⟩)
                        · clear hJ hdep hF
                          unfold lexA
                          simp only [putAll, preI, Nat.reduceLT, Nat.reduceAdd, decide_true, decide_false, Bool.false_eq_true, if_true, if_false, Act.put, List.setIfInBounds_toArray, List.set_cons_zero, List.set_cons_succ]
                          go_simp
                        · obtain ⟨A', c', e, _⟩ := own_rd ho
                          rw [← HFLL.out] at e
                          exact ⟨A', c', e⟩
                      · obtain ⟨_, A', c', d5⟩ := hJ.w1 (hdep ⟨5, .data⟩ (by simp) rfl)
                        refine StepJ.val (v := .int .i64 (fl : Int)) rfl ?_ (hJ.same (by omega) rfl)
                        clear hJ hdep hF
                        unfold lexA
                        simp only [putAll, preI, Nat.reduceLT, Nat.reduceAdd, decide_true, decide_false, Bool.false_eq_true, if_true, if_false, Act.put, List.setIfInBounds_toArray, List.set_cons_zero, List.set_cons_succ]
                        go_simp
                      · have d1 : vs 1 = .int .i64 (ks.length : Int) := hJ.dt 1 _ (hdep ⟨1, .data⟩ (by simp) rfl) rfl
                        have d6 : vs 6 = .int .i64 (fl : Int) := hJ.dt 6 _ (hdep ⟨6, .data⟩ (by simp) rfl) rfl
                        refine StepJ.val (v := .int .i64 ((ks.length : Int) + fl)) rfl ?_ (hJ.same (by omega) rfl)
                        clear hJ hdep hF
                        unfold lexA
                        simp only [putAll, preI, Nat.reduceLT, Nat.reduceAdd, decide_true, decide_false, Bool.false_eq_true, if_true, if_false, Act.put, List.setIfInBounds_toArray, List.set_cons_zero, List.set_cons_succ]
                        go_simp
                      · have d7 : vs 7 = .int .i64 ((ks.length : Int) + fl) := hJ.dt 7 _ (hdep ⟨7, .data⟩ (by simp) rfl) rfl
                        refine StepJ.val (v := .bool b) rfl ?_ (hJ.same (by omega) rfl)
                        clear hJ hdep hF
                        rw [HBB.out]
                        unfold lexA
                        simp only [putAll, preI, Nat.reduceLT, Nat.reduceAdd, decide_true, decide_false, Bool.false_eq_true, if_true, if_false, Act.put, List.setIfInBounds_toArray, List.set_cons_zero, List.set_cons_succ]
                        go_simp
                        all_goals rfl
                    · intro s vs W hall hJ
                      have d8 : vs 8 = .bool b := hJ.dt 8 _ (hall 8 (by omega)) rfl
                      have hF := (hJ.w1 (hall 5 (by omega))).1
                      have HK8 := Lib.hid hF.box
                      have HP8 := Lib.hid hF.st
                      have HW8 := Lib.hid hF.way
                      unfold lexA
                      simp only [putAll, preI, Nat.reduceLT, Nat.reduceAdd, decide_true, decide_false, Bool.false_eq_true, if_true, if_false, Act.put, List.setIfInBounds_toArray, List.set_cons_zero, List.set_cons_succ, List.drop_succ_cons, List.drop_zero]
                      rw [d8]
                      generalize vs 0 = e0
                      generalize vs 1 = e1
                      generalize vs 2 = e2
                      generalize vs 3 = e3
                      generalize vs 4 = e4
                      generalize vs 5 = e5
                      generalize vs 6 = e6
                      generalize vs 7 = e7
                      clear hJ hall hF d8 HK7 HP7 HW7 HN7
                      have HK7 := HK8
                      have HP7 := HP8
                      clear HK8 HP8
                      have z0 := HK7.out.cell 0 _ rfl
                      have z1 := HK7.out.cell 1 _ rfl
                      have z2 := HK7.out.cell 2 _ rfl
                      have z3 := HK7.out.cell 3 _ rfl
                      have z4 := HK7.out.cell 4 _ rfl
                      have z5 := HK7.out.cell 5 _ rfl
                      cases b with
                      | true =>
                        have HSK := Lib.hid (show sendC FS T (ks.map absK) d1 m = 6 from by
                          rw [HSC2.out, if_neg (by simp), if_neg (by simp), HM.out, ← HFLL.out, if_pos (by have := of_decide_eq_true HBB.out.symm; omega)])
                        clear HBB HFX
                        go_upto_region 27 with (fail)
                        obtain ⟨⟨v, hN⟩, _⟩ := id HP7.out
                        have HSD := Lib.hid (HP7.out.sendAt HMA.out d1 hN)
                        have HN := Lib.hid hN
                        clear hN
                        go_wp2_with fail
                        refine HSD.out.mono ?_
                        intro e w9 hp9
                        obtain ⟨rfl, hP9⟩ := HP7.out.send HN.out HSK.out (by omega) (by rw [HM.out]; exact hp9)
                        have HP9 := Lib.hid hP9
                        clear z0 z1 z2 z3 z4 z5
                        clear hp9 hP9 HSD HN
                        obtain ⟨⟨v9, hN9⟩, ⟨u9, hW9⟩, hT, hB9⟩ := id HP9.out
                        obtain ⟨Au, cu, rfl, _⟩ := own_rd hW9.row
                        have HKP := Lib.hid (fun W (hS : NetAt W w.heap.size B FS T v9 (ks.map absK) ∧ WayAt W w.heap.size p (.slice Au ks.length cu) ks ∧ PSt w B p FS T ks W) => kept_any W w.heap.size B FS T v9 _ hS.1)
                        rw [List.length_map] at HKP
                        go_upto_region 32 with (fail)
                        refine wp_region_seq (fun W => NetAt W w.heap.size B FS T v9 (ks.map absK) ∧ WayAt W w.heap.size p (.slice Au ks.length cu) ks ∧ PSt w B p FS T ks W) (fun W W' h hb => ⟨h.1.below hb, h.2.1.below hb, h.2.2.below hb⟩) (by kernel_rfl) (by kernel_rfl) ⟨hN9.below (Below.refl _ _).drew, hW9.below (Below.refl _ _).drew, HP9.out.below (Below.refl _ _).drew⟩ ?_
                        clear hN9 hW9 hT hB9
                        repeat (first
                          | (refine wpSeq_off (by rfl) ?_; try simp only [Act.put, List.setIfInBounds_toArray, List.set_cons_zero, List.set_cons_succ])
                          | (refine wpSeq_val (v := ?_) (by rfl) (fun W hS => ?_) ?_
                             rotate_left
                             · ((have fx := hS.2.1.box.cell 0 _ rfl; clear hS); go_simp; first | done | with_reducible rfl)
                             try simp only [Act.put, List.setIfInBounds_toArray, List.set_cons_zero, List.set_cons_succ]))
                        refine wpSeq_call (v := .int .i64 (ks.length : Int)) (by rfl) (fun W hS => ?_) (fun W hS => ((fun W hS => HKP.out W hS) W hS)) ?_
                        · (clear hS; go_simp; done)
                        try simp only [Act.put, List.setIfInBounds_toArray, List.set_cons_zero, List.set_cons_succ]
                        repeat (first
                          | (refine wpSeq_off (by rfl) ?_; try simp only [Act.put, List.setIfInBounds_toArray, List.set_cons_zero, List.set_cons_succ])
                          | (refine wpSeq_val (v := ?_) (by rfl) (fun W hS => ?_) ?_
                             rotate_left
                             · ((have fx := hS.2.1.box.cell 0 _ rfl; clear hS); go_simp; first | done | with_reducible rfl)
                             try simp only [Act.put, List.setIfInBounds_toArray, List.set_cons_zero, List.set_cons_succ]))
                        refine wpSeq_nil (fun W hS => ?_)
                        have HX := Lib.hid (show PRel w B p FS nd (.int .i64 ((j : Int) + 1)) (.int .i64 T) W from ⟨j + 1, T, ks, hlt, by simp, rfl, hS.2.2⟩)
                        clear hS
                        go_wp2_with fail
                        go_roundw
                        case rel => exact HX.out
                        case measure => simp [intOf]; omega
                      | false =>
                        have HSK := Lib.hid (show sendC FS T (ks.map absK) d1 m = 0 from by
                          rw [HSC2.out, if_neg (by simp), if_neg (by simp), HM.out, ← HFLL.out, if_neg (by have := of_decide_eq_false HBB.out.symm; omega)])
                        clear HBB
                        go_upto_region 27 with (fail)
                        obtain ⟨⟨v, hN⟩, _⟩ := id HP7.out
                        have HSD := Lib.hid (HP7.out.sendAt HMA.out d1 hN)
                        have HN := Lib.hid hN
                        clear hN
                        go_wp2_with fail
                        refine HSD.out.mono ?_
                        intro e w9 hp9
                        obtain ⟨rfl, hN9, ⟨u9, hW9⟩, hB9, hM9⟩ := HP7.out.sent HN.out HSK.out (by rw [HM.out]; exact hp9)
                        obtain ⟨Aw, cw, rfl, _⟩ := own_rd hW9.row
                        obtain ⟨i0, hi0, hz0, hz1, hz2⟩ := info_parts info_flight
                        obtain ⟨ks9, hk9⟩ : ∃ ks9 : List SE, ks9 = ks ++ List.replicate fl ((d1 + 1 + (planF d1 ms FS).2, ⟨⟨mk, ms, mt, mq, mc, ml⟩, A, n, c⟩) : SE) := ⟨_, rfl⟩
                        have hl9 : ks9.length = ks.length + fl := by rw [hk9, List.length_append, List.length_replicate]
                        have hG9 : GSt w B p FS d1 (ks9.map absK) ks9 gm Aw ks.length cw #[.int .i64 mk, .int .i64 ms, .int .i64 mt, .int .i64 mq, .int .u32 mc, .slice A n c] w9 := ⟨by
                          obtain ⟨v9, hN9⟩ := hN9
                          refine ⟨v9, ?_⟩
                          rw [hk9, List.map_append, List.map_replicate, HFLL.out, flightsF_len]
                          rw [HM.out] at hN9
                          exact hN9, hW9.lo, hW9.box, hM9.blk HK7.out (HN.out.off HK7.out (by decide) (by decide)), fun k hk => by
                          rw [hk9] at hk
                          rcases List.mem_append.1 hk with hk | hk
                          · exact hW9.ms k hk
                          · obtain rfl := List.eq_of_mem_replicate hk
                            exact HMA.out.below hB9, hB9⟩
                        have HG9 := Lib.hid hG9
                        have HR9 := Lib.hid hW9.row
                        have HK9 := Lib.hid hk9
                        have HL9 := Lib.hid hl9
                        have h9b : ks9.length ≤ 1002 := by omega
                        clear z0 z1 z2 z3 z4 z5
                        clear hN9 hW9 hB9 hM9 hp9 hk9 hl9 hG9 HSD HN HK7 HP7 HW8
                        go_upto_region 31 with (fail)
                        refine wp_region_invJ 6 (CapJ (fun i => ([some (.slice Aw ks.length cw), some (.slice Af nf cf), some (.int .i64 d1), some (.agg #[.int .i64 mk, .int .i64 ms, .int .i64 mt, .int .i64 mq, .int .u32 mc, .slice A n c])] : List (Option Value)).getD i none) 4 5 (fun W => GSt w B p FS d1 (ks9.map absK) ks9 gm Aw ks.length cw #[.int .i64 mk, .int .i64 ms, .int .i64 mt, .int .i64 mq, .int .u32 mc, .slice A n c] W ∧ W.ownsRow w.heap.size 86 7 (.slice Aw ks.length cw) ks.length (ks.flatMap encS)) (fun v W => (GSt w B p FS d1 (ks9.map absK) ks9 gm Aw ks.length cw #[.int .i64 mk, .int .i64 ms, .int .i64 mt, .int .i64 mq, .int .u32 mc, .slice A n c] W ∧ W.ownsRow w.heap.size 86 7 (.slice Aw ks.length cw) ks.length (ks.flatMap encS)) ∧ ∃ A' c', v = .slice A' fl c' ∧ (A' = none → c' = 0) ∧ Rd W W.heap.size 7 A' fl ((List.replicate fl ((d1 + 1 + (planF d1 ms FS).2, ⟨⟨mk, ms, mt, mq, mc, ml⟩, A, n, c⟩) : SE)).flatMap encS)) (fun v W => GSt w B p FS d1 (ks9.map absK) ks9 gm Aw ks.length cw #[.int .i64 mk, .int .i64 ms, .int .i64 mt, .int .i64 mq, .int .u32 mc, .slice A n c] W ∧ W.ownsRow w.heap.size 86 7 v ks9.length (ks9.flatMap encS))) (by kernel_rfl) (by kernel_rfl) (CapJ.start ⟨HG9.out.below (Below.refl _ _).drew, own_below HR9.out (Below.refl _ _).drew (Nat.le_refl _)⟩) ?_ ?_
                        · intro i o hi ho s vs W hJ hs hdep
                          have hF : GSt w B p FS d1 (ks9.map absK) ks9 gm Aw ks.length cw #[.int .i64 mk, .int .i64 ms, .int .i64 mt, .int .i64 mq, .int .u32 mc, .slice A n c] W := hJ.all (X := GSt w B p FS d1 (ks9.map absK) ks9 gm Aw ks.length cw #[.int .i64 mk, .int .i64 ms, .int .i64 mt, .int .i64 mq, .int .u32 mc, .slice A n c]) (fun W h => h.1) (fun v W h => h.1.1) (fun v W h => h.1)
                          rcases i with _ | _ | _ | _ | _ | _ | i
                          all_goals first | omega | skip
                          all_goals (simp only [List.getElem?_cons_succ, List.getElem?_cons_zero, Option.some.injEq] at ho; subst ho)
                          · refine StepJ.val (v := .slice Aw ks.length cw) rfl ?_ (hJ.same (by omega) (by omega) rfl)
                            have x0 := hF.pb.cell 0 _ rfl
                            clear hJ hdep hF
                            unfold lexA
                            simp only [putAll, preI, Nat.reduceLT, Nat.reduceAdd, decide_false, Bool.false_eq_true, if_false]
                            go_simp
                          · refine StepJ.val (v := .slice Af nf cf) rfl ?_ (hJ.same (by omega) (by omega) rfl)
                            clear hJ hdep hF
                            unfold lexA
                            simp only [putAll, preI, Nat.reduceLT, Nat.reduceAdd, decide_true, decide_false, Bool.false_eq_true, if_true, if_false, Act.put, List.setIfInBounds_toArray, List.set_cons_zero, List.set_cons_succ]
                            go_simp
                          · refine StepJ.val (v := .int .i64 d1) rfl ?_ (hJ.same (by omega) (by omega) rfl)
                            clear hJ hdep hF
                            unfold lexA
                            simp only [putAll, preI, Nat.reduceLT, Nat.reduceAdd, decide_true, decide_false, Bool.false_eq_true, if_true, if_false, Act.put, List.setIfInBounds_toArray, List.set_cons_zero, List.set_cons_succ]
                            go_simp
                          · refine StepJ.val (v := .agg #[.int .i64 mk, .int .i64 ms, .int .i64 mt, .int .i64 mq, .int .u32 mc, .slice A n c]) rfl ?_ (hJ.same (by omega) (by omega) rfl)
                            have x0 := hF.box.cell 0 _ rfl
                            have x1 := hF.box.cell 1 _ rfl
                            have x2 := hF.box.cell 2 _ rfl
                            have x3 := hF.box.cell 3 _ rfl
                            have x4 := hF.box.cell 4 _ rfl
                            have x5 := hF.box.cell 5 _ rfl
                            clear hJ hdep hF
                            unfold lexA
                            simp only [putAll, preI, Nat.reduceLT, Nat.reduceAdd, decide_true, decide_false, Bool.false_eq_true, if_true, if_false, Act.put, List.setIfInBounds_toArray, List.set_cons_zero, List.set_cons_succ]
                            go_simp
                          · have d1' : vs 1 = .slice Af nf cf := hJ.dt 1 _ (hdep ⟨1, .data⟩ (by simp) rfl) rfl
                            have d2 : vs 2 = .int .i64 d1 := hJ.dt 2 _ (hdep ⟨2, .data⟩ (by simp) rfl) rfl
                            have d3 : vs 3 = .agg #[.int .i64 mk, .int .i64 ms, .int .i64 mt, .int .i64 mq, .int .u32 mc, .slice A n c] := hJ.dt 3 _ (hdep ⟨3, .data⟩ (by simp) rfl) rfl
                            have hR0 := (hJ.w0 hs).1
                            refine StepJ.call rfl ?_ ((HFX.out W hF.bel).mono fun e W' ⟨vv, he, ho, hb⟩ => ⟨vv, he, hJ.call hs (by omega) rfl ⟨⟨hF.below hb, own_below hR0.2 hb (Nat.le_refl _)⟩, ?_⟩⟩)
                            · clear hJ hdep hF hR0
                              unfold lexA
                              simp only [putAll, preI, Nat.reduceLT, Nat.reduceAdd, decide_true, decide_false, Bool.false_eq_true, if_true, if_false, Act.put, List.setIfInBounds_toArray, List.set_cons_zero, List.set_cons_succ]
                              go_simp
                            · rw [← HFLL.out] at ho
                              obtain ⟨A', c', rfl, _, _, hrd⟩ := own_rd ho
                              exact ⟨A', c', rfl, fun h => (own_none ho h).2, hrd⟩
                          · have d0 : vs 0 = .slice Aw ks.length cw := hJ.dt 0 _ (hdep ⟨0, .data⟩ (by simp) rfl) rfl
                            have h4 : s 4 = true := hdep ⟨4, .data⟩ (by simp) rfl
                            obtain ⟨⟨_, hrw⟩, A', c', d4, hA', hrd⟩ := hJ.w1 h4 hs
                            have hbw := hF.bel.size
                            refine StepJ.app rfl (exec_extend (.tmp 105) (.tmp 109) 50 rfl w.heap.size 86 i0 (.agg #[.int .i64 0, .int .i64 0, .int .i64 0, .int .i64 0, .int .i64 0, .int .u32 0, .slice none 0 0]) 7 72 Try.underlying50 hi0 hz0 hz1 hz2 rfl (by omega) (.slice Aw ks.length cw) ks.length (ks.flatMap encS) ?_ hrw A' fl c' W.heap.size _ ?_ hA' hrd (encS_one _) (by unfold maxLen; omega) (by omega) hbw) (fun vn Wn ⟨hon, hgn, hnn⟩ => hJ.app h4 (by omega) rfl ⟨hF.keep hgn (fun g t cs hk e => ?_) (fun g e => (hrw.lt g e).1), ?_⟩)
                            · clear hJ hdep hF hrw hrd
                              unfold lexA
                              simp only [putAll, preI, Nat.reduceLT, Nat.reduceAdd, decide_true, decide_false, Bool.false_eq_true, if_true, if_false, Act.put, List.setIfInBounds_toArray, List.set_cons_zero, List.set_cons_succ]
                              rw [d0]
                              rfl
                            · clear hJ hdep hF hrw hrd
                              unfold lexA
                              simp only [putAll, preI, Nat.reduceLT, Nat.reduceAdd, decide_true, decide_false, Bool.false_eq_true, if_true, if_false, Act.put, List.setIfInBounds_toArray, List.set_cons_zero, List.set_cons_succ]
                              rw [d4]
                              rfl
                            · obtain ⟨cs', hk'⟩ := own_blk hrw e
                              exact blk_type hk hk'
                            · rw [HL9.out, HK9.out, List.flatMap_append]
                              exact hon
                        · intro s vs W hall hJ
                          obtain ⟨hG, hrw⟩ := hJ.w2 (hall 5 (by omega))
                          obtain ⟨A3, c3, d5, _, _, _⟩ := own_rd hrw
                          rw [d5] at hrw
                          have y0 := hG.pb.cell 0 _ rfl
                          have y1 := hG.pb.free 0
                          have HP9 := Lib.hid (show PSt w B p FS d1 ks9 (W.setCell ⟨p, 0, none⟩ (.slice A3 ks9.length c3)) from hG.done hrw HDT.out)
                          clear hJ hall hG hrw
                          unfold lexA
                          simp only [putAll, preI, Nat.reduceLT, Nat.reduceAdd, decide_true, decide_false, Bool.false_eq_true, if_true, if_false, Act.put, List.setIfInBounds_toArray, List.set_cons_zero, List.set_cons_succ, List.drop_succ_cons, List.drop_zero]
                          rw [d5]
                          generalize vs 0 = e0
                          generalize vs 1 = e1
                          generalize vs 2 = e2
                          generalize vs 3 = e3
                          generalize vs 4 = e4
                          clear d5
                          obtain ⟨⟨v9, hN9⟩, ⟨u9, hW9⟩, hd1, hB9⟩ := id HP9.out
                          obtain ⟨Au, cu, rfl, _⟩ := own_rd hW9.row
                          have HKP := Lib.hid (fun W (hS : NetAt W w.heap.size B FS d1 v9 (ks9.map absK) ∧ WayAt W w.heap.size p (.slice Au ks9.length cu) ks9 ∧ PSt w B p FS d1 ks9 W) => kept_any W w.heap.size B FS d1 v9 _ hS.1)
                          rw [List.length_map] at HKP
                          go_upto_region 32 with (fail)
                          refine wp_region_seq (fun W => NetAt W w.heap.size B FS d1 v9 (ks9.map absK) ∧ WayAt W w.heap.size p (.slice Au ks9.length cu) ks9 ∧ PSt w B p FS d1 ks9 W) (fun W W' h hb => ⟨h.1.below hb, h.2.1.below hb, h.2.2.below hb⟩) (by kernel_rfl) (by kernel_rfl) ⟨hN9.below (Below.refl _ _).drew, hW9.below (Below.refl _ _).drew, HP9.out.below (Below.refl _ _).drew⟩ ?_
                          clear hN9 hW9 hd1 hB9
                          repeat (first
                            | (refine wpSeq_off (by rfl) ?_; try simp only [Act.put, List.setIfInBounds_toArray, List.set_cons_zero, List.set_cons_succ])
                            | (refine wpSeq_val (v := ?_) (by rfl) (fun W hS => ?_) ?_
                               rotate_left
                               · ((have fx := hS.2.1.box.cell 0 _ rfl; clear hS); go_simp; first | done | with_reducible rfl)
                               try simp only [Act.put, List.setIfInBounds_toArray, List.set_cons_zero, List.set_cons_succ]))
                          refine wpSeq_call (v := .int .i64 (ks9.length : Int)) (by rfl) (fun W hS => ?_) (fun W hS => ((fun W hS => HKP.out W hS) W hS)) ?_
                          · (clear hS; go_simp; done)
                          try simp only [Act.put, List.setIfInBounds_toArray, List.set_cons_zero, List.set_cons_succ]
                          repeat (first
                            | (refine wpSeq_off (by rfl) ?_; try simp only [Act.put, List.setIfInBounds_toArray, List.set_cons_zero, List.set_cons_succ])
                            | (refine wpSeq_val (v := ?_) (by rfl) (fun W hS => ?_) ?_
                               rotate_left
                               · ((have fx := hS.2.1.box.cell 0 _ rfl; clear hS); go_simp; first | done | with_reducible rfl)
                               try simp only [Act.put, List.setIfInBounds_toArray, List.set_cons_zero, List.set_cons_succ]))
                          refine wpSeq_nil (fun W hS => ?_)
                          have HX := Lib.hid (show PRel w B p FS nd (.int .i64 ((j : Int) + 1)) (.int .i64 d1) W from ⟨j + 1, d1, ks9, hlt, by simp, rfl, hS.2.2⟩)
                          clear hS
                          go_wp2_with fail
                          go_roundw
                          case rel => exact HX.out
                          case measure => simp [intOf]; omega
                  · have hf2 : ((F1 : Int) != 0) = true := by simp; omega
                    have hf3 : ((F1 : Int) == 0) = false := by simp; omega
                    have HSK := Lib.hid (show sendC FS T (ks.map absK) d1 m = F1 from by rw [HSC2.out, if_neg (by simp), if_pos hf1])
                    go_upto_region 24 with (fail)
                    go_wp2_with fail
                    refine (HCF.out _ HP7.out.bel).mono ?_
                    rintro e w8 ⟨rfl, hb8⟩
                    have hK8 := HK7.out.below hb8 HK7.out.lt
                    have hP8 := HP7.out.below hb8
                    clear z0 z1 z2 z3 z4 z5
                    clear HK7 HP7
                    have HK7 := Lib.hid hK8
                    have HP7 := Lib.hid hP8
                    have z0 := HK7.out.cell 0 _ rfl
                    have z1 := HK7.out.cell 1 _ rfl
                    have z2 := HK7.out.cell 2 _ rfl
                    have z3 := HK7.out.cell 3 _ rfl
                    have z4 := HK7.out.cell 4 _ rfl
                    have z5 := HK7.out.cell 5 _ rfl
                    clear hK8 hP8 hb8
                    go_upto_region 27 with (fail)
                    obtain ⟨⟨v, hN⟩, _⟩ := id HP7.out
                    have HSD := Lib.hid (HP7.out.sendAt HMA.out d1 hN)
                    have HN := Lib.hid hN
                    clear hN
                    go_wp2_with fail
                    refine HSD.out.mono ?_
                    intro e w9 hp9
                    obtain ⟨rfl, hP9⟩ := HP7.out.send HN.out HSK.out (by omega) (by rw [HM.out]; exact hp9)
                    have HP9 := Lib.hid hP9
                    clear z0 z1 z2 z3 z4 z5
                    clear hp9 hP9 HSD HN
                    obtain ⟨⟨v9, hN9⟩, ⟨u9, hW9⟩, hT, hB9⟩ := id HP9.out
                    obtain ⟨Au, cu, rfl, _⟩ := own_rd hW9.row
                    have HKP := Lib.hid (fun W (hS : NetAt W w.heap.size B FS T v9 (ks.map absK) ∧ WayAt W w.heap.size p (.slice Au ks.length cu) ks ∧ PSt w B p FS T ks W) => kept_any W w.heap.size B FS T v9 _ hS.1)
                    rw [List.length_map] at HKP
                    go_upto_region 32 with (fail)
                    refine wp_region_seq (fun W => NetAt W w.heap.size B FS T v9 (ks.map absK) ∧ WayAt W w.heap.size p (.slice Au ks.length cu) ks ∧ PSt w B p FS T ks W) (fun W W' h hb => ⟨h.1.below hb, h.2.1.below hb, h.2.2.below hb⟩) (by kernel_rfl) (by kernel_rfl) ⟨hN9.below (Below.refl _ _).drew, hW9.below (Below.refl _ _).drew, HP9.out.below (Below.refl _ _).drew⟩ ?_
                    clear hN9 hW9 hT hB9
                    repeat (first
                      | (refine wpSeq_off (by rfl) ?_; try simp only [Act.put, List.setIfInBounds_toArray, List.set_cons_zero, List.set_cons_succ])
                      | (refine wpSeq_val (v := ?_) (by rfl) (fun W hS => ?_) ?_
                         rotate_left
                         · ((have fx := hS.2.1.box.cell 0 _ rfl; clear hS); go_simp; first | done | with_reducible rfl)
                         try simp only [Act.put, List.setIfInBounds_toArray, List.set_cons_zero, List.set_cons_succ]))
                    refine wpSeq_call (v := .int .i64 (ks.length : Int)) (by rfl) (fun W hS => ?_) (fun W hS => ((fun W hS => HKP.out W hS) W hS)) ?_
                    · (clear hS; go_simp; done)
                    try simp only [Act.put, List.setIfInBounds_toArray, List.set_cons_zero, List.set_cons_succ]
                    repeat (first
                      | (refine wpSeq_off (by rfl) ?_; try simp only [Act.put, List.setIfInBounds_toArray, List.set_cons_zero, List.set_cons_succ])
                      | (refine wpSeq_val (v := ?_) (by rfl) (fun W hS => ?_) ?_
                         rotate_left
                         · ((have fx := hS.2.1.box.cell 0 _ rfl; clear hS); go_simp; first | done | with_reducible rfl)
                         try simp only [Act.put, List.setIfInBounds_toArray, List.set_cons_zero, List.set_cons_succ]))
                    refine wpSeq_nil (fun W hS => ?_)
                    have HX := Lib.hid (show PRel w B p FS nd (.int .i64 ((j : Int) + 1)) (.int .i64 T) W from ⟨j + 1, T, ks, hlt, by simp, rfl, hS.2.2⟩)
                    clear hS
                    go_wp2_with fail
                    go_roundw
                    case rel => exact HX.out
                    case measure => simp [intOf]; omega
                · have hf2 : ((F0 : Int) != 0) = true := by simp; omega
                  have hf3 : ((F0 : Int) == 0) = false := by simp; omega
                  have HSK := Lib.hid (show sendC FS T (ks.map absK) d1 m = F0 from by rw [HSC2.out, if_pos hf0])
                  have z0 := HK7.out.cell 0 _ rfl
                  have z1 := HK7.out.cell 1 _ rfl
                  have z2 := HK7.out.cell 2 _ rfl
                  have z3 := HK7.out.cell 3 _ rfl
                  have z4 := HK7.out.cell 4 _ rfl
                  have z5 := HK7.out.cell 5 _ rfl
                  go_upto_region 21 with (fail)
                  go_wp2_with fail
                  refine (HMF.out _).mono ?_
                  rintro e w8 ⟨rfl, hb8⟩
                  have hK8 := HK7.out.below hb8 HK7.out.lt
                  have hP8 := HP7.out.below hb8
                  clear z0 z1 z2 z3 z4 z5
                  clear HK7 HP7
                  have HK7 := Lib.hid hK8
                  have HP7 := Lib.hid hP8
                  have z0 := HK7.out.cell 0 _ rfl
                  have z1 := HK7.out.cell 1 _ rfl
                  have z2 := HK7.out.cell 2 _ rfl
                  have z3 := HK7.out.cell 3 _ rfl
                  have z4 := HK7.out.cell 4 _ rfl
                  have z5 := HK7.out.cell 5 _ rfl
                  clear hK8 hP8 hb8
                  go_wp2_with fail
                  refine (HMF.out _).mono ?_
                  rintro e w8 ⟨rfl, hb8⟩
                  have hK8 := HK7.out.below hb8 HK7.out.lt
                  have hP8 := HP7.out.below hb8
                  clear z0 z1 z2 z3 z4 z5
                  clear HK7 HP7
                  have HK7 := Lib.hid hK8
                  have HP7 := Lib.hid hP8
                  have z0 := HK7.out.cell 0 _ rfl
                  have z1 := HK7.out.cell 1 _ rfl
                  have z2 := HK7.out.cell 2 _ rfl
                  have z3 := HK7.out.cell 3 _ rfl
                  have z4 := HK7.out.cell 4 _ rfl
                  have z5 := HK7.out.cell 5 _ rfl
                  clear hK8 hP8 hb8
                  go_upto_region 27 with (fail)
                  obtain ⟨⟨v, hN⟩, _⟩ := id HP7.out
                  have HSD := Lib.hid (HP7.out.sendAt HMA.out d1 hN)
                  have HN := Lib.hid hN
                  clear hN
                  go_wp2_with fail
                  refine HSD.out.mono ?_
                  intro e w9 hp9
                  obtain ⟨rfl, hP9⟩ := HP7.out.send HN.out HSK.out (by omega) (by rw [HM.out]; exact hp9)
                  have HP9 := Lib.hid hP9
                  clear z0 z1 z2 z3 z4 z5
                  clear hp9 hP9 HSD HN
                  obtain ⟨⟨v9, hN9⟩, ⟨u9, hW9⟩, hT, hB9⟩ := id HP9.out
                  obtain ⟨Au, cu, rfl, _⟩ := own_rd hW9.row
                  have HKP := Lib.hid (fun W (hS : NetAt W w.heap.size B FS T v9 (ks.map absK) ∧ WayAt W w.heap.size p (.slice Au ks.length cu) ks ∧ PSt w B p FS T ks W) => kept_any W w.heap.size B FS T v9 _ hS.1)
                  rw [List.length_map] at HKP
                  go_upto_region 32 with (fail)
                  refine wp_region_seq (fun W => NetAt W w.heap.size B FS T v9 (ks.map absK) ∧ WayAt W w.heap.size p (.slice Au ks.length cu) ks ∧ PSt w B p FS T ks W) (fun W W' h hb => ⟨h.1.below hb, h.2.1.below hb, h.2.2.below hb⟩) (by kernel_rfl) (by kernel_rfl) ⟨hN9.below (Below.refl _ _).drew, hW9.below (Below.refl _ _).drew, HP9.out.below (Below.refl _ _).drew⟩ ?_
                  clear hN9 hW9 hT hB9
                  repeat (first
                    | (refine wpSeq_off (by rfl) ?_; try simp only [Act.put, List.setIfInBounds_toArray, List.set_cons_zero, List.set_cons_succ])
                    | (refine wpSeq_val (v := ?_) (by rfl) (fun W hS => ?_) ?_
                       rotate_left
                       · ((have fx := hS.2.1.box.cell 0 _ rfl; clear hS); go_simp; first | done | with_reducible rfl)
                       try simp only [Act.put, List.setIfInBounds_toArray, List.set_cons_zero, List.set_cons_succ]))
                  refine wpSeq_call (v := .int .i64 (ks.length : Int)) (by rfl) (fun W hS => ?_) (fun W hS => ((fun W hS => HKP.out W hS) W hS)) ?_
                  · (clear hS; go_simp; done)
                  try simp only [Act.put, List.setIfInBounds_toArray, List.set_cons_zero, List.set_cons_succ]
                  repeat (first
                    | (refine wpSeq_off (by rfl) ?_; try simp only [Act.put, List.setIfInBounds_toArray, List.set_cons_zero, List.set_cons_succ])
                    | (refine wpSeq_val (v := ?_) (by rfl) (fun W hS => ?_) ?_
                       rotate_left
                       · ((have fx := hS.2.1.box.cell 0 _ rfl; clear hS); go_simp; first | done | with_reducible rfl)
                       try simp only [Act.put, List.setIfInBounds_toArray, List.set_cons_zero, List.set_cons_succ]))
                  refine wpSeq_nil (fun W hS => ?_)
                  have HX := Lib.hid (show PRel w B p FS nd (.int .i64 ((j : Int) + 1)) (.int .i64 T) W from ⟨j + 1, T, ks, hlt, by simp, rfl, hS.2.2⟩)
                  clear hS
                  go_wp2_with fail
                  go_roundw
                  case rel => exact HX.out
                  case measure => simp [intOf]; omega
    · obtain rfl : j = nd := by omega
      have hji : ¬ (j : Int) < (j : Int) := by omega
      have HX := Lib.hid hP.bel
      clear hP
      go_wp2
      go_ret
      exact ⟨rfl, HX.out⟩
end Go.Proofs.Ytpnefacignalpaa.netPlays
