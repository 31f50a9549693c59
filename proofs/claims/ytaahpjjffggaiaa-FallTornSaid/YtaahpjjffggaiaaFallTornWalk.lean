/- FallTorn's walk: it returns true. Conditions: the reach. -/
import Derived.Test.YtaahpjjffggaiaaFallPlain
import Derived.Test.YtaahpjjffggaiaaIntsOpen
namespace Go.Proofs.Ytaahpjjffggaiaa.fallTorn
open Go.RowKit Go.Gy
set_option linter.unusedVariables false
structure SMem where
  m : GMem
  A : Option Addr
  n : Nat
  c : Nat
  A' : Option Addr
  n' : Nat
  c' : Nat
def encM (s : SMem) : List Value := [.int .i64 s.m.goal, .int .i64 s.m.ticks, .slice s.A s.n s.c, .slice s.A' s.n' s.c', .int .i64 s.m.falls]
theorem encM_len (s : SMem) : (encM s).length = 5 := rfl
def MsOwn (w : World) (base : Nat) (ms : List SMem) : Prop := ∀ s ∈ ms, w.ownsRow base 24 2 (.slice s.A s.n s.c) s.n (s.m.asked.flatMap encC) ∧ w.ownsRow base 24 2 (.slice s.A' s.n' s.c') s.n' (s.m.has.flatMap encC) ∧ s.n ≤ 1000 ∧ s.n' ≤ 1000
theorem MsOwn.below {w w' : World} {base : Nat} {ms : List SMem} (h : MsOwn w base ms) (hb : Below w.heap.size w w') : MsOwn w' base ms := fun s hs => ⟨own_below (h s hs).1 hb (Nat.le_refl _), own_below (h s hs).2.1 hb (Nat.le_refl _), (h s hs).2.2⟩
theorem MsOwn.kept {w w' : World} {base base' : Nat} {e : TypeId} {size n : Nat} {ms : List SMem} {r : Value} {xs : List Value} (h : MsOwn w base ms) (ho : w.ownsRow base' e size r n xs) (hne : 24 ≠ e) (hg : w.grownBy w' r.ownBlock) : MsOwn w' base ms := fun s hs => ⟨(h s hs).1.kept hg (own_apart (h s hs).1 ho hne), (h s hs).2.1.kept hg (own_apart (h s hs).2.1 ho hne), (h s hs).2.2⟩
/-- the memories so far -/
def MsAre (es : List GEv) (ms : List SMem) (k : Nat) : Prop := ms.length = k + 1 ∧ ∀ j s, ms[j]? = some s → s.m = foldF (es.take j)
def TnRel (w3 : World) (B : Nat) (ss : List SEv) (m : Nat) (vb vs i : Value) (wr : World) : Prop := ∃ (k p nb cb cm : Nat) (Ab Am : Option Addr) (ms : List SMem), k ≤ m ∧ p = k + 1 ∧ i = .int .i64 (k : Int) ∧ vb = .slice Ab nb cb ∧ vs = .slice Am p cm ∧ MsAre (ss.map (·.e)) ms k ∧ wr.ownsRow B 46 5 (.slice Am p cm) p (ms.flatMap encM) ∧ MsOwn wr B ms ∧ wr.ownsRow B 5 1 (.slice Ab nb cb) nb ((bookF 0 (((ss.map (·.e)).take k).map evB)).map bv) ∧ Below B w3 wr ∧ B ≤ wr.heap.size
theorem keep_rel {P : Program} {f : FuncId} {args : Array Value} {w6 w' : World} {r : Nat × GMem × List Nat} (h : Below w6.heap.size w6 w') (hk : Calls P f args w' (KeepPost r w')) : Calls P f args w' (KeepPost r w6) :=
  hk.mono fun e w'' ⟨v, vb, n, h1, h2, h3, h4⟩ => ⟨v, vb, n, h1, h2.mono h.size, own_mono h3 h.size, h.trans (h4.mono h.size)⟩
def Keep2 (w6 : World) (r : Nat × GMem × List Nat) (e : Ending) (w' : World) : Prop := (∃ v vb n, e = .returned (.tuple #[v, vb, .int .i64 ((r.1 : Nat) : Int)]) ∧ MemOwn w' (w6.heap.size + 1) r.2.1 v ∧ w'.ownsRow (w6.heap.size + 1) 5 1 vb n (r.2.2.map bv) ∧ Below w6.heap.size w6 w') ∧ Blk w' w6.heap.size 46 zeroMv
def TnCut (w6 : World) (M' : GMem) (bk' : List Nat) (s11 s12 s13 : Value) (wx : World) : Prop := ∃ (g n8 c8 n9 c9 nb cb : Nat) (A8 A9 Ab : Option Addr), s11 = .pointer (some ⟨g, 0, none⟩) ∧ s12 = .slice Ab nb cb ∧ s13 = .int .i64 0 ∧ Blk wx g 46 (memRow M' A8 n8 c8 A9 n9 c9) ∧ wx.ownsRow w6.heap.size 24 2 (.slice A8 n8 c8) n8 (M'.asked.flatMap encC) ∧ wx.ownsRow w6.heap.size 24 2 (.slice A9 n9 c9) n9 (M'.has.flatMap encC) ∧ n8 ≤ 1000 ∧ n9 ≤ 1000 ∧ wx.ownsRow w6.heap.size 5 1 (.slice Ab nb cb) nb (bk'.map bv) ∧ Below w6.heap.size w6 wx
set_option maxRecDepth 100000 in
theorem info_mem : (Try.prog.info? 46).map (fun i => (i.zero, i.size, i.bytes)) = some (some (.agg zeroMv), 5, 72) := by kernel_rfl
set_option maxRecDepth 100000 in
set_option maxHeartbeats 4000000 in
theorem walk (v0 : Value) (a1 : Int) (w : World) {b0 : Nat} (f0 : IntsArg w v0 b0) (wf1 : wfI .i64 a1) :
    Calls Try.prog 11 #[v0, .int .i64 a1] w fun e w' => e = .returned (.bool true) ∧ Below w.heap.size w w' := by
  obtain ⟨l, hl, _, _, hlb⟩ := f0
  have hlb' : l.length ≤ 140737488355328 := by unfold reachBytes at hlb; omega
  have HE := Lib.hid (show ∀ w', Below w.heap.size w w' → Calls Try.prog 36 #[v0] w' (EventsPost w') from fun w' hb => events_any w' v0 l ((hl.below hb).more hb.size) hlb')
  obtain ⟨A0, n0, c0, rfl, _⟩ := id hl
  obtain ⟨j0, hji, hy0, hy1, hy2⟩ := info_parts info_mem
  have HF := Lib.hid (falls_any w)
  clear hl hlb hlb' wf1
  go_enter Try.func11, Try.ntmps11
  go_wp2_with fail
  refine HF.out.mono ?_
  rintro e w1 ⟨rfl, hb1⟩
  have HE1 := Lib.hid (HE.out w1 hb1)
  have Hb1 := Lib.hid hb1
  clear hb1 HE HF
  go_wp2_with fail
  refine HE1.out.mono ?_
  rintro e w2 ⟨v2, vm, m, ss, rfl, hsm, hm30, hge, hown, hevs, ⟨A2, n2, c2, A3, n3, c3, rfl, ho2, ho3, h2, h3⟩, hb2⟩
  obtain ⟨A, c, rfl, hmc, _, hr⟩ := own_rd hown
  have Hsm := Lib.hid hsm
  have Hge := Lib.hid hge
  have Hevs := Lib.hid hevs
  have Hr := Lib.hid hr
  have Hbw2 := Lib.hid (Hb1.out.trans (hb2.mono Hb1.out.size))
  obtain ⟨B, hB⟩ : ∃ B, B = w2.heap.size + 1 := ⟨_, rfl⟩
  have hst := Lib.hid (show ∀ X w3, w3 = (w2.alloc X).alloc (.cells zeroMv 46) → Below w2.heap.size w2 w3 ∧ TnRel w3 B ss m (.slice none 0 0) (.slice (some ⟨B, 0, none⟩) 1 1) (.int .i64 0) w3 from fun X w3 h => by
    subst h
    have hrow := World.ownsRow_lit (e := 46) (size := 5) (base := B) (w2.alloc X) zeroMv 1 (by simp; omega) (by decide) rfl
    rw [show (w2.alloc X).heap.size = B by simp; omega] at hrow
    refine ⟨((Below.refl _ _).alloc (Nat.le_refl _) _).alloc (by simp) _, 0, 1, 0, 0, 1, none, _, [⟨zeroMem, none, 0, 0, none, 0, 0⟩], Nat.zero_le _, rfl, rfl, rfl, rfl, ⟨rfl, fun j s hs => ?_⟩, hrow, fun s hs => ?_, World.ownsRow_nil _ _ _ _, Below.refl _ _, by simp; omega⟩
    · match j, hs with
      | 0, hs => simp at hs; subst hs; rfl
      | j + 1, hs => simp at hs
    · simp at hs; subst hs; exact ⟨World.ownsRow_nil _ _ _ _, World.ownsRow_nil _ _ _ _, by decide, by decide⟩)
  have HBe := Lib.hid hB
  have hBw : w2.heap.size < B := by omega
  clear hB hsm hge hown hevs hr ho2 ho3 hb2 HE1
  go_upto_region 6 with (fail)
  obtain ⟨w3, hw3⟩ : ∃ w3, w3 = ((w2.alloc (.cells (memRow (foldF (ss.map (·.e))) A2 n2 c2 A3 n3 c3) 46)).alloc (.cells zeroMv 46)) := ⟨_, rfl⟩
  obtain ⟨hb3, hst3⟩ := hst.out _ w3 hw3
  change Code.wp _ _ _ _ ((w2.alloc (.cells (memRow (foldF (ss.map (·.e))) A2 n2 c2 A3 n3 c3) 46)).alloc (.cells zeroMv 46))
  rw [← hw3, ← HBe.out]
  have Hst3 := Lib.hid hst3
  have Hb3 := Lib.hid hb3
  have hz3 := hb3.size
  clear hw3 hb3 hst3 hst
  go_wp2_with fail
  go_loopw [7, 8, 28] (fun vb vs i wr => TnRel w3 B ss m vb vs i wr) (fun _ _ i _ => m - (intOf i).toNat)
  case atStart => exact Hst3.out
  case round =>
    obtain ⟨k, p, nb, cb, cm, Ab, Am, ms, hk, hpk, rfl, rfl, rfl, hms, hmr, hmo, hob, hb, hz⟩ := hrel
    have hp1 : p ≤ k + 1 := by omega
    have hp2 : k + 1 ≤ p := by omega
    have Hpk := Lib.hid hpk
    clear hpk
    have hmr' := hmr
    obtain ⟨gm, cm', he, hcm, hgm, hgml⟩ := own_shape hmr (by omega)
    injection he with e1 _ e3
    subst e1 e3
    have Hms := Lib.hid hms
    have Hmr := Lib.hid hmr
    have Hmo := Lib.hid hmo
    have Hob := Lib.hid hob
    have Hb := Lib.hid hb
    have hb2r := Hb3.out.trans (hb.mono (by omega : w2.heap.size ≤ B))
    have Hb2r := Lib.hid hb2r
    have hzr := hb2r.size
    have hbf8 : ∀ x ∈ bookF 0 (((ss.map (·.e)).take k).map evB), x < 256 := bookF_lt 0 _ (fun r hr => (recs_fit (Hge.out.take k) r hr).2)
    have hbfl : (bookF 0 (((ss.map (·.e)).take k).map evB)).length ≤ 60180 := by
      have := book_len 0 _ (fun r hr => (recs_fit' (Hge.out.take k) r hr).1)
      rw [List.length_map, List.length_take] at this
      have h1 : min k (ss.map (·.e)).length ≤ 30 := by rw [List.length_map, Hsm.out]; omega
      have h2 := Nat.mul_le_mul_right 2006 h1
      omega
    obtain ⟨bk, hbk⟩ : ∃ bk, bk = bookF 0 (((ss.map (·.e)).take k).map evB) := ⟨_, rfl⟩
    rw [← hbk] at hbf8 hbfl Hob
    have Hbk := Lib.hid hbk
    have Hbf8 := Lib.hid hbf8
    clear hms hmr hmr' hmo hob hb hb2r hbk hbf8
    by_cases hlt : k < m
    · have hlt' : (k : Int) < (m : Int) := by omega
      obtain ⟨b, o, s, rfl, hbb, hs, hc⟩ := (Hr.out.below Hb2r.out).elem encE_len Hsm.out hlt
      have hown := own_below (Hevs.out s (List.mem_of_getElem? hs)) Hb2r.out (Nat.le_refl _)
      have hes : (ss.map (·.e))[k]? = some s.e := by rw [List.getElem?_map, hs]; rfl
      have hks := keep_step Hge.out (by rw [List.length_map, Hsm.out]; omega) hes
      rw [← Hbk.out] at hks
      obtain ⟨⟨ek, en, ec⟩, A7, n7, c7⟩ := s
      have c0 : wr.cell? ⟨b, o + k * 3, none⟩ = some (.int .i64 ek) := hc 0 _ rfl
      have c1 : wr.cell? ⟨b, o + k * 3 + 1, none⟩ = some (.int .i64 en) := hc 1 _ rfl
      have c2 : wr.cell? ⟨b, o + k * 3 + 2, none⟩ = some (.slice A7 n7 c7) := hc 2 _ rfl
      have Hown := Lib.hid hown
      have Hks := Lib.hid hks
      clear hs hc hown hes hks
      go_upto_region 9 with (fail)
      have hN := Blk.new wr 48 #[.int .i64 ek, .int .i64 en, .slice A7 n7 c7]
      have hb6 : Below wr.heap.size wr (wr.alloc (.cells #[.int .i64 ek, .int .i64 en, .slice A7 n7 c7] 48)) := (Below.refl _ _).alloc (Nat.le_refl _) _
      generalize wr.alloc (.cells #[.int .i64 ek, .int .i64 en, .slice A7 n7 c7] 48) = w6 at hN hb6 ⊢
      have hz6 := hb6.size
      obtain ⟨s, hs⟩ : ∃ s, ms[k]? = some s := ⟨_, List.getElem?_eq_getElem (by have := Hms.out.1; omega)⟩
      have hsm := Hms.out.2 k s hs
      obtain ⟨ho5, ho6, h5, h6⟩ := Hmo.out s (List.mem_of_getElem? hs)
      obtain ⟨Mk, A5, n5, c5, A6, n6, c6⟩ := s
      have hmr6 := own_below Hmr.out hb6 (Nat.le_refl _)
      have hmg := fun j u hu => (hmr6.cellAt (k * 5 + j) (by have := (List.getElem?_eq_some_iff.1 hu).1; simp only [encM_len] at this; omega)).trans (flat_get (enc := encM) ms encM_len k _ hs j u hu)
      simp only at hsm ho5 ho6
      have m0 : w6.cell? ⟨gm, k * 5, none⟩ = some (.int .i64 Mk.goal) := hmg 0 _ rfl
      have m1 : w6.cell? ⟨gm, k * 5 + 1, none⟩ = some (.int .i64 Mk.ticks) := hmg 1 _ rfl
      have m2 : w6.cell? ⟨gm, k * 5 + 2, none⟩ = some (.slice A5 n5 c5) := hmg 2 _ rfl
      have m3 : w6.cell? ⟨gm, k * 5 + 3, none⟩ = some (.slice A6 n6 c6) := hmg 3 _ rfl
      have m4 : w6.cell? ⟨gm, k * 5 + 4, none⟩ = some (.int .i64 Mk.falls) := hmg 4 _ rfl
      have e0 := hN.cell 0 _ rfl
      have e1 := hN.cell 1 _ rfl
      have e2 := hN.cell 2 _ rfl
      have hNl := hN.lt
      have HS := Lib.hid (show ∀ w', Below w6.heap.size w6 w' → (w'.cell? ⟨gm, k * 5, none⟩ = some (.int .i64 Mk.goal) ∧ w'.cell? ⟨gm, k * 5 + 1, none⟩ = some (.int .i64 Mk.ticks) ∧ w'.cell? ⟨gm, k * 5 + 2, none⟩ = some (.slice A5 n5 c5) ∧ w'.cell? ⟨gm, k * 5 + 3, none⟩ = some (.slice A6 n6 c6) ∧ w'.cell? ⟨gm, k * 5 + 4, none⟩ = some (.int .i64 Mk.falls) ∧
        w'.cell? ⟨wr.heap.size, 0, none⟩ = some (.int .i64 ek) ∧ w'.cell? ⟨wr.heap.size, 1, none⟩ = some (.int .i64 en) ∧ w'.cell? ⟨wr.heap.size, 2, none⟩ = some (.slice A7 n7 c7) ∧ Below w6.heap.size w6 w') from fun w' h =>
        ⟨(h.cell (p := ⟨gm, k * 5, none⟩) (by show gm < _; omega)).trans m0, (h.cell (p := ⟨gm, k * 5 + 1, none⟩) (by show gm < _; omega)).trans m1, (h.cell (p := ⟨gm, k * 5 + 2, none⟩) (by show gm < _; omega)).trans m2, (h.cell (p := ⟨gm, k * 5 + 3, none⟩) (by show gm < _; omega)).trans m3, (h.cell (p := ⟨gm, k * 5 + 4, none⟩) (by show gm < _; omega)).trans m4,
         (h.cell (p := ⟨wr.heap.size, 0, none⟩) hNl).trans e0, (h.cell (p := ⟨wr.heap.size, 1, none⟩) hNl).trans e1, (h.cell (p := ⟨wr.heap.size, 2, none⟩) hNl).trans e2, h⟩)
      have s5 := SlC.own (own_below ho5 hb6 (Nat.le_refl _))
      have s6 := SlC.own (own_below ho6 hb6 (Nat.le_refl _))
      have s7 := SlC.own (own_below Hown.out hb6 (Nat.le_refl _))
      have s8 := SlB.own (own_below Hob.out hb6 (Nat.le_refl _))
      rw [← hsm] at Hks
      have HK := Lib.hid (show ∀ w', Below w6.heap.size w6 w' → Calls Try.prog 41 #[memV Mk A5 n5 c5 A6 n6 c6, .slice Ab nb cb, evV ⟨ek, en, ec⟩ A7 n7 c7] w' (KeepPost (keepF Mk bk ⟨ek, en, ec⟩) w6) from fun w' h =>
        keep_rel h <| keep_any w' Mk ⟨ek, en, ec⟩ A5 n5 c5 A6 n6 c6 A7 n7 c7 (.slice Ab nb cb) bk ((s5.below h).more h.size) ((s6.below h).more h.size) ((s7.below h).more h.size) ((s8.below h).more h.size) (by omega) Hbf8.out)
      obtain ⟨M', hM'⟩ : ∃ M', M' = foldF ((ss.map (·.e)).take (k + 1)) := ⟨_, rfl⟩
      obtain ⟨bk', hbk'⟩ : ∃ bk', bk' = bookF 0 (((ss.map (·.e)).take (k + 1)).map evB) := ⟨_, rfl⟩
      rw [← hM', ← hbk'] at Hks
      have HM' := Lib.hid hM'
      have Hbk' := Lib.hid hbk'
      clear hM' hbk'
      rw [Hks.out] at HK
      have HK2 := Lib.hid (show Calls Try.prog 41 #[memV Mk A5 n5 c5 A6 n6 c6, .slice Ab nb cb, evV ⟨ek, en, ec⟩ A7 n7 c7] ((w6.alloc (.cells zeroMv 46)).drew) (Keep2 w6 (keepF Mk bk ⟨ek, en, ec⟩)) from by
        have h : Below w6.heap.size w6 ((w6.alloc (.cells zeroMv 46)).drew) := ((Below.refl _ _).alloc (Nat.le_refl _) _).drew
        refine (keep_any _ Mk ⟨ek, en, ec⟩ A5 n5 c5 A6 n6 c6 A7 n7 c7 (.slice Ab nb cb) bk ((s5.below h).more h.size) ((s6.below h).more h.size) ((s7.below h).more h.size) ((s8.below h).more h.size) (by omega) Hbf8.out).mono ?_
        rintro e w'' ⟨v, vb, n, h1, h2, h3, h4⟩
        have hz' : ((w6.alloc (.cells zeroMv 46)).drew).heap.size = w6.heap.size + 1 := by show (w6.alloc _).heap.size = _; simp
        rw [hz'] at h2 h3
        exact ⟨⟨v, vb, n, h1, h2, h3, h.trans (h4.mono h.size)⟩, ((Blk.new w6 46 zeroMv).drew).below h4 (by show _ < (w6.alloc _).heap.size; simp)⟩)
      rw [Hks.out] at HK2
      have Hmr6 := Lib.hid hmr6
      have Hmo6 := Lib.hid (Hmo.out.below hb6)
      have Hb6 := Lib.hid (Hb.out.trans (hb6.mono (by omega)))
      have q1 : (0 : Int) ≤ (k : Int) := by omega
      have q2 : (k : Int) < (p : Int) := by omega
      have q5 : IntKind.i64.wrap ((p : Int) - 1) = (k : Int) := by rw [IntWalk.i64_in _ (by omega)]; omega
      clear hs hsm ho5 ho6 hmr6 hmg m0 m1 m2 m3 m4 e0 e1 e2 s5 s6 s7 s8 hN hb6 c0 c1 c2
      go_cut [11, 12, 13] (fun s11 s12 s13 wx => TnCut w6 M' bk' s11 s12 s13 wx)
      case first =>
        go_region_held3 (fun w' => w'.cell? ⟨gm, k * 5, none⟩ = some (.int .i64 Mk.goal) ∧ w'.cell? ⟨gm, k * 5 + 1, none⟩ = some (.int .i64 Mk.ticks) ∧ w'.cell? ⟨gm, k * 5 + 2, none⟩ = some (.slice A5 n5 c5) ∧ w'.cell? ⟨gm, k * 5 + 3, none⟩ = some (.slice A6 n6 c6) ∧ w'.cell? ⟨gm, k * 5 + 4, none⟩ = some (.int .i64 Mk.falls) ∧
          w'.cell? ⟨wr.heap.size, 0, none⟩ = some (.int .i64 ek) ∧ w'.cell? ⟨wr.heap.size, 1, none⟩ = some (.int .i64 en) ∧ w'.cell? ⟨wr.heap.size, 2, none⟩ = some (.slice A7 n7 c7) ∧ Below w6.heap.size w6 w')
          (with_reducible (first | exact HS.out _ (Below.refl _ _).drew | exact HS.out _ hb7 | exact HS.out _ (hb7.alloc hb7.size _) | exact HS.out _ (((Below.refl _ _).alloc (Nat.le_refl _) _).drew) | exact HS.out _ (below_set5 hb7 (Nat.le_refl _) _ _ _ _ _)))
          (first
            | (go_at_call 41; refine (HK.out _ (Below.refl _ _).drew).mono ?_; rintro e w7 ⟨v7, vb7, nb7, rfl, ⟨A8, n8, c8, A9, n9, c9, rfl, ho8, ho9, h8, h9⟩, hob7, hb7⟩; obtain ⟨Ab7, cb7, rfl, _, _, _⟩ := own_rd hob7)
            | (go_at_call 41; refine HK2.out.mono ?_; rintro e w7 ⟨⟨v7, vb7, nb7, rfl, ⟨A8, n8, c8, A9, n9, c9, rfl, ho8, ho9, h8, h9⟩, hob7, hb7⟩, hg7⟩; obtain ⟨Ab7, cb7, rfl, _, _, _⟩ := own_rd hob7; have z0 := hg7.cell 0 _ rfl; have z1 := hg7.cell 1 _ rfl; have z2 := hg7.cell 2 _ rfl; have z3 := hg7.cell 3 _ rfl; have z4 := hg7.cell 4 _ rfl; have zf0 := hg7.free 0; have zf1 := hg7.free 1; have zf2 := hg7.free 2; have zf3 := hg7.free 3; have zf4 := hg7.free 4))
        · go_wp2_with fail
          go_meet
          have hg := Blk.new w7 46 (memRow M' A8 n8 c8 A9 n9 c9)
          exact ⟨w7.heap.size, n8, c8, n9, c9, nb7, cb7, A8, A9, Ab7, rfl, rfl, rfl, hg, ho8.alloc _, ho9.alloc _, h8, h9, hob7.alloc _, hb7.alloc hb7.size _⟩
        · go_wp2_with fail
          go_meet
          have hg := blk_set5 hg7 (.int .i64 M'.goal) (.int .i64 M'.ticks) (.slice A8 n8 c8) (.slice A9 n9 c9) (.int .i64 M'.falls)
          have V8 := own_set5 (g := w6.heap.size) ho8 (by omega) (.int .i64 M'.goal) (.int .i64 M'.ticks) (.slice A8 n8 c8) (.slice A9 n9 c9) (.int .i64 M'.falls)
          have V9 := own_set5 (g := w6.heap.size) ho9 (by omega) (.int .i64 M'.goal) (.int .i64 M'.ticks) (.slice A8 n8 c8) (.slice A9 n9 c9) (.int .i64 M'.falls)
          have Vb := own_set5 (g := w6.heap.size) hob7 (by omega) (.int .i64 M'.goal) (.int .i64 M'.ticks) (.slice A8 n8 c8) (.slice A9 n9 c9) (.int .i64 M'.falls)
          exact ⟨w6.heap.size, n8, c8, n9, c9, nb7, cb7, A8, A9, Ab7, rfl, rfl, rfl, hg, own_mono V8 (by omega), own_mono V9 (by omega), h8, h9, own_mono Vb (by omega), below_set5 hb7 (Nat.le_refl _) _ _ _ _ _⟩
      case rest =>
        obtain ⟨g, n8, c8, n9, c9, nb7, cb7, A8, A9, Ab7, rfl, rfl, rfl, hg, ho8, ho9, h8, h9, hob7, hbc⟩ := hcut
        have hzc := hbc.size
        have Hmr7 := Lib.hid (own_below Hmr6.out hbc (Nat.le_refl _))
        have Hmo7 := Lib.hid (Hmo6.out.below hbc)
        have Hg := Lib.hid hg
        have Ho8 := Lib.hid ho8
        have Ho9 := Lib.hid ho9
        have Hob7 := Lib.hid hob7
        have Hb7 := Lib.hid (Hb6.out.trans (hbc.mono (by omega)))
        have hgl := hg.lt
        have a0 := hg.cell 0 _ rfl
        have a1' := hg.cell 1 _ rfl
        have a2 := hg.cell 2 _ rfl
        have a3 := hg.cell 3 _ rfl
        have a4 := hg.cell 4 _ rfl
        have hlm : p + 1 ≤ maxLen := by unfold maxLen; omega
        have hBc : B ≤ wc.heap.size := by omega
        clear hg ho8 ho9 hob7 hbc q5
        go_wp2_with (at_builtin; refine wpList_pushG rfl (.tmp 47) (.tmp 49) 91 rfl B 46 j0 (.agg zeroMv) 5 72 Try.underlying91 hji hy0 hy1 hy2 rfl (by omega) _ p _ rfl Hmr7.out [.int .i64 M'.goal, .int .i64 M'.ticks, .slice A8 n8 c8, .slice A9 n9 c9, .int .i64 M'.falls] rfl rfl (by simp [Value.oneCell']) hlm (by omega) hBc ?_; intro v8 w8 hown8 hb8 hg8 hsh; obtain ⟨gn, cn, rfl, _, _⟩ := hsh)
        have hnx := show TnRel w3 B ss m (.slice Ab7 nb7 cb7) (.slice (some ⟨gn, 0, none⟩) (p + 1) cn) (.int .i64 ((k : Int) + 1)) w8 from
          ⟨k + 1, p + 1, nb7, cb7, cn, Ab7, _, ms ++ [⟨M', A8, n8, c8, A9, n9, c9⟩], by omega, by omega, by go_num, rfl, rfl, ⟨by rw [List.length_append, Hms.out.1]; rfl, fun j s hs => by
            rcases Nat.lt_or_ge j (k + 1) with h | h
            · rw [List.getElem?_append_left (by rw [Hms.out.1]; exact h)] at hs
              exact Hms.out.2 j s hs
            · rw [List.getElem?_append_right (by rw [Hms.out.1]; exact h), Hms.out.1] at hs
              have hj : j - (k + 1) = 0 := by
                rcases Nat.eq_zero_or_pos (j - (k + 1)) with h0 | h0
                · exact h0
                · rw [List.getElem?_eq_none (by simp; omega)] at hs; cases hs
              rw [hj] at hs
              simp at hs
              subst hs
              obtain rfl : j = k + 1 := by omega
              exact HM'.out⟩, by rw [List.flatMap_append]; exact hown8, fun s hs => by
            rcases List.mem_append.1 hs with hs | hs
            · exact (Hmo7.out.kept Hmr7.out (by decide) hg8) s hs
            · simp at hs; subst hs
              exact ⟨(own_mono Ho8.out (by omega)).kept hg8 (own_apart Ho8.out Hmr7.out (by decide)), (own_mono Ho9.out (by omega)).kept hg8 (own_apart Ho9.out Hmr7.out (by decide)), h8, h9⟩, by
            rw [← Hbk'.out]
            exact (own_mono Hob7.out (by omega)).kept hg8 (own_apart Hob7.out Hmr7.out (by decide)), Hb7.out.trans hb8, by have := hb8.size; omega⟩
        have Hnx := Lib.hid hnx
        clear hnx hown8 hb8 hg8
        go_wp2_with fail
        go_roundw
        case rel => exact Hnx.out
        case measure => simp [intOf]; omega
    · obtain rfl : k = m := by omega
      have htk : (ss.map (·.e)).take k = ss.map (·.e) := List.take_of_length_le (by rw [List.length_map, Hsm.out]; omega)
      have hbkb : bk = bookF 0 ((ss.map (·.e)).map evB) := by rw [Hbk.out, htk]
      have hnb : bk.length = nb := by have := Hob.out.1; simpa using this
      have hnb6 : nb ≤ 60180 := by omega
      have hm0 := Int.emod_nonneg a1 (b := (nb : Int) + 1) (by omega)
      have hm1 := Int.emod_lt_of_pos a1 (b := (nb : Int) + 1) (by omega)
      obtain ⟨q, hq⟩ : ∃ q : Nat, (q : Int) = a1 % ((nb : Int) + 1) := ⟨(a1 % ((nb : Int) + 1)).toNat, by omega⟩
      have hqn : q ≤ nb := by omega
      have HBel := Lib.hid (show ∀ W, Calls Try.prog 20 #[.int .i64 a1, .int .i64 ((nb : Int) + 1)] W fun e w' => e = .returned (.int .i64 (q : Int)) ∧ W = w' from fun W => by rw [hq]; exact below_any a1 _ W (by omega) (by omega))
      obtain ⟨Ab', cb', he, hncb, _, hrb⟩ := own_rd Hob.out
      injection he with e1 _ e3
      subst e1 e3
      have hAb := fun h => (own_none Hob.out h).2
      have hto := bytes_to Ab nb cb q (by omega)
      have Hu := Lib.hid (show Try.prog.underlying 33 = some (.slice (Try.prog.elem 33)) by kernel_rfl)
      obtain ⟨j, hjm, hbj⟩ := back_cut Hge.out q
      rw [List.length_map, Hsm.out] at hjm
      have hcutS : SlB wr wr.heap.size (.slice Ab q cb) (bk.take q) := ⟨Ab, q, cb, rfl, by rw [List.length_take, hnb]; omega, by omega, hAb, by
        have := hrb.take hqn
        rwa [Nat.mul_one, ← List.map_take] at this⟩
      have hBB := back_any wr (.slice Ab q cb) (bk.take q) hcutS (by rw [List.length_take]; omega) (fun x hx => Hbf8.out x (List.mem_of_mem_take hx))
      rw [hbkb, hbj] at hBB
      have HBB := Lib.hid hBB
      have hto' := Lib.hid hto
      clear htk hbkb hnb hq hrb hAb hbj hcutS hBB hlt hm0 hm1
      go_wp2_with (first
        | (go_at_call 20; refine (HBel.out _).mono ?_; rintro e w' ⟨rfl, rfl⟩)
        | (refine wpList_slice_to rfl 33 (.tmp 54) (.tmp 59) rfl Ab nb cb q rfl rfl Hu.out hto'.out ?_))
      refine HBB.out.mono ?_
      rintro e w7 ⟨v7, rfl, ⟨A8, n8, c8, A9, n9, c9, rfl, ho8, ho9, h8, h9⟩, hb7⟩
      simp only at ho8 ho9 ⊢
      obtain ⟨Mj, hMj⟩ : ∃ Mj, Mj = foldF ((ss.map (·.e)).take j) := ⟨_, rfl⟩
      rw [← hMj] at ho8 ho9 ⊢
      have HMj := Lib.hid hMj
      have Ho8 := Lib.hid ho8
      have Ho9 := Lib.hid ho9
      have hz7 := hb7.size
      have Hmr7 := Lib.hid (own_below Hmr.out hb7 (Nat.le_refl _))
      have Hmo7 := Lib.hid (Hmo.out.below hb7)
      have Hb27 := Lib.hid (Hb2r.out.trans (hb7.mono hzr))
      clear ho8 ho9 hb7 HBB hMj hto
      go_upto_region 15 with (fail)
      have hN8 := Blk.new w7 46 (memRow Mj A8 n8 c8 A9 n9 c9)
      have hb8 : Below w7.heap.size w7 (w7.alloc (.cells (memRow Mj A8 n8 c8 A9 n9 c9) 46)) := (Below.refl _ _).alloc (Nat.le_refl _) _
      change Code.wp _ _ _ _ (w7.alloc (.cells (memRow Mj A8 n8 c8 A9 n9 c9) 46))
      generalize w7.alloc (.cells (memRow Mj A8 n8 c8 A9 n9 c9) 46) = w8 at hN8 hb8 ⊢
      have hz8 := hb8.size
      have hmr8 := own_below Hmr7.out hb8 (Nat.le_refl _)
      obtain ⟨s, hs⟩ : ∃ s, ms[j]? = some s := ⟨_, List.getElem?_eq_getElem (by have := Hms.out.1; omega)⟩
      have hsm := Hms.out.2 j s hs
      obtain ⟨ho5, ho6, h5, h6⟩ := (Hmo7.out.below hb8) s (List.mem_of_getElem? hs)
      obtain ⟨Mk, A5, n5, c5, A6, n6, c6⟩ := s
      simp only at hsm ho5 ho6 h5 h6
      rw [← HMj.out] at hsm
      subst hsm
      have hmg := fun i u hu => (hmr8.cellAt (j * 5 + i) (by have := (List.getElem?_eq_some_iff.1 hu).1; simp only [encM_len] at this; omega)).trans (flat_get (enc := encM) ms encM_len j _ hs i u hu)
      have m0 : w8.cell? ⟨gm, j * 5, none⟩ = some (.int .i64 Mk.goal) := hmg 0 _ rfl
      have m1 : w8.cell? ⟨gm, j * 5 + 1, none⟩ = some (.int .i64 Mk.ticks) := hmg 1 _ rfl
      have m2 : w8.cell? ⟨gm, j * 5 + 2, none⟩ = some (.slice A5 n5 c5) := hmg 2 _ rfl
      have m3 : w8.cell? ⟨gm, j * 5 + 3, none⟩ = some (.slice A6 n6 c6) := hmg 3 _ rfl
      have m4 : w8.cell? ⟨gm, j * 5 + 4, none⟩ = some (.int .i64 Mk.falls) := hmg 4 _ rfl
      have a0 := hN8.cell 0 _ rfl
      have a1' := hN8.cell 1 _ rfl
      have a2 := hN8.cell 2 _ rfl
      have a3 := hN8.cell 3 _ rfl
      have a4 := hN8.cell 4 _ rfl
      have hNl := hN8.lt
      have HS := Lib.hid (show ∀ w', Below w8.heap.size w8 w' → (w'.cell? ⟨gm, j * 5, none⟩ = some (.int .i64 Mk.goal) ∧ w'.cell? ⟨gm, j * 5 + 1, none⟩ = some (.int .i64 Mk.ticks) ∧ w'.cell? ⟨gm, j * 5 + 2, none⟩ = some (.slice A5 n5 c5) ∧ w'.cell? ⟨gm, j * 5 + 3, none⟩ = some (.slice A6 n6 c6) ∧ w'.cell? ⟨gm, j * 5 + 4, none⟩ = some (.int .i64 Mk.falls) ∧
        w'.cell? ⟨w7.heap.size, 0, none⟩ = some (.int .i64 Mk.goal) ∧ w'.cell? ⟨w7.heap.size, 1, none⟩ = some (.int .i64 Mk.ticks) ∧ w'.cell? ⟨w7.heap.size, 2, none⟩ = some (.slice A8 n8 c8) ∧ w'.cell? ⟨w7.heap.size, 3, none⟩ = some (.slice A9 n9 c9) ∧ w'.cell? ⟨w7.heap.size, 4, none⟩ = some (.int .i64 Mk.falls) ∧ Below w8.heap.size w8 w') from fun w' h =>
        ⟨(h.cell (p := ⟨gm, j * 5, none⟩) (by show gm < _; omega)).trans m0, (h.cell (p := ⟨gm, j * 5 + 1, none⟩) (by show gm < _; omega)).trans m1, (h.cell (p := ⟨gm, j * 5 + 2, none⟩) (by show gm < _; omega)).trans m2, (h.cell (p := ⟨gm, j * 5 + 3, none⟩) (by show gm < _; omega)).trans m3, (h.cell (p := ⟨gm, j * 5 + 4, none⟩) (by show gm < _; omega)).trans m4,
         (h.cell (p := ⟨w7.heap.size, 0, none⟩) hNl).trans a0, (h.cell (p := ⟨w7.heap.size, 1, none⟩) hNl).trans a1', (h.cell (p := ⟨w7.heap.size, 2, none⟩) hNl).trans a2, (h.cell (p := ⟨w7.heap.size, 3, none⟩) hNl).trans a3, (h.cell (p := ⟨w7.heap.size, 4, none⟩) hNl).trans a4, h⟩)
      have s5 := SlC.own ho5
      have s6 := SlC.own ho6
      have s8 := SlC.own (own_below Ho8.out hb8 (Nat.le_refl _))
      have s9 := SlC.own (own_below Ho9.out hb8 (Nat.le_refl _))
      have hse : sameF Mk Mk = true := by simp [sameF]
      have HSm := Lib.hid (show ∀ w', Below w8.heap.size w8 w' → Calls Try.prog 26 #[memV Mk A8 n8 c8 A9 n9 c9, memV Mk A5 n5 c5 A6 n6 c6] w' fun e w'' => e = .returned (.bool true) ∧ Below w8.heap.size w8 w'' from fun w' h => by
        have := fsame_any w' Mk Mk A8 n8 c8 A9 n9 c9 A5 n5 c5 A6 n6 c6 ((s8.below h).more h.size) ((s9.below h).more h.size) ((s5.below h).more h.size) ((s6.below h).more h.size) (by omega) (by omega) (by omega) (by omega)
        rw [hse] at this
        exact this.mono fun e w'' ⟨h1, h2⟩ => ⟨h1, h.trans (h2.mono h.size)⟩)
      have HP := Lib.hid (show ∀ w', Below w8.heap.size w8 w' → Below w.heap.size w w' from fun w' h => Hbw2.out.trans ((Hb27.out.trans ((hb8.trans (h.mono hb8.size)).mono (by omega))).mono Hbw2.out.size))
      have q1 : (0 : Int) ≤ (j : Int) := by omega
      have q2 : (j : Int) < (p : Int) := by omega
      have q3 : decide ((0 : Int) ≤ (j : Int)) = true := by simp
      have q4 : decide ((j : Int) < (p : Int)) = true := by simpa using q2
      have q5 : decide (j < p) = true := by simp; omega
      clear hmr8 hs ho5 ho6 hmg m0 m1 m2 m3 m4 a0 a1' a2 a3 a4 s5 s6 s8 s9 hN8 hb8 hse
      go_region_held3 (fun w' => w'.cell? ⟨gm, j * 5, none⟩ = some (.int .i64 Mk.goal) ∧ w'.cell? ⟨gm, j * 5 + 1, none⟩ = some (.int .i64 Mk.ticks) ∧ w'.cell? ⟨gm, j * 5 + 2, none⟩ = some (.slice A5 n5 c5) ∧ w'.cell? ⟨gm, j * 5 + 3, none⟩ = some (.slice A6 n6 c6) ∧ w'.cell? ⟨gm, j * 5 + 4, none⟩ = some (.int .i64 Mk.falls) ∧
        w'.cell? ⟨w7.heap.size, 0, none⟩ = some (.int .i64 Mk.goal) ∧ w'.cell? ⟨w7.heap.size, 1, none⟩ = some (.int .i64 Mk.ticks) ∧ w'.cell? ⟨w7.heap.size, 2, none⟩ = some (.slice A8 n8 c8) ∧ w'.cell? ⟨w7.heap.size, 3, none⟩ = some (.slice A9 n9 c9) ∧ w'.cell? ⟨w7.heap.size, 4, none⟩ = some (.int .i64 Mk.falls) ∧ Below w8.heap.size w8 w')
        (with_reducible (first | exact HS.out _ (Below.refl _ _).drew | exact HS.out _ hb9))
        (first
          | (go_at_call 26; refine (HSm.out _ (Below.refl _ _).drew).mono ?_; rintro e w9 ⟨rfl, hb9⟩))
      go_wp2_with fail
      go_ret
      exact ⟨rfl, HP.out _ hb9⟩
end Go.Proofs.Ytaahpjjffggaiaa.fallTorn
