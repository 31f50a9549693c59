/- gantmake.conf once more: what was made between the call's begin and its end does not touch what had been made ahead. gantmake.Track. A made track is taken by its made arm. Conditions: those typed. -/
import Derived.Test.YtnnbnecpcppkdaaDoorConfX
import Derived.Test.YtnnbnecpcppkdaaDoorCtlS
import Derived.Test.YtnnbnecpcppkdaaDoorBrkX
namespace Go.Proofs.YtnnbnecpcppkdaaDoor
open Go.RowKit Go.Gy
set_option linter.unusedVariables false
/-- InO, and nothing made ahead of wB has turned but the stream -/
structure InG (wB w0 : World) (B b lo : Nat) (et : TypeId) (size : Nat) (v : Value) (n : Nat) (xs : List Value) (ls : List (Nat × TypeId × Array Value)) (W : World) : Prop extends InO w0 B b lo et size v n xs ls W where
  gr : wB.grownBy W (some b)
  gl : wB.heap.size ≤ lo
theorem grown_below {wB W W' : World} {b n : Nat} (h : wB.grownBy W (some b)) (hn : wB.heap.size ≤ n) (hb : Below n W W') : wB.grownBy W' (some b) := by
  obtain ⟨a1, a2, a3, a4, a5⟩ := h
  exact ⟨hb.os.trans a1, hb.tape.trans a2, hb.output.trans a3, Nat.le_trans a4 hb.size, fun k hk hne => (hb.block k (Nat.lt_of_lt_of_le hk hn)).trans (a5 k hk hne)⟩
section
variable {wB w0 W W' : World} {B b lo size n : Nat} {et : TypeId} {v : Value} {xs : List Value} {ls : List (Nat × TypeId × Array Value)}
theorem InG.call (hB : B ≤ b) (h : InG wB w0 B b lo et size v n xs ls W) (hb : Below W.heap.size W W') : InG wB w0 B b lo et size v n xs ls W' :=
  ⟨h.toInO.call hB hb, grown_below h.gr h.gr.size hb, h.gl⟩
theorem InG.next (hw : w0.heap.size ≤ b) (h : InG wB w0 B b lo et size v n xs ls W) (hs : StrAt W' B b) (hg : W.grownBy W' (some b)) : InG wB w0 B b lo et size v n xs ls W' :=
  ⟨h.toInO.next hw hs hg, grown_trans2 h.gr hg, h.gl⟩
theorem InG.alloc (hB : B ≤ b) (h : InG wB w0 B b lo et size v n xs ls W) (t : TypeId) (cs : Array Value) : InG wB w0 B b lo et size v n xs ((W.heap.size, t, cs) :: ls) (W.alloc (.cells cs t)) :=
  ⟨h.toInO.alloc hB t cs, grown_trans2 h.gr (World.grownBy_alloc W _ _), h.gl⟩
theorem InG.tail {x : Nat × TypeId × Array Value} (h : InG wB w0 B b lo et size v n xs (x :: ls) W) : InG wB w0 B b lo et size v n xs ls W := ⟨h.toInO.tail, h.gr, h.gl⟩
theorem InG.push {v' : Value} {n' : Nat} {xs' : List Value} (hB : B ≤ b) (h : InG wB w0 B b lo et size v n xs ls W) (hlt : ∀ x ∈ ls, x.1 < lo) (hw : w0.heap.size ≤ lo)
    (hn : W'.ownsRow lo et size v' n' xs') (hb : Below lo W W') : InG wB w0 B b lo et size v' n' xs' ls W' :=
  ⟨h.toInO.push hB hlt hw hn hb, grown_below h.gr h.gl hb, h.gl⟩
end
def ConGPost (w0 w : World) (B b : Nat) (L : List (Lk × List P2)) (e : Ending) (w' : World) : Prop := ∃ (v : Value) (qs : List Q3) (lo : Nat), e = .returned v ∧ qs.length = L.length ∧ QsIn L qs ∧ w.heap.size ≤ lo ∧ InG w w0 B b lo 25 3 v qs.length (qs.flatMap encQ) [] w'
def CgRel (w w0 : World) (B b lo : Nat) (ls : List (Nat × TypeId × Array Value)) (L : List (Lk × List P2)) (v i : Value) (wr : World) : Prop :=
  ∃ qs : List Q3, i = .int .i64 qs.length ∧ QsIn L qs ∧ InG w w0 B b lo 25 3 v qs.length (qs.flatMap encQ) ls wr
set_option maxRecDepth 100000 in
set_option maxHeartbeats 8000000 in
theorem confg_any (w0 w : World) (B b : Nat) (a : Ar) (hG : GenAr a) (hA : a.At w0 w0.heap.size) (h0 : InS w0 B b [] w) (hB : B ≤ b) (hw : w0.heap.size ≤ b) :
    Calls Tryd.prog 77 #[a.val, .pointer (some ⟨b, 0, none⟩)] w (ConGPost w0 w B b a.L) := by
  obtain ⟨nm, ⟨px, py⟩, hf, t, v, L⟩ := a
  obtain ⟨hsl, hshp⟩ := hA
  obtain ⟨A, n, c, hv, hln, hnc, hA0, hrd⟩ := hsl
  obtain rfl : v = .slice A n c := hv
  obtain rfl : L.length = n := (Ar.ks_len _).symm.trans hln
  have hL3 : L.length ≤ 3 := hG.len.2
  have HRD := Lib.hid hrd
  have HSH := Lib.hid (show ∀ x ∈ L, SlP w0 w0.heap.size x.1.shape x.2 from hshp)
  have HGL := Lib.hid (show ∀ x ∈ L, GenLk x.1 x.2 from hG.lk)
  have HKS := Lib.hid (show ∀ i : Nat, (L.map (·.1))[i]? = (L[i]?).map (·.1) from fun i => List.getElem?_map)
  change Calls Tryd.prog 77 #[.agg #[.string nm, .bool px.neg, .string px.num, .string px.den, .bool py.neg, .string py.num, .string py.den, .bool hf, .bool t.neg, .string t.num, .string t.den, .slice A L.length c], .pointer (some ⟨b, 0, none⟩)] w (ConGPost w0 w B b L)
  have hL := h0.allocS hB 37 #[.string nm, .bool px.neg, .string px.num, .string px.den, .bool py.neg, .string py.num, .string py.den, .bool hf, .bool t.neg, .string t.num, .string t.den, .slice A L.length c]
  have hbl := h0.st.lt
  have hw0 := h0.toIn.bel.size
  obtain ⟨g, hg⟩ : ∃ g, g = w.heap.size := ⟨_, rfl⟩
  obtain ⟨i0, hi0, hi1⟩ := Option.map_eq_some_iff.1 info_rat
  injection hi1 with hz0 hi1
  injection hi1 with hz1 hz2
  clear hrd hshp hln hG h0
  go_enter Tryd.func77, Tryd.ntmps77
  go_upto_region 1 with (fail)
  rw [← hg] at hL ⊢
  have hgb : b < g + 1 := by omega
  have hgs : w0.heap.size ≤ g + 1 := by omega
  have hOO : InG w w0 B b (g + 1) 25 3 (.slice none 0 0) 0 [] [(g, 37, #[.string nm, .bool px.neg, .string px.num, .string px.den, .bool py.neg, .string py.num, .string py.den, .bool hf, .bool t.neg, .string t.num, .string t.den, .slice A L.length c])] (w.alloc (.cells #[.string nm, .bool px.neg, .string px.num, .string px.den, .bool py.neg, .string py.num, .string py.den, .bool hf, .bool t.neg, .string t.num, .string t.den, .slice A L.length c] 37)) := ⟨⟨hL, ⟨rfl, .inl ⟨rfl, rfl⟩⟩, by rw [World.size_alloc, hg]; exact Nat.le_refl _, hgb, fun x _ e => by cases e⟩, World.grownBy_alloc w _ _, by omega⟩
  have hst := Lib.hid (show CgRel w w0 B b (g + 1) [(g, 37, #[.string nm, .bool px.neg, .string px.num, .string px.den, .bool py.neg, .string py.num, .string py.den, .bool hf, .bool t.neg, .string t.num, .string t.den, .slice A L.length c])] L (.slice none 0 0) (.int .i64 0) _ from ⟨[], rfl, ⟨Nat.zero_le _, fun j q x h => by simp at h⟩, hOO⟩)
  have HG := Lib.hid hg
  generalize World.alloc _ _ = W1 at hL hOO hst ⊢
  have hT := hL.toIn
  have fx := hT.facts
  simp only [factsOf, cellsOf, Nat.zero_add, Nat.reduceAdd] at fx
  clear hL hOO hT hg
  go_wp2_with fail
  clear fx
  go_loopw [5, 16] (fun v i wr => CgRel w w0 B b (g + 1) [(g, 37, #[.string nm, .bool px.neg, .string px.num, .string px.den, .bool py.neg, .string py.num, .string py.den, .bool hf, .bool t.neg, .string t.num, .string t.den, .slice A L.length c])] L v i wr) (fun _ i _ => L.length - (intOf i).toNat)
  case atStart => exact hst.out
  case round =>
    clear hst
    obtain ⟨qs, rfl, hq, hL⟩ := hrel
    by_cases hin : qs.length < L.length
    · have hi1 : (qs.length : Int) < (L.length : Int) := by omega
      have hi2 : 0 ≤ (qs.length : Int) ∧ (qs.length : Int) < (L.length : Int) := by omega
      obtain ⟨⟨⟨klen, klow, khigh, kspeed, kbrake, kshape⟩, pts⟩, ha⟩ : ∃ x, L[qs.length]? = some x := ⟨_, List.getElem?_eq_getElem hin⟩
      obtain ⟨A5, n5, c5, hk5, _⟩ := HSH.out _ (List.mem_of_getElem? ha)
      obtain rfl : kshape = .slice A5 n5 c5 := hk5
      obtain ⟨b9, o, rfl, hbB, hlc⟩ := Rd.lnk HRD.out (i := qs.length) (k := ⟨klen, klow, khigh, kspeed, kbrake, .slice A5 n5 c5⟩) (by
        show (L.map (·.1))[qs.length]? = _
        rw [HKS.out, ha]; rfl)
      have hlc := hlc.below hL.toIn.bel hbB
      have hbn : b9 < wr.heap.size := Nat.lt_of_lt_of_le hbB hL.toIn.bel.size
      obtain ⟨f0, f1, f2, f3, f4, f5, f6, f7, f8, f9, f10, f11, f12, f13, f14, f15⟩ := hlc
      obtain ⟨_, ga, ge, _, _, _, _, ha6, he6, _, _, ⟨_, hlq, hhq, _, _⟩, ⟨_, clo, chi, _, _⟩, ⟨_, llo, lhi, _, _⟩, _⟩ := HGL.out _ (List.mem_of_getElem? ha)
      have hlq : klow.q = mkRat (-1 - ga) 3 := hlq
      have hhq : khigh.q = mkRat (1 + ge) 3 := hhq
      have pl := low_parts ga ha6
      have ph := high_parts ge he6
      rw [← hlq] at pl
      rw [← hhq] at ph
      have FL := Lib.hid (fun W => fraction_any W klow clo (Q3.le.more llo (by decide)))
      have FH := Lib.hid (fun W => fraction_any W khigh chi (Q3.le.more lhi (by decide)))
      obtain ⟨n1, hn1⟩ : ∃ n, klow.q.num = n := ⟨_, rfl⟩
      obtain ⟨m1, hm1⟩ : ∃ n, khigh.q.num = n := ⟨_, rfl⟩
      obtain ⟨d1, hd1⟩ : ∃ n, klow.q.den = n := ⟨_, rfl⟩
      obtain ⟨e1', he1⟩ : ∃ n, khigh.q.den = n := ⟨_, rfl⟩
      have HB := Lib.hid (fun (k : Int) (hk : 0 ≤ k ∧ k ≤ 8) (D : Nat) (hD : D = 8 * d1 * e1') => conf_between hn1 hd1 hm1 he1 (by grind) hk hD)
      rw [hn1, hd1] at FL
      rw [hm1, he1] at FH
      rw [hn1, hd1] at pl
      rw [hm1, he1] at ph
      have hm := List.mem_of_getElem? ha
      have HA := Lib.hid ha
      have HQ := Lib.hid hq
      have HBB := Lib.hid (show n1 * (e1' : Int) ≤ -1 ∧ -18 ≤ n1 * (e1' : Int) ∧ 1 ≤ m1 * (d1 : Int) ∧ m1 * (d1 : Int) ≤ 18 from by
        obtain ⟨p1, p2, _⟩ := pl
        obtain ⟨r1, r2, _⟩ := ph
        rcases p2 with rfl | rfl <;> rcases r2 with rfl | rfl <;> simp <;> omega)
      have hd13 : 1 ≤ d1 ∧ d1 ≤ 3 := by omega
      have he13 : 1 ≤ e1' ∧ e1' ≤ 3 := by omega
      have hde : 1 ≤ d1 * e1' ∧ d1 * e1' ≤ 9 := by
        obtain ⟨_, p2, _⟩ := pl
        obtain ⟨_, r2, _⟩ := ph
        rcases p2 with rfl | rfl <;> rcases r2 with rfl | rfl <;> decide
      have hn16 := pl.1
      have hm16 := ph.1
      have hlt9 : ∀ x ∈ ([(g, 37, #[.string nm, .bool px.neg, .string px.num, .string px.den, .bool py.neg, .string py.num, .string py.den, .bool hf, .bool t.neg, .string t.num, .string t.den, .slice (some ⟨b9, o, none⟩) L.length c])] : List (Nat × TypeId × Array Value)), x.1 < g + 1 := fun x hx => by
        rcases List.mem_cons.1 hx with rfl | hx
        · exact Nat.lt_succ_self _
        · cases hx
      replace hL := hL.alloc hB 28 #[.bool klen.neg, .string klen.num, .string klen.den, .bool klow.neg, .string klow.num, .string klow.den, .bool khigh.neg, .string khigh.num, .string khigh.den, .bool kspeed.neg, .string kspeed.num, .string kspeed.den, .bool kbrake.neg, .string kbrake.num, .string kbrake.den, .slice A5 n5 c5]
      clear hq pl ph ha hm hlq hhq clo chi llo lhi ha6 he6 hn1 hm1 hd1 he1
      obtain ⟨g7, hg7⟩ : ∃ g, g = wr.heap.size := ⟨_, rfl⟩
      go_upto_region 5 with (fail)
      clear f0 f1 f2 f3 f4 f5 f6 f7 f8 f9 f10 f11 f12 f13 f14 f15 hbn hbB
      rw [← hg7] at hL ⊢
      generalize World.alloc _ _ = W2 at hL ⊢
      clear hg7
      have hT := hL.toIn.take (a := [_])
      have fx := hT.facts
      simp only [factsOf, cellsOf, Nat.zero_add, Nat.reduceAdd] at fx
      clear hT
      go_wp2_with fail
      refine (FL.out _).mono ?_
      rintro e wn ⟨rfl, hb⟩
      replace hL := hL.call hB hb
      clear hb fx
      have hT := hL.toIn.take (a := [_])
      have fx := hT.facts
      simp only [factsOf, cellsOf, Nat.zero_add, Nat.reduceAdd] at fx
      clear hT
      go_wp2_with fail
      refine (FH.out _).mono ?_
      rintro e wn ⟨rfl, hb⟩
      replace hL := hL.call hB hb
      clear hb fx
      go_wp2_with fail
      refine (next_any _ B b 9 hL.st hB (by omega) (by omega)).mono ?_
      rintro e wn ⟨k, rfl, k0, k1, hst2, hg, hse⟩
      clear hse
      replace hL := hL.next hw hst2 hg
      clear hst2 hg
      have HBK := Lib.hid (HB.out k (by omega))
      obtain ⟨p1, hp1⟩ : ∃ x, n1 * (e1' : Int) = x := ⟨_, rfl⟩
      obtain ⟨p2, hp2⟩ : ∃ x, m1 * (d1 : Int) = x := ⟨_, rfl⟩
      have hbb := HBB.out
      rw [hp1, hp2] at hbb
      have hTk : 0 ≤ (p2 - p1) * k ∧ (p2 - p1) * k ≤ 288 := by
        have h9 : k = 0 ∨ k = 1 ∨ k = 2 ∨ k = 3 ∨ k = 4 ∨ k = 5 ∨ k = 6 ∨ k = 7 ∨ k = 8 := by omega
        rcases h9 with rfl | rfl | rfl | rfl | rfl | rfl | rfl | rfl | rfl <;> omega
      have hNb : -144 ≤ 8 * p1 + (p2 - p1) * k ∧ 8 * p1 + (p2 - p1) * k ≤ 144 := by
        have h9 : k = 0 ∨ k = 1 ∨ k = 2 ∨ k = 3 ∨ k = 4 ∨ k = 5 ∨ k = 6 ∨ k = 7 ∨ k = 8 := by omega
        rcases h9 with rfl | rfl | rfl | rfl | rfl | rfl | rfl | rfl | rfl <;> omega
      have h8p : 8 * n1 * (e1' : Int) = 8 * p1 := by rw [← hp1, Int.mul_assoc]
      obtain ⟨T, hT0⟩ : ∃ T, (p2 - p1) * k = T := ⟨_, rfl⟩
      rw [hT0] at hTk hNb
      obtain ⟨D, hDD⟩ : ∃ D : Nat, D = 8 * d1 * e1' := ⟨_, rfl⟩
      have hDi : 8 * (d1 : Int) * (e1' : Int) = (D : Int) := by rw [hDD]; simp
      have hDb : 1 ≤ D ∧ D ≤ 72 := by rw [hDD, Nat.mul_assoc]; omega
      obtain ⟨z, qz, cz, lz, OF⟩ := of_link (8 * p1 + T) D (by omega) (by omega) (by omega)
      replace OF := Lib.hid OF
      have HZ := Lib.hid (show QIn ⟨klen, klow, khigh, kspeed, kbrake, .slice A5 n5 c5⟩ z from by
        have h1 := HBK.out D hDD
        rw [h8p, hp1, hp2, hT0, ← qz] at h1
        exact ⟨cz, lz, h1⟩)
      have w1 : IntKind.i64.wrap (8 * n1) = 8 * n1 := by rw [IntKind.wrap_i64]; omega
      have w2 : IntKind.i64.wrap (8 * n1 * (e1' : Int)) = 8 * p1 := by rw [h8p, IntKind.wrap_i64]; omega
      have w3 : IntKind.i64.wrap (m1 * (d1 : Int)) = p2 := by rw [hp2, IntKind.wrap_i64]; omega
      have w4 : IntKind.i64.wrap (n1 * (e1' : Int)) = p1 := by rw [hp1, IntKind.wrap_i64]; omega
      have w5 : IntKind.i64.wrap (p2 - p1) = p2 - p1 := by rw [IntKind.wrap_i64]; omega
      have w6 : IntKind.i64.wrap ((p2 - p1) * k) = T := by rw [hT0, IntKind.wrap_i64]; omega
      have w7 : IntKind.i64.wrap (8 * p1 + T) = 8 * p1 + T := by rw [IntKind.wrap_i64]; omega
      have w8 : IntKind.i64.wrap (8 * (d1 : Int)) = 8 * (d1 : Int) := by rw [IntKind.wrap_i64]; omega
      have w9 : IntKind.i64.wrap (8 * (d1 : Int) * (e1' : Int)) = (D : Int) := by rw [hDi, IntKind.wrap_i64]; omega
      have wk : IntKind.i64.wrap ((qs.length : Int) + 1) = (qs.length : Int) + 1 := by rw [IntKind.wrap_i64]; omega
      clear hTk hNb h8p hp1 hp2 hT0 hDD hDi hDb qz cz lz HBB HBK HB hbb hde hd13 he13 hn16 hm16
      go_wp2_with fail
      refine (OF.out _).mono ?_
      rintro e wn ⟨rfl, hb⟩
      replace hL := (hL.call hB hb).tail
      clear hb OF w1 w2 w3 w4 w5 w6 w7 w8 w9
      have hbase : g + 1 ≤ wn.heap.size := hL.lo1
      have Ho := Lib.hid hL.own
      have hmx : qs.length + 1 ≤ 3 := by omega
      have HPU := Lib.hid (fun v6 w6 h1 h2 => hL.push (v' := v6) (W' := w6) (n' := (qs ++ [z]).length) (xs' := (qs ++ [z]).flatMap encQ) hB hlt9 hgs h1 h2)
      clear hL
      go_wp2_with (at_builtin; refine wpList_push rfl (.tmp 34) (.tmp 54) 48 rfl (g + 1) 25 i0 (.agg #[.bool false, .string { data := #[] }, .string { data := #[] }]) 3 40 Tryd.underlying48 hi0 hz0 hz1 hz2 rfl (by omega) _ qs.length _ rfl Ho.out [.bool z.neg, .string z.num, .string z.den] rfl rfl (by simp [Value.oneCell']) (by unfold maxLen; omega) (by omega) hbase ?_; intro v6 w6 hn6 hb6 _)
      have HX := Lib.hid (HPU.out v6 w6 (by simpa [encQ] using hn6) hb6)
      clear hn6 hb6
      go_roundw
      case rel => exact ⟨qs ++ [z], by simp, QsIn.snoc HQ.out HA.out HZ.out, HX.out⟩
      case measure => simp [intOf]; omega
    · have hle : qs.length = L.length := by have := hq.1; omega
      have hi1 : ¬ (qs.length : Int) < (L.length : Int) := by omega
      have HX := Lib.hid (show ConGPost w0 w B b L (.returned _) wr from ⟨_, qs, g + 1, rfl, hle, hq, by rw [← HG.out]; omega, hL.tail⟩)
      clear hL hq hle
      go_wp2
      go_ret
      exact HX.out
end Go.Proofs.YtnnbnecpcppkdaaDoor
namespace Go.Proofs.YtnnbnecpcppkdaaDoor
open Go.RowKit Go.Gy
set_option linter.unusedVariables false
set_option linter.unusedSimpArgs false
/-- a made track, the last of whose ticks is t -/
def GenK (L : List (Lk × List P2)) (K : List Ky) : Prop := (∀ k ∈ K, 0 ≤ k.1 ∧ k.1 ≤ 9 + 67 * (K.length : Int) ∧ k.2.2.length = L.length ∧ QsIn L k.2.2) ∧ ∀ (i : Nat) (x y : Ky), K[i]? = some x → K[i + 1]? = some y → x.1 + 48 ≤ y.1
def LastK (K : List Ky) (t : Int) : Prop := ∀ x, K[K.length - 1]? = some x → x.1 = t
theorem GenK.snoc {L : List (Lk × List P2)} {K : List Ky} {t u : Int} {v : Value} {qs : List Q3} (h : GenK L K) (hl : LastK K t) (hu : K ≠ [] → t + 48 ≤ u) (u0 : 0 ≤ u ∧ u ≤ 9 + 67 * ((K.length : Int) + 1)) (hn : qs.length = L.length) (hq : QsIn L qs) : GenK L (K ++ [(u, v, qs)]) ∧ LastK (K ++ [(u, v, qs)]) u := by
  refine ⟨⟨fun k hk => ?_, fun i x y hx hy => ?_⟩, fun x hx => ?_⟩
  · rw [List.length_append, List.length_singleton]
    rcases List.mem_append.1 hk with h1 | h1
    · obtain ⟨a1, a2, a3⟩ := h.1 k h1
      exact ⟨a1, by push_cast; omega, a3⟩
    · rw [List.mem_singleton.1 h1]
      exact ⟨u0.1, by push_cast; exact u0.2, hn, hq⟩
  · have hi := (List.getElem?_eq_some_iff.1 hy).1
    rw [List.length_append, List.length_singleton] at hi
    rcases Nat.lt_or_ge (i + 1) K.length with h1 | h1
    · rw [List.getElem?_append_left h1] at hy
      rw [List.getElem?_append_left (by omega)] at hx
      exact h.2 i x y hx hy
    · have h2 : i + 1 = K.length := by omega
      rw [List.getElem?_append_right h1, show i + 1 - K.length = 0 by omega] at hy
      simp only [List.getElem?_cons_zero, Option.some.injEq] at hy
      rw [List.getElem?_append_left (by omega)] at hx
      rw [← hy, hl x (by rw [← hx]; congr 1; omega)]
      exact hu (by rintro rfl; simp at h2)
  · rw [List.length_append, List.length_singleton, Nat.add_sub_cancel, List.getElem?_append_right (Nat.le_refl _), Nat.sub_self] at hx
    simp only [List.getElem?_cons_zero, Option.some.injEq] at hx
    rw [← hx]
def TrackMk (w : World) (L : List (Lk × List P2)) (e : Ending) (w' : World) : Prop := ∃ (v : Value) (K : List Ky), e = .returned v ∧ K ≠ [] ∧ K.length ≤ 4 ∧ GenK L K ∧ KOwn w.heap.size w' v K ∧ Below w.heap.size w w'
/-- the loop's state -/
def TmRel (w0 : World) (g b : Nat) (cs : Array Value) (L : List (Lk × List P2)) (m : Int) (out t i : Value) (wr : World) : Prop :=
  ∃ (K : List Ky) (u : Int), i = .int .i64 K.length ∧ t = .int .i64 u ∧ (K.length : Int) ≤ m ∧ GenK L K ∧ LastK K u ∧ (0 ≤ u ∧ u ≤ 9 + 67 * (K.length : Int)) ∧ KOwn (b + 1) wr out K ∧ InS w0 w0.heap.size b [(g, 37, cs)] wr
theorem KOwn.next {lo b : Nat} {W W' : World} {v : Value} {K : List Ky} (h : KOwn lo W v K) (hb : b < lo) (hg : W.grownBy W' (some b)) : KOwn lo W' v K := ⟨own_nextA h.1 hb hg, fun k hk => own_nextA (h.2 k hk) hb hg⟩
theorem tm_push {w0 wc w6 : World} {g b : Nat} {cs : Array Value} {L : List (Lk × List P2)} {m u : Int} {out vq v6 : Value} {K : List Ky} {qs : List Q3} (hw : w0.heap.size ≤ b) (hg : g ≤ b) (hown : KOwn (b + 1) wc out K) (hq : wc.ownsRow (b + 1) 25 3 vq qs.length (qs.flatMap encQ)) (hS : InS w0 w0.heap.size b [(g, 37, cs)] wc)
    (h6 : w6.ownsRow (b + 1) 89 2 v6 (K.length + 1) (K.flatMap encKy ++ [.int .i64 u, vq])) (hb : Below (b + 1) wc w6) (hgr : wc.grownBy w6 out.ownBlock) (hG : GenK L (K ++ [(u, vq, qs)]) ∧ LastK (K ++ [(u, vq, qs)]) u) (hu : 0 ≤ u ∧ u ≤ 9 + 67 * ((K.length : Int) + 1)) (hm : ((K.length + 1 : Nat) : Int) ≤ m) :
    TmRel w0 g b cs L m v6 (.int .i64 u) (.int .i64 ((K.length : Int) + 1)) w6 := by
  refine ⟨K ++ [(u, vq, qs)], u, by simp, rfl, by simpa using hm, hG.1, hG.2, by simpa using hu, ⟨by simpa [encKy] using h6, fun k hk => ?_⟩, ⟨hS.toIn.callB hb (by omega) (fun x hx => ?_), hS.st.belowL hb (Nat.lt_succ_self b) (by omega), hS.off⟩⟩
  · rcases List.mem_append.1 hk with h | h
    · exact (hown.2 k h).kept hgr (own_apart (hown.2 k h) hown.1 (by decide))
    · rw [List.mem_singleton.1 h]
      exact hq.kept hgr (own_apart hq hown.1 (by decide))
  · rcases List.mem_cons.1 hx with rfl | hx
    · exact Nat.lt_succ_of_le hg
    · cases hx
set_option maxRecDepth 100000 in
set_option maxHeartbeats 8000000 in
theorem trackMake (w : World) (a : Ar) (hG : GenAr a) (hA : a.At w w.heap.size) (v : Value) (l : List Int) (hv : SlI w w.heap.size v l) (hl : l.length ≤ 140737488355328) :
    Calls Tryd.prog 52 #[a.val, v] w (TrackMk w a.L) := by
  obtain ⟨i0, hi0, hi1⟩ := Option.map_eq_some_iff.1 info_key
  injection hi1 with hz0 hi1
  injection hi1 with hz1 hz2
  obtain ⟨A, m, c, rfl, hvr⟩ := id hv
  clear hvr
  have HG := Lib.hid hG
  have HA := Lib.hid hA
  obtain ⟨ar, har⟩ : ∃ ar, ar = a := ⟨_, rfl⟩
  rw [← har] at HG HA ⊢
  obtain ⟨nm, ⟨px, py⟩, hf, t, va, L⟩ := a
  obtain ⟨⟨A9, n9, c9, hva, _⟩, _⟩ := hA
  obtain rfl : va = .slice A9 n9 c9 := hva
  have hval : ar.val = .agg #[.string nm, .bool px.neg, .string px.num, .string px.den, .bool py.neg, .string py.num, .string py.den, .bool hf, .bool t.neg, .string t.num, .string t.den, .slice A9 n9 c9] := by rw [har]; rfl
  have HV := Lib.hid hval
  rw [hval]
  have hI := (In.start w).alloc 37 #[.string nm, .bool px.neg, .string px.num, .string px.den, .bool py.neg, .string py.num, .string py.den, .bool hf, .bool t.neg, .string t.num, .string t.den, .slice A9 n9 c9]
  have hsz := Lib.hid (World.size_alloc w (.cells #[.string nm, .bool px.neg, .string px.num, .string px.den, .bool py.neg, .string py.num, .string py.den, .bool hf, .bool t.neg, .string t.num, .string t.den, .slice A9 n9 c9] 37))
  clear har hval hG
  go_enter Tryd.func52, Tryd.ntmps52
  go_upto_region 1 with (fail)
  generalize World.alloc _ _ = w1 at hI hsz ⊢
  have hb1 : Below w1.heap.size w1 (w1.alloc (.cells #[.slice A m c] 103)) := (Below.refl _ _).alloc (Nat.le_refl _) _
  have hbe := hI.bel
  have hst : StrAt (w1.alloc (.cells #[.slice A m c] 103)) w.heap.size w1.heap.size := ⟨_, l, Blk.new _ _ _, hv.below (hbe.trans (hb1.mono hbe.size)), hl⟩
  have h0 : InS w w.heap.size w1.heap.size [(w.heap.size, 37, #[.string nm, .bool px.neg, .string px.num, .string px.den, .bool py.neg, .string py.num, .string py.den, .bool hf, .bool t.neg, .string t.num, .string t.den, .slice A9 n9 c9])] (w1.alloc (.cells #[.slice A m c] 103)) := ⟨hI.call hb1, hst, fun x hx => by
    rcases List.mem_cons.1 hx with rfl | hx
    · have := hsz.out; show w.heap.size ≠ w1.heap.size; omega
    · cases hx⟩
  obtain ⟨b, hb⟩ : ∃ b, b = w1.heap.size := ⟨_, rfl⟩
  have hwb : w.heap.size ≤ b := by rw [hb]; exact hbe.size
  clear hv hl hst hb1 hbe hI hsz
  go_upto_region 2 with (fail)
  rw [← hb] at h0 ⊢
  generalize World.alloc _ _ = W2 at h0 ⊢
  clear hb
  go_wp2_with fail
  refine (next_any _ w.heap.size b 10 h0.st hwb (by omega) (by omega)).mono ?_
  rintro e wn ⟨t0, rfl, t00, t01, hst2, hg, hse⟩
  clear hse
  replace h0 := h0.nextS hwb hst2 hg
  clear hst2 hg
  go_wp2_with fail
  refine (next_any _ w.heap.size b 4 h0.st hwb (by omega) (by omega)).mono ?_
  rintro e wn2 ⟨n0, rfl, n00, n01, hst2, hg, hse⟩
  clear hse
  replace h0 := h0.nextS hwb hst2 hg
  clear hst2 hg
  have hwr : IntKind.i64.wrap (1 + n0) = 1 + n0 := by rw [IntKind.wrap_i64]; omega
  have hst := Lib.hid (show TmRel w w.heap.size b #[.string nm, .bool px.neg, .string px.num, .string px.den, .bool py.neg, .string py.num, .string py.den, .bool hf, .bool t.neg, .string t.num, .string t.den, .slice A9 n9 c9] ar.L (1 + n0) (.slice none 0 0) (.int .i64 t0) (.int .i64 0) wn2 from ⟨[], t0, rfl, rfl, by show (0 : Int) ≤ _; omega, ⟨(fun k h => by cases h), (fun i x y h => by simp at h)⟩, (fun x h => by simp at h), by show _ ∧ _ ≤ 9 + 67 * (0 : Int); omega, ⟨⟨rfl, .inl ⟨rfl, rfl⟩⟩, (fun k h => by cases h)⟩, h0⟩)
  clear h0
  go_wp2_with fail
  go_loopw [6, 7, 17] (fun out tk i wr => TmRel w w.heap.size b #[.string nm, .bool px.neg, .string px.num, .string px.den, .bool py.neg, .string py.num, .string py.den, .bool hf, .bool t.neg, .string t.num, .string t.den, .slice A9 n9 c9] ar.L (1 + n0) out tk i wr) (fun _ _ i _ => (1 + n0).toNat - (intOf i).toNat)
  case atStart => exact hst.out
  case round =>
    clear hst
    obtain ⟨wq, rfl⟩ : ∃ wq, wq = wr := ⟨_, rfl⟩
    obtain ⟨K, u, rfl, rfl, hk, hgk, hlk, hu, hown, hS⟩ := hrel
    have HGK := Lib.hid hgk
    have HLK := Lib.hid hlk
    have HOWN := Lib.hid hown
    have hL3 : K.length ≤ 4 := by omega
    obtain ⟨A0, c0, rfl, _⟩ := own_rd hown.1
    by_cases hin : (K.length : Int) < 1 + n0
    · have hwk : IntKind.i64.wrap ((K.length : Int) + 1) = (K.length : Int) + 1 := by rw [IntKind.wrap_i64]; omega
      have hm1 : K.length + 1 ≤ 4 := by omega
      have hm2 : ((K.length + 1 : Nat) : Int) ≤ 1 + n0 := by omega
      clear hgk hlk
      by_cases h0 : K.length = 0
      · have hi0 : ¬ (K.length : Int) > 0 := by omega
        have hi3 : ¬ (0 : Int) < (K.length : Int) := by omega
        have HU := Lib.hid (show (K ≠ [] → u + 48 ≤ u) ∧ 0 ≤ u ∧ u ≤ 9 + 67 * ((K.length : Int) + 1) from ⟨fun h => absurd (List.length_eq_zero_iff.1 h0) h, by omega⟩)
        clear h0
        go_upto_region 9 with (fail)
        clear hi0 hi3
        have HOW := Lib.hid hown
        have HC := Lib.hid (confg_any w _ w.heap.size b ar HG.out HA.out ⟨hS.toIn.tail, hS.st, fun y hy => by cases hy⟩ hwb hwb)
        have hlt := hS.st.lt
        have hT := hS.toIn
        have fx := hT.facts
        simp only [factsOf, cellsOf, Nat.zero_add, Nat.reduceAdd] at fx
        rw [HV.out] at HC
        clear hT hown
        have HS := Lib.hid hS
        clear hS
        go_wp2_with fail
        refine HC.out.mono ?_
        rintro e wc ⟨vq, qs, lo, rfl, hql, hqs, hlo, hO⟩
        obtain ⟨Aq, cq, rfl, _⟩ := own_rd hO.own
        have HW := Lib.hid (show w.heap.size ≤ b + 1 ∧ wc.ownsRow (b + 1) 25 3 (.slice Aq qs.length cq) qs.length (qs.flatMap encQ) ∧ KOwn (b + 1) wc (.slice A0 K.length c0) K ∧ InS w w.heap.size b [(w.heap.size, 37, #[.string nm, .bool px.neg, .string px.num, .string px.den, .bool py.neg, .string py.num, .string py.den, .bool hf, .bool t.neg, .string t.num, .string t.den, .slice A9 n9 c9])] wc ∧ b + 1 ≤ wc.heap.size from ⟨by omega, own_base hO.own (by omega), HOW.out.next (Nat.lt_succ_self b) hO.gr, HS.out.nextS hwb hO.st hO.gr, by have := hO.st.lt; omega⟩)
        have HGN := Lib.hid (show GenK ar.L (K ++ [(u, .slice Aq qs.length cq, qs)]) ∧ LastK (K ++ [(u, .slice Aq qs.length cq, qs)]) u from HGK.out.snoc HLK.out HU.out.1 HU.out.2 hql hqs)
        have hbase := HW.out.2.2.2.2
        clear hql hqs hlo hO fx HC HOW HS hlt
        go_wp2_with (at_builtin; refine wpList_pushG rfl (.tmp 27) (.tmp 33) 84 rfl (b + 1) 89 i0 (.agg #[.int .i64 0, .slice none 0 0]) 2 32 Tryd.underlying84 hi0 hz0 hz1 hz2 rfl (by omega) _ K.length _ rfl HW.out.2.2.1.1 [.int .i64 u, .slice Aq qs.length cq] rfl rfl (by simp [Value.oneCell']) (by unfold maxLen; omega) (by omega) hbase ?_; intro v6 w6 hn6 hb6 hg6 hsh; have HX := Lib.hid (tm_push hwb hwb HW.out.2.2.1 HW.out.2.1 HW.out.2.2.2.1 hn6 hb6 hg6 HGN.out HU.out.2 hm2); clear hsh hn6 hb6 hg6)
        clear hbase HW HGN HU
        go_roundw
        case rel => exact HX.out
        case measure => simp [intOf]; omega
      · have hi3 : (0 : Int) < (K.length : Int) := by omega
        go_upto_region 8 with (fail)
        go_wp2_with fail
        refine (next_any _ w.heap.size b 20 hS.st hwb (by omega) (by omega)).mono ?_
        rintro e wn ⟨r, rfl, r0, r1, hst2, hg, hse⟩
        clear hse
        replace hS := hS.nextS hwb hst2 hg
        replace hown := hown.next (Nat.lt_succ_self b) hg
        clear hst2 hg
        have hw1 : IntKind.i64.wrap (48 + r) = 48 + r := by rw [IntKind.wrap_i64]; omega
        have hw2 : IntKind.i64.wrap (u + (48 + r)) = u + (48 + r) := by rw [IntKind.wrap_i64]; omega
        have HU := Lib.hid (show (K ≠ [] → u + 48 ≤ u + (48 + r)) ∧ 0 ≤ u + (48 + r) ∧ u + (48 + r) ≤ 9 + 67 * ((K.length : Int) + 1) from ⟨fun h => by omega, by omega⟩)
        go_upto_region 9 with (fail)
        have HOW := Lib.hid hown
        have HC := Lib.hid (confg_any w _ w.heap.size b ar HG.out HA.out ⟨hS.toIn.tail, hS.st, fun y hy => by cases hy⟩ hwb hwb)
        have hlt := hS.st.lt
        have hT := hS.toIn
        have fx := hT.facts
        simp only [factsOf, cellsOf, Nat.zero_add, Nat.reduceAdd] at fx
        rw [HV.out] at HC
        clear hT hown
        have HS := Lib.hid hS
        clear hS
        go_wp2_with fail
        refine HC.out.mono ?_
        rintro e wc ⟨vq, qs, lo, rfl, hql, hqs, hlo, hO⟩
        obtain ⟨Aq, cq, rfl, _⟩ := own_rd hO.own
        have HW := Lib.hid (show w.heap.size ≤ b + 1 ∧ wc.ownsRow (b + 1) 25 3 (.slice Aq qs.length cq) qs.length (qs.flatMap encQ) ∧ KOwn (b + 1) wc (.slice A0 K.length c0) K ∧ InS w w.heap.size b [(w.heap.size, 37, #[.string nm, .bool px.neg, .string px.num, .string px.den, .bool py.neg, .string py.num, .string py.den, .bool hf, .bool t.neg, .string t.num, .string t.den, .slice A9 n9 c9])] wc ∧ b + 1 ≤ wc.heap.size from ⟨by omega, own_base hO.own (by omega), HOW.out.next (Nat.lt_succ_self b) hO.gr, HS.out.nextS hwb hO.st hO.gr, by have := hO.st.lt; omega⟩)
        have HGN := Lib.hid (show GenK ar.L (K ++ [((u + (48 + r)), .slice Aq qs.length cq, qs)]) ∧ LastK (K ++ [((u + (48 + r)), .slice Aq qs.length cq, qs)]) (u + (48 + r)) from HGK.out.snoc HLK.out HU.out.1 HU.out.2 hql hqs)
        have hbase := HW.out.2.2.2.2
        clear hql hqs hlo hO fx HC HOW HS hlt
        go_wp2_with (at_builtin; refine wpList_pushG rfl (.tmp 27) (.tmp 33) 84 rfl (b + 1) 89 i0 (.agg #[.int .i64 0, .slice none 0 0]) 2 32 Tryd.underlying84 hi0 hz0 hz1 hz2 rfl (by omega) _ K.length _ rfl HW.out.2.2.1.1 [.int .i64 (u + (48 + r)), .slice Aq qs.length cq] rfl rfl (by simp [Value.oneCell']) (by unfold maxLen; omega) (by omega) hbase ?_; intro v6 w6 hn6 hb6 hg6 hsh; have HX := Lib.hid (tm_push hwb hwb HW.out.2.2.1 HW.out.2.1 HW.out.2.2.2.1 hn6 hb6 hg6 HGN.out HU.out.2 hm2); clear hsh hn6 hb6 hg6)
        clear hbase HW HGN HU
        go_roundw
        case rel => exact HX.out
        case measure => simp [intOf]; omega
    · have hlo := hS.st.lt
      have HX := Lib.hid (show TrackMk w ar.L (.returned (.slice A0 K.length c0)) wq from ⟨_, K, rfl, by rintro rfl; simp at hin; omega, hL3, HGK.out, HOWN.out.base (by omega), hS.toIn.bel⟩)
      clear hS hown hgk hlk hlo
      go_wp2
      go_ret
      exact HX.out
end Go.Proofs.YtnnbnecpcppkdaaDoor
namespace Go.Proofs.YtnnbnecpcppkdaaDoor
open Go.RowKit Go.Gy
set_option linter.unusedVariables false
theorem GenLk.range {k : Lk} {l : List P2} (h : GenLk k l) : -2 ≤ k.low.q ∧ k.high.q ≤ 2 ∧ 4 ≤ k.speed.q * 48 ∧ k.low.q < 0 ∧ 0 < k.high.q := by
  obtain ⟨c, a, e, d, f, zs, _, ha, he, hd, _, ⟨_, hlo, hhi, hs, _⟩, _⟩ := h
  have h1 := low_neg a ha
  have h2 := high_pos e he
  rw [hlo, hhi, hs]
  refine ⟨?_, ?_, ?_, h1, h2⟩
  · have h6 : a = 0 ∨ a = 1 ∨ a = 2 ∨ a = 3 ∨ a = 4 ∨ a = 5 := by omega
    rcases h6 with rfl | rfl | rfl | rfl | rfl | rfl <;> decide +kernel
  · have h6 : e = 0 ∨ e = 1 ∨ e = 2 ∨ e = 3 ∨ e = 4 ∨ e = 5 := by omega
    rcases h6 with rfl | rfl | rfl | rfl | rfl | rfl <;> decide +kernel
  · have h8 : d = 0 ∨ d = 1 ∨ d = 2 ∨ d = 3 ∨ d = 4 ∨ d = 5 ∨ d = 6 ∨ d = 7 := by omega
    rcases h8 with rfl | rfl | rfl | rfl | rfl | rfl | rfl | rfl <;> decide +kernel
theorem absQ_le {x y : Rat} (h1 : x ≤ y) (h2 : -x ≤ y) : absQ x ≤ y := by unfold absQ; split <;> grind
theorem QsIn.lim {a : Ar} {qs : List Q3} (h : QsIn a.L qs) : ∀ (j : Nat) (x : Lk × List P2) (q : Q3), a.L[j]? = some x → qs[j]? = some q → InLim x.1 q := fun j x q hx hq => ⟨(h.2 j q x hq hx).2.2.1, (h.2 j q x hq hx).2.2.2⟩
theorem GenAr.fits {a : Ar} (hG : GenAr a) {qs : List Q3} (hn : qs.length = a.L.length) (h : QsIn a.L qs) : AFitE a qs 0 :=
  ⟨0, ⟨0, hG.ok, .inr (.inr ⟨rfl, hn, rfl⟩)⟩, .inr (.inr ⟨rfl, h.lim, rfl⟩)⟩
theorem gen_slow {a : Ar} (hG : GenAr a) {p k : Ky} (hp : QsIn a.L p.2.2) (hk : QsIn a.L k.2.2) (ht : p.1 + 48 ≤ k.1) : SlowP a.L p k := by
  intro j x q q' hx hq hq'
  obtain ⟨g1, g2, g3, _, _⟩ := (hG.lk x (List.mem_of_getElem? hx)).range
  obtain ⟨_, _, a1, a2⟩ := hp.2 j q x hq hx
  obtain ⟨_, _, b1, b2⟩ := hk.2 j q' x hq' hx
  have h48 : ((48 : Int) : Rat) ≤ ((k.1 - p.1 : Int) : Rat) := Rat.intCast_le_intCast.mpr (by omega)
  have h48' : ((48 : Int) : Rat) = 48 := rfl
  rw [h48'] at h48
  have s0 : 0 ≤ x.1.speed.q := by grind
  have h5 := Rat.mul_le_mul_of_nonneg_left h48 s0
  exact absQ_le (by grind) (by grind)
theorem gen_keys {a : Ar} (hG : GenAr a) : ∀ {K : List Ky} {prev : Option Ky}, (∀ k ∈ K, 0 ≤ k.1 ∧ k.1 ≤ 2000 ∧ k.2.2.length = a.L.length ∧ QsIn a.L k.2.2) → (∀ (i : Nat) (x y : Ky), K[i]? = some x → K[i + 1]? = some y → x.1 + 48 ≤ y.1) → (∀ p k, prev = some p → K[0]? = some k → QsIn a.L p.2.2 ∧ p.1 + 48 ≤ k.1) → KeysE a prev K 0
  | [], _, _, _, _ => rfl
  | k :: r, prev, h1, h2, h3 => by
    obtain ⟨k0, k1, k2, k3⟩ := h1 k List.mem_cons_self
    refine ⟨0, .inr ⟨⟨k0, k1⟩, 0, hG.fits k2 k3, ?_⟩, .inr ⟨rfl, gen_keys hG (fun y hy => h1 y (List.mem_cons_of_mem _ hy)) (fun i x y hx hy => h2 (i + 1) x y (by simpa using hx) (by simpa using hy)) ?_⟩⟩
    · cases prev with
      | none => exact .inr (.inl ⟨rfl, rfl, rfl⟩)
      | some p =>
        obtain ⟨p1, p2⟩ := h3 p k rfl rfl
        exact .inr (.inr ⟨rfl, p, rfl, .inr (.inr ⟨by omega, gen_slow hG p1 k3 p2, rfl⟩)⟩)
    · intro p y hp hy
      cases hp
      exact ⟨k3, h2 0 k y rfl (by simpa using hy)⟩
/-- track.Check takes what gantmake.Track makes -/
theorem gen_track {a : Ar} (hG : GenAr a) {K : List Ky} (hne : K ≠ []) (h4 : K.length ≤ 4) (hK : GenK a.L K) : TrackE a K 0 :=
  ⟨0, hG.ok, .inr (.inr (.inr ⟨rfl, hne, by omega, gen_keys hG (fun k hk => by
    obtain ⟨a1, a2, a3, a4⟩ := hK.1 k hk
    exact ⟨a1, by omega, a3, a4⟩) hK.2 (fun p k h => by cases h)⟩))⟩
theorem GenK.ky {L : List (Lk × List P2)} {K : List Ky} (h4 : K.length ≤ 4) (h : GenK L K) : KyOk K := ⟨fun k hk => by
    obtain ⟨a1, a2, _⟩ := h.1 k hk
    exact ⟨a1, by omega⟩, fun i x y hx hy => by have := h.2 i x y hx hy; omega⟩
theorem GenK.le {L : List (Lk × List P2)} {K : List Ky} (hL : L.length ≤ 3) (h : GenK L K) : KyLe K 1 := fun k hk => by
  obtain ⟨_, _, a3, a4⟩ := h.1 k hk
  refine ⟨fun x hx => ?_, by omega⟩
  obtain ⟨i, hi⟩ := List.mem_iff_getElem?.1 hx
  have hl := (List.getElem?_eq_some_iff.1 hi).1
  obtain ⟨y, hy⟩ : ∃ y, L[i]? = some y := ⟨_, List.getElem?_eq_getElem (by omega)⟩
  exact (a4.2 i x y hi hy).2.1
theorem GenK.len {L : List (Lk × List P2)} {K : List Ky} (h : GenK L K) : ∀ k ∈ K, k.2.2.length = L.length := fun k hk => (h.1 k hk).2.2.1
end Go.Proofs.YtnnbnecpcppkdaaDoor
