/- gantref5.Records. Conditions: those typed. -/
import Derived.Test.YtbeemdlgjiclcaaBook
import Derived.Test.YtbeemdlgjiclcaaLogGoesWalk
import Derived.Laws.BytesArg
namespace Go.Proofs.Ytbeemdlgjiclcaa
open Go.RowKit Go.Gy
set_option linter.unusedVariables false

def strB (l : List Nat) : ByteArray := strOfNums (l.map fun x => ((x : Nat) : Int))
theorem strB_inj {l m : List Nat} (hl : ∀ x ∈ l, x < 256) (hm : ∀ x ∈ m, x < 256) (h : strB l = strB m) : l = m := by
  have h1 := congrArg (fun s => s.data.toList) h
  simp only [strB, strOfNums_data, List.map_map] at h1
  have key : ∀ (l m : List Nat), (∀ x ∈ l, x < 256) → (∀ x ∈ m, x < 256) → l.map (fun x => UInt8.ofNat x) = m.map (fun x => UInt8.ofNat x) → l = m := by
    intro l
    induction l with
    | nil => intro m _ _ h; cases m with
      | nil => rfl
      | cons y m => simp at h
    | cons x l ih =>
      intro m hl hm h
      cases m with
      | nil => simp at h
      | cons y m =>
        simp only [List.map_cons, List.cons.injEq] at h
        have hx := hl x (by simp)
        have hy := hm y (by simp)
        have e : x = y := by
          have := congrArg UInt8.toNat h.1
          simp only [UInt8.toNat_ofNat'] at this
          omega
        rw [e, ih m (fun z hz => hl z (by simp [hz])) (fun z hz => hm z (by simp [hz])) h.2]
  exact key l m hl hm h1
set_option maxRecDepth 100000 in
theorem conv_bytes {w : World} {B g o n c : Nat} {l : List Nat} (h : SlB w B (.slice (some ⟨g, o, none⟩) n c) l) (w' : World) (hw : ∀ a, w'.cell? a = w.cell? a) : (convert 26 9 (.slice (some ⟨g, o, none⟩) n c)).run Try.prog w' = .ok (.string (strB l)) w' := by
  obtain ⟨A, n', c', he, hl, _, _, h1, h2⟩ := h
  injection he with e1 e2 e3
  subst e1 e2 e3
  refine run_convert_bytes_arg w' 26 5 Try.underlying26 Try.underlying5 g o n c _ (by simpa using hl) (fun i hi => ?_) 9 Try.underlying9
  obtain ⟨b', o', e, _, h3⟩ := h2 (by omega)
  injection e with e
  injection e with e1 e2
  subst e1 e2
  rw [hw]
  have hx : l[i]? = some (l[i]'(by omega)) := List.getElem?_eq_getElem _
  have h4 := h3 i (bv (l[i]'(by omega))) (by rw [List.getElem?_map, hx]; rfl)
  rw [h4, List.getD_eq_getElem?_getD, List.getElem?_map, hx]
  rfl

def RecPost (w : World) (b : List Nat) (e : Ending) (w' : World) : Prop := ∃ (v' : Value) (vs : List Value), e = .returned (.tuple #[v', .int .i64 ((scanL b).2.1 : Nat)]) ∧ w'.ownsRow w.heap.size 26 1 v' vs.length vs ∧ SlsB w' w'.heap.size vs (scanL b).1 ∧ Below w.heap.size w w'
theorem RecPost.of {w w' : World} {b : List Nat} {f : Nat} {pre : List (List Nat)} {k last : Nat} {v : Value} {vs : List Value} (h : ScanRel b (f + 1) pre k last) (hn : oneRec last (b.drop k) = none) (ho : w'.ownsRow w.heap.size 26 1 v vs.length vs) (hob : SlsB w' w.heap.size vs pre) (hb : Below w.heap.size w w') :
    RecPost w b (.returned (.tuple #[v, .int .i64 (k : Nat)])) w' := by
  have e := h.done hn
  refine ⟨v, vs, ?_, ho, ?_, hb⟩
  · rw [e]
  · rw [e]; exact hob.more hb.size
def RecRel (w : World) (b : List Nat) (g : Nat) (v s l : Value) (wr : World) : Prop := ∃ (vs : List Value) (pre : List (List Nat)) (k last : Nat), s = .int .i64 k ∧ ScanRel b g pre k last ∧ wr.ownsRow w.heap.size 26 1 v vs.length vs ∧ SlsB wr w.heap.size vs pre ∧ wr.ownsRow w.heap.size 5 1 l 4 ((be4 last).map bv) ∧ Below w.heap.size w wr
set_option maxRecDepth 100000 in
set_option maxHeartbeats 4000000 in
theorem records_any (w : World) (v : Value) (b : List Nat) (hv : SlB w w.heap.size v b) (hn : b.length ≤ 1048576) (h8 : ∀ x ∈ b, x < 256) :
    Calls Try.prog 36 #[v] w (RecPost w b) := by
  obtain ⟨A, n, c, rfl, hbl, hnc, hA, hr⟩ := hv
  obtain ⟨j0, hj, hy0, hy1, hy2⟩ := info_parts info_bytes
  have Hbl := Lib.hid hbl
  have H8 := Lib.hid h8
  have HA := Lib.hid hA
  rw [hbl] at hn
  have Hst := Lib.hid (hbl ▸ ScanRel.start b)
  clear hbl h8 hA
  go_enter Try.func36, Try.ntmps36
  go_wp2
  go_loopg [4, 5, 6] (n + 1) (fun g v s l wr => RecRel w b g v s l wr)
  case atStart =>
    have h1 := World.ownsRow_lit (e := 5) (size := 1) (base := w.heap.size) w #[.int .u8 0, .int .u8 0, .int .u8 0, .int .u8 0] 4 (Nat.le_refl _) (by decide) rfl
    exact ⟨[], [], 0, 0, rfl, Hst.out, World.ownsRow_nil _ _ _ _, SlsB.nil _ _, h1, (Below.refl _ _).alloc (Nat.le_refl _) _⟩
  case round =>
    obtain ⟨vs, pre, k, last, rfl, HR, hown, hob, hls, hb⟩ := hrel
    have HR := Lib.hid HR
    have hk : k ≤ n := by have := HR.out.1; rw [Hbl.out] at this; exact this
    have hlast : last < 4294967296 := HR.out.2.1
    have hzr := hb.size
    have hvs : vs.length * 6 ≤ n := by have h1 := HR.out.2.2.2.1; have h2 := hob.1; omega
    obtain ⟨f, rfl⟩ : ∃ f, gk = f + 1 := ⟨gk - 1, by have h := HR.out.2.2.1; omega⟩
    have hrb := hr.below hb
    have Hob := Lib.hid hob
    have Hlo := Lib.hid hls
    have Hls := Lib.hid (SlB.own (r := be4 last) hls)
    clear hob hls
    by_cases h2 : n - k < 2
    · have hnone := Lib.hid (oneRec_short (last := last) (rest := b.drop k) (by rw [List.length_drop, Hbl.out]; omega))
      have h2' : (n : Int) - (k : Int) < 2 := by omega
      go_wp2_with fail
      all_goals
        go_ret2
        exact RecPost.of HR.out hnone.out hown Hob.out hb
    · have h2' : ¬ (n : Int) - (k : Int) < 2 := by omega
      have hck : ¬ c = k := by omega
      obtain ⟨g, o, x0, rfl, hg, hx0, hc0⟩ := bv_at hrb (show k < n by omega)
      obtain ⟨g', o', x1, he, _, hx1, hc1⟩ := bv_at hrb (show k + 1 < n by omega)
      clear he
      have hx0' := H8.out x0 (List.mem_of_getElem? hx0)
      have hx1' := H8.out x1 (List.mem_of_getElem? hx1)
      obtain ⟨m, hm⟩ : ∃ m, m = x0 * 256 + x1 := ⟨_, rfl⟩
      have Hm := Lib.hid hm
      have h01 : (b.drop k).take 2 = [x0, x1] := by
        have e0 := List.getElem?_eq_some_iff.1 hx0
        have e1 := List.getElem?_eq_some_iff.1 hx1
        rw [List.drop_eq_getElem_cons e0.1, List.drop_eq_getElem_cons e1.1, e0.2, e1.2]
        rfl
      have htwo : SlB wr w.heap.size (.slice (some ⟨g, o + k, none⟩) 2 (c - k)) [x0, x1] := by
        refine ⟨_, _, _, rfl, rfl, by omega, (fun h => by cases h), ?_⟩
        have h1 := (hrb.cut (k := k) (cap := c) hk hnc).take (k := 2) (by omega)
        simp only [hck, if_false, Option.map_some, add_none, Nat.mul_one, ← List.map_drop, ← List.map_take] at h1
        rw [h01] at h1
        exact h1
      have hval : valN [x0, x1] = m := by rw [hm]; simp [valN]; omega
      have HV := Lib.hid (value_any wr _ _ [x0, x1] htwo (by simp) (by simp; omega))
      have Hx0 := Lib.hid hx0
      have Hx1 := Lib.hid hx1
      have Hval := Lib.hid hval
      clear hx0 hx1 hm h01 htwo hval hc0 hc1
      go_wp2_with fail
      refine HV.out.mono ?_
      rintro e w1 ⟨rfl, rfl⟩
      rw [Hval.out]
      clear HV Hval
      by_cases hbig : 2000 < m
      · have hnone := Lib.hid (oneRec_big (last := last) Hm.out Hx0.out Hx1.out (.inl hbig))
        have hbig' : (2000 : Int) < (m : Int) := by omega
        go_wp2_with fail
        go_ret2
        exact RecPost.of HR.out hnone.out hown Hob.out hb
      · have hbig' : ¬ (2000 : Int) < (m : Int) := by omega
        by_cases hfit : n - k < m + 6
        · have hnone := Lib.hid (oneRec_big (last := last) Hm.out Hx0.out Hx1.out (.inr (by rw [Hbl.out]; omega)))
          have hfit' : ((n - k : Nat) : Int) < (m : Int) + 6 := by omega
          go_wp2_with fail
          go_ret2
          exact RecPost.of HR.out hnone.out hown Hob.out hb
        · have hfit' : ¬ ((n - k : Nat) : Int) < (m : Int) + 6 := by omega
          have hone := Lib.hid (oneRec_fits (last := last) Hm.out (by rw [Hbl.out]; omega) Hx0.out Hx1.out (by rw [Hbl.out]; omega))
          obtain ⟨r, hr0⟩ : ∃ r, r = ((b.drop k).drop 2).take m := ⟨_, rfl⟩
          obtain ⟨t, ht0⟩ : ∃ t, t = ((b.drop k).drop (2 + m)).take 4 := ⟨_, rfl⟩
          have hone2 : oneRec last (b.drop k) = if t = be4 (rsum last r) then some r else none := by rw [hr0, ht0]; exact hone.out
          have hrlen : r.length = m := by rw [hr0, List.length_take, List.length_drop, List.length_drop, Hbl.out]; omega
          have hr8 : ∀ x ∈ r, x < 256 := fun x hx => by rw [hr0] at hx; exact H8.out x (List.mem_of_mem_drop (List.mem_of_mem_drop (List.mem_of_mem_take hx)))
          have ht8 : ∀ x ∈ t, x < 256 := fun x hx => by rw [ht0] at hx; exact H8.out x (List.mem_of_mem_drop (List.mem_of_mem_drop (List.mem_of_mem_take hx)))
          have h01 : (b.drop k).take 2 = be2 m := by
            have e0 := List.getElem?_eq_some_iff.1 Hx0.out
            have e1 := List.getElem?_eq_some_iff.1 Hx1.out
            rw [List.drop_eq_getElem_cons e0.1, List.drop_eq_getElem_cons e1.1, e0.2, e1.2, Hm.out]
            simp [be2]; omega
          have hhd : (b.drop k).take (2 + m) = be2 m ++ r := by rw [List.take_add, h01, hr0]
          have hrd : SlB wr w.heap.size (.slice (some ⟨g, o + k + 2, none⟩) m (c - k - 2)) r := by
            refine ⟨_, _, _, rfl, hrlen, by omega, (fun h => by cases h), ?_⟩
            have h1 := ((hrb.cut (k := k) (cap := c) hk hnc).cut (k := 2) (cap := c - k) (by omega) (by omega)).take (k := m) (by omega)
            simp only [hck, if_false, Option.map_some, add_none, Nat.mul_one, ← List.map_drop, ← List.map_take, show ¬ c - k = 2 by omega] at h1
            rw [hr0]; exact h1
          have htd : SlB wr w.heap.size (.slice (some ⟨g, o + k + (2 + m), none⟩) 4 (c - k - (2 + m))) t := by
            refine ⟨_, _, _, rfl, by rw [ht0, List.length_take, List.length_drop, List.length_drop, Hbl.out]; omega, by omega, (fun h => by cases h), ?_⟩
            have h1 := ((hrb.cut (k := k) (cap := c) hk hnc).cut (k := 2 + m) (cap := c - k) (by omega) (by omega)).take (k := 4) (by omega)
            simp only [hck, if_false, Option.map_some, add_none, Nat.mul_one, ← List.map_drop, ← List.map_take, show ¬ c - k = 2 + m by omega] at h1
            rw [ht0]; exact h1
          have hhs : SlB wr w.heap.size (.slice (some ⟨g, o + k, none⟩) (2 + m) (c - k)) (be2 m ++ r) := by
            refine ⟨_, _, _, rfl, by simp [be2, hrlen]; omega, by omega, (fun h => by cases h), ?_⟩
            have h1 := (hrb.cut (k := k) (cap := c) hk hnc).take (k := 2 + m) (by omega)
            simp only [hck, if_false, Option.map_some, add_none, Nat.mul_one, ← List.map_drop, ← List.map_take] at h1
            rw [hhd] at h1; exact h1
          have Hone := Lib.hid hone2
          have Hrl := Lib.hid hrlen
          have Hr8 := Lib.hid hr8
          have Ht8 := Lib.hid ht8
          have Hrd := Lib.hid hrd
          have Htd := Lib.hid htd
          have Hhs := Lib.hid hhs
          have hrs := rsum_lt last r hr8
          have Hcrc := Lib.hid (show crc (be4 last ++ (be2 m ++ r)) = rsum last r by unfold rsum; rw [hrlen])
          obtain ⟨Al, nl, cl, rfl, _⟩ := id Hls.out
          clear hr0 ht0 hone hone2 hrlen hr8 ht8 h01 hhd hrd htd hhs
          go_wp2_with fail
          refine (concat2 wr _ _ (be4 last) (be2 m ++ r) Hls.out (Hhs.out.more hzr) (by simp [be4, be2, Hrl.out]; omega)).mono ?_
          rintro e w2 ⟨v2, rfl, S2, hb2⟩
          have HK := Lib.hid (crc_slice w2 v2 _ S2 (by simp [be4, be2, Hrl.out]; omega) (by
            intro x hx
            simp only [List.mem_append] at hx
            rcases hx with hx | hx | hx
            · exact be4_lt _ x hx
            · exact be2_lt _ x hx
            · exact Hr8.out x hx))
          obtain ⟨A2, n2, c2, rfl, _⟩ := id S2
          clear S2
          go_wp2_with fail
          refine HK.out.mono ?_
          rintro e w3 ⟨rfl, hb3⟩
          rw [Hcrc.out]
          clear HK
          go_wp2_with fail
          refine (rbytes4 w3 (rsum last r) hrs).mono ?_
          rintro e w4 ⟨v4, rfl, hown4, hb4⟩
          have hown4 : w4.ownsRow w3.heap.size 5 1 v4 4 ((be4 (rsum last r)).map bv) := hown4
          have hq4 : Below wr.heap.size wr w4 := hb2.trans ((hb3.mono hb2.size).trans (hb4.mono (Nat.le_trans hb2.size hb3.size)))
          have S4 := SlB.own (r := be4 (rsum last r)) hown4
          obtain ⟨_, ⟨_, h0⟩ | ⟨g4, c4, cur4, rfl, _, _, _, _, _, _⟩⟩ := id hown4
          · omega
          have S4 : SlB w4 w4.heap.size (.slice (some ⟨g4, 0, none⟩) 4 c4) (be4 (rsum last r)) := S4
          have hcv1 : ∀ q, (convert 26 9 (.slice (some ⟨g4, 0, none⟩) 4 c4)).run Try.prog (w4.drewN q) = .ok (.string (strB (be4 (rsum last r)))) (w4.drewN q) := fun q => conv_bytes S4 _ fun _ => rfl
          have hcv2 : ∀ q, (convert 26 9 (.slice (some ⟨g, o + k + (2 + m), none⟩) 4 (c - k - (2 + m)))).run Try.prog (w4.drewN q) = .ok (.string (strB t)) (w4.drewN q) := fun q => conv_bytes (Htd.out.below (hq4.mono hzr)) _ fun _ => rfl
          have Hlo4 := Lib.hid hown4
          have hz3 : w.heap.size ≤ w3.heap.size := Nat.le_trans hzr (Nat.le_trans hb2.size hb3.size)
          clear S4 hown4 hb2 hb3 hb4
          have f1 : (0 : Int) ≤ 2 + (m : Int) := by omega
          have f2 : (2 : Int) + (m : Int) ≤ 6 + (m : Int) := by omega
          have f3 : (6 : Int) + (m : Int) ≤ ((c - k : Nat) : Int) := by omega
          have f4 : ((2 : Int) + (m : Int)).toNat = 2 + m := by omega
          have f5 : ((6 : Int) + (m : Int)).toNat = 6 + m := by omega
          have f6 : 6 + m - (2 + m) = 4 := by omega
          have f7 : ¬ c - k = 2 + m := by omega
          have f8 : IntKind.i64.wrap (2 + (m : Int)) = 2 + (m : Int) := by rw [IntKind.wrap_i64]; omega
          have f9 : IntKind.i64.wrap (6 + (m : Int)) = 6 + (m : Int) := by rw [IntKind.wrap_i64]; omega
          obtain ⟨s1, hs1⟩ : ∃ s, s = strB (be4 (rsum last r)) := ⟨_, rfl⟩
          obtain ⟨s2, hs2⟩ : ∃ s, s = strB t := ⟨_, rfl⟩
          rw [← hs1] at hcv1
          rw [← hs2] at hcv2
          by_cases htb : t = be4 (rsum last r)
          · have hsome := Lib.hid (Hone.out.trans (if_pos htb))
            have hss : s1 = s2 := by rw [hs1, hs2, htb]
            subst hss
            clear hs1 hs2 htb
            go_wp2_with fail
            go_quiet (fail)
            have hq5 := below_drewN hq4 nq
            have Hown5 := Lib.hid (own_below hown hq5 (Nat.le_refl _))
            have Hob5 := Lib.hid (Hob.out.below (hq5.mono hzr))
            have Hrd5 := Lib.hid (Hrd.out.below (hq5.mono hzr))
            have HS5 := Lib.hid (own_mono (own_below Hlo4.out (below_drewN (Below.refl w4.heap.size w4) nq) (Nat.le_refl _)) hz3)
            have hb5 := hb.trans (hq5.mono hzr)
            obtain ⟨w5, hw5⟩ : ∃ w5, w5 = w4.drewN nq := ⟨_, rfl⟩
            rw [← hw5] at hq5 Hown5 Hob5 Hrd5 HS5 hb5 ⊢
            have Hnext := Lib.hid (HR.out.next H8.out hsome.out)
            have hk9 : (k : Int) + ((m : Int) + 6) = ((k + (6 + r.length) : Nat) : Int) := by rw [Hrl.out]; omega
            have hz5 := hb5.size
            clear hw5 hcv1 hcv2 hown hrb hr hsome
            go_wp2_with (at_builtin; refine wpList_pushG rfl (.tmp 55) (.tmp 60) 31 rfl w.heap.size 26 j0 (.slice none 0 0) 1 24 Try.underlying31 hj hy0 hy1 hy2 rfl (by omega) _ _ _ rfl Hown5.out [_] rfl rfl (by simp [Value.oneCell']) (by unfold maxLen; omega) (by omega) hz5 ?_; intro v6 w6 hn6 hb6 hg6 _)
            have hg6' : w5.grownBy w6 u4.ownBlock := hg6
            have hl6 := HS5.out.kept hg6' (own_apart HS5.out Hown5.out (by decide))
            have hob6 := (Hob5.out.below hb6).snoc (Hrd5.out.below hb6)
            clear hg6
            go_roundg f
            case measure => omega
            case rel =>
              exact ⟨vs ++ [_], pre ++ [r], k + (6 + r.length), rsum last r, (by first | (rw [← hk9]; done) | (rw [← hk9]; congr 1; omega) | (congr 1; omega) | (rw [Hrl.out]; congr 1; omega) | (rw [Hrl.out]; go_num)), Hnext.out, by rw [List.length_append]; simpa using hn6, hob6, hl6, hb5.trans hb6⟩
          · have hnone := Lib.hid (Hone.out.trans (if_neg htb))
            have hss : ¬ s1 = s2 := fun h => htb (strB_inj Ht8.out (be4_lt _) (by rw [← hs1, ← hs2, h]))
            have hss' : (s1.toList == s2.toList) = false := beq_false_of_ne fun h => hss (Go.WideShapes.bytes_inj (by rw [← ByteArray.toList_eq, ← ByteArray.toList_eq, h]))
            clear hs1 hs2 htb
            go_wp2_with fail
            go_quiet (fail)
            have hq5 := below_drewN hq4 nq
            go_wp2_with fail
            go_ret2
            exact RecPost.of HR.out hnone.out (own_below hown hq5 (Nat.le_refl _)) (Hob.out.below (hq5.mono hzr)) (hb.trans (hq5.mono hzr))
end Go.Proofs.Ytbeemdlgjiclcaa
