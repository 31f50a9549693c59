/- log.scan: what it reads. Conditions: those typed. -/
import Derived.Test.YtaahpjjffggaiaaLogPlain
import Derived.Deep.RegionHeld3
namespace Go.Proofs.Ytaahpjjffggaiaa
open Go.RowKit Go.Gy
set_option linter.unusedVariables false

/-- rows of bytes of the call's own, one a value -/
def OwnB (w : World) (base : Nat) (vs : List Value) (rs : List (List Nat)) : Prop := vs.length = rs.length ∧ ∀ (i : Nat) (v : Value) (r : List Nat), vs[i]? = some v → rs[i]? = some r → w.ownsRow base 5 1 v r.length (r.map bv)
theorem OwnB.nil (w : World) (base : Nat) : OwnB w base [] [] := ⟨rfl, fun i v r h => by simp at h⟩
theorem OwnB.below {w w' : World} {base B : Nat} {vs : List Value} {rs : List (List Nat)} (h : OwnB w base vs rs) (hb : Below B w w') (hB : w.heap.size ≤ B) : OwnB w' base vs rs := ⟨h.1, fun i v r h1 h2 => own_below (h.2 i v r h1 h2) hb hB⟩
theorem OwnB.kept {w w' : World} {base : Nat} {vs : List Value} {rs : List (List Nat)} {v : Value} {n : Nat} {xs : List Value} (h : OwnB w base vs rs) (ho : w.ownsRow base 33 1 v n xs) (hg : w.grownBy w' v.ownBlock) : OwnB w' base vs rs :=
  ⟨h.1, fun i u r h1 h2 => (h.2 i u r h1 h2).kept hg (own_apart (h.2 i u r h1 h2) ho (by decide))⟩
theorem OwnB.snoc {w : World} {base : Nat} {vs : List Value} {rs : List (List Nat)} {v : Value} {r : List Nat} (h : OwnB w base vs rs) (ho : w.ownsRow base 5 1 v r.length (r.map bv)) : OwnB w base (vs ++ [v]) (rs ++ [r]) := by
  refine ⟨by simp [h.1], fun i u q h1 h2 => ?_⟩
  by_cases hi : i < vs.length
  · rw [List.getElem?_append_left hi] at h1
    rw [List.getElem?_append_left (by rw [← h.1]; exact hi)] at h2
    exact h.2 i u q h1 h2
  · rw [List.getElem?_append_right (by omega)] at h1
    rw [List.getElem?_append_right (by rw [← h.1]; omega)] at h2
    have h0 : i - vs.length = 0 := by
      rcases Nat.eq_zero_or_pos (i - vs.length) with h0 | h0
      · exact h0
      · rw [List.getElem?_eq_none (by simp; omega)] at h1; cases h1
    rw [h0] at h1
    rw [← h.1, h0] at h2
    simp at h1 h2
    subst h1 h2
    exact ho
theorem OwnB.reads {w : World} {base : Nat} {vs : List Value} {rs : List (List Nat)} (h : OwnB w base vs rs) : SlsB w w.heap.size vs rs := ⟨h.1, fun i v r h1 h2 => SlB.own (h.2 i v r h1 h2)⟩

theorem info_bytes : (Try.prog.info? 33).map (fun i => (i.zero, i.size, i.bytes)) = some (some (.slice none 0 0), 1, 24) := by kernel_rfl

/-- the relation of scan's loop: what has been read, what is left -/
def ScanRel (b : List Nat) (f : Nat) (pre : List (List Nat)) (k last : Nat) : Prop :=
  k ≤ b.length ∧ last < 4294967296 ∧ b.length - k < f ∧ pre.length * 6 ≤ k ∧
  (scanL b).1 = pre ++ (scanF f (b.drop k) last).1 ∧ (scanL b).2.1 = k + (scanF f (b.drop k) last).2.1 ∧ (scanL b).2.2 = (scanF f (b.drop k) last).2.2
theorem ScanRel.start (b : List Nat) : ScanRel b (b.length + 1) [] 0 0 := ⟨Nat.zero_le _, by omega, by omega, by simp, by simp [scanL], by simp [scanL], by simp [scanL]⟩
theorem ScanRel.done {b : List Nat} {f : Nat} {pre : List (List Nat)} {k last : Nat} (h : ScanRel b (f + 1) pre k last) (hn : oneRec last (b.drop k) = none) : scanL b = (pre, k, last) := by
  obtain ⟨_, _, _, _, h1, h2, h3⟩ := h
  rw [scanF_none hn] at h1 h2 h3
  have e1 : (scanL b).1 = pre := by simpa using h1
  have e2 : (scanL b).2.1 = k := by simpa using h2
  have e3 : (scanL b).2.2 = last := by simpa using h3
  rw [← e1, ← e2, ← e3]
theorem ScanRel.next {b : List Nat} {f : Nat} {pre : List (List Nat)} {k last : Nat} {r : List Nat} (h8 : ∀ x ∈ b, x < 256) (h : ScanRel b (f + 1) pre k last) (hn : oneRec last (b.drop k) = some r) : ScanRel b f (pre ++ [r]) (k + (6 + r.length)) (rsum last r) := by
  obtain ⟨h0, hl, hf, hp, h1, h2, h3⟩ := h
  obtain ⟨q1, q2, q3, q4⟩ := oneRec_some (fun x hx => h8 x (List.mem_of_mem_drop hx)) hn
  rw [scanF_some hn] at h1 h2 h3
  rw [List.length_drop] at q4
  rw [List.drop_drop] at h1 h2 h3
  refine ⟨by omega, rsum_lt last r q2, by omega, by simp; omega, ?_, ?_, h3⟩
  · rw [h1]; simp
  · rw [h2]; dsimp only; omega

/-- what scan leaves -/
def ScanPost (w : World) (b : List Nat) (e : Ending) (w' : World) : Prop := ∃ (v' : Value) (vs : List Value), e = .returned (.tuple #[v', .int .i64 ((scanL b).2.1 : Nat), .int .u32 ((scanL b).2.2 : Nat)]) ∧ w'.ownsRow w.heap.size 33 1 v' vs.length vs ∧ OwnB w' w.heap.size vs (scanL b).1 ∧ Below w.heap.size w w'
theorem ScanPost.of {w w' : World} {b : List Nat} {f : Nat} {pre : List (List Nat)} {k last : Nat} {v : Value} {vs : List Value} (h : ScanRel b (f + 1) pre k last) (hn : oneRec last (b.drop k) = none) (ho : w'.ownsRow w.heap.size 33 1 v vs.length vs) (hob : OwnB w' w.heap.size vs pre) (hb : Below w.heap.size w w') :
    ScanPost w b (.returned (.tuple #[v, .int .i64 (k : Nat), .int .u32 (last : Nat)])) w' := by
  have e := h.done hn
  refine ⟨v, vs, ?_, ho, ?_, hb⟩
  · rw [e]
  · rw [e]; exact hob
theorem oneRec_short {last : Nat} {rest : List Nat} (h : rest.length < 6) : oneRec last rest = none := by unfold oneRec; rw [if_pos h]
theorem oneRec_big {last k x0 x1 m : Nat} {b : List Nat} (hm : m = x0 * 256 + x1) (h0 : b[k]? = some x0) (h1 : b[k + 1]? = some x1) (h : 2000 < m ∨ b.length - k < 6 + m) : oneRec last (b.drop k) = none := by
  have e0 : (b.drop k).getD 0 0 = x0 := by rw [List.getD_eq_getElem?_getD, List.getElem?_drop, Nat.add_zero, h0]; rfl
  have e1 : (b.drop k).getD 1 0 = x1 := by rw [List.getD_eq_getElem?_getD, List.getElem?_drop, h1]; rfl
  unfold oneRec
  rw [e0, e1, ← hm, List.length_drop, if_pos h, ite_self]
theorem oneRec_fits {last k x0 x1 m : Nat} {b : List Nat} (hm : m = x0 * 256 + x1) (h6 : ¬ b.length - k < 6) (h0 : b[k]? = some x0) (h1 : b[k + 1]? = some x1) (h : ¬ (2000 < m ∨ b.length - k < 6 + m)) :
    oneRec last (b.drop k) = if ((b.drop k).drop (2 + m)).take 4 = be4 (rsum last (((b.drop k).drop 2).take m)) then some (((b.drop k).drop 2).take m) else none := by
  have e0 : (b.drop k).getD 0 0 = x0 := by rw [List.getD_eq_getElem?_getD, List.getElem?_drop, Nat.add_zero, h0]; rfl
  have e1 : (b.drop k).getD 1 0 = x1 := by rw [List.getD_eq_getElem?_getD, List.getElem?_drop, h1]; rfl
  unfold oneRec
  rw [e0, e1, ← hm, List.length_drop, if_neg h6, if_neg h]
set_option maxRecDepth 100000 in
theorem i64_byte (x y : Nat) (hx : x < 256) (hy : y < 256) : bits .or .i64 ((x : Int) * 256) (y : Int) = ((x * 256 + y : Nat) : Int) := by
  have h : (x * 256) ||| y = x * 256 + y := nat_join 8 _ _ (by omega) (by omega)
  have hlt : x * 256 + y < 9223372036854775808 := by omega
  have h1 : (BitVec.ofInt 64 ((x : Int) * 256)).toNat = x * 256 := by
    rw [show (x : Int) * 256 = ((x * 256 : Nat) : Int) by omega, BitVec.ofInt_natCast, BitVec.toNat_ofNat]; exact Nat.mod_eq_of_lt (by omega)
  have h2 : (BitVec.ofInt 64 (y : Int)).toNat = y := by rw [BitVec.ofInt_natCast, BitVec.toNat_ofNat]; exact Nat.mod_eq_of_lt (by omega)
  show IntKind.i64.wrap ((BitVec.ofInt 64 ((x : Int) * 256) ||| BitVec.ofInt 64 (y : Int)).toNat : Int) = _
  rw [BitVec.toNat_or, h1, h2, h, IntKind.wrap_i64]
  omega
set_option maxRecDepth 100000 in
set_option maxHeartbeats 4000000 in
theorem scan_any (w : World) (v : Value) (b : List Nat) (hv : SlB w w.heap.size v b) (hn : b.length ≤ 1048576) (h8 : ∀ x ∈ b, x < 256) :
    Calls Try.prog 75 #[v] w (ScanPost w b) := by
  obtain ⟨A, n, c, rfl, hbl, hnc, hA, hr⟩ := hv
  obtain ⟨i0, hi, hz0, hz1, hz2⟩ := info_parts info_byte
  obtain ⟨j0, hj, hy0, hy1, hy2⟩ := info_parts info_bytes
  have Hbl := Lib.hid hbl
  have H8 := Lib.hid h8
  have HA := Lib.hid hA
  rw [hbl] at hn
  have Hst := Lib.hid (hbl ▸ ScanRel.start b)
  clear hbl h8 hA
  go_enter Try.func75, Try.ntmps75
  go_wp2
  go_loopg [2, 3, 4] (n + 1) (fun g v s q wr => ∃ (vs : List Value) (pre : List (List Nat)) (k last : Nat), s = .int .i64 k ∧ q = .int .u32 last ∧ Hid (ScanRel b g pre k last) ∧ wr.ownsRow w.heap.size 33 1 v vs.length vs ∧ OwnB wr w.heap.size vs pre ∧ Below w.heap.size w wr)
  case atStart => exact ⟨[], [], 0, 0, rfl, rfl, Hst.out, World.ownsRow_nil _ _ _ _, OwnB.nil _ _, Below.refl _ _⟩
  case round =>
    obtain ⟨vs, pre, k, last, rfl, rfl, HR, hown, hob, hb⟩ := hrel
    have hk : k ≤ n := by have := HR.out.1; rw [Hbl.out] at this; exact this
    have hlast : last < 4294967296 := HR.out.2.1
    have hzr := hb.size
    have hvs : vs.length * 6 ≤ n := by have h1 := HR.out.2.2.2.1; have h2 := hob.1; omega
    obtain ⟨f, rfl⟩ : ∃ f, gk = f + 1 := ⟨gk - 1, by have h := HR.out.2.2.1; omega⟩
    have hrb := hr.below hb
    by_cases h6 : n - k < 6
    · have hnone := Lib.hid (oneRec_short (last := last) (rest := b.drop k) (by rw [List.length_drop, Hbl.out]; exact h6))
      have h6' : (n : Int) - (k : Int) < 6 := by omega
      go_wp2_with fail
      all_goals
        go_ret3
        exact ScanPost.of HR.out hnone.out hown hob hb
    · have h6' : ¬ (n : Int) - (k : Int) < 6 := by omega
      have hck : ¬ c = k := by omega
      obtain ⟨g, o, x0, rfl, hg, hx0, hc0⟩ := bv_at hrb (show k < n by omega)
      obtain ⟨g', o', x1, he, _, hx1, hc1⟩ := bv_at hrb (show k + 1 < n by omega)
      injection he with he
      injection he with he1 he2
      subst he1 he2
      rw [← Nat.add_assoc] at hc1
      have hx0' := H8.out x0 (List.mem_of_getElem? hx0)
      have hx1' := H8.out x1 (List.mem_of_getElem? hx1)
      have Hx0 := Lib.hid hx0
      have Hx1 := Lib.hid hx1
      obtain ⟨m, hm⟩ : ∃ m, m = x0 * 256 + x1 := ⟨_, rfl⟩
      have hor := i64_byte x0 x1 hx0' hx1'
      rw [← hm] at hor
      have Hm := Lib.hid hm
      clear hm
      clear hx0 hx1
      by_cases hbig : 2000 < m
      · have hnone := Lib.hid (oneRec_big (last := last) Hm.out Hx0.out Hx1.out (.inl hbig))
        have hbig' : (2000 : Int) < (m : Int) := by omega
        go_wp2_with fail
        go_quiet (fail)
        go_wp2_with fail
        go_ret3
        exact ScanPost.of HR.out hnone.out hown hob (below_drewN hb _)
      · have hbig' : ¬ (2000 : Int) < (m : Int) := by omega
        by_cases hfit : n - k < 6 + (m)
        · have hnone := Lib.hid (oneRec_big (last := last) Hm.out Hx0.out Hx1.out (.inr (by rw [Hbl.out]; exact hfit)))
          have hfit' : ((n - k : Nat) : Int) < 6 + ((m : Int)) := by omega
          go_wp2_with fail
          go_quiet (fail)
          go_wp2_with fail
          go_ret3
          exact ScanPost.of HR.out hnone.out hown hob (below_drewN hb _)
        · have hfit' : ¬ ((n - k : Nat) : Int) < 6 + ((m : Int)) := by omega
          have hone := Lib.hid (oneRec_fits (last := last) Hm.out (by rw [Hbl.out]; exact h6) Hx0.out Hx1.out (by rw [Hbl.out]; omega))
          obtain ⟨r, hr0⟩ : ∃ r, r = ((b.drop k).drop 2).take (m) := ⟨_, rfl⟩
          obtain ⟨t, ht0⟩ : ∃ t, t = ((b.drop k).drop (2 + (m))).take 4 := ⟨_, rfl⟩
          have hone2 : oneRec last (b.drop k) = if t = be4 (rsum last r) then some r else none := by rw [hr0, ht0]; exact hone.out
          have hrlen : r.length = m := by rw [hr0, List.length_take, List.length_drop, List.length_drop, Hbl.out]; omega
          have hr8 : ∀ x ∈ r, x < 256 := fun x hx => by rw [hr0] at hx; exact H8.out x (List.mem_of_mem_drop (List.mem_of_mem_drop (List.mem_of_mem_take hx)))
          have htlen : t.length = 4 := by rw [ht0, List.length_take, List.length_drop, List.length_drop, Hbl.out]; omega
          have hrd : SlB wr w.heap.size (.slice (some ⟨g, o + k + 2, none⟩) (m) (c - k - 2)) r := by
            refine ⟨_, _, _, rfl, hrlen, by omega, (fun h => by cases h), ?_⟩
            have h1 := ((hrb.cut (k := k) (cap := c) hk hnc).cut (k := 2) (cap := c - k) (by omega) (by omega)).take (k := m) (by omega)
            simp only [hck, if_false, Option.map_some, add_none, Nat.mul_one, ← List.map_drop, ← List.map_take, show ¬ c - k = 2 by omega] at h1
            rw [hr0]; exact h1
          have htd : SlB wr w.heap.size (.slice (some ⟨g, o + k + (2 + (m)), none⟩) 4 (c - k - (2 + (m)))) t := by
            refine ⟨_, _, _, rfl, htlen, by omega, (fun h => by cases h), ?_⟩
            have h1 := ((hrb.cut (k := k) (cap := c) hk hnc).cut (k := 2 + (m)) (cap := c - k) (by omega) (by omega)).take (k := 4) (by omega)
            simp only [hck, if_false, Option.map_some, add_none, Nat.mul_one, ← List.map_drop, ← List.map_take, show ¬ c - k = 2 + (m) by omega] at h1
            rw [ht0]; exact h1
          have Hone := Lib.hid hone2
          have Hrl := Lib.hid hrlen
          have Hr8 := Lib.hid hr8
          have Htl := Lib.hid htlen
          have hrs := rsum_lt last r hr8
          clear hr0 ht0 hone hone2 hrlen hr8 htlen
          go_wp2_with fail
          go_quiet (fail)
          go_wp2_with fail
          refine (lsum_any _ last _ r hlast (((show SlB (wr.drewN nq) w.heap.size _ r from hrd)).more hzr) (by rw [Hrl.out]; omega) Hr8.out).mono ?_
          rintro e w1 ⟨rfl, hb1⟩
          have hzw1 : wr.heap.size ≤ w1.heap.size := hb1.size
          have hb1' : Below wr.heap.size wr w1 := ⟨hb1.os, hb1.tape, hb1.output, hb1.size, hb1.block⟩
          have htd1 := htd.below (hb1'.mono hzr)
          have hrd1 := hrd.below (hb1'.mono hzr)
          have hown1 := own_below hown hb1' (Nat.le_refl _)
          have hob1 := hob.below hb1' (Nat.le_refl _)
          have hbw1 := hb.trans (hb1'.mono hzr)
          have hzw : w.heap.size ≤ w1.heap.size := Nat.le_trans hzr hzw1
          have f1 : (0 : Int) ≤ 2 + (m : Int) := by omega
          have f2 : (2 : Int) + (m : Int) ≤ 6 + (m : Int) := by omega
          have f3 : (6 : Int) + (m : Int) ≤ ((c - k : Nat) : Int) := by omega
          have f4 : ((2 : Int) + (m : Int)).toNat = 2 + m := by omega
          have f5 : ((6 : Int) + (m : Int)).toNat = 6 + m := by omega
          have f6 : 6 + m - (2 + m) = 4 := by omega
          have f7 : ¬ c - k = 2 + m := by omega
          have f8 : IntKind.i64.wrap (2 + (m : Int)) = 2 + (m : Int) := by rw [IntKind.wrap_i64]; omega
          have f9 : IntKind.i64.wrap (6 + (m : Int)) = 6 + (m : Int) := by rw [IntKind.wrap_i64]; omega
          have Htd1 := Lib.hid htd1
          have Hrd1 := Lib.hid hrd1
          clear htd hrd htd1 hrd1
          by_cases htb : t = be4 (rsum last r)
          · have hd := decide_eq_true htb
            have hsome := Lib.hid (Hone.out.trans (if_pos htb))
            have H4 := Lib.hid (fun w => four_any w (rsum last r) hrs)
            clear htb
            go_wp2_with fail
            go_region_held3 (fun w' => Below w1.heap.size w1 w')
              (first | exact (Below.refl _ _).drew | assumption | exact (Below.refl _ _))
              (first
                | (go_at_call 76; refine (H4.out _).mono ?_; rintro e w2 ⟨v4, rfl, ho4, hb4⟩; have hbk : Below w1.heap.size w1 w2 := (Below.refl _ _).drew.trans hb4)
                | (go_at_call 27; refine (equal_bytes _ _ _ _ t (be4 (rsum last r)) ((Htd1.out.below (hbk.mono hzw)).more (Nat.le_trans hzw hbk.size)) (SlB.own ho4) (by rw [Htl.out]; omega) (by simp [be4])).mono ?_; rintro e w3 ⟨he, q9, rfl⟩; rw [hd] at he; subst he; have hbk9 := below_drewN hbk q9))
            have hbt9 := hbk9.mono hzw
            have Hown9 := Lib.hid (own_below hown1 hbk9 (Nat.le_refl _))
            have Hob9 := Lib.hid (hob1.below hbk9 (Nat.le_refl _))
            have hb9 := hbw1.trans hbt9
            have Hr9 := Lib.hid (Hrd1.out.below hbt9)
            have hz9 : w.heap.size ≤ (w2.drewN q9).heap.size := hb9.size
            obtain ⟨w4, hw4⟩ : ∃ w4, w4 = w2.drewN q9 := ⟨_, rfl⟩
            rw [← hw4] at Hown9 Hob9 hb9 Hr9 hz9 ⊢
            clear hw4 hown1 hob1 hown hob ho4 hbk hbk9 hb4 hbt9
            have Hnext := Lib.hid (HR.out.next H8.out hsome.out)
            obtain ⟨A9, n9, c9, he9, h91, _, h93, h94⟩ := Hr9.out
            injection he9 with e1 e2 e3
            subst e1 e2 e3
            clear Hone Htd1 Hrd1 H4 hb1 hb1' hr hrb HR hbw1 hc0 hc1 h91 hsome hd
            go_wp2_with (first
              | (at_builtin; refine wpList_extend rfl (.tmp 61) (.tmp 62) 33 rfl w4.heap.size 5 i0 (.int .u8 0) 1 1 Try.underlying33 hi hz0 hz1 hz2 rfl (by omega) _ _ _ rfl (World.ownsRow_lit w4 #[] 0 (Nat.le_refl _) (by omega) rfl) _ m (c - k - 2) w.heap.size (r.map bv) rfl (fun h => by cases h) (h94.alloc hz9 _) (bv_one r) (by unfold maxLen; omega) (by omega) (by simp) ?_; intro v1 w5 hn5 hb5; obtain ⟨A1, c1, rfl, _, _, _⟩ := own_rd hn5)
              | (at_builtin; refine wpList_pushG rfl (.tmp 60) (.tmp 64) 77 rfl w.heap.size 33 j0 (.slice none 0 0) 1 24 Try.underlying77 hj hy0 hy1 hy2 rfl (by omega) _ _ _ rfl (own_below Hown9.out (((Below.refl _ _).alloc (Nat.le_refl _) _).trans hb5) (Nat.le_refl _)) [_] rfl rfl (by simp [Value.oneCell']) (by unfold maxLen; omega) (by omega) (Nat.le_trans hz9 (((Below.refl _ _).alloc (Nat.le_refl _) _).trans hb5).size) ?_; intro v6 w6 hn6 hb6 hg6 _))
            have hb5' : Below w4.heap.size w4 w5 := ((Below.refl _ _).alloc (Nat.le_refl _) _).trans hb5
            have hg6' : w5.grownBy w6 u2.ownBlock := hg6
            have hn5' : w5.ownsRow w.heap.size 5 1 (.slice A1 (0 + m) c1) r.length (r.map bv) := by
              have h1 := own_mono hn5 hz9
              rw [Hrl.out]
              simpa using h1
            have hob6 : OwnB w6 w.heap.size (vs ++ [.slice A1 (0 + m) c1]) (pre ++ [r]) := ((Hob9.out.below hb5' (Nat.le_refl _)).snoc hn5').kept (own_below Hown9.out hb5' (Nat.le_refl _)) hg6'
            have hbw6 : Below w.heap.size w w6 := (hb9.trans (hb5'.mono hz9)).trans hb6
            have hk9 : (k : Int) + 6 + (m : Int) = ((k + (6 + r.length) : Nat) : Int) := by rw [Hrl.out]; omega
            clear hg6
            go_roundg f
            case measure => omega
            case rel =>
              exact ⟨vs ++ [.slice A1 (0 + m) c1], pre ++ [r], k + (6 + r.length), rsum last r, by rw [hk9], rfl, Hnext, by rw [List.length_append]; simpa using hn6, hob6, hbw6⟩
          · have hd := decide_eq_false htb
            have hnone := Lib.hid (Hone.out.trans (if_neg htb))
            have H4 := Lib.hid (fun w => four_any w (rsum last r) hrs)
            clear htb
            go_wp2_with fail
            go_region_held3 (fun w' => Below w1.heap.size w1 w')
              (first | exact (Below.refl _ _).drew | assumption | exact (Below.refl _ _))
              (first
                | (go_at_call 76; refine (H4.out _).mono ?_; rintro e w2 ⟨v4, rfl, ho4, hb4⟩; have hbk : Below w1.heap.size w1 w2 := (Below.refl _ _).drew.trans hb4)
                | (go_at_call 27; refine (equal_bytes _ _ _ _ t (be4 (rsum last r)) ((Htd1.out.below (hbk.mono hzw)).more (Nat.le_trans hzw hbk.size)) (SlB.own ho4) (by rw [Htl.out]; omega) (by simp [be4])).mono ?_; rintro e w3 ⟨he, q9, rfl⟩; rw [hd] at he; subst he; have hbk9 := below_drewN hbk q9))
            all_goals
              go_wp2_with fail
              go_ret3
              exact ScanPost.of HR.out hnone.out (own_below hown1 (by assumption) (Nat.le_refl _)) (hob1.below (by assumption) (Nat.le_refl _)) (hbw1.trans (Below.mono (by assumption) hzw))
end Go.Proofs.Ytaahpjjffggaiaa
