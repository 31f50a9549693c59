/- FallKeeps's walk: it returns true, for arguments of at most 1048576. Conditions: those typed. -/
import Derived.Test.YtaahpjjffggaiaaHello
import Derived.Test.YtaahpjjffggaiaaEvBytesG
import Derived.Test.YtaahpjjffggaiaaLogOpen
namespace Go.Proofs.Ytaahpjjffggaiaa.fallKeeps
open Go.RowKit Go.Gy
set_option linter.unusedVariables false
/-- a slice of slices of bytes -/
def RowsPost (w : World) (rs : List (List Nat)) (e : Ending) (w' : World) : Prop := ∃ v' vs, e = .returned v' ∧ w'.ownsRow w.heap.size 33 1 v' rs.length vs ∧ SlsB w' w.heap.size vs rs ∧ Below w.heap.size w w'
theorem RowsPost.of {w w' : World} {rs : List (List Nat)} {v' : Value} {n : Nat} {vs : List Value} (hn : rs.length = n) (ho : w'.ownsRow w.heap.size 33 1 v' n vs) (hs : SlsB w' w.heap.size vs rs) (hb : Below w.heap.size w w') : RowsPost w rs (.returned v') w' := ⟨v', vs, rfl, by rw [hn]; exact ho, hs, hb⟩
set_option maxRecDepth 100000 in
set_option maxHeartbeats 1000000 in
theorem clone_rows (w : World) (v : Value) (rs : List (List Nat)) (hx : SlSs w w.heap.size v rs) (hb : rs.length ≤ 1048576) :
    Calls Try.prog 43 #[v] w (RowsPost w rs) := by
  obtain ⟨i0, hi, hz0, hz1, hz2⟩ := info_parts info_bytes
  obtain ⟨A, n, c, vs, rfl, hxl, hnc, hA, hr, hs⟩ := hx
  rw [hxl] at hb
  have hvl : vs.length = n := by rw [hs.1, hxl]
  have Hxl := Lib.hid hxl
  clear hxl
  have hone := hs.one
  have Hs := Lib.hid hs
  clear hs
  have he := fun w => Lib.run_eql_slice_nil (P := Try.prog) w 77 33 A n c 0 0 Try.underlying77
  cases A with
  | none =>
    have hc := hA rfl
    subst hc
    obtain rfl : n = 0 := by omega
    have hx0 : vs = [] := List.eq_nil_of_length_eq_zero hvl
    subst hx0
    clear hr hA hnc hone hvl
    go_enter Try.func43, Try.ntmps43
    go_wp2
    go_ret
    exact RowsPost.of Hxl.out (World.ownsRow_nil _ _ _ _) Hs.out (Below.refl _ _)
  | some ad =>
    clear hA
    go_enter Try.func43, Try.ntmps43
    go_wp2_with (at_builtin; refine wpList_extend rfl (.tmp 5) (.tmp 6) 77 rfl w.heap.size 33 i0 (.slice none 0 0) 1 24 Try.underlying77 hi hz0 hz1 hz2 rfl (by omega) _ _ _ rfl (World.ownsRow_lit w #[] 0 (Nat.le_refl _) (by omega) rfl) (some ad) n c w.heap.size vs rfl (fun h => by cases h) (hr.alloc (Nat.le_refl _) _) hone (by unfold maxLen; omega) (by omega) (by simp) ?_; intro v1 w1 hown1 hb1)
    obtain ⟨A1, c1, rfl, _, _, _⟩ := own_rd hown1
    go_wp2
    go_ret
    have hbw := ((Below.refl w.heap.size w).alloc (Nat.le_refl _) (.cells #[] 33)).trans hb1
    exact RowsPost.of (Hxl.out.trans (Nat.zero_add _).symm) hown1 (Hs.out.below hbw) hbw
theorem addB_book {b r : List Nat} (h8 : ∀ x ∈ b, x < 256) (he : addE b r = 0) : addB b r = bookF 0 ((scanL b).1 ++ [r]) := by
  obtain ⟨h1, h2, h3, h4, h5⟩ := scanL_spec h8
  unfold addB
  rw [if_pos he, h1, h4, bookF_append]
  simp [bookF, enc1]
theorem same_zero : sameF zeroMem zeroMem = true := by decide
theorem nilB (w : World) (B : Nat) : SlB w B (.slice none 0 0) [] := ⟨none, 0, 0, rfl, rfl, Nat.le_refl _, fun _ => rfl, ⟨rfl, fun h => by omega⟩⟩
theorem keep_bad {m : GMem} {b : List Nat} {e : GEv} (h : (keepF m b e).1 ≠ 0) : keepF m b e = ((keepF m b e).1, zeroMem, []) := by
  unfold keepF at h ⊢
  split
  · rfl
  · rename_i h1
    rw [if_neg h1] at h
    split
    · rfl
    · rename_i h2
      rw [if_neg h2] at h
      exact absurd rfl h
theorem keep_good {m : GMem} {b : List Nat} {e : GEv} (h : (keepF m b e).1 = 0) : (doF m e).1 = 0 ∧ addE b (evB e) = 0 ∧ keepF m b e = (0, (doF m e).2, addB b (evB e)) := by
  unfold keepF at h ⊢
  split
  · rename_i h1
    rw [if_pos h1] at h
    exact absurd h h1
  · rename_i h1
    rw [if_neg h1] at h
    split
    · rename_i h2
      rw [if_pos h2] at h
      exact absurd h h2
    · rename_i h2
      exact ⟨by simpa using h1, by simpa using h2, rfl⟩
theorem keep_code {m : GMem} {b : List Nat} {e : GEv} (he : (doF m e).1 = 0 → (evB e).length ≤ 805) : (keepF m b e).1 = if (doF m e).1 ≠ 0 then (doF m e).1 else if 100000 < (scanL b).2.1 + 6 + (evB e).length then 6 else 0 := by
  unfold keepF
  split
  · rfl
  · rename_i h1
    have := he (by simpa using h1)
    unfold addE
    rw [if_neg (show ¬ 2000 < (evB e).length by omega)]
    by_cases h2 : 100000 < (scanL b).2.1 + 6 + (evB e).length
    · rw [if_pos h2, if_pos (by omega)]
    · rw [if_neg h2, if_neg (by simp)]
theorem do_err {m : GMem} {e : GEv} (h : checkF e ≠ 0) : (doF m e).1 = checkF e := by
  unfold doF
  rw [if_pos h]
section
variable {P : Program} {wr : World} {ops : Array Oper} {rest : List Oper} {o : Oper} {a : Act} {Q : Exit → Act → World → Prop}
theorem wpList_pushW (hw : Region.wanted o (yielded ops a.tmps) = true) (s x : Operand) (t : TypeId)
    (ho : o.op = .call { callee := .builtin .append, args := #[s, x], argTypes := #[t, t] })
    (base : Nat) (e : TypeId) (i : TypeInfo) (z : Value) (size bytes : Nat) (ht : P.underlying t = some (.slice e)) (hi : P.info? e = some i) (hz : i.zero = some z)
    (hsize : i.size = size) (hby : i.bytes = bytes) (hzs : z.cells.size = size) (hsz : 0 < size)
    (v : Value) (n : Nat) (xs : List Value) (hs : a.eval s = v) (hown : wr.ownsRow base e size v n xs)
    (cs : List Value) (hx : a.eval x = .slice (some ⟨wr.heap.size, 0, none⟩) 1 1) (hl : cs.length = size) (h1 : ∀ u ∈ cs, u.oneCell' = true)
    (h63 : n + 1 ≤ maxLen) (hbytes : (n + 1) * bytes ≤ 140737488355328) (hbase : base ≤ wr.heap.size)
    (h : ∀ v' w', w'.ownsRow base e size v' (n + 1) (xs ++ cs) → Below base wr w' → (∃ g c, v' = .slice (some ⟨g, 0, none⟩) (n + 1) c ∧ base ≤ g ∧ g < w'.heap.size) → wpList P ops Q rest (a.put o.dst v') w') :
    wpList P ops Q (o :: rest) a (wr.alloc (.cells cs.toArray e)) := by
  refine wpList_step fun _ hK => ?_
  rw [if_pos hw]
  refine wp_append_own _ s x t ho base e i z size bytes ht hi hz hsize hby hzs hsz v n xs hs (hown.alloc _) ⟨wr.heap.size, 0, none⟩ 1 1 cs hx (by omega) ?_ h1 h63 hbytes (by simp; omega) ?_
  · intro j u hu
    rw [add_none, cell_of_row _ _ (0 + j) cs.toArray e (0, 0) (heap_alloc_new _ _)]
    simpa using hu
  · intro v' w' h2 h3 _
    refine hK _ _ (h v' w' h2 ?_ ?_)
    · exact ((Below.refl base wr).alloc hbase _).grown h3 (by simp; omega) fun k hk => (hown.lt k hk).1
    · obtain ⟨g, c, hv, _, hg, hgl⟩ := own_shape h2 (by omega)
      exact ⟨g, c, hv, hg, hgl⟩
end
theorem book_six : ∀ (last : Nat) (rs : List (List Nat)), 6 * rs.length ≤ (bookF last rs).length
  | _, [] => by simp [bookF]
  | last, r :: rs => by
    have h2 := book_six (rsum last r) rs
    simp only [bookF, List.length_append, enc1_len, List.length_cons]
    omega
def KpCut1 (w7 : World) (r : Nat × GMem) (q : Value) (wx : World) : Prop := q = .int .i64 ((r.1 : Nat) : Int) ∧ Below w7.heap.size w7 wx ∧ ∃ y A n c A' n' c', (r.1 = 0 → y = r.2 ∧ n ≤ 1000 ∧ n' ≤ 1000) ∧ Blk wx w7.heap.size 60 #[.int .i64 y.goal, .int .i64 y.ticks, .int .i64 y.falls, .slice A n c, .slice A' n' c'] ∧ SlC wx wx.heap.size (.slice A n c) y.asked ∧ SlC wx wx.heap.size (.slice A' n' c') y.has
theorem slc_lst {w w7 w8 wx : World} {v0 v : Value} {l0 l : List Cell} (h : LstOk w7 w8 v0 l0 v l) (h0 : SlC w w.heap.size v0 l0) (hb : Below w.heap.size w wx) (hs : ∀ n, w8.ownsRow (w7.heap.size + 2) 24 2 v n (l.flatMap encC) → wx.ownsRow (w7.heap.size + 2) 24 2 v n (l.flatMap encC)) : SlC wx wx.heap.size v l := by
  rcases h with ⟨rfl, rfl⟩ | ⟨n, h⟩
  · exact (h0.below hb).more hb.size
  · have h := hs n h
    obtain ⟨A, c, rfl, _⟩ := own_rd h
    exact SlC.own h
set_option maxRecDepth 100000 in
set_option maxHeartbeats 8000000 in
theorem walk (v0 v1 v2 : Value) (arm seq clock : Int) (w : World) {b0 b1 b2 : Nat} (f0 : MemArg w v0 b0) (f1 : EvArg w v1 b1) (f2 : BytesArg w v2 b2) (wf3 : wfI .i64 arm) (wf4 : wfI .i64 seq) (wf5 : wfI .u32 clock) (hk : b0 ≤ 1048576 ∧ b1 ≤ 1048576 ∧ b2 ≤ 1048576) :
    Calls Try.prog 9 #[v0, v1, v2, .int .i64 arm, .int .i64 seq, .int .u32 clock] w fun e w' => e = .returned (.bool true) ∧ Below w.heap.size w w' := by
  obtain ⟨m, MA, Mn, Mc, HA, Hn, Hc, rfl, hs1, hs2, hM1, hM2, _⟩ := f0
  obtain ⟨ev, D, p, d, rfl, he, hpn, hwf, hk1, hk2, _⟩ := f1
  obtain ⟨b, hv, h8, hb, _⟩ := f2
  have hbl : b.length ≤ 1048576 := by omega
  have hpn' : p ≤ 1048576 := by omega
  have HKeep := Lib.hid (show ∀ w', Below w.heap.size w w' → Calls Try.prog 41 #[memV m MA Mn Mc HA Hn Hc, v2, evV ev D p d] w' (KeepPost (keepF m b ev) w') from fun w' hb => keep_any w' m ev MA Mn Mc HA Hn Hc D p d v2 b ((hs1.below hb).more hb.size) ((hs2.below hb).more hb.size) ((he.below hb).more hb.size) ((hv.below hb).more hb.size) hbl h8)
  have HRec := Lib.hid (show ∀ w', Below w.heap.size w w' → Calls Try.prog 42 #[v2] w' (RecPost w' b) from fun w' hb => records_any w' v2 b ((hv.below hb).more hb.size) hbl h8)
  have HFault := Lib.hid (show ∀ w', Below w.heap.size w w' → Calls Try.prog 23 #[.int .i64 ev.kind, .int .i64 ev.n, .slice D p d] w' (IntPost (checkF ev) w') from fun w' hb => eventfault_any w' ev.kind ev.n ev.cells D p d ((he.below hb).more hb.size))
  have HBytes := Lib.hid (show ∀ w', Below w.heap.size w w' → Calls Try.prog 28 #[.int .i64 ev.kind, .int .i64 ev.n, .slice D p d] w' (fun e w'' => ∃ (r : List Nat) (v' : Value), e = .returned v' ∧ w''.ownsRow w'.heap.size 5 1 v' (5 + 2 * p) (r.map bv) ∧ Below w'.heap.size w' w'' ∧ (checkF ev = 0 → r = evB ev)) from fun w' hb => by
    by_cases hc : checkF ev = 0
    · refine (eventbytes_any w' ev.kind ev.n ev.cells D p d ((he.below hb).more hb.size) hc).mono ?_
      rintro e w'' ⟨v', rfl, h1, h2⟩
      have : (evB ev).length = 5 + 2 * p := by rw [evB_len, he.parts.1]
      exact ⟨evB ev, v', rfl, by rw [← this]; exact h1, h2, fun _ => rfl⟩
    · refine (eventbytes_gen w' ev.kind ev.n ev.cells D p d ((he.below hb).more hb.size) hpn hk1 hk2 hwf).mono ?_
      rintro e w'' ⟨r, v', rfl, h1, h2⟩
      exact ⟨r, v', rfl, h1, h2, fun h => absurd h hc⟩)
  have HHello := Lib.hid (show ∀ w', Below w.heap.size w w' → Calls Try.prog 40 #[memV m MA Mn Mc HA Hn Hc, .int .i64 arm, .int .i64 seq, .int .u32 clock] w' (HelloPost m.asked arm seq clock w') from fun w' hb => hello_any w' m arm seq clock MA Mn Mc HA Hn Hc ((hs1.below hb).more hb.size) hM1)
  have HCells := Lib.hid (show ∀ w', Below w.heap.size w w' → Calls Try.prog 45 #[.slice MA Mn Mc] w' (fun e w'' => e = .returned (.int .i64 ((cellsF m.asked : Nat) : Int)) ∧ Below w'.heap.size w' w'') from fun w' hb => cellsfault_any w' MA Mn Mc m.asked hs1.parts.1 ((hs1.below hb).more hb.size).parts.2.2.2)
  have HHap := Lib.hid (show checkF ev = 0 → ∀ w', Below w.heap.size w w' → Calls Try.prog 31 #[memR m MA Mn Mc HA Hn Hc, .int .i64 ev.kind, .int .i64 ev.n, .slice D p d] w' (HapOwn (hapF m ev) w' (.slice MA Mn Mc) m.asked (.slice HA Hn Hc) m.has) from fun h0 w' hb => happens_own w' m ev.kind ev.n ev.cells MA Mn Mc HA Hn Hc D p d ((hs1.below hb).more hb.size) ((hs2.below hb).more hb.size) ((he.below hb).more hb.size) h0)
  have Hs1 := Lib.hid hs1
  have Hs2 := Lib.hid hs2
  have Hp := Lib.hid (show p = ev.cells.length from he.parts.1.symm)
  have H8 := Lib.hid h8
  obtain ⟨VA, Vn, Vc, rfl, _⟩ := id hv
  have hb2 : Below w.heap.size w ((w.alloc (.cells (memRow m MA Mn Mc HA Hn Hc) 46)).alloc (.cells #[.int .i64 ev.kind, .int .i64 ev.n, .slice D p d] 48)) := ((Below.refl _ _).alloc (Nat.le_refl _) _).alloc (by simp) _
  have hBM := (Blk.new w 46 (memRow m MA Mn Mc HA Hn Hc)).alloc (.cells #[.int .i64 ev.kind, .int .i64 ev.n, .slice D p d] 48)
  have hBE := Blk.new (w.alloc (.cells (memRow m MA Mn Mc HA Hn Hc) 46)) 48 #[.int .i64 ev.kind, .int .i64 ev.n, .slice D p d]
  rw [World.size_alloc] at hBE
  have H0 := Lib.hid (fun w' => hello_any w' zeroMem 1 0 0 none 0 0 none 0 0 (SlC.nil' _ _) (by omega))
  have HB2 := Lib.hid hb2
  have HBM := Lib.hid hBM
  have HBE := Lib.hid hBE
  clear hs1 hs2 he hv h8 hb hb2 hBM hBE hwf hk1 hk2 hk
  obtain ⟨g, t, l, l', f⟩ := m
  obtain ⟨k, v, ec⟩ := ev
  go_enter Try.func9, Try.ntmps9
  go_wp2_with fail
  refine (H0.out _).mono ?_
  rintro e w3 ⟨v3, L3, rfl, _, hLL, hb3⟩
  obtain ⟨hL3, A3, N3, C3, rfl, ho3, _⟩ := hLL (by decide)
  have hn3 : N3 = 1 := by
    obtain ⟨A5, c5, e5, _⟩ := own_rd ho3
    injection e5 with _ e6 _
    rw [e6, ← List.length_map (f := (·.m)), hL3]
    rfl
  subst hn3
  have hc0 : helloC [] 1 0 0 = 0 := by decide
  rw [hc0]
  have hz3 := hb3.size
  simp only [World.size_alloc] at hz3
  have hB3 := HB2.out.trans (hb3.mono (by simp; omega))
  have hBM3 := HBM.out.below hb3 (by simp; omega)
  have hBE3 := HBE.out.below hb3 (by simp)
  have HK3 := Lib.hid (HKeep.out w3 hB3)
  have HB3 := Lib.hid hB3
  have HBM3 := Lib.hid hBM3
  have HBE3 := Lib.hid hBE3
  have m0 := hBM3.cell 0 _ rfl
  have m1 := hBM3.cell 1 _ rfl
  have m2 := hBM3.cell 2 _ rfl
  have m3 := hBM3.cell 3 _ rfl
  have m4 := hBM3.cell 4 _ rfl
  have e0 := hBE3.cell 0 _ rfl
  have e1 := hBE3.cell 1 _ rfl
  have e2 := hBE3.cell 2 _ rfl
  clear hb3 hB3 hBM3 hBE3 HB2 HBM HBE hLL hL3 ho3 H0 HKeep hc0
  go_wp2_with fail
  refine HK3.out.mono ?_
  rintro e w4 ⟨v4, vb4, nb4, rfl, ⟨A5, n5, c5, A6, n6, c6, rfl, ho5, ho6, h5, h6⟩, hob, hb4⟩
  obtain ⟨Ab, cb, rfl, _, _, _⟩ := own_rd hob
  obtain ⟨KC, KM, KB, hKp⟩ : ∃ KC KM KB, keepF ⟨g, t, l, l', f⟩ b ⟨k, v, ec⟩ = (KC, KM, KB) := ⟨_, _, _, rfl⟩
  rw [hKp] at ho5 ho6 hob ⊢
  simp only at ho5 ho6 hob ⊢
  have HKp := Lib.hid hKp
  obtain ⟨xg, xt, xa, xh, xf⟩ := KM
  have hz4 := hb4.size
  have HB4 := Lib.hid (HB3.out.trans (hb4.mono HB3.out.size))
  have HBM4 := Lib.hid (HBM3.out.below hb4 HBM3.out.lt)
  have HBE4 := Lib.hid (HBE3.out.below hb4 HBE3.out.lt)
  have Ho5 := Lib.hid ho5
  have Ho6 := Lib.hid ho6
  have Hob := Lib.hid hob
  clear hKp ho5 ho6 hob hb4 HK3 m0 m1 m2 m3 m4 e0 e1 e2 HB3 HBM3 HBE3
  go_upto_region 5 with (fail)
  have hN := Blk.new w4 46 (memRow ⟨xg, xt, xa, xh, xf⟩ A5 n5 c5 A6 n6 c6)
  have hb45 : Below w4.heap.size w4 (w4.alloc (.cells (memRow ⟨xg, xt, xa, xh, xf⟩ A5 n5 c5 A6 n6 c6) 46)) := (Below.refl _ _).alloc (Nat.le_refl _) _
  change Code.wp _ _ _ _ (w4.alloc (.cells (memRow ⟨xg, xt, xa, xh, xf⟩ A5 n5 c5 A6 n6 c6) 46))
  generalize w4.alloc (.cells (memRow ⟨xg, xt, xa, xh, xf⟩ A5 n5 c5 A6 n6 c6) 46) = w5 at hN hb45 ⊢
  have hz5 := hN.lt
  have HBX5 := Lib.hid hN
  have HB5 := Lib.hid (HB4.out.trans (hb45.mono HB4.out.size))
  have HBM5 := Lib.hid (HBM4.out.below hb45 HBM4.out.lt)
  have HBE5 := Lib.hid (HBE4.out.below hb45 HBE4.out.lt)
  have Ho5 := Lib.hid (own_mono (own_below Ho5.out hb45 (Nat.le_refl _)) (Nat.zero_le _))
  have Ho6 := Lib.hid (own_mono (own_below Ho6.out hb45 (Nat.le_refl _)) (Nat.zero_le _))
  have Hob := Lib.hid (own_mono (own_below Hob.out hb45 (Nat.le_refl _)) (Nat.zero_le _))
  have hF := HFault.out w5 HB5.out
  obtain ⟨X, hX⟩ : ∃ X, X = checkF ⟨k, v, ec⟩ := ⟨_, rfl⟩
  rw [← hX] at hF
  have HF := Lib.hid hF
  have HX := Lib.hid hX
  have e0 := HBE5.out.cell 0 _ rfl
  have e1 := HBE5.out.cell 1 _ rfl
  have e2 := HBE5.out.cell 2 _ rfl
  clear hN hb45 hF hX HFault HB4 HBM4 HBE4
  go_wp2_with fail
  refine HF.out.mono ?_
  rintro e w6 ⟨rfl, hb6⟩
  have hz6 := hb6.size
  have HBX6 := Lib.hid (HBX5.out.below hb6 HBX5.out.lt)
  have HB6 := Lib.hid (HB5.out.trans (hb6.mono HB5.out.size))
  have HBM6 := Lib.hid (HBM5.out.below hb6 HBM5.out.lt)
  have HBE6 := Lib.hid (HBE5.out.below hb6 HBE5.out.lt)
  have Ho5 := Lib.hid (own_below Ho5.out hb6 (Nat.le_refl _))
  have Ho6 := Lib.hid (own_below Ho6.out hb6 (Nat.le_refl _))
  have Hob := Lib.hid (own_below Hob.out hb6 (Nat.le_refl _))
  have m0 := HBM6.out.cell 0 _ rfl
  have m1 := HBM6.out.cell 1 _ rfl
  have m2 := HBM6.out.cell 2 _ rfl
  have m3 := HBM6.out.cell 3 _ rfl
  have m4 := HBM6.out.cell 4 _ rfl
  clear hb6 HF e0 e1 e2 HB5 HBM5 HBE5 HBX5
  go_upto_if 67 with (fail)
  have hN := Blk.new w6 60 #[.int .i64 g, .int .i64 t, .int .i64 f, .slice MA Mn Mc, .slice HA Hn Hc]
  have hb67 : Below w6.heap.size w6 (w6.alloc (.cells #[.int .i64 g, .int .i64 t, .int .i64 f, .slice MA Mn Mc, .slice HA Hn Hc] 60)) := (Below.refl _ _).alloc (Nat.le_refl _) _
  generalize w6.alloc (.cells #[.int .i64 g, .int .i64 t, .int .i64 f, .slice MA Mn Mc, .slice HA Hn Hc] 60) = w7 at hN hb67 ⊢
  have hz7 := hN.lt
  have HB7 := Lib.hid (HB6.out.trans (hb67.mono HB6.out.size))
  have HN7 := Lib.hid hN
  have Hb67 := Lib.hid hb67
  clear hN hb67 m0 m1 m2 m3 m4
  have HD := Lib.hid (show ∀ X', X' = X → X' ≠ 0 → doF ⟨g, t, l, l', f⟩ ⟨k, v, ec⟩ = (X', zeroMem) from fun X' h1 h2 => by
    subst h1
    have h3 := HX.out
    unfold doF
    rw [← h3, if_pos h2])
  have HD0 := Lib.hid (show X = 0 → doF ⟨g, t, l, l', f⟩ ⟨k, v, ec⟩ = hapF ⟨g, t, l, l', f⟩ ⟨k, v, ec⟩ from fun h => doF_hap (by rw [← HX.out]; exact h))
  obtain ⟨Z, ZM, hZ⟩ : ∃ Z ZM, doF ⟨g, t, l, l', f⟩ ⟨k, v, ec⟩ = (Z, ZM) := ⟨_, _, rfl⟩
  have HZ := Lib.hid hZ
  clear hZ
  go_cut [18] (fun q wx => KpCut1 w6 (Z, ZM) q wx)
  case first =>
    by_cases hX0 : X = 0
    · have HH := Lib.hid (HHap.out (by rw [← HX.out]; exact hX0) w7 HB7.out)
      have hE7 := HBE6.out.below Hb67.out HBE6.out.lt
      have n0 := HN7.out.cell 0 _ rfl
      have n1 := HN7.out.cell 1 _ rfl
      have n2 := HN7.out.cell 2 _ rfl
      have n3 := HN7.out.cell 3 _ rfl
      have n4 := HN7.out.cell 4 _ rfl
      have e0 := hE7.cell 0 _ rfl
      have e1 := hE7.cell 1 _ rfl
      have e2 := hE7.cell 2 _ rfl
      have hXb : ((X : Int) == 0) = true := by simp; omega
      have HDH := Lib.hid (HD0.out hX0)
      rw [← HDH.out, HZ.out] at HH
      obtain ⟨yg, yt, ya, yh, yf⟩ := ZM
      clear hX0 hE7
      go_wp2_with fail
      refine HH.out.mono ?_
      rintro e w8 ⟨A7, n7, c7, A8, n8, c8, rfl, hL7, hL8, h7, h8, hb8⟩
      have hz8 := hb8.size
      have hN8 := HN7.out.below hb8 hz7
      have hb68 := Hb67.out.trans (hb8.mono (by omega))
      clear n0 n1 n2 n3 n4 e0 e1 e2 HH
      have n0 := hN8.cell 0 _ rfl
      have n1 := hN8.cell 1 _ rfl
      have n2 := hN8.cell 2 _ rfl
      have n3 := hN8.cell 3 _ rfl
      have n4 := hN8.cell 4 _ rfl
      have f0 := hN8.free 0
      have f1 := hN8.free 1
      have f2 := hN8.free 2
      have f3 := hN8.free 3
      have f4 := hN8.free 4
      have HL7 := Lib.hid hL7
      have HL8 := Lib.hid hL8
      have HN8 := Lib.hid hN8
      have Hb68 := Lib.hid hb68
      clear hL7 hL8 hN8 hb68 hb8
      go_wp2_with fail
      go_meet
      have hb6x := below_set5 (g := w6.heap.size) Hb68.out (Nat.le_refl _) (.int .i64 yg) (.int .i64 yt) (.int .i64 yf) (.slice A7 n7 c7) (.slice A8 n8 c8)
      have hbx := HB6.out.trans (hb6x.mono HB6.out.size)
      exact ⟨rfl, hb6x, _, A7, n7, c7, A8, n8, c8, fun _ => ⟨rfl, h7, h8⟩, blk5 HN8.out _ _ _ _ _, slc_lst HL7.out Hs1.out hbx (fun n h => own_set5 (g := w6.heap.size) h (by omega) _ _ _ _ _), slc_lst HL8.out Hs2.out hbx (fun n h => own_set5 (g := w6.heap.size) h (by omega) _ _ _ _ _)⟩
    · have hXb : ((X : Int) == 0) = false := by simp; omega
      have h2 := HD.out X rfl hX0
      rw [HZ.out] at h2
      injection h2 with h2 h3
      subst h2
      clear h3
      go_wp2_with fail
      go_meet
      exact ⟨rfl, Hb67.out, ⟨g, t, l, l', f⟩, MA, Mn, Mc, HA, Hn, Hc, fun h => absurd h hX0, HN7.out, (Hs1.out.below HB7.out).more HB7.out.size, (Hs2.out.below HB7.out).more HB7.out.size⟩
  case rest =>
    obtain ⟨rfl, hbx, y, A7, n7, c7, A8, n8, c8, hy, hNx, hsx1, hsx2⟩ := hcut
    have hzx := hbx.size
    have HBx := Lib.hid (HB6.out.trans (hbx.mono HB6.out.size))
    have HBMx := Lib.hid (HBM6.out.below hbx HBM6.out.lt)
    have HBEx := Lib.hid (HBE6.out.below hbx HBE6.out.lt)
    have HBXx := Lib.hid (HBX6.out.below hbx HBX6.out.lt)
    have Ho5 := Lib.hid (own_below Ho5.out hbx (Nat.le_refl _))
    have Ho6 := Lib.hid (own_below Ho6.out hbx (Nat.le_refl _))
    have Hob := Lib.hid (own_below Hob.out hbx (Nat.le_refl _))
    have HNx := Lib.hid hNx
    have Hsx1 := Lib.hid hsx1
    have Hsx2 := Lib.hid hsx2
    have Hy := Lib.hid hy
    have HR := Lib.hid (HRec.out wc HBx.out)
    have HKC := Lib.hid (show KC = if Z ≠ 0 then Z else if 100000 < (scanL b).2.1 + 6 + (5 + 2 * p) then 6 else 0 from by
      have h := keep_code (m := ⟨g, t, l, l', f⟩) (b := b) (e := ⟨k, v, ec⟩) (fun h => by
        have h1 : checkF ⟨k, v, ec⟩ = 0 := by
          rw [HZ.out] at h
          simp only at h
          rcases Nat.eq_zero_or_pos X with h0 | h0
          · rw [← HX.out]; exact h0
          · have h2 := HD.out X rfl (by omega)
            rw [HZ.out] at h2
            injection h2 with h2
            omega
        rw [evB_len]
        have := (cellsF_zero (checkF_zero h1).2.2.2.2.2.2).1
        omega)
      rw [HKp.out, HZ.out, evB_len, ← Hp.out] at h
      exact h)
    clear hbx hNx hsx1 hsx2 hy HN7 Hb67 HB7 HBM6 HBE6 HBX6 HB6 HRec
    go_wp2_with fail
    refine HR.out.mono ?_
    rintro e w9 ⟨v9, vs, rfl, ho9, hs9, hb9⟩
    obtain ⟨A9, c9, rfl, _, _, _⟩ := own_rd ho9
    have hz9 := hb9.size
    have HB9 := Lib.hid (HBx.out.trans (hb9.mono HBx.out.size))
    have HE9 := HBEx.out.below hb9 HBEx.out.lt
    have e0 := HE9.cell 0 _ rfl
    have e1 := HE9.cell 1 _ rfl
    have e2 := HE9.cell 2 _ rfl
    have HEB := Lib.hid (HBytes.out w9 HB9.out)
    have Hb9 := Lib.hid hb9
    have Ho9 := Lib.hid ho9
    have Hs9 := Lib.hid hs9
    obtain ⟨s, hs⟩ : ∃ s, s = (scanL b).2.1 := ⟨_, rfl⟩
    rw [← hs] at HKC ⊢
    have Hs := Lib.hid (show s ≤ 1048576 by rw [hs]; exact Nat.le_trans (scanL_spec H8.out).2.1 hbl)
    clear HE9 hb9 ho9 hs9 HR HBytes hs
    go_wp2_with fail
    refine HEB.out.mono ?_
    rintro e w10 ⟨r, v10, rfl, ho10, hb10, hr⟩
    obtain ⟨A10, c10, rfl, _, _, _⟩ := own_rd ho10
    have hz10 := hb10.size
    have HB10 := Lib.hid (HB9.out.trans (hb10.mono HB9.out.size))
    have Hb10 := Lib.hid (Hb9.out.trans (hb10.mono hz9))
    have Ho10 := Lib.hid ho10
    have Ho9 := Lib.hid (own_below Ho9.out hb10 (Nat.le_refl _))
    have Hs9 := Lib.hid ((Hs9.out.below hb10).more hz10)
    have HRr := Lib.hid hr
    have hs1' := Hs.out
    clear ho10 hb10 hr HEB e0 e1 e2
    obtain ⟨G, hG⟩ : ∃ G : Bool, G = decide (Z = 0 ∧ 100000 < s + 6 + (5 + 2 * p)) := ⟨_, rfl⟩
    have HG := Lib.hid hG
    clear hG
    have hpn' : p ≤ 1048576 := by omega
    go_upto_region 11 with (fail)
    go_cut [100] (fun q wx => q = .bool G ∧ wx = w10)
    case first =>
      by_cases hZ0 : Z = 0
      · have hZb : ((Z : Int) == 0) = true := by simp; omega
        by_cases hbig : 100000 < s + 6 + (5 + 2 * p)
        · have hbig' : (100000 : Int) < (s : Int) + 6 + ((5 + 2 * p : Nat) : Int) := by omega
          have HG1 := Lib.hid (show G = true by rw [HG.out]; exact decide_eq_true ⟨hZ0, hbig⟩)
          clear hZ0 hbig
          go_wp2_with fail
          go_meet
          exact ⟨by rw [HG1.out]; exact congrArg Value.bool (decide_eq_true (by omega)), rfl⟩
        · have hbig' : ¬ (100000 : Int) < (s : Int) + 6 + ((5 + 2 * p : Nat) : Int) := by omega
          have HG1 := Lib.hid (show G = false by rw [HG.out]; exact decide_eq_false fun h => hbig h.2)
          clear hZ0 hbig
          go_wp2_with fail
          go_meet
          exact ⟨by rw [HG1.out]; exact congrArg Value.bool (decide_eq_false (by omega)), rfl⟩
      · have hZb : ((Z : Int) == 0) = false := by simp; omega
        have HG1 := Lib.hid (show G = false by rw [HG.out]; exact decide_eq_false fun h => hZ0 h.1)
        clear hZ0
        go_wp2_with fail
        go_meet
        exact ⟨by rw [HG1.out], rfl⟩
    case rest =>
      obtain ⟨rfl, hwx⟩ := hcut
      obtain rfl : w10 = wc := hwx.symm
      go_upto_if 100 with (fail)
      go_cut [18, 100] (fun q q2 wx => q = .int .i64 ((KC : Nat) : Int) ∧ q2 = .bool G ∧ wx = w10)
      case first =>
        by_cases hG : G = true
        · have hk : KC = 6 := by
            have h1 : decide (Z = 0 ∧ 100000 < s + 6 + (5 + 2 * p)) = true := by rw [← HG.out]; exact hG
            have h2 := of_decide_eq_true h1
            rw [HKC.out, if_neg (fun h => h h2.1), if_pos h2.2]
          have HK6 := Lib.hid hk
          clear hk
          subst hG
          go_wp2_with fail
          go_meet
          exact ⟨by rw [HK6.out]; rfl, rfl, rfl⟩
        · have hf : G = false := by simpa using hG
          have hk : KC = Z := by
            have h1 : decide (Z = 0 ∧ 100000 < s + 6 + (5 + 2 * p)) = false := by rw [← HG.out]; exact hf
            have h2 := of_decide_eq_false h1
            rw [HKC.out]
            by_cases hz : Z = 0
            · rw [if_neg (fun h => h hz), if_neg (fun h => h2 ⟨hz, h⟩), hz]
            · rw [if_pos hz]
          have HK6 := Lib.hid hk
          clear hk hG
          subst hf
          go_wp2_with fail
          go_meet
          exact ⟨by rw [HK6.out], rfl, rfl⟩
      case rest =>
        obtain ⟨rfl, rfl, hwx⟩ := hcut
        obtain rfl : w10 = wc := hwx.symm
        have HB := Lib.hid (HBMx.out.below Hb10.out HBMx.out.lt)
        have HBX10 := Lib.hid (HBXx.out.below Hb10.out HBXx.out.lt)
        have HN10 := Lib.hid (HNx.out.below Hb10.out HNx.out.lt)
        have Ho5 := Lib.hid (own_below Ho5.out Hb10.out (Nat.le_refl _))
        have Ho6 := Lib.hid (own_below Ho6.out Hb10.out (Nat.le_refl _))
        have Hob := Lib.hid (own_below Hob.out Hb10.out (Nat.le_refl _))
        have hnb : nb4 = KB.length := by have := Hob.out.1; simpa using this.symm
        have hX5 : SlC w10 w10.heap.size (.slice A5 n5 c5) xa := SlC.own Ho5.out
        have hX6 : SlC w10 w10.heap.size (.slice A6 n6 c6) xh := SlC.own Ho6.out
        have m0 := HBX10.out.cell 0 _ rfl
        have m1 := HBX10.out.cell 1 _ rfl
        have m2 := HBX10.out.cell 2 _ rfl
        have m3 := HBX10.out.cell 3 _ rfl
        have m4 := HBX10.out.cell 4 _ rfl
        by_cases hK0 : KC = 0
        · have hkg := keep_good (m := ⟨g, t, l, l', f⟩) (b := b) (e := ⟨k, v, ec⟩) (by rw [HKp.out]; exact hK0)
          rw [HKp.out, HZ.out] at hkg
          obtain ⟨hZ0, hadd, hkb⟩ := hkg
          have hZ0 : Z = 0 := hZ0
          obtain ⟨hm, hB0⟩ : (⟨xg, xt, xa, xh, xf⟩ : GMem) = ZM ∧ KB = addB b (evB ⟨k, v, ec⟩) := by
            injection hkb with _ h2
            injection h2 with h2 h3
            exact ⟨h2, h3⟩
          obtain ⟨hy, h7, h8⟩ := Hy.out hZ0
          rw [← hm] at hy
          subst hy
          have hX0 : checkF ⟨k, v, ec⟩ = 0 := by
            rcases Nat.eq_zero_or_pos (checkF ⟨k, v, ec⟩) with h | h
            · exact h
            · have h2 := do_err (m := ⟨g, t, l, l', f⟩) (e := ⟨k, v, ec⟩) (by omega)
              rw [HZ.out] at h2
              simp only at h2
              omega
          have hr := HRr.out hX0
          have hr8 : ∀ x ∈ r, x < 256 := by rw [hr]; exact evB_lt hX0
          have hp4 : p ≤ 400 := by rw [Hp.out]; exact (cellsF_zero (checkF_zero hX0).2.2.2.2.2.2).1
          have hrl : r.length = 5 + 2 * p := by rw [hr, evB_len, Hp.out]
          rw [← hr] at hadd hB0
          have hbook := addB_book H8.out hadd
          have hKl : KB.length ≤ 100000 := by
            rw [hB0, addB_len hadd H8.out]
            unfold addE at hadd
            split at hadd
            · cases hadd
            · split at hadd
              · cases hadd
              · omega
          have hrs := (scanL_spec H8.out).2.2.2.2
          obtain ⟨RS, hRS⟩ : ∃ RS, RS = (scanL b).1 := ⟨_, rfl⟩
          rw [← hRS] at hbook hrs Hs9
          rw [← hB0] at hbook
          have hK6 := book_six 0 (RS ++ [r])
          rw [← hbook] at hK6
          have hvl : vs.length = RS.length := Hs9.out.1
          simp only [List.length_append, List.length_singleton] at hK6
          have hL2 : RS.length ≤ 16666 := by omega
          have HRS := Lib.hid hrs
          have HBK := Lib.hid hbook
          have HR8 := Lib.hid (And.intro hrl hr8)
          have HKB := Lib.hid (show SlB w10 w10.heap.size (.slice Ab nb4 cb) KB from SlB.own Hob.out)
          have HRV := Lib.hid (show SlB w10 w10.heap.size (.slice A10 (5 + 2 * p) c10) r from SlB.own Ho10.out)
          have HE1 := Lib.hid (fun W (hW : Below w10.heap.size w10 W) => equal_cells W A5 A7 n5 n7 c5 c7 W.heap.size xa xa hX5.parts.1 Hsx1.out.parts.1 (by omega) (by omega) ((hX5.below hW).more hW.size).parts.2.2.2 ((Hsx1.out.below (Hb10.out.trans (hW.mono Hb10.out.size))).more (Nat.le_trans Hb10.out.size hW.size)).parts.2.2.2)
          have HE2 := Lib.hid (fun W (hW : Below w10.heap.size w10 W) => equal_cells W A6 A8 n6 n8 c6 c8 W.heap.size xh xh hX6.parts.1 Hsx2.out.parts.1 (by omega) (by omega) ((hX6.below hW).more hW.size).parts.2.2.2 ((Hsx2.out.below (Hb10.out.trans (hW.mono Hb10.out.size))).more (Nat.le_trans Hb10.out.size hW.size)).parts.2.2.2)
          have HSS := Lib.hid (show SlSs w10 w10.heap.size (.slice A9 vs.length c9) RS from SlSs.own Ho9.out Hs9.out)
          have q0 := HN10.out.cell 0 _ rfl
          have q1 := HN10.out.cell 1 _ rfl
          have q2 := HN10.out.cell 2 _ rfl
          have q3 := HN10.out.cell 3 _ rfl
          have q4 := HN10.out.cell 4 _ rfl
          have HVL := Lib.hid hvl
          have HP4 := Lib.hid hp4
          have HKL := Lib.hid hKl
          subst hK0
          clear hkb hm hB0 hadd hr hr8 hp4 hrl hbook hKl hrs hRS hK6 hX0 hnb hX5 hX6 hZ0 hvl
          go_wp2_with fail
          refine (HE1.out w10 (Below.refl _ _)).mono ?_
          rintro e w11 ⟨he, q11, rfl⟩
          obtain rfl : e = .returned (.bool true) := he.trans (ret_bool (by simp))
          have hb11 := below_drewN (Below.refl w10.heap.size w10) q11
          have m3' := (hb11.cell (p := ⟨w4.heap.size, 3, none⟩) HBX10.out.lt).trans m3
          have q4' := (hb11.cell (p := ⟨w6.heap.size, 4, none⟩) HN10.out.lt).trans q4
          clear he m0 m1 m2 m3 m4 q0 q1 q2 q3 q4
          have HB11 := Lib.hid hb11
          clear hb11
          go_wp2_with fail
          refine (HE2.out _ HB11.out).mono ?_
          rintro e w12 ⟨he, q12, rfl⟩
          obtain rfl : e = .returned (.bool true) := he.trans (ret_bool (by simp))
          have HB12 := Lib.hid (below_drewN HB11.out q12)
          clear he HB11 HE1 HE2 m3' q4'
          generalize (w10.drewN q11).drewN q12 = w12 at HB12 ⊢
          have hv2 : vs.length ≤ 16666 := by have := HVL.out; omega
          have HCR := Lib.hid (clone_rows w12 (.slice A9 vs.length c9) RS ((HSS.out.below HB12.out).more HB12.out.size) (by omega))
          go_wp2_with fail
          refine HCR.out.mono ?_
          rintro e w13 ⟨v13, vs13, rfl, ho13, hs13, hb13⟩
          rw [← HVL.out] at ho13
          obtain ⟨A13, c13, rfl, _, _, _⟩ := own_rd ho13
          have HS13 := Lib.hid hs13
          have hb13s := hb13.size
          obtain ⟨j0, hj, hy0, hy1, hy2⟩ := info_parts info_bytes
          clear hs13 HCR
          go_wp2_with (at_builtin; refine wpList_pushW (by rfl) (.tmp 158) (.tmp 160) 77 rfl w12.heap.size 33 j0 (.slice none 0 0) 1 24 Try.underlying77 hj hy0 hy1 hy2 rfl (by omega) _ _ _ rfl ho13 [_] rfl rfl (by simp [Value.oneCell']) (by unfold maxLen; omega) (by omega) hb13s ?_; intro v14 w14 ho14 hb14 _; obtain ⟨A14, c14, rfl, _, _, _⟩ := own_rd ho14)
          have hb1214 : Below w12.heap.size w12 w14 := hb13.trans hb14
          have HB14 := Lib.hid (HB12.out.trans (hb1214.mono HB12.out.size))
          have hs14 : SlsB w14 w14.heap.size (vs13 ++ [.slice A10 (5 + 2 * p) c10]) (RS ++ [r]) := ((HS13.out.below hb14).more hb1214.size).snoc ((HRV.out.below HB14.out).more HB14.out.size)
          have HBk := Lib.hid (book_any w14 _ (RS ++ [r]) (SlSs.own ho14 hs14) (by simp; omega) (by
            intro q hq
            simp only [List.mem_append, List.mem_singleton] at hq
            rcases hq with hq | rfl
            · exact HRS.out q hq
            · exact ⟨by have h1 := HR8.out.1; have h2 := HP4.out; omega, HR8.out.2⟩))
          clear ho13 ho14 hs14 HS13 hb13 hb14 hb1214 hj hy0 hy1 hy2 hb13s
          go_wp2_with fail
          refine HBk.out.mono ?_
          rintro e w15 ⟨v15, rfl, hs15, hb15⟩
          rw [← HBK.out] at hs15
          have HB15 := Lib.hid (HB14.out.trans (hb15.mono HB14.out.size))
          have HEQ := Lib.hid (equal_bytes w15 (.slice Ab nb4 cb) v15 w15.heap.size KB KB ((HKB.out.below HB15.out).more HB15.out.size) hs15 (Nat.le_trans HKL.out (by omega)) (Nat.le_trans HKL.out (by omega)))
          clear hs15 hb15 HBk
          go_wp2_with fail
          refine HEQ.out.mono ?_
          rintro e w16 ⟨he, q16, rfl⟩
          obtain rfl : e = .returned (.bool true) := he.trans (ret_bool (by simp))
          have HB16 := Lib.hid (below_drewN HB15.out q16)
          clear he HEQ
          generalize w15.drewN q16 = w16 at HB16 ⊢
          have hM := HB.out.below HB16.out HB.out.lt
          have n0 := hM.cell 0 _ rfl
          have n1 := hM.cell 1 _ rfl
          have n2 := hM.cell 2 _ rfl
          have n3 := hM.cell 3 _ rfl
          have n4 := hM.cell 4 _ rfl
          have HM16 := Lib.hid hM
          have HW16 := Lib.hid (HB10.out.trans (HB16.out.mono HB10.out.size))
          have HHL := Lib.hid (HHello.out w16 HW16.out)
          clear hM
          go_wp2_with fail
          refine HHL.out.mono ?_
          rintro e w17 ⟨v17, L17, rfl, hbad, hgood, hb17⟩
          obtain ⟨Al, nl, cl, rfl⟩ : ∃ A n c, v17 = .slice A n c := by
            by_cases h : helloC l arm seq clock = 0
            · obtain ⟨_, A, n, c, h1, _⟩ := hgood h
              exact ⟨A, n, c, h1⟩
            · exact ⟨none, 0, 0, hbad h⟩
          have HBAD := Lib.hid hbad
          have HGOOD := Lib.hid hgood
          have HB17 := Lib.hid (HW16.out.trans (hb17.mono HW16.out.size))
          have HM17 := Lib.hid (HM16.out.below hb17 HM16.out.lt)
          clear hbad hgood hb17 HHL n0 n1 n2 n3 n4
          obtain ⟨HC, hHC⟩ : ∃ HC, HC = helloC l arm seq clock := ⟨_, rfl⟩
          rw [← hHC] at HBAD HGOOD ⊢
          have HHC := Lib.hid hHC
          clear hHC
          go_upto_region 19 with (fail)
          have hb18 : Below w17.heap.size w17 (w17.alloc (.cells #[.int .i64 3, .int .i64 arm, .int .i64 4, .int .i64 seq, .int .u32 clock, .slice none 0 0] 28)) := (Below.refl _ _).alloc (Nat.le_refl _) _
          have hbt := Blk.new w17 28 #[.int .i64 3, .int .i64 arm, .int .i64 4, .int .i64 seq, .int .u32 clock, .slice none 0 0]
          generalize w17.alloc (.cells #[.int .i64 3, .int .i64 arm, .int .i64 4, .int .i64 seq, .int .u32 clock, .slice none 0 0] 28) = w18 at hb18 hbt ⊢
          have HB18 := Lib.hid hb18
          have HBT := Lib.hid hbt
          have b0 := hbt.cell 0 _ rfl
          have b1 := hbt.cell 1 _ rfl
          have b2 := hbt.cell 2 _ rfl
          have b3 := hbt.cell 3 _ rfl
          have b4 := hbt.cell 4 _ rfl
          have b5 := hbt.cell 5 _ rfl
          have hz18 := hbt.lt
          have n2 := fun X => ((HM17.out.below hb18 HM17.out.lt).alloc X).cell 2 _ rfl
          clear hb18 hbt
          go_upto_if 183 with (fail)
          clear b0 b1 b2 b3 b4 b5
          have ho1 := World.ownsRow_lit (e := 28) (size := 6) (base := w17.heap.size + 1) w18 #[.int .i64 3, .int .i64 arm, .int .i64 4, .int .i64 seq, .int .u32 clock, .slice none 0 0] 1 (by omega) (by decide) rfl
          have hb19 : Below w18.heap.size w18 (w18.alloc (.cells #[.int .i64 3, .int .i64 arm, .int .i64 4, .int .i64 seq, .int .u32 clock, .slice none 0 0] 28)) := (Below.refl _ _).alloc (Nat.le_refl _) _
          have n2' := n2 (.cells #[.int .i64 3, .int .i64 arm, .int .i64 4, .int .i64 seq, .int .u32 clock, .slice none 0 0] 28)
          generalize w18.alloc (.cells #[.int .i64 3, .int .i64 arm, .int .i64 4, .int .i64 seq, .int .u32 clock, .slice none 0 0] 28) = w19 at hb19 ho1 n2' ⊢
          have hz19 := hb19.size
          have HB19 := Lib.hid (HB18.out.trans (hb19.mono (by omega)))
          have HBT19 := Lib.hid (HBT.out.below hb19 hz18)
          have HO1 := Lib.hid ho1
          have HW19 := Lib.hid (HB17.out.trans (HB19.out.mono HB17.out.size))
          obtain ⟨j1, hj1, hy10, hy11, hy12⟩ := info_parts info_msg
          clear n2 hb19 ho1
          go_cut [26] (fun q wx => HelCut w17 l arm seq clock q wx ∧ Blk wx w17.heap.size 28 #[.int .i64 3, .int .i64 arm, .int .i64 4, .int .i64 seq, .int .u32 clock, .slice none 0 0])
          case first =>
            have hlp := Hs1.out.parts
            by_cases hn0 : Mn = 0
            · have hl0 := Lib.hid (show l = [] from List.eq_nil_of_length_eq_zero (by rw [hlp.1]; exact hn0))
              have h0 : ¬ (0 : Int) < (Mn : Int) := by omega
              clear hn0 hlp
              go_wp2_with fail
              go_meet
              exact ⟨⟨[⟨beatM arm seq clock, none, 0, 0⟩], by simp [helloL, hl0.out], ⟨_, _, _, rfl, own_mono HO1.out (by omega), fun s hs => by
                rw [List.mem_singleton.1 hs]
                exact beat_at _ _ _ _ _⟩, HB19.out⟩, HBT19.out⟩
            · have hl0 := Lib.hid (show l ≠ [] from fun h => hn0 (by rw [← hlp.1, h]; rfl))
              have h0 : (0 : Int) < (Mn : Int) := by omega
              have HMA := Lib.hid (show MsgAt w w.heap.size (askM arm seq clock l) MA Mn Mc from ⟨hlp.1, hlp.2.1, fun h => ⟨by have := hlp.2.2.1 h; have := hlp.2.1; omega, hlp.2.2.1 h⟩, by omega, hlp.2.2.2⟩)
              clear hn0 hlp
              go_wp2_with (at_builtin; refine wpList_pushG rfl (.tmp 184) (.tmp 191) 80 rfl (w17.heap.size + 1) 28 j1 (.agg #[.int .i64 0, .int .i64 0, .int .i64 0, .int .i64 0, .int .u32 0, .slice none 0 0]) 6 64 Try.underlying80 hj1 hy10 hy11 hy12 rfl (by omega) _ 1 _ rfl HO1.out [.int .i64 0, .int .i64 arm, .int .i64 4, .int .i64 seq, .int .u32 clock, .slice MA Mn Mc] rfl rfl (by simp [Value.oneCell']) (by unfold maxLen; omega) (by omega) (by omega) ?_; intro v4 w4' hn4 hb4 hg4 _; have HN4 := Lib.hid hn4; have HB4' := Lib.hid hb4; clear hn4 hb4 hg4)
              go_meet
              obtain ⟨A4, c4, rfl, _, _, _⟩ := own_rd HN4.out
              have hb174 := HB19.out.trans (HB4'.out.mono (by omega))
              refine ⟨⟨[⟨beatM arm seq clock, none, 0, 0⟩, ⟨askM arm seq clock l, MA, Mn, Mc⟩], by simp [helloL, hl0.out], ⟨_, _, _, rfl, own_mono HN4.out (by omega), fun s hs => ?_⟩, hb174⟩, HBT19.out.below HB4'.out (by omega)⟩
              rcases List.mem_cons.1 hs with rfl | hs
              · exact beat_at _ _ _ _ _
              · rw [List.mem_singleton.1 hs]
                have hbw := HB17.out.trans (hb174.mono HB17.out.size)
                exact (HMA.out.below hbw).more hbw.size
          case rest =>
            obtain ⟨⟨L26, hL26, hM26, hb26⟩, hbt26⟩ := hcut
            obtain ⟨A26, N26, C26, rfl, _, _⟩ := id hM26
            obtain ⟨w26, rfl⟩ : ∃ w26, w26 = wc := ⟨_, rfl⟩
            have HB26 := Lib.hid (HB17.out.trans (hb26.mono HB17.out.size))
            have HM26 := Lib.hid hM26
            have HL26 := Lib.hid hL26
            have HBI := Lib.hid hb26
            have b0 := hbt26.cell 0 _ rfl
            have b1 := hbt26.cell 1 _ rfl
            have b2 := hbt26.cell 2 _ rfl
            have b3 := hbt26.cell 3 _ rfl
            have b4 := hbt26.cell 4 _ rfl
            have b5 := hbt26.cell 5 _ rfl
            have HMF := Lib.hid (msgfault_any w26 (beatM arm seq clock) none 0 0 rfl)
            have HM27 := Lib.hid (HM17.out.below hb26 HM17.out.lt)
            clear hL26 hM26 hb26 hbt26 n2'
            obtain ⟨F0, hF0⟩ : ∃ F0, F0 = msgF0 (beatM arm seq clock) := ⟨_, rfl⟩
            rw [← hF0] at HMF
            have HF0 := Lib.hid hF0
            clear hF0
            go_wp2_with fail
            refine HMF.out.mono ?_
            rintro e w27 ⟨rfl, hb27⟩
            have HB27 := Lib.hid (HB26.out.trans (hb27.mono HB26.out.size))
            have HBJ := Lib.hid (HBI.out.trans (hb27.mono HBI.out.size))
            have n2 := (HM27.out.below hb27 HM27.out.lt).cell 2 _ rfl
            have HMB := Lib.hid (HM26.out.below hb27)
            clear hb27 b0 b1 b2 b3 b4 b5 HMF
            by_cases hf : F0 = 0
            · have hcf : Calls Try.prog 45 #[.slice MA Mn Mc] w27 (fun e w'' => e = .returned (.int .i64 ((cellsF l : Nat) : Int)) ∧ Below w27.heap.size w27 w'') := HCells.out w27 HB27.out
              obtain ⟨CF, hCF⟩ : ∃ CF, CF = cellsF l := ⟨_, rfl⟩
              rw [← hCF] at hcf
              have HCF := Lib.hid hcf
              have HHE := Lib.hid (show HC = CF by
                rw [HHC.out, hCF]
                unfold helloC
                rw [if_neg (by rw [← HF0.out]; exact fun h => h hf)])
              clear hcf hCF
              subst hf
              go_wp2_with fail
              refine HCF.out.mono ?_
              rintro e w28 ⟨rfl, hb28⟩
              have HB28 := Lib.hid (HB27.out.trans (hb28.mono HB27.out.size))
              have HBK := Lib.hid (HBJ.out.trans (hb28.mono HBJ.out.size))
              have HMC := Lib.hid (HMB.out.below hb28)
              clear hb28 HCF n2
              by_cases hc : CF = 0
              · obtain rfl : HC = CF := HHE.out
                subst hc
                obtain ⟨hm17, hg17⟩ := HGOOD.out rfl
                have hEQ := equalmsgs_any w28 _ _ _ _ L17 L26 (hg17.below HBK.out) HMC.out (by rw [hm17, HL26.out]) (by
                  have h1 := congrArg List.length hm17
                  rw [List.length_map] at h1
                  have h2 : (helloL l arm seq clock).length ≤ 2 := by unfold helloL; split <;> simp
                  omega)
                have HEQ2 := Lib.hid hEQ
                clear hm17 hg17 hEQ
                go_wp2_with fail
                refine HEQ2.out.mono ?_
                rintro e w29 ⟨rfl, hb29⟩
                have HB29 := Lib.hid (HB28.out.trans (hb29.mono HB28.out.size))
                clear hb29
                go_wp2
                go_ret
                exact ⟨rfl, HB29.out⟩
              · obtain rfl : HC = CF := HHE.out
                have hv := HBAD.out hc
                injection hv with h1 h2 h3
                subst h1 h2 h3
                have hne : ((HC : Int) != 0) = true := bne_iff_ne.mpr (by omega)
                go_wp2
                go_ret
                exact ⟨rfl, HB28.out⟩
            · have HHE := Lib.hid (show HC = F0 by
                rw [HHC.out, HF0.out]
                unfold helloC
                rw [if_pos (by rw [← HF0.out]; exact hf)])
              obtain rfl : HC = F0 := HHE.out
              have hv := HBAD.out hf
              injection hv with h1 h2 h3
              subst h1 h2 h3
              have hne : ((HC : Int) != 0) = true := bne_iff_ne.mpr (by omega)
              have hne2 : ((HC : Int) == 0) = false := beq_eq_false_iff_ne.mpr (by omega)
              have hne3 : ¬ (HC : Int) = 0 := by omega
              clear n2
              go_wp2
              go_ret
              exact ⟨rfl, HB27.out⟩
        · skip
          have hkb := keep_bad (m := ⟨g, t, l, l', f⟩) (b := b) (e := ⟨k, v, ec⟩) (by rw [HKp.out]; exact hK0)
          rw [HKp.out] at hkb
          obtain ⟨hm, hb0⟩ : (⟨xg, xt, xa, xh, xf⟩ : GMem) = zeroMem ∧ KB = [] := by
            injection hkb with _ h2
            injection h2 with h2 h3
            exact ⟨h2, h3⟩
          obtain rfl : nb4 = 0 := by rw [hnb, hb0]; rfl
          have hS := fsame_any w10 ⟨xg, xt, xa, xh, xf⟩ zeroMem A5 n5 c5 A6 n6 c6 none 0 0 none 0 0 hX5 hX6 (SlC.nil' _ _) (SlC.nil' _ _) (by omega) (by omega) (by omega) (by omega)
          rw [show sameF ⟨xg, xt, xa, xh, xf⟩ zeroMem = true from by rw [hm]; exact same_zero] at hS
          have HSM := Lib.hid hS
          have hkn : ((KC : Int) != 0) = true := bne_iff_ne.mpr (by omega)
          clear hkb hm hb0 hnb hS hX5 hX6
          go_wp2_with fail
          refine HSM.out.mono ?_
          rintro e w11 ⟨rfl, hb11⟩
          have HFI := Lib.hid (HB10.out.trans (hb11.mono HB10.out.size))
          clear hb11 m0 m1 m2 m3 m4
          go_wp2
          go_ret
          exact ⟨rfl, HFI.out⟩
end Go.Proofs.Ytaahpjjffggaiaa.fallKeeps
