/- (*Table).Ask. Conditions: those typed. -/
import Derived.Test.YtambngbkegnghaaTabDone
namespace Go.Gy
open Go.RowKit
section
variable {P : Program} {wr : World} {ops : Array Oper} {rest : List Oper} {o : Oper} {a : Act} {Q : Exit → Act → World → Prop}
/-- append of one element onto an own row, and where the row lies then -/
theorem wpList_push2 (hgd : o.guard = none) (s x : Operand) (t : TypeId)
    (ho : o.op = .call { callee := .builtin .append, args := #[s, x], argTypes := #[t, t] })
    (base : Nat) (e : TypeId) (i : TypeInfo) (z : Value) (size bytes : Nat) (ht : P.underlying t = some (.slice e)) (hi : P.info? e = some i) (hz : i.zero = some z)
    (hsize : i.size = size) (hby : i.bytes = bytes) (hzs : z.cells.size = size) (hsz : 0 < size)
    (v : Value) (n : Nat) (xs : List Value) (hs : a.eval s = v) (hown : wr.ownsRow base e size v n xs)
    (cs : List Value) (hx : a.eval x = .slice (some ⟨wr.heap.size, 0, none⟩) 1 1) (hl : cs.length = size) (h1 : ∀ u ∈ cs, u.oneCell' = true)
    (h63 : n + 1 ≤ maxLen) (hbytes : (n + 1) * bytes ≤ 140737488355328) (hbase : base ≤ wr.heap.size)
    (h : ∀ v' w', w'.ownsRow base e size v' (n + 1) (xs ++ cs) → wr.grownBy w' v.ownBlock → Near wr v v' → (∃ g c, v' = .slice (some ⟨g, 0, none⟩) (n + 1) c) → wpList P ops Q rest (a.put o.dst v') w') :
    wpList P ops Q (o :: rest) a (wr.alloc (.cells cs.toArray e)) := by
  have hA := hown.alloc (.cells cs.toArray e)
  have hnews : ∀ j u, cs[j]? = some u → (wr.alloc (.cells cs.toArray e)).cell? ((⟨wr.heap.size, 0, none⟩ : Addr).add j) = some u := by
    intro j u hu
    rw [add_none, cell_of_row _ _ (0 + j) cs.toArray e (0, 0) (heap_alloc_new _ _)]
    simpa using hu
  obtain ⟨v', w', hrun, h2, h3, _⟩ := run_append_own (P := P) (wr.alloc (.cells cs.toArray e)) base t o.type e i z size bytes ht hi hz hsize hby hzs hsz v n xs hA ⟨wr.heap.size, 0, none⟩ 1 1 cs (by omega) hnews h1 h63 hbytes (by simp; omega)
  obtain ⟨v2, w2, hrun2, _, _, h4⟩ := run_append_queue2 (P := P) (w := wr.alloc (.cells cs.toArray e)) t o.type base e i z size bytes ht hi hz hsize hby hzs hsz v n xs (QRow.of_own hA) ⟨wr.heap.size, 0, none⟩ 1 1 cs (by omega) hnews h1 h63 hbytes (by simp; omega)
  have he := hrun.symm.trans hrun2
  injection he with e1 e2
  subst e1 e2
  refine wpList_plain hgd fun _ hK => ?_
  unfold Oper.wp execOp
  simp only [ho, resolve, invoke, builtin, Sem.run_bind, Sem.run_pure, Result.andThen_ok, List.map_toArray, List.map_cons, List.map_nil, hs, hx, hrun]
  refine hK _ _ (h v' w' h2 (grown_alloc h3) (fun g hg => ?_) ?_)
  · rcases h4 g hg with h5 | h5
    · exact .inl h5
    · exact .inr (by simp at h5; omega)
  · obtain ⟨_, ⟨_, h0⟩ | ⟨g, c, cur, hv, _⟩⟩ := h2
    · omega
    · exact ⟨g, c, hv⟩
end
end Go.Gy
namespace Go.Proofs.Ytambngbkegnghaa
open Go.RowKit Go.Gy
set_option linter.unusedVariables false
theorem askF_out {st : Tab} {arm : Int} {cells : List Cell} (h : arm < 0 ∨ (st.1.length : Int) ≤ arm) : askF st arm cells = (1, st) := by
  unfold askF
  rw [if_pos h]
/-- what is asked behind the checks -/
def askG (st : Tab) (k : Nat) (W J : List Cell) : Nat × Tab :=
  if W = [] then (0, st)
  else if 0 ≤ atF st k then (if W = (st.2.getD (atF st k).toNat (0, [])).2 then (0, st) else (7, st))
  else if cellsF J ≠ 0 then (6, st)
  else if blockF st k W st.2.length = [] then (0, (st.1.set k J, st.2))
  else if ringF st k 200 [] (blockF st k W st.2.length) then (11, st)
  else (0, (st.1, st.2 ++ [((k : Int), W)]))
theorem askF_in {st : Tab} {k : Nat} {cells r : List Cell} (h : st.1[k]? = some r) : askF st k cells = if cellsF cells ≠ 0 then (cellsF cells, st) else askG st k (minusC cells r) (joinC r (minusC cells r)) := by
  have hk := (List.getElem?_eq_some_iff.1 h).1
  have e : st.1.getD k [] = r := by rw [List.getD_eq_getElem?_getD, h]; rfl
  unfold askF askG
  rw [if_neg (by omega), Int.toNat_natCast, e]
set_option maxRecDepth 100000 in
set_option maxHeartbeats 4000000 in
theorem ask_any (w : World) (B p : Nat) (st : Tab) (X : List (Value × List Cell)) (arm : Int) (v : Value) (cells : List Cell) (h : TabAt w B p st X) (hf : Fit st) (hv : SlC w w.heap.size v cells) (hcl : cells.length ≤ 100000) :
    Calls Try.prog 15 #[.pointer (some ⟨p, 0, none⟩), .int .i64 arm, v] w (TabPost B p (askF st arm cells) X w) := by
  obtain ⟨hb, vs, wv, wl, hx⟩ := id h
  have hBs := h.base
  have hc0 := hx.blk.cell 0 _ rfl
  have hlen := hx.hlen
  by_cases h1 : arm < 0
  · have HP := Lib.hid (show TabPost B p (askF st arm cells) X w (.returned (.int .i64 1)) w from by rw [askF_out (.inl h1)]; exact ⟨rfl, h, Below.refl _ _⟩)
    clear h hf hv hx hlen
    go_enter Try.func15, Try.ntmps15
    go_wp2_with fail
    go_ret
    exact HP.out
  by_cases h2 : (vs.length : Int) ≤ arm
  · have HP := Lib.hid (show TabPost B p (askF st arm cells) X w (.returned (.int .i64 1)) w from by rw [askF_out (.inr (by rw [← hlen]; exact h2))]; exact ⟨rfl, h, Below.refl _ _⟩)
    clear h hf hv hx hlen
    go_enter Try.func15, Try.ntmps15
    go_wp2_with fail
    go_ret
    exact HP.out
  obtain ⟨k, rfl⟩ : ∃ k : Nat, arm = (k : Int) := ⟨arm.toNat, by omega⟩
  have hkv : k < vs.length := by omega
  obtain ⟨va, hva⟩ : ∃ va, vs[k]? = some va := ⟨_, List.getElem?_eq_getElem hkv⟩
  obtain ⟨r, hr⟩ : ∃ r, st.1[k]? = some r := ⟨_, List.getElem?_eq_getElem (by omega)⟩
  obtain ⟨A, n, c, rfl, hvl, _, _, hrd⟩ := id hv
  have HC := Lib.hid (grid_any w A n c cells hvl hrd)
  obtain ⟨q, hq⟩ : ∃ q, q = cellsF cells := ⟨_, rfl⟩
  rw [← hq] at HC
  have HD := Lib.hid (askF_in (cells := cells) hr)
  rw [← hq] at HD
  have HX := Lib.hid hx
  have HF := Lib.hid hf
  have HV := Lib.hid hv
  have Hr := Lib.hid hr
  have Hq := Lib.hid hq
  have HT := Lib.hid h
  have Hlen := Lib.hid hlen
  clear h hf hv hx hvl hrd hr hq hlen
  go_enter Try.func15, Try.ntmps15
  go_wp2_with fail
  refine HC.out.mono ?_
  rintro e w1 ⟨rfl, hb1⟩
  have HT1 := Lib.hid (HT.out.below hb1)
  have hx1 := HX.out.below hb1
  have HX1 := Lib.hid hx1
  have HV1 := Lib.hid ((HV.out.below hb1).more hb1.size)
  have Hb1 := Lib.hid (hb1.mono hBs)
  have hB1 := HT1.out.base
  by_cases hq0 : q = 0
  rotate_left
  · have hq1 : ¬ (q : Int) = 0 := by omega
    have hq2 : ((q : Int) == 0) = false := by simpa using hq1
    have HP := Lib.hid (show TabPost B p (askF st k cells) X w (.returned (.int .i64 (q : Int))) w1 from by rw [HD.out, if_pos hq0]; exact ⟨rfl, HT1.out, Hb1.out⟩)
    clear hb1 hx1 HC
    go_wp2_with fail
    go_ret
    exact HP.out
  subst hq0
  have p0 : w1.cell? ⟨p, 0, none⟩ = some (.slice (some ⟨hb, 0, none⟩) vs.length vs.length) := hx1.blk.cell 0 _ rfl
  have hk := hx1.has k va r hva Hr.out
  obtain ⟨Ak, nk, ck, rfl, hkl, hkrest⟩ := id hk.1
  have q2 : w1.cell? ⟨hb, k, none⟩ = some (.slice Ak nk ck) := hx1.hblk.cell k (.slice Ak nk ck) (by simpa using hva)
  have Hc4 := Lib.hid (cellsF_len Hq.out.symm)
  have Hr4 := Lib.hid (HF.out.few.1.2.2.1 r (List.mem_of_getElem? Hr.out))
  have HM := Lib.hid (minus_any w1 (.slice A n c) (.slice Ak nk ck) cells r HV1.out hk.1 (by have := Hc4.out; omega) (by have := Hr4.out; omega))
  obtain ⟨W, hW⟩ : ∃ W, W = minusC cells r := ⟨_, rfl⟩
  obtain ⟨J, hJ⟩ : ∃ J, J = joinC r W := ⟨_, rfl⟩
  have hd := HD.out
  rw [if_neg (fun h => h rfl), ← hW, ← hJ] at hd
  rw [← hW] at HM
  have HG := Lib.hid hd
  have HW := Lib.hid hW
  have HJ := Lib.hid hJ
  have HW4 := Lib.hid (show W.length ≤ 400 from by rw [hW]; exact Nat.le_trans (List.length_filter_le _ _) (Nat.le_trans (sort_len _) Hc4.out))
  clear hkrest hk hx1 hb1 hc0 HC hd hW hJ HD
  go_wp2_with fail
  refine HM.out.mono ?_
  rintro e w2 ⟨A2, n2, c2, rfl, hl2, hown2, hb2⟩
  have HT2 := Lib.hid (HT1.out.below hb2)
  have hx2 := HX1.out.below hb2
  have HX2 := Lib.hid hx2
  have Hb2 := Lib.hid (Hb1.out.trans (hb2.mono hB1))
  have hB2 := HT2.out.base
  have Hown2 := Lib.hid hown2
  have Hz2 := Lib.hid hb2.size
  have Hl2 := Lib.hid hl2
  clear p0 q2 hown2 hb2 hl2 HM
  by_cases hn2 : n2 = 0
  · subst hn2
    have HP := Lib.hid (show TabPost B p (askF st k cells) X w (.returned (.int .i64 0)) w2 from by
      have e : W = [] := List.eq_nil_of_length_eq_zero Hl2.out
      rw [HG.out]
      unfold askG
      rw [if_pos e]
      exact ⟨rfl, HT2.out, Hb2.out⟩)
    clear hx2
    go_wp2_with fail
    go_ret
    exact HP.out
  have hn2a : ¬ (n2 : Int) = 0 := by omega
  have hn2b : ((n2 : Int) == 0) = false := by simpa using hn2a
  have HWn := Lib.hid (show W ≠ [] from fun e => hn2 (by rw [← Hl2.out, e]; rfl))
  have HA := Lib.hid (at_any w2 B p st X k HT2.out HF.out.few.1.2.1)
  clear hx2
  go_wp2_with fail
  refine HA.out.mono ?_
  rintro e w3 ⟨rfl, hb3⟩
  have HT3 := Lib.hid (HT2.out.below hb3)
  have hx3 := HX2.out.below hb3
  have HX3 := Lib.hid hx3
  have Hb3 := Lib.hid (Hb2.out.trans (hb3.mono hB2))
  have hB3 := HT3.out.base
  have Hz3 := Lib.hid (Nat.le_trans Hz2.out hb3.size)
  have Hown3 := Lib.hid (own_below Hown2.out hb3 (Nat.le_refl _))
  clear hb3 HA
  rcases atF_cases st k with ⟨hat, hno⟩ | ⟨ix, y, hat, hix, hy, hyk⟩
  rotate_left
  · rw [hat]
    obtain ⟨Aw, cw, rfl, hncw, hccw, hrdw⟩ := own_rd hx3.row
    have p1 := hx3.blk.cell 1 _ rfl
    have hixw : ix < wl.length := by rw [hx3.wlen]; exact hix
    have hix0 : (0 : Int) ≤ (ix : Int) := by omega
    obtain ⟨b, o, x, rfl, hbB, hxx, hcs⟩ := hrdw.elem encW_len rfl hixw
    obtain ⟨hxy, hhd⟩ := hx3.wts ix x y hxx hy
    obtain ⟨a, u⟩ := x
    obtain ⟨a', cs'⟩ := y
    simp only at hxy hhd hyk
    obtain ⟨Au, nu, cu, rfl, hul, _, _, hur⟩ := id hhd.1
    have e1 : w3.cell? ⟨b, o + ix * 2 + 1, none⟩ = some (.slice Au nu cu) := hcs 1 _ rfl
    obtain ⟨A3, c3, he3, _, _, hr3⟩ := own_rd Hown3.out
    injection he3 with e3a _ e3b
    subst e3a e3b
    have HE := Lib.hid (equal_cells w3 A2 Au n2 nu c2 cu w3.heap.size W cs' Hl2.out hul (by have := HW4.out; have := Hl2.out; omega) (by have := HF.out.few.1.2.2.2 _ (List.mem_of_getElem? hy); simp only at this; omega) hr3 hur)
    have HS := Lib.hid (show askG st k W J = if W = cs' then (0, st) else (7, st) from by
      unfold askG
      rw [if_neg HWn.out, hat, if_pos hix0, Int.toNat_natCast, List.getD_eq_getElem?_getD, hy]
      rfl)
    have Hbd := Lib.hid (fun q => below_drewN (Below.refl w3.heap.size w3) q)
    clear hat hx3 hrdw hcs hhd hxx hul hur hy hix hr3 hyk hxy hbB
    go_wp2_with fail
    refine HE.out.mono ?_
    rintro e w4 ⟨rfl, qq, rfl⟩
    have HT4 := Lib.hid (HT3.out.below (Hbd.out qq))
    have Hb4 := Lib.hid (Hb3.out.trans ((Hbd.out qq).mono hB3))
    obtain ⟨w4, hw4⟩ : ∃ w4, w4 = w3.drewN qq := ⟨_, rfl⟩
    rw [← hw4] at HT4 Hb4 ⊢
    clear hw4 HE
    by_cases heq : W = cs'
    · have HP := Lib.hid (show TabPost B p (askF st k cells) X w (.returned (.int .i64 0)) w4 from by rw [HG.out, HS.out, if_pos heq]; exact ⟨rfl, HT4.out, Hb4.out⟩)
      rw [decide_eq_true heq]
      clear heq
      go_wp2_with fail
      go_ret
      exact HP.out
    · have HP := Lib.hid (show TabPost B p (askF st k cells) X w (.returned (.int .i64 7)) w4 from by rw [HG.out, HS.out, if_neg heq]; exact ⟨rfl, HT4.out, Hb4.out⟩)
      rw [decide_eq_false heq]
      clear heq
      go_wp2_with fail
      go_ret
      exact HP.out
  have Hat := Lib.hid hat
  rw [hat]
  have p0 : w3.cell? ⟨p, 0, none⟩ = some (.slice (some ⟨hb, 0, none⟩) vs.length vs.length) := hx3.blk.cell 0 _ rfl
  have hk := hx3.has k _ r hva Hr.out
  have q2 : w3.cell? ⟨hb, k, none⟩ = some (.slice Ak nk ck) := hx3.hblk.cell k (.slice Ak nk ck) (by simpa using hva)
  have HJn := Lib.hid (join_any w3 (.slice Ak nk ck) (.slice A2 n2 c2) r W hk.1 (SlC.own Hown3.out) (by have := Hr4.out; have := HW4.out; omega))
  rw [← HJ.out] at HJn
  clear hat hno hk hx3
  go_wp2_with fail
  refine HJn.out.mono ?_
  rintro e w4 ⟨A4, n4, c4, rfl, hl4, hown4, hb4⟩
  have HT4 := Lib.hid (HT3.out.below hb4)
  have HX4 := Lib.hid (HX3.out.below hb4)
  have Hb4 := Lib.hid (Hb3.out.trans (hb4.mono hB3))
  have hB4 := HT4.out.base
  have Hown4 := Lib.hid hown4
  have Hown24 := Lib.hid (own_below Hown3.out hb4 (Nat.le_refl _))
  obtain ⟨A4', c4', he4, _, _, hr4⟩ := own_rd hown4
  injection he4 with e4a _ e4b
  subst e4a e4b
  have HC := Lib.hid (grid_any w4 A4 n4 c4 J hl4 hr4)
  obtain ⟨qj, hqj⟩ : ∃ qj, qj = cellsF J := ⟨_, rfl⟩
  rw [← hqj] at HC
  have Hqj := Lib.hid hqj
  have Hz4 := Lib.hid hb4.size
  clear p0 q2 hl4 hr4 hown4 hb4 hqj HJn
  go_wp2_with fail
  refine HC.out.mono ?_
  rintro e w5 ⟨rfl, hb5⟩
  have HT5 := Lib.hid (HT4.out.below hb5)
  have hx5 := HX4.out.below hb5
  have HX5 := Lib.hid hx5
  have Hb5 := Lib.hid (Hb4.out.trans (hb5.mono hB4))
  have hB5 := HT5.out.base
  have Hown45 := Lib.hid (own_below Hown4.out hb5 (Nat.le_refl _))
  have Hown25 := Lib.hid (own_below Hown24.out hb5 (Nat.le_refl _))
  have Hz5 := Lib.hid (Nat.le_trans Hz4.out hb5.size)
  clear hb5 HC
  by_cases hj0 : qj = 0
  rotate_left
  · have hj1 : ¬ (qj : Int) = 0 := by omega
    have hj2 : ((qj : Int) == 0) = false := by simpa using hj1
    have HP := Lib.hid (show TabPost B p (askF st k cells) X w (.returned (.int .i64 6)) w5 from by
      rw [HG.out]
      unfold askG
      rw [if_neg HWn.out, Hat.out, if_neg (by decide), ← Hqj.out, if_pos hj0]
      exact ⟨rfl, HT5.out, Hb5.out⟩)
    clear hx5
    go_wp2_with fail
    go_ret
    exact HP.out
  subst hj0
  obtain ⟨Aw, cw, rfl, hncw, hccw, hrdw⟩ := own_rd hx5.row
  have p1 := hx5.blk.cell 1 _ rfl
  have HB := Lib.hid (blockers_any w5 B p st X k (.slice A2 n2 c2) W wl.length HT5.out HF.out.few.1 (SlC.own Hown25.out) (by have := HW4.out; omega) (by rw [hx5.wlen]; exact Nat.le_refl _))
  obtain ⟨L, hL⟩ : ∃ L, L = blockF st k W wl.length := ⟨_, rfl⟩
  rw [← hL] at HB
  have HL := Lib.hid (show L = blockF st k W st.2.length by rw [hL, hx5.wlen])
  have HLl := Lib.hid (show L.length ≤ 8 from by
    have := blockF_len st k W wl.length
    have := HF.out.few
    have := hx5.wlen
    have := HF.out.n4
    rw [hL]; omega)
  have HG2 := Lib.hid (show askG st k W J = if L = [] then (0, (st.1.set k J, st.2)) else if ringF st k 200 [] L then (11, st) else (0, (st.1, st.2 ++ [((k : Int), W)])) from by
    unfold askG
    rw [if_neg HWn.out, Hat.out, if_neg (by decide), ← Hqj.out, if_neg (fun h => h rfl), ← HL.out])
  clear hrdw hx5 hL
  go_wp2_with fail
  refine HB.out.mono ?_
  rintro e w6 ⟨v6, rfl, hown6, hb6⟩
  have HT6 := Lib.hid (HT5.out.below hb6)
  have hx6 := HX5.out.below hb6
  have HX6 := Lib.hid hx6
  have Hb6 := Lib.hid (Hb5.out.trans (hb6.mono hB5))
  have hB6 := HT6.out.base
  have Hown46 := Lib.hid (own_below Hown45.out hb6 (Nat.le_refl _))
  have Hown26 := Lib.hid (own_below Hown25.out hb6 (Nat.le_refl _))
  have Hown6 := Lib.hid hown6
  obtain ⟨A6, c6, rfl, hn6, _, hr6⟩ := own_rd hown6
  have HSL := Lib.hid (show SlI w6 w6.heap.size (.slice A6 L.length c6) L from ⟨A6, L.length, c6, rfl, rfl, hn6, (own_none hown6 · |>.2), hr6⟩)
  obtain ⟨ln, hln⟩ : ∃ ln, ln = L.length := ⟨_, rfl⟩
  rw [← hln] at HSL ⊢
  have Hln := Lib.hid hln
  clear hown6 hb6 hn6 hr6 hln HB p1
  by_cases hl0 : ln = 0
  · subst hl0
    have p0 : w6.cell? ⟨p, 0, none⟩ = some (.slice (some ⟨hb, 0, none⟩) vs.length vs.length) := hx6.blk.cell 0 _ rfl
    have q2 : w6.cell? ⟨hb, k, none⟩ = some (.slice Ak nk ck) := hx6.hblk.cell k (.slice Ak nk ck) (by simpa using hva)
    have qf := hx6.hblk.free k
    obtain ⟨l1, l2, l3⟩ := HX3.out.lts
    have HP := Lib.hid (show TabPost B p (askF st k cells) X w (.returned (.int .i64 0)) (w6.setCell ⟨hb, k, none⟩ (.slice A4 n4 c4)) from by
      rw [HG.out, HG2.out, if_pos (List.eq_nil_of_length_eq_zero Hln.out.symm)]
      exact ⟨rfl, ⟨_, _, _, _, hx6.setHas (Held.fresh l1 l2 l3 Hown46.out)⟩, Hb6.out.setCell hx6.hB _⟩)
    clear l1 l2 l3 hx6
    go_wp2_with fail
    go_ret
    exact HP.out
  have hl1 : ¬ (ln : Int) = 0 := by omega
  have hl2 : ((ln : Int) == 0) = false := by simpa using hl1
  have HR := Lib.hid (ring_any w6 B p st X k (.slice A6 ln c6) L HT6.out HF.out.few.1 HSL.out HLl.out)
  have HLn := Lib.hid (show L ≠ [] from fun e => hl0 (by rw [Hln.out, e]; rfl))
  clear hx6
  go_wp2_with fail
  refine HR.out.mono ?_
  rintro e w7 ⟨rfl, hb7⟩
  have HT7 := Lib.hid (HT6.out.below hb7)
  have hx7 := HX6.out.below hb7
  have HX7 := Lib.hid hx7
  have Hb7 := Lib.hid (Hb6.out.trans (hb7.mono hB6))
  have hB7 := HT7.out.base
  have Hown27 := Lib.hid (own_below Hown26.out hb7 (Nat.le_refl _))
  obtain ⟨bb, hbb⟩ : ∃ bb, bb = ringF st k 200 [] L := ⟨_, rfl⟩
  rw [← hbb] at HG2 ⊢
  have Hbb := Lib.hid hbb
  clear hbb hb7 HR
  cases bb
  rotate_left
  · have HP := Lib.hid (show TabPost B p (askF st k cells) X w (.returned (.int .i64 11)) w7 from by
      rw [HG.out, HG2.out, if_neg HLn.out, if_pos rfl]
      exact ⟨rfl, HT7.out, Hb7.out⟩)
    clear hx7
    go_wp2_with fail
    go_ret
    exact HP.out
  obtain ⟨i0, hi, hz0, hz1, hz2⟩ := info_parts info_wish
  have p1 : w7.cell? ⟨p, 1, none⟩ = some (.slice Aw wl.length cw) := hx7.blk.cell 1 _ rfl
  obtain ⟨l1, l2, l3⟩ := HX1.out.lts
  have HH := Lib.hid (show Held w7 p hb (.slice Aw wl.length cw) (.slice A2 n2 c2) W from Held.fresh l1 l2 l3 Hown27.out)
  have hwl4 : wl.length ≤ 4 := by rw [hx7.wlen]; exact HF.out.few.1.2.1
  have hlo : wl.length + 1 ≤ maxLen := by unfold maxLen; omega
  have Hlo := Lib.hid hlo
  have HK := Lib.hid (show ∀ w8, w7.grownBy w8 (Value.slice Aw wl.length cw).ownBlock → Blk w8 p 75 #[.slice (some ⟨hb, 0, none⟩) vs.length vs.length, .slice Aw wl.length cw] from fun w8 hg8 => (hg8.block p HX7.out.lts.1 (fun e => (HX7.out.ne.2 p e.symm).1 rfl)).trans HX7.out.blk)
  have HP := Lib.hid (show ∀ v8 w8, w8.ownsRow B 77 2 v8 (wl.length + 1) (wl.flatMap encW ++ [.int .i64 (k : Int), .slice A2 n2 c2]) → w7.grownBy w8 (Value.slice Aw wl.length cw).ownBlock → Near w7 (.slice Aw wl.length cw) v8 → TabPost B p (askF st k cells) X w (.returned (.int .i64 0)) (w8.setCell ⟨p, 1, none⟩ v8) from fun v8 w8 hn8 hg8 hnear8 => by
    rw [HG.out, HG2.out, if_neg HLn.out, if_neg (by decide)]
    refine ⟨rfl, ⟨_, _, _, _, HX7.out.setWaits (ws' := st.2 ++ [((k : Int), W)]) (wl' := wl ++ [((k : Int), .slice A2 n2 c2)]) hg8.size (fun b' hb' hne => hg8.block b' hb' (fun e => hne e.symm)) hnear8 (by rw [List.length_append, List.flatMap_append]; exact hn8) (by rw [List.length_append, List.length_append, HX7.out.wlen]; rfl) (fun j x y e1 e2 => ?_)⟩, (Hb7.out.grown hg8 hB7 (fun g hg => (HX7.out.row.lt g hg).1)).setCell HX7.out.pB _⟩
    rcases Nat.lt_or_ge j wl.length with hj | hj
    · rw [List.getElem?_append_left hj] at e1
      rw [List.getElem?_append_left (by rw [← HX7.out.wlen]; exact hj)] at e2
      exact HX7.out.wts j x y e1 e2
    · have hj2 : st.2.length ≤ j := by rw [← HX7.out.wlen]; exact hj
      rw [List.getElem?_append_right hj] at e1
      rw [List.getElem?_append_right hj2] at e2
      have hjj : j - wl.length = 0 := by
        have := (List.getElem?_eq_some_iff.1 e1).1
        simp at this; omega
      have hjj2 : j - st.2.length = 0 := by rw [← HX7.out.wlen]; exact hjj
      rw [hjj] at e1
      rw [hjj2] at e2
      injection e1 with e1
      injection e2 with e2
      subst e1 e2
      exact ⟨rfl, HH.out⟩)
  clear l1 l2 l3 hx7 hlo
  go_wp2_with (at_builtin; refine wpList_push2 rfl (.tmp 80) (.tmp 84) 73 rfl B 77 i0 (.agg #[.int .i64 0, .slice none 0 0]) 2 32 Try.underlying73 hi hz0 hz1 hz2 rfl (by omega) (.slice Aw wl.length cw) wl.length _ rfl HX7.out.row [.int .i64 (k : Int), .slice A2 n2 c2] rfl rfl (by simp [Value.oneCell']) Hlo.out (by omega) hB7 ?_; intro v8 w8 hn8 hg8 hnear8 hv8; obtain ⟨g8, c8, rfl⟩ := hv8; have hK8 := HK.out _ hg8; have r8 := hK8.cell 1 _ rfl; have rf8 := hK8.free 1; have HP8 := Lib.hid (HP.out _ _ hn8 hg8 hnear8); clear hn8 hg8 hnear8 hK8)
  go_ret
  exact HP8.out
end Go.Proofs.Ytambngbkegnghaa
