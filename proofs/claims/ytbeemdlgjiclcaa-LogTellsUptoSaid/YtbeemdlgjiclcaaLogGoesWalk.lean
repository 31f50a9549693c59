/- LogGoes's walk: it returns true. Conditions: the reach. -/
import Derived.Test.YtbeemdlgjiclcaaLogOpen
namespace Go.Proofs.Ytbeemdlgjiclcaa
open Go.RowKit Go.Gy
set_option linter.unusedVariables false
theorem run_slice_to {P : Program} (t : TypeId) (s : Nat) (ht : P.underlying t = some (.slice (P.elem t))) (hs : ∀ w, (sizeOf (P.elem t)).run P w = .ok s w) (A : Option Addr) (N C k : Nat) (hk : k ≤ C) (w : World) :
    (Instr.slice t (.slice A N C) none (some (.int .i64 (k : Int))) none).run P w = .ok (.slice A k C) w := by
  rw [run_slice_h w t A N C ht .i64 k (by omega) (by omega), hs]
  simp only [Result.andThen, sliced, Nat.zero_mul, Int.toNat_natCast, Nat.sub_zero]
  split
  · rfl
  · cases A <;> rfl
section
variable {P : Program} {ops : Array Oper} {rest : List Oper} {o : Oper} {a : Act} {w : World} {Q : Exit → Act → World → Prop}
theorem wpList_slice_to (hgd : o.guard = none) (t : TypeId) (s x : Operand) (ho : o.op = .slice t s none (some x) none) (A : Option Addr) (N C k : Nat) (hs : a.eval s = .slice A N C) (hx : a.eval x = .int .i64 (k : Int))
    (hu : P.underlying t = some (.slice (P.elem t))) (hr : ∀ w, (Instr.slice t (.slice A N C) none (some (.int .i64 (k : Int))) none).run P w = .ok (.slice A k C) w)
    (h : wpList P ops Q rest (a.put o.dst (.slice A k C)) w) : wpList P ops Q (o :: rest) a w :=
  wpList_plain hgd fun _ hK => by
    unfold Oper.wp execOp
    simp only [ho, hs, hx, Option.map_none, Option.map_some, run_sliceAt_slice w t _ _ _ _ hu, hr, Sem.run_bind, Sem.run_pure, Result.andThen_ok]
    exact hK _ _ h
theorem wpList_min2 (hgd : o.guard = none) (x y : Operand) (ts : Array TypeId) (ho : o.op = .call { callee := .builtin .min, args := #[x, y], argTypes := ts }) (n m : Int) (hx : a.eval x = .int .i64 n) (hy : a.eval y = .int .i64 m) (k : Int) (hk : min n m = k)
    (h : wpList P ops Q rest (a.put o.dst (.int .i64 k)) w) : wpList P ops Q (o :: rest) a w :=
  wpList_plain hgd fun _ hK => by
    have e : (if m < n then m else n) = k := by rw [← hk]; split <;> omega
    unfold Oper.wp execOp
    simp only [ho, resolve, invoke, builtin, Sem.run_bind, Sem.run_pure, Result.andThen_ok, List.map_toArray, List.map_cons, List.map_nil, hx, hy, run_min_int2, e]
    exact hK _ _ h
end
set_option maxRecDepth 100000 in
theorem size_byte (w : World) : (sizeOf (Try.prog.elem 26)).run Try.prog w = .ok 1 w := by
  obtain ⟨i, hi, _⟩ := info_parts info_byte
  exact (run_sizeOf (w := w) (show Try.prog.info? (Try.prog.elem 26) = some i from hi)).trans (congrArg (fun n => Result.ok n w) (by kernel_rfl))
set_option maxRecDepth 100000 in
set_option maxRecDepth 100000 in
theorem size_bytes (w : World) : (sizeOf (Try.prog.elem 31)).run Try.prog w = .ok 1 w := by
  obtain ⟨i, hi, _⟩ := info_parts info_bytes
  exact (run_sizeOf (w := w) (show Try.prog.info? (Try.prog.elem 31) = some i from hi)).trans (congrArg (fun n => Result.ok n w) (by kernel_rfl))
theorem bytes_to (A : Option Addr) (N C k : Nat) (hk : k ≤ C) (w : World) : (Instr.slice 26 (.slice A N C) none (some (.int .i64 (k : Int))) none).run Try.prog w = .ok (.slice A k C) w :=
  run_slice_to 26 1 (by kernel_rfl) size_byte A N C k hk w
theorem rows_to (A : Option Addr) (N C k : Nat) (hk : k ≤ C) (w : World) : (Instr.slice 31 (.slice A N C) none (some (.int .i64 (k : Int))) none).run Try.prog w = .ok (.slice A k C) w :=
  run_slice_to 31 1 (by kernel_rfl) size_bytes A N C k hk w

theorem SlsB.take {w : World} {B : Nat} {vs : List Value} {rs : List (List Nat)} (h : SlsB w B vs rs) (k : Nat) : SlsB w B (vs.take k) (rs.take k) := by
  refine ⟨by simp [h.1], fun i v r h1 h2 => ?_⟩
  rw [List.getElem?_take] at h1 h2
  split at h1
  · rename_i hi; rw [if_pos hi] at h2; exact h.2 i v r h1 h2
  · cases h1
theorem SlsB.snoc {w : World} {B : Nat} {vs : List Value} {rs : List (List Nat)} {v : Value} {r : List Nat} (h : SlsB w B vs rs) (ho : SlB w B v r) : SlsB w B (vs ++ [v]) (rs ++ [r]) := by
  refine ⟨by simp [h.1], fun i u q h1 h2 => ?_⟩
  by_cases hi : i < vs.length
  · rw [List.getElem?_append_left hi] at h1
    rw [List.getElem?_append_left (by rw [← h.1]; exact hi)] at h2
    exact h.2 i u q h1 h2
  · rw [List.getElem?_append_right (by omega)] at h1
    rw [List.getElem?_append_right (by rw [← h.1]; omega)] at h2
    have h0 : i - vs.length = 0 := by
      rcases Nat.eq_zero_or_pos (i - vs.length) with h0 | h0
      · exact h0
      · rw [List.getElem?_eq_none (by simp; omega)] at h1; cases h1
    rw [h0] at h1
    rw [← h.1, h0] at h2
    simp at h1 h2
    subst h1 h2
    exact ho
theorem book_ge : ∀ (last : Nat) (rs : List (List Nat)), rs.length ≤ (bookF last rs).length
  | _, [] => by simp
  | last, r :: rs => by have := book_ge (rsum last r) rs; simp only [bookF, List.length_cons, List.length_append, enc1_len]; omega
theorem scan_few {b : List Nat} (h8 : ∀ x ∈ b, x < 256) : (scanL b).1.length ≤ b.length := by
  obtain ⟨_, h2, h3, _, _⟩ := scanL_spec h8
  have := book_ge 0 (scanL b).1
  omega
theorem add7 : addE [] [7] = 0 ∧ (addB [] [7]).length = 7 := by
  have hs : scanL [] = ([], 0, 0) := scanF_none (by unfold oneRec; rw [if_pos (by simp)])
  have he : addE [] [7] = 0 := addE_of (by simp) (by rw [hs]; simp)
  refine ⟨he, ?_⟩
  rw [addB_len he (by simp), hs]
  rfl
end Go.Proofs.Ytbeemdlgjiclcaa
namespace Go.Proofs.Ytbeemdlgjiclcaa.logGoes
open Go.RowKit Go.Gy
set_option linter.unusedVariables false
set_option maxRecDepth 100000 in
set_option maxHeartbeats 4000000 in
theorem walk (v0 : Value) (n : Int) (v2 : Value) (w : World) {b0 b2 : Nat} (f0 : RowsArg w v0 b0) (w1 : wfI .i64 n) (f2 : BytesArg w v2 b2) :
    Calls Try.prog 4 #[v0, .int .i64 n, v2] w fun e w' => e = .returned (.bool true) ∧ Below w.heap.size w w' := by
  obtain ⟨rs, ⟨A, N, C, vs, rfl, hN, hNC, hA, hr, hs⟩, h8, _, _⟩ := f0
  obtain ⟨more, ⟨A2, m, c2, rfl, hm, hmc, hA2, hr2⟩, hm8, _, _⟩ := f2
  obtain ⟨K, hK⟩ : ∃ K, K = min N 20 := ⟨_, rfl⟩
  have hK1 : K ≤ N := by omega
  have hK2 : K ≤ 20 := by omega
  have hmin : min (N : Int) 20 = (K : Int) := by omega
  have hto := rows_to A N C K (by omega)
  have Hv2 := Lib.hid (show SlB w w.heap.size (.slice A2 m c2) more from ⟨A2, m, c2, rfl, hm, hmc, hA2, hr2⟩)
  obtain ⟨T, hT⟩ : ∃ T, T = rs.take K := ⟨_, rfl⟩
  have Hv0 := Lib.hid (show SlSs w w.heap.size (.slice A K C) T from ⟨A, K, C, vs.take K, rfl, by rw [hT, List.length_take]; omega, by omega, hA, by simpa using hr.take (k := K) hK1, by rw [hT]; exact hs.take K⟩)
  have hT8 := Lib.hid (show ∀ r ∈ T, ∀ x ∈ r, x < 256 from fun r hx => (h8 r (List.mem_of_mem_take (by rw [hT] at hx; exact hx))).1)
  have hTl := Lib.hid (show T.length ≤ 20 by rw [hT, List.length_take]; omega)
  have Hm := Lib.hid hm
  have Hm8 := Lib.hid hm8
  clear hN hA hr hs h8 hm hA2 hr2 hm8 hK hT hNC hmc
  go_enter Try.func4, Try.ntmps4
  go_wp2_with fail
  have hz0 : ∀ X, Below w.heap.size w (w.alloc X) := fun X => (Below.refl _ _).alloc (Nat.le_refl _) _
  refine (add_any _ _ _ [] [7] ⟨none, 0, 0, rfl, rfl, Nat.le_refl _, fun _ => rfl, ⟨rfl, fun h => by omega⟩⟩ ⟨_, 1, 1, rfl, rfl, Nat.le_refl _, (fun h => by cases h), ?_⟩ (by simp) (by simp) (by simp)).mono ?_
  · have h1 := Rd.lit w 5 [.int .u8 7] 1 1 rfl
    simpa [bv] using h1
  rintro e w1 ⟨v1, n1, rfl, hown1, hb1⟩
  have hb1 := (hz0 _).trans (hb1.mono (by simp))
  rw [add7.1]
  have hn1 := hown1.1
  rw [List.length_map, add7.2] at hn1
  obtain rfl : n1 = 7 := by omega
  obtain ⟨A1, c1, rfl, _, _, _⟩ := own_rd hown1
  clear hown1 hn1
  have HA1 := Lib.hid (all_any w1 (.slice A K C) T ((Hv0.out.below hb1).more hb1.size) (Nat.le_trans hTl.out (by omega)) hT8.out)
  have hu31 := Lib.hid (show Try.prog.underlying 31 = some (.slice (Try.prog.elem 31)) by kernel_rfl)
  have hu26 := Lib.hid (show Try.prog.underlying 26 = some (.slice (Try.prog.elem 26)) by kernel_rfl)
  go_wp2_with (first
    | (refine wpList_min2 rfl (.tmp 34) (.const (.int .i64 20)) _ rfl N 20 rfl rfl K hmin ?_)
    | (refine wpList_slice_to rfl 31 (.tmp 32) (.tmp 35) rfl A N C K rfl rfl hu31.out hto ?_))
  refine HA1.out.mono ?_
  rintro e w3 ⟨v3, n3, rfl, hown3, hb3⟩
  clear HA1
  have hb3 := hb1.trans (hb3.mono hb1.size)
  by_cases hE : (allF [] T).2 = 0
  · by_cases hbig : 2000 < m
    · have hbig' : (2000 : Int) < (m : Int) := by omega
      rw [hE]
      clear hown3
      go_wp2_with fail
      go_ret
      exact ⟨rfl, hb3⟩
    · have hbig' : ¬ (2000 : Int) < (m : Int) := by omega
      rw [hE]
      obtain ⟨hb', hrl, _⟩ := all_book T [] (by simp) hT8.out hE
      obtain ⟨b, hbd⟩ : ∃ b, b = (allF [] T).1 := ⟨_, rfl⟩
      rw [← hbd] at hown3
      have hbk : b = bookF 0 T := hbd.trans hb'
      have hb8 : ∀ x ∈ b, x < 256 := by rw [hbk]; exact bookF_lt 0 T hT8.out
      have hbl : b.length ≤ 40120 := by rw [hbk]; have := book_len 0 T hrl; have := hTl.out; omega
      have hn3 : n3 = b.length := by have := hown3.1; simpa using this.symm
      obtain ⟨A3, c3, rfl, hc3, _, hr3⟩ := own_rd hown3
      have hA3 := fun h => (own_none hown3 h).2
      have hn3' : n3 ≤ 40120 := by omega
      obtain ⟨q, hq⟩ : ∃ q : Nat, n % ((n3 : Int) + 1) = (q : Int) := ⟨(n % ((n3 : Int) + 1)).toNat, by have := Int.emod_nonneg n (show (n3 : Int) + 1 ≠ 0 by omega); omega⟩
      have hq3 : q ≤ n3 := by have := Int.emod_lt_of_pos n (show (0 : Int) < (n3 : Int) + 1 by omega); omega
      have hto3 := bytes_to A3 n3 c3 q (by omega)
      have HBel := Lib.hid (fun w => below_any n ((n3 : Int) + 1) w (by omega) (by omega))
      obtain ⟨cut, hcut⟩ : ∃ cut, cut = b.take q := ⟨_, rfl⟩
      have hc8 := Lib.hid (show ∀ x ∈ cut, x < 256 from fun x hx => hb8 x (List.mem_of_mem_take (by rw [hcut] at hx; exact hx)))
      have hcl := Lib.hid (show cut.length ≤ 40120 by rw [hcut, List.length_take]; omega)
      have hmore := Lib.hid (show more.length ≤ 2000 by rw [Hm.out]; omega)
      have Hcut := Lib.hid (show SlB w3 w3.heap.size (.slice A3 q c3) cut from ⟨A3, q, c3, rfl, by rw [hcut, List.length_take]; omega, by omega, hA3, by have := hr3.take (k := q) hq3; rw [hcut, ← List.map_take] at *; simpa using this⟩)
      have Hlaw := Lib.hid (goes_law hc8.out Hm8.out hmore.out (by have := hcl.out; omega))
      clear hown3 hE hbd hbk hb8 hbl hn3 hr3 hA3 hcut hb' hrl
      go_wp2_with (first
        | (go_at_call 31; refine (HBel.out _).mono ?_; rw [hq]; rintro e w3' ⟨rfl, rfl⟩)
        | (refine wpList_slice_to rfl 26 (.tmp 49) (.tmp 54) rfl A3 n3 c3 q rfl rfl hu26.out hto3 ?_))
      have hl8 := Lib.hid (scanL_spec hc8.out)
      have hfew := scan_few hc8.out
      obtain ⟨l, hld⟩ : ∃ l, l = (scanL cut).1 := ⟨_, rfl⟩
      rw [← hld] at hfew Hlaw hl8
      obtain ⟨c, hcd⟩ : ∃ c, c = addB cut more := ⟨_, rfl⟩
      have hcE := Hlaw.out.1
      have hcL := Lib.hid (show c.length ≤ 100000 by rw [hcd, addB_len hcE hc8.out]; exact (addE_zero hcE).2)
      have hcB := Lib.hid (show ∀ x ∈ c, x < 256 by rw [hcd]; exact addB_lt hc8.out Hm8.out)
      rw [← hcd] at Hlaw
      have hfew' : l.length ≤ 40120 := Nat.le_trans hfew hcl.out
      clear hfew
      -- Read of the cut
      have HR := Lib.hid (read_any w3 _ cut Hcut.out (Nat.le_trans hcl.out (by omega)) hc8.out)
      refine HR.out.mono ?_
      rintro e w4 ⟨v4, vs4, rfl, hown4, hob4, hb4⟩
      rw [← hld] at hob4
      have hl4 : vs4.length = l.length := hob4.1
      obtain ⟨L, hL⟩ : ∃ L, L = l.length := ⟨_, rfl⟩
      rw [hl4, ← hL] at hown4
      obtain ⟨A4, c4, rfl, _, _, _⟩ := own_rd hown4
      have Hown4 := Lib.hid hown4
      have Hob4 := Lib.hid hob4
      have HL := Lib.hid hL
      rw [← hL] at hfew'
      have hb34 := hb3.trans (hb4.mono hb3.size)
      clear HR hown4 hob4 hl4 hL
      obtain ⟨z4, hz4⟩ : ∃ z, z = (scanL cut).2.1 := ⟨_, rfl⟩
      rw [← hz4]
      clear hz4
      go_wp2_with fail
      -- Add behind the cut
      have HD := Lib.hid (add_any w4 (.slice A3 q c3) (.slice A2 m c2) cut more ((Hcut.out.below hb4).more hb4.size) ((Hv2.out.below hb34).more hb34.size) (Nat.le_trans hcl.out (by omega)) hc8.out Hm8.out)
      refine HD.out.mono ?_
      rintro e w5 ⟨v5, n5, rfl, hown5, hb5⟩
      clear HD
      rw [hcE]
      rw [← hcd] at hown5
      have hn5 : c.length = n5 := by have := hown5.1; simpa using this
      obtain ⟨A5, c5, rfl, _, _, _⟩ := own_rd hown5
      have Hown5 := Lib.hid hown5
      have Hn5 := Lib.hid hn5
      have hn5' : n5 ≤ 100000 := by rw [← hn5]; exact hcL.out
      have hb35 := hb34.trans (hb5.mono hb34.size)
      have Hcc := Lib.hid (SlB.own (r := c) hown5)
      clear hown5 hn5
      go_wp2_with fail
      -- Read of it
      have HR := Lib.hid (read_any w5 (.slice A5 n5 c5) c Hcc.out (Nat.le_trans hcL.out (by omega)) hcB.out)
      refine HR.out.mono ?_
      rintro e w6 ⟨v6, vs6, rfl, hown6, hob6, hb6⟩
      clear HR
      have hs6 := Hlaw.out.2.2
      rw [hs6] at hob6 ⊢
      have hl6 : vs6.length = L + 1 := by rw [hob6.1, List.length_append, HL.out]; rfl
      rw [hl6] at hown6
      rw [Hn5.out]
      obtain ⟨A6, c6, rfl, _, _, _⟩ := own_rd hown6
      clear hown6 hob6 hl6 hs6
      have hb36 := hb35.trans (hb6.mono hb35.size)
      go_wp2_with fail
      -- a copy, and one more
      have hb46 : Below w4.heap.size w4 w6 := hb5.trans (hb6.mono hb5.size)
      have hown46 := own_below Hown4.out hb46 (Nat.le_refl _)
      have hob46 := Hob4.out.below hb46 (Nat.le_refl _)
      have HC := Lib.hid (clone_rows w6 (.slice A4 L c4) l (SlSs.own hown46 hob46.reads) (by rw [← HL.out]; omega))
      refine HC.out.mono ?_
      rintro e w7 ⟨v7, vs7, rfl, hown7, hs7, hb7⟩
      rw [← HL.out] at hown7
      obtain ⟨A7, c7, rfl, _, _, _⟩ := own_rd hown7
      have Hs7 := Lib.hid hs7
      have hb37 := hb36.trans (hb7.mono hb36.size)
      obtain ⟨j0, hj, hy0, hy1, hy2⟩ := info_parts info_bytes
      clear HC hown46 hob46 hs7 Hown4 Hob4
      go_wp2_with (at_builtin; refine wpList_pushG rfl (.tmp 74) (.tmp 76) 31 rfl w6.heap.size 26 j0 (.slice none 0 0) 1 24 Try.underlying31 hj hy0 hy1 hy2 rfl (by omega) _ _ _ rfl hown7 [_] rfl rfl (by simp [Value.oneCell']) (by unfold maxLen; omega) (by omega) hb7.size ?_; intro v8 w8 hown8 hb8 _ _; obtain ⟨A8, c8, rfl, _, _, _⟩ := own_rd hown8)
      have hb68 := hb7.trans hb8
      have hb38 := hb36.trans (hb68.mono hb36.size)
      have hs8 : SlsB w8 w8.heap.size (vs7 ++ [.slice A2 m c2]) (l ++ [more]) := ((Hs7.out.below hb8).more hb68.size).snoc ((Hv2.out.below hb38).more hb38.size)
      have HA9 := Lib.hid (all_any w8 _ (l ++ [more]) (SlSs.own hown8 hs8) (by simp [← HL.out]; omega) (by
        intro r hr
        simp only [List.mem_append, List.mem_singleton] at hr
        rcases hr with hr | rfl
        · exact (hl8.out.2.2.2.2 r hr).2
        · exact Hm8.out))
      clear hown7 hown8 hs8 Hs7
      go_wp2_with fail
      refine HA9.out.mono ?_
      rintro e w9 ⟨v9, n9, rfl, hown9, hb9⟩
      clear HA9
      have ha9 := Hlaw.out.2.1
      rw [ha9] at hown9 ⊢
      have hn9 : n9 = n5 := by have := hown9.1; rw [List.length_map, Hn5.out] at this; omega
      subst hn9
      obtain ⟨A9, c9, rfl, _, _, _⟩ := own_rd hown9
      have hb39 := hb38.trans (hb9.mono hb38.size)
      have hb59 : Below w5.heap.size w5 w9 := hb6.trans ((hb68.mono hb6.size).trans (hb9.mono (Nat.le_trans hb6.size hb68.size)))
      have Hc9 := Lib.hid ((Hcc.out.below hb59).more hb59.size)
      have Hd9 := Lib.hid (SlB.own (r := c) hown9)
      have Hwh := Lib.hid (show (scanL c).2.1 = c.length by rw [Hlaw.out.2.2])
      clear hown9 ha9
      go_wp2_with fail
      refine (equal_bytes w9 _ _ _ c c Hc9.out Hd9.out (Nat.le_trans hcL.out (by omega)) (Nat.le_trans hcL.out (by omega))).mono ?_
      rintro e w10 ⟨he, q9, rfl⟩
      rw [decide_eq_true (show c = c from rfl)] at he
      subst he
      have hb310 := below_drewN hb39 q9
      have HW := Lib.hid (whole_any (w9.drewN q9) (.slice A5 n9 c5) c (Hc9.out.below (below_drewN (Below.refl _ _) q9)) (Nat.le_trans hcL.out (by omega)) hcB.out)
      go_wp2_with fail
      refine HW.out.mono ?_
      rintro e w11 ⟨he, hb11⟩
      rw [decide_eq_true Hwh.out] at he
      subst he
      have hb311 := hb310.trans (hb11.mono hb310.size)
      clear HW
      go_wp2_with fail
      go_ret
      exact ⟨rfl, hb311⟩
  · have hne : ¬ (((allF [] T).2 : Nat) : Int) = 0 := by omega
    obtain ⟨x, hx⟩ : ∃ x, x = (allF [] T).2 := ⟨_, rfl⟩
    rw [← hx] at hne ⊢
    clear hx hE hown3
    go_wp2_with fail
    go_ret
    exact ⟨rfl, hb3⟩
end Go.Proofs.Ytbeemdlgjiclcaa.logGoes
