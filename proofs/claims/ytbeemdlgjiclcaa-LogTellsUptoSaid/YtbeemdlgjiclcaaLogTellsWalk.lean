/- LogTells's walk: it returns true. Conditions: what is read is of bulk at most 1048576. -/
import Derived.Test.YtbeemdlgjiclcaaLogGoesWalk
import Derived.Test.YtbeemdlgjiclcaaRecords
import Derived.Test.YtbeemdlgjiclcaaRowsEq
import Derived.Test.YtbeemdlgjiclcaaTellsPlain
namespace Go.Proofs.Ytbeemdlgjiclcaa
open Go.RowKit Go.Gy
set_option linter.unusedVariables false
section
variable {P : Program} {wr : World} {ops : Array Oper} {rest : List Oper} {o : Oper} {a : Act} {Q : Exit → Act → World → Prop}
/-- as wpList_push, at an operation behind a guard -/
theorem wpList_pushW (hw : Region.wanted o (yielded ops a.tmps) = true) (s x : Operand) (t : TypeId)
    (ho : o.op = .call { callee := .builtin .append, args := #[s, x], argTypes := #[t, t] })
    (base : Nat) (e : TypeId) (i : TypeInfo) (z : Value) (size bytes : Nat) (ht : P.underlying t = some (.slice e)) (hi : P.info? e = some i) (hz : i.zero = some z)
    (hsize : i.size = size) (hby : i.bytes = bytes) (hzs : z.cells.size = size) (hsz : 0 < size)
    (v : Value) (n : Nat) (xs : List Value) (hs : a.eval s = v) (hown : wr.ownsRow base e size v n xs)
    (cs : List Value) (hx : a.eval x = .slice (some ⟨wr.heap.size, 0, none⟩) 1 1) (hl : cs.length = size) (h1 : ∀ u ∈ cs, u.oneCell' = true)
    (h63 : n + 1 ≤ maxLen) (hbytes : (n + 1) * bytes ≤ 140737488355328) (hbase : base ≤ wr.heap.size)
    (h : ∀ v' w', w'.ownsRow base e size v' (n + 1) (xs ++ cs) → Below base wr w' → (∃ g c, v' = .slice (some ⟨g, 0, none⟩) (n + 1) c ∧ base ≤ g ∧ g < w'.heap.size) → wpList P ops Q rest (a.put o.dst v') w') :
    wpList P ops Q (o :: rest) a (wr.alloc (.cells cs.toArray e)) := by
  refine wpList_step fun _ hK => ?_
  rw [if_pos hw]
  refine wp_append_own _ s x t ho base e i z size bytes ht hi hz hsize hby hzs hsz v n xs hs (hown.alloc _) ⟨wr.heap.size, 0, none⟩ 1 1 cs hx (by omega) ?_ h1 h63 hbytes (by simp; omega) ?_
  · intro j u hu
    rw [add_none, cell_of_row _ _ (0 + j) cs.toArray e (0, 0) (heap_alloc_new _ _)]
    simpa using hu
  · intro v' w' h2 h3 _
    refine hK _ _ (h v' w' h2 ?_ ?_)
    · exact ((Below.refl base wr).alloc hbase _).grown h3 (by simp; omega) fun k hk => (hown.lt k hk).1
    · obtain ⟨g, c, hv, _, hg, hgl⟩ := own_shape h2 (by omega)
      exact ⟨g, c, hv, hg, hgl⟩
end
theorem add6 : addE [] [] = 0 ∧ (addB [] []).length = 6 := by
  have hs : scanL [] = ([], 0, 0) := scanF_none (by unfold oneRec; rw [if_pos (by simp)])
  have he : addE [] [] = 0 := addE_of (by simp) (by rw [hs]; simp)
  refine ⟨he, ?_⟩
  rw [addB_len he (by simp), hs]
  rfl
theorem SlB.nil (w : World) (B : Nat) : SlB w B (.slice none 0 0) [] := ⟨none, 0, 0, rfl, rfl, Nat.le_refl _, fun _ => rfl, ⟨rfl, fun h => by omega⟩⟩
def TellRel (rs : List (List Nat)) (N : Nat) (a f i : Value) : Prop := ∃ k p q : Nat, k ≤ N ∧ i = .int .i64 k ∧ a = .int .i64 p ∧ f = .int .i64 q ∧ p ≤ k * 1048582 ∧ Hid ((rs.take k).foldl tell1 (0, 0) = (p, q))
theorem tell_next {rs : List (List Nat)} {k p q : Nat} {r : List Nat} (h : (rs.take k).foldl tell1 (0, 0) = (p, q)) (hr : rs[k]? = some r) : (rs.take (k + 1)).foldl tell1 (0, 0) = tell1 (p, q) r := by
  rw [List.take_add_one, hr, List.foldl_append, h]; rfl
end Go.Proofs.Ytbeemdlgjiclcaa
namespace Go.Proofs.Ytbeemdlgjiclcaa.logTells
open Go.RowKit Go.Gy
set_option linter.unusedVariables false
set_option maxRecDepth 100000 in
set_option maxHeartbeats 4000000 in
theorem walk (v0 v1 v2 : Value) (w : World) {b0 b1 b2 : Nat} (f0 : BytesArg w v0 b0) (f1 : BytesArg w v1 b1) (f2 : RowsArg w v2 b2) (hk : b0 ≤ 1048576 ∧ b1 ≤ 1048576 ∧ b2 ≤ 1048576) :
    Calls Try.prog 5 #[v0, v1, v2] w fun e w' => e = .returned (.bool true) ∧ Below w.heap.size w w' := by
  obtain ⟨b, Hv0, hb8, hbb, _⟩ := f0
  obtain ⟨r, Hv1, hr8, hrb, _⟩ := f1
  obtain ⟨rs, Hv2, hrs, hrl, _⟩ := f2
  obtain ⟨A0, n0, c0, rfl, hn0, _⟩ := id Hv0
  obtain ⟨A1, n1, c1, rfl, hn1, _⟩ := id Hv1
  obtain ⟨A2, N, C, vs, rfl, hN, hNC, hA2, hRd, hSs⟩ := id Hv2
  have hbl : n0 ≤ 1048576 := by omega
  have hrl1 : n1 ≤ 1048576 := by omega
  have hNl : N ≤ 1048576 := by omega
  have Hb8 := Lib.hid hb8
  have Hr8 := Lib.hid hr8
  have Hrs := Lib.hid (show ∀ q ∈ rs, (∀ x ∈ q, x < 256) ∧ q.length ≤ 1048576 from fun q hq => ⟨(hrs q hq).1, by have := (hrs q hq).2.1; omega⟩)
  have Hn0 := Lib.hid hn0
  have Hn1 := Lib.hid hn1
  have HN := Lib.hid hN
  have HRd := Lib.hid hRd
  have HSs := Lib.hid hSs
  have HV0 := Lib.hid Hv0
  have HV1 := Lib.hid Hv1
  have HV2 := Lib.hid Hv2
  clear hb8 hbb hr8 hrb hrs hrl hn0 hn1 hN hA2 hRd hSs Hv0 Hv1 Hv2 hk
  have hscan := Lib.hid (scanL_spec Hb8.out)
  have hfew := scan_few Hb8.out
  rw [Hn0.out] at hfew
  obtain ⟨s, hs⟩ : ∃ s, s = (scanL b).2.1 := ⟨_, rfl⟩
  have hsn : s ≤ n0 := by rw [hs, ← Hn0.out]; exact hscan.out.2.1
  have Hs := Lib.hid hs
  obtain ⟨W, hW⟩ : ∃ W, W = (scanL b).1 := ⟨_, rfl⟩
  have HW := Lib.hid hW
  obtain ⟨L, hL⟩ : ∃ L, L = W.length := ⟨_, rfl⟩
  rw [← hW, ← hL] at hfew
  have HL := Lib.hid hL
  have HW2 := Lib.hid (show ∀ q ∈ W, q.length ≤ 2000 ∧ ∀ x ∈ q, x < 256 by rw [hW]; exact hscan.out.2.2.2.2)
  clear hs hW hL
  go_enter Try.func5, Try.ntmps5
  go_wp2_with fail
  refine (add_any _ _ _ [] [] (SlB.nil _ _) (SlB.nil _ _) (by simp) (by simp) (by simp)).mono ?_
  rintro e w1 ⟨v1, m1, rfl, hown1, hb1⟩
  rw [add6.1]
  have hn1 := hown1.1
  rw [List.length_map, add6.2] at hn1
  obtain rfl : m1 = 6 := by omega
  obtain ⟨A3, c3, rfl, _, _, _⟩ := own_rd hown1
  clear hown1 hn1
  go_wp2_with fail
  -- Records
  have HR := Lib.hid (records_any w1 _ b ((HV0.out.below hb1).more hb1.size) (by rw [Hn0.out]; exact hbl) Hb8.out)
  refine HR.out.mono ?_
  rintro e w2 ⟨v2, vs2, rfl, hown2, hs2, hb2⟩
  clear HR
  rw [← HW.out] at hs2
  rw [← Hs.out]
  have hl2 : vs2.length = L := by rw [hs2.1, HL.out]
  rw [hl2] at hown2
  obtain ⟨A4, c4, rfl, _, _, _⟩ := own_rd hown2
  have Hwant := Lib.hid (SlSs.own hown2 hs2)
  have hb12 := hb1.trans (hb2.mono hb1.size)
  clear hown2 hs2 hl2
  go_wp2_with fail
  -- Read
  have HR := Lib.hid (read_any w2 _ b ((HV0.out.below hb12).more hb12.size) (by rw [Hn0.out]; exact hbl) Hb8.out)
  refine HR.out.mono ?_
  rintro e w3 ⟨v3, vs3, rfl, hown3, hob3, hb3⟩
  clear HR
  rw [← HW.out] at hob3
  rw [← Hs.out]
  have hl3 : vs3.length = L := by rw [hob3.1, HL.out]
  rw [hl3] at hown3
  obtain ⟨A5, c5, rfl, _, _, _⟩ := own_rd hown3
  have hrows := fun (q : List Nat) (hq : q ∈ W) => Nat.le_trans (HW2.out q hq).1 (show 2000 ≤ 140737488355328 by omega)
  have HE := Lib.hid (equal_rows w3 (.slice A5 L c5) (.slice A4 L c4) w3.heap.size W W (SlSs.own hown3 hob3.reads) ((Hwant.out.below hb3).more hb3.size) hrows hrows (by rw [← HL.out]; omega) (by rw [← HL.out]; omega))
  have hb13 := hb12.trans (hb3.mono hb12.size)
  clear hown3 hob3 hl3 hrows
  go_wp2_with fail
  refine HE.out.mono ?_
  rintro e w4 ⟨he, q4, rfl⟩
  clear HE
  obtain rfl : e = .returned (.bool true) := he.trans (ret_bool (by simp))
  have hb14 := below_drewN hb13 q4
  have hbw4 : Below w2.heap.size w2 (w3.drewN q4) := below_drewN hb3 q4
  obtain ⟨w4, hw4⟩ : ∃ w4, w4 = w3.drewN q4 := ⟨_, rfl⟩
  rw [← hw4] at hb14 hbw4 ⊢
  clear hw4
  -- Whole
  have HR := Lib.hid (whole_any w4 _ b ((HV0.out.below hb14).more hb14.size) (by rw [Hn0.out]; exact hbl) Hb8.out)
  go_wp2_with fail
  refine HR.out.mono ?_
  rintro e w5 ⟨he, hb5⟩
  clear HR
  have hq5 : decide ((scanL b).2.1 = b.length) = ((s : Int) == (n0 : Int)) := by rw [← Hs.out, Hn0.out]; by_cases h : s = n0 <;> simp [h] <;> omega
  obtain rfl : e = .returned (.bool ((s : Int) == (n0 : Int))) := he.trans (ret_bool hq5)
  clear hq5
  have hb15 := hb14.trans (hb5.mono hb14.size)
  have hbw5 : Below w2.heap.size w2 w5 := hbw4.trans (hb5.mono hbw4.size)
  -- Add
  have HR := Lib.hid (add_any w5 _ _ b r ((HV0.out.below hb15).more hb15.size) ((HV1.out.below hb15).more hb15.size) (by rw [Hn0.out]; exact hbl) Hb8.out Hr8.out)
  go_wp2_with fail
  refine HR.out.mono ?_
  rintro e w6 ⟨v6, n6, rfl, hown6, hb6⟩
  clear HR
  have hb16 := hb15.trans (hb6.mono hb15.size)
  have hbw6 : Below w2.heap.size w2 w6 := hbw5.trans (hb6.mono hbw5.size)
  by_cases h2000 : 2000 < n1
  · have hE : addE b r = 2 := by unfold addE; rw [if_pos (by rw [Hn1.out]; exact h2000)]
    have hB : addB b r = [] := by unfold addB; rw [if_neg (by rw [hE]; omega)]
    rw [hE]
    rw [hB] at hown6
    have hn6 := hown6.1
    simp at hn6
    subst hn6
    obtain ⟨A6, c6, rfl, _, _, _⟩ := own_rd hown6
    have h2000' : (2000 : Int) < (n1 : Int) := by omega
    clear hown6 hE hB
    go_wp2_with fail
    go_ret
    exact ⟨rfl, hb16⟩
  have h2000' : ¬ (2000 : Int) < (n1 : Int) := by omega
  by_cases hfull : 100000 < s + 6 + n1
  · have hE : addE b r = 6 := by unfold addE; rw [if_neg (by rw [Hn1.out]; exact h2000), if_pos (by rw [Hn1.out, ← Hs.out]; exact hfull)]
    have hB : addB b r = [] := by unfold addB; rw [if_neg (by rw [hE]; omega)]
    rw [hE]
    rw [hB] at hown6
    have hn6 := hown6.1
    simp at hn6
    subst hn6
    obtain ⟨A6, c6, rfl, _, _, _⟩ := own_rd hown6
    have hfull' : (100000 : Int) < (s : Int) + 6 + (n1 : Int) := by omega
    clear hown6 hE hB
    go_wp2_with fail
    go_ret
    exact ⟨rfl, hb16⟩
  have hfull' : ¬ (100000 : Int) < (s : Int) + 6 + (n1 : Int) := by omega
  have hE : addE b r = 0 := by unfold addE; rw [if_neg (by rw [Hn1.out]; exact h2000), if_neg (by rw [Hn1.out, ← Hs.out]; exact hfull)]
  have hB := addB_book Hb8.out hE
  rw [← HW.out] at hB
  rw [hE]
  obtain ⟨K, hK⟩ : ∃ K, K = addB b r := ⟨_, rfl⟩
  have hKl : K.length ≤ 100000 := by rw [hK, addB_len hE Hb8.out, ← Hs.out, Hn1.out]; omega
  have hK6 := book_six 0 (W ++ [r])
  rw [← hB, ← hK] at hK6
  simp only [List.length_append, List.length_singleton, ← HL.out] at hK6
  have hL2 : L ≤ 16666 := by omega
  rw [← hK] at hown6 hB
  have hn6 : n6 ≤ 100000 := by have := hown6.1; simp at this; omega
  obtain ⟨A6, c6, rfl, _, _, _⟩ := own_rd hown6
  have HK6 := Lib.hid (SlB.own (r := K) hown6)
  have HKl := Lib.hid hKl
  have HB := Lib.hid hB
  clear hown6 hE hB hK hKl hK6
  have HC := Lib.hid (clone_rows w6 (.slice A4 L c4) W ((Hwant.out.below hbw6).more hbw6.size) (by rw [← HL.out]; omega))
  go_wp2_with fail
  refine HC.out.mono ?_
  rintro e w7 ⟨v7, vs7, rfl, hown7, hs7, hb7⟩
  clear HC
  rw [← HL.out] at hown7
  obtain ⟨A7, c7, rfl, _, _, _⟩ := own_rd hown7
  have Hs7 := Lib.hid hs7
  have hb17 := hb16.trans (hb7.mono hb16.size)
  obtain ⟨j0, hj, hy0, hy1, hy2⟩ := info_parts info_bytes
  clear hs7
  go_wp2_with (at_builtin; refine wpList_pushW (by rfl) (.tmp 97) (.tmp 99) 31 rfl w6.heap.size 26 j0 (.slice none 0 0) 1 24 Try.underlying31 hj hy0 hy1 hy2 rfl (by omega) _ _ _ rfl hown7 [_] rfl rfl (by simp [Value.oneCell']) (by unfold maxLen; omega) (by omega) hb7.size ?_; intro v8 w8 hown8 hb8 _; obtain ⟨A8, c8, rfl, _, _, _⟩ := own_rd hown8)
  have hb68 := hb7.trans hb8
  have hb18 := hb16.trans (hb68.mono hb16.size)
  have hs8 : SlsB w8 w8.heap.size (vs7 ++ [.slice A1 n1 c1]) (W ++ [r]) := ((Hs7.out.below hb8).more hb68.size).snoc ((HV1.out.below hb18).more hb18.size)
  have HBk := Lib.hid (book_any w8 _ (W ++ [r]) (SlSs.own hown8 hs8) (by simp [← HL.out]; omega) (by
    intro q hq
    simp only [List.mem_append, List.mem_singleton] at hq
    rcases hq with hq | rfl
    · exact HW2.out q hq
    · exact ⟨by rw [Hn1.out]; omega, Hr8.out⟩))
  clear hown7 hown8 hs8 Hs7
  go_wp2_with fail
  refine HBk.out.mono ?_
  rintro e w9 ⟨v9, rfl, hs9, hb9⟩
  clear HBk
  rw [← HB.out] at hs9
  have hb19 := hb18.trans (hb9.mono hb18.size)
  have hb69 := hb68.trans (hb9.mono hb68.size)
  have HE := Lib.hid (equal_bytes w9 (.slice A6 n6 c6) v9 w9.heap.size K K ((HK6.out.below hb69).more hb69.size) hs9 (Nat.le_trans HKl.out (by omega)) (Nat.le_trans HKl.out (by omega)))
  clear hs9
  go_wp2_with fail
  refine HE.out.mono ?_
  rintro e w10 ⟨he, q10, rfl⟩
  clear HE
  obtain rfl : e = .returned (.bool true) := he.trans (ret_bool (by simp))
  have hb110 := below_drewN hb19 q10
  obtain ⟨w10, hw10⟩ : ∃ w10, w10 = w9.drewN q10 := ⟨_, rfl⟩
  rw [← hw10] at hb110 ⊢
  clear hw10
  -- All
  have HA := Lib.hid (all_any w10 _ rs ((HV2.out.below hb110).more hb110.size) (by rw [HN.out]; exact hNl) fun q hq => (Hrs.out q hq).1)
  go_wp2_with fail
  refine HA.out.mono ?_
  rintro e w11 ⟨v11, n11, rfl, hown11, hb11⟩
  clear HA
  have hb111 := hb110.trans (hb11.mono hb110.size)
  obtain ⟨X, hX⟩ : ∃ X, X = (allF [] rs).2 := ⟨_, rfl⟩
  rw [← hX]
  have HX := Lib.hid hX
  obtain ⟨A11, c11, rfl, _, _, _⟩ := own_rd hown11
  have Hown11 := Lib.hid hown11
  have HRd11 := Lib.hid (HRd.out.below hb111)
  clear hown11 hX hb13 hb14 hb15 hb16 hb17 hb18 hb19 hb12 hbw4 hbw5 hbw6 hb68 hb69 hb110
  go_wp2_with fail
  go_loop [17, 18, 112] (fun a f i => TellRel rs N a f i) (fun _ _ i => N - (intOf i).toNat)
  case atStart => exact ⟨0, 0, 0, Nat.zero_le _, rfl, rfl, rfl, Nat.le_refl _, Lib.hid rfl⟩
  case round =>
    obtain ⟨k, p, q, hk, rfl, rfl, rfl, hp, Hf⟩ := hrel
    by_cases hlt : k < N
    · obtain ⟨bb, o, u, rfl, hbb, hu, hc⟩ := HRd11.out.at_ hlt
      have hrk : rs[k]? = some (rs[k]'(by have := HN.out; omega)) := List.getElem?_eq_getElem _
      obtain ⟨t, ht⟩ : ∃ t, t = rs[k]'(by have := HN.out; omega) := ⟨_, rfl⟩
      rw [← ht] at hrk
      obtain ⟨A', m, c', rfl, h1, _, _, _⟩ := HSs.out.2 k u t hu hrk
      have hm : m ≤ 1048576 := by rw [← h1]; exact (Hrs.out t (List.mem_of_getElem? hrk)).2
      have hS := tell_next Hf.out hrk
      have Hm := Lib.hid h1
      have HS := Lib.hid hS
      clear ht hrk hu h1 hS
      by_cases hq0 : q = 0
      · subst hq0
        by_cases h2 : 2000 < m
        · have h2' : (2000 : Int) < (m : Int) := by omega
          go_wp2_with fail
          go_round
          case rel => exact ⟨k + 1, p + (6 + m), 2, by omega, by go_num, by go_num, rfl, by omega, Lib.hid (by rw [HS.out]; simp [tell1, Hm.out, h2])⟩
          case measure => simp [intOf]; omega
        · have h2' : ¬ (2000 : Int) < (m : Int) := by omega
          by_cases h3 : 100000 < p + (6 + m)
          · have h3' : (100000 : Int) < (p : Int) + (6 + (m : Int)) := by omega
            go_wp2_with fail
            go_round
            case rel => exact ⟨k + 1, p + (6 + m), 6, by omega, by go_num, by go_num, rfl, by omega, Lib.hid (by rw [HS.out]; simp [tell1, Hm.out, h2, h3])⟩
            case measure => simp [intOf]; omega
          · have h3' : ¬ (100000 : Int) < (p : Int) + (6 + (m : Int)) := by omega
            go_wp2_with fail
            go_round
            case rel => exact ⟨k + 1, p + (6 + m), 0, by omega, by go_num, by go_num, rfl, by omega, Lib.hid (by rw [HS.out]; simp [tell1, Hm.out, h2, h3])⟩
            case measure => simp [intOf]; omega
      · have hq0' : ¬ (q : Int) = 0 := by omega
        have hqb : ((q : Int) == 0) = false := by simp; omega
        go_wp2_with fail
        go_round
        case rel => exact ⟨k + 1, p + (6 + m), q, by omega, by go_num, by go_num, rfl, by omega, Lib.hid (by rw [HS.out]; simp [tell1, Hm.out, hq0])⟩
        case measure => simp [intOf]; omega
    · obtain rfl : k = N := by omega
      have hqX : q = X := by
        have h1 := tell_law rs [] (by simp) (fun t ht => (Hrs.out t ht).1)
        have h2 := Hf.out
        rw [List.take_of_length_le (by rw [HN.out]; omega)] at h2
        rw [show (bookF 0 ([] : List (List Nat))) = [] from rfl, List.length_nil, h2] at h1
        rw [HX.out]
        exact h1
      subst hqX
      by_cases hq0 : q = 0
      · subst hq0
        obtain ⟨h1, h2, h3, h4⟩ := allF_few (fun t ht => (Hrs.out t ht).1) HX.out.symm
        have hown := Hown11.out
        rw [h1] at hown
        have hn11 : n11 ≤ 100000 := by have := hown.1; simp at this; omega
        have Hd := Lib.hid (SlB.own (r := bookF 0 rs) hown)
        have HBk := Lib.hid (book_any w11 _ rs ((HV2.out.below hb111).more hb111.size) (by omega) h4)
        have H3 := Lib.hid h3
        clear h1 h2 h3 h4 hown
        go_wp2_with fail
        refine HBk.out.mono ?_
        rintro e w12 ⟨v12, rfl, hs12, hb12⟩
        clear HBk
        have HE := Lib.hid (equal_bytes w12 (.slice A11 n11 c11) v12 w12.heap.size _ _ ((Hd.out.below hb12).more hb12.size) hs12 (Nat.le_trans H3.out (by omega)) (Nat.le_trans H3.out (by omega)))
        clear hs12
        go_wp2_with fail
        refine HE.out.mono ?_
        rintro e w13 ⟨he, q13, rfl⟩
        clear HE
        obtain rfl : e = .returned (.bool true) := he.trans (ret_bool (by simp))
        have hb112 := below_drewN (hb111.trans (hb12.mono hb111.size)) q13
        go_wp2_with fail
        go_ret
        exact ⟨rfl, hb112⟩
      · have hq0' : ¬ (q : Int) = 0 := by omega
        have hqb : ((q : Int) == 0) = false := by simp; omega
        have h1 := allF_nil rs [] (by rw [← HX.out]; exact hq0)
        have hown := Hown11.out
        rw [h1] at hown
        have hn11 := hown.1
        simp at hn11
        subst hn11
        clear h1 hown
        go_wp2_with fail
        go_ret
        exact ⟨rfl, hb111⟩
end Go.Proofs.Ytbeemdlgjiclcaa.logTells
