/- LogCut's walk: it returns true. Conditions: the reach. -/
import Derived.Test.YtbeemdlgjiclcaaLogGoesWalk
import Derived.Test.YtbeemdlgjiclcaaRowsEq
import Derived.Test.YtbeemdlgjiclcaaCutPlain
namespace Go.Proofs.Ytbeemdlgjiclcaa
open Go.RowKit Go.Gy
set_option linter.unusedVariables false
section
variable {P : Program} {ops : Array Oper} {rest : List Oper} {o : Oper} {a : Act} {w : World} {Q : Exit → Act → World → Prop}
theorem wpList_slice_toG (hw : Region.wanted o (yielded ops a.tmps) = true) (t : TypeId) (s x : Operand) (ho : o.op = .slice t s none (some x) none) (A : Option Addr) (N C k : Nat) (hs : a.eval s = .slice A N C) (hx : a.eval x = .int .i64 (k : Int))
    (hu : P.underlying t = some (.slice (P.elem t))) (hr : ∀ w, (Instr.slice t (.slice A N C) none (some (.int .i64 (k : Int))) none).run P w = .ok (.slice A k C) w)
    (h : wpList P ops Q rest (a.put o.dst (.slice A k C)) w) : wpList P ops Q (o :: rest) a w :=
  wpList_step fun _ hK => by
    rw [if_pos hw]
    unfold Oper.wp execOp
    simp only [ho, hs, hx, Option.map_none, Option.map_some, run_sliceAt_slice w t _ _ _ _ hu, hr, Sem.run_bind, Sem.run_pure, Result.andThen_ok]
    exact hK _ _ h
end
theorem posn_succ : ∀ (T : List (List Nat)) (k : Nat) (r : List Nat), T[k]? = some r → posn T (k + 1) = posn T k + (6 + r.length)
  | [], k, r, h => by simp at h
  | q :: T, 0, r, h => by
    have h' : q = r := by simpa using h
    subst h'
    cases T <;> simp [posn]
  | q :: T, k + 1, r, h => by
    have := posn_succ T k r (by simpa using h)
    simp only [posn] at this ⊢
    omega
theorem posn_le : ∀ (T : List (List Nat)), (∀ r ∈ T, r.length ≤ 2000) → ∀ k, posn T k ≤ k * 2006
  | [], _, k => by simp [posn]
  | q :: T, _, 0 => by simp [posn]
  | q :: T, h, k + 1 => by
    have h1 := posn_le T (fun r hr => h r (by simp [hr])) k
    have h2 := h q (by simp)
    simp only [posn]
    omega
def AtRel (T : List (List Nat)) (K q : Nat) (a i : Value) : Prop := ∃ k : Nat, k ≤ K ∧ i = .int .i64 k ∧ a = .int .i64 (posn T k) ∧ Hid (∀ j, j < k → q ≠ posn T j ∧ q ≠ posn T j + 1)
theorem scan_nil : scanL [] = ([], 0, 0) := scanF_none (by unfold oneRec; rw [if_pos (by simp)])
theorem scan_two : scanL [0, 0] = ([], 0, 0) := scanF_none (by unfold oneRec; rw [if_pos (by simp)])
theorem scan_cut {T : List (List Nat)} (h : ∀ r ∈ T, r.length ≤ 2000 ∧ ∀ x ∈ r, x < 256) (k : Nat) : ∃ j, j ≤ T.length ∧ (scanL ((bookF 0 T).take k)).1 = T.take j ∧ (scanL ((bookF 0 T).take k)).2.1 ≤ k := by
  obtain ⟨j, h1, h2⟩ := cut_law T 0 (((bookF 0 T).take k).length + 1) k fun r hr => (h r hr).1
  refine ⟨j, h1, h2, ?_⟩
  have h3 := (scanL_spec (b := (bookF 0 T).take k) fun x hx => bookF_lt 0 T (fun r hr => (h r hr).2) x (List.mem_of_mem_take hx)).2.1
  rw [List.length_take] at h3
  omega
theorem scan_flip {T : List (List Nat)} (h : ∀ r ∈ T, r.length ≤ 2000 ∧ ∀ x ∈ r, x < 256) {k z y : Nat} (hz : (bookF 0 T)[k]? = some z) (hy : y < 256) (hne : z ≠ y) (hp : ∀ j, j < T.length → k ≠ posn T j ∧ k ≠ posn T j + 1) :
    ∃ j, j < T.length ∧ (scanL ((bookF 0 T).set k y)).1 = T.take j ∧ (scanL ((bookF 0 T).set k y)).2.1 ≤ k := by
  have hz8 := bookF_lt 0 T (fun r hr => (h r hr).2) z (List.mem_of_getElem? hz)
  obtain ⟨⟨j, h1, h2⟩, h3⟩ := flip_law T 0 (((bookF 0 T).set k y).length + 1) k z y h hz hz8 hy hne hp
  exact ⟨j, h1, h2, h3⟩
theorem all_long {T : List (List Nat)} (h8 : ∀ r ∈ T, ∀ x ∈ r, x < 256) (hl : T.length ≤ 20) (hE : (allF [] T).2 ≠ 0) : ∃ r ∈ T, 2000 < r.length := by
  refine Classical.byContradiction fun hn => hE ?_
  have hT : ∀ r ∈ T, r.length ≤ 2000 := fun r hr => Nat.le_of_not_lt fun h => hn ⟨r, hr, h⟩
  have hb := book_len 0 T hT
  have := all_fits T [] (by simp) (fun r hr => ⟨hT r hr, h8 r hr⟩) (by rw [List.nil_append]; omega)
  exact (congrArg Prod.snd (show allF [] T = _ from this))
theorem own_set {w : World} {g n q x cap : Nat} {cur : Array Value} {b : List Nat} (hB : Blk w g 5 cur) (htk : cur.toList.take (n * 1) = b.map bv) (hl : b.length = n) (hq : q < n) (hnc : n ≤ cap) :
    SlB (w.setCell ⟨g, q, none⟩ (.int .u8 (x : Int))) (w.setCell ⟨g, q, none⟩ (.int .u8 (x : Int))).heap.size (.slice (some ⟨g, 0, none⟩) n cap) (b.set q x) := by
  have hB' := hB.set q (.int .u8 (x : Int))
  have hcl : n ≤ cur.size := by
    have := congrArg List.length htk
    simp at this
    omega
  refine ⟨_, n, cap, rfl, by rw [List.length_set, hl], hnc, (fun h => by cases h), ⟨by simp [hl], fun _ => ⟨g, 0, rfl, hB'.lt, fun j u hu => ?_⟩⟩⟩
  rw [Nat.zero_add]
  refine hB'.cell j u ?_
  rw [List.getElem?_map, List.getElem?_set] at hu
  rw [Array.getElem?_setIfInBounds]
  by_cases hj : q = j
  · subst hj
    rw [if_pos rfl, if_pos (by omega)] at hu
    rw [if_pos rfl, if_pos (by omega)]
    exact hu
  · rw [if_neg hj] at hu
    rw [if_neg hj]
    have h1 : (cur.toList.take (n * 1))[j]? = some u := by rw [htk, List.getElem?_map]; exact hu
    rw [List.getElem?_take] at h1
    split at h1
    · simpa using h1
    · cases h1
end Go.Proofs.Ytbeemdlgjiclcaa
namespace Go.Proofs.Ytbeemdlgjiclcaa.logCut
open Go.RowKit Go.Gy
set_option linter.unusedVariables false
set_option maxRecDepth 100000 in
set_option maxHeartbeats 4000000 in
theorem walk (v0 : Value) (n : Int) (y : Int) (w : World) {b0 : Nat} (f0 : RowsArg w v0 b0) (w1 : wfI .i64 n) (w2 : wfI .u8 y) :
    Calls Try.prog 6 #[v0, .int .i64 n, .int .u8 y] w fun e w' => e = .returned (.bool true) ∧ Below w.heap.size w w' := by
  obtain ⟨rs, ⟨A, N, C, vs, rfl, hN, hNC, hA, hr, hs⟩, h8, _, _⟩ := f0
  obtain ⟨K, hK⟩ : ∃ K, K = min N 20 := ⟨_, rfl⟩
  have hK1 : K ≤ N := by omega
  have hK2 : K ≤ 20 := by omega
  have hmin : min (N : Int) 20 = (K : Int) := by omega
  have hto := rows_to A N C K (by omega)
  have hKC : K ≤ C := by omega
  obtain ⟨T, hT⟩ : ∃ T, T = rs.take K := ⟨_, rfl⟩
  have hTK := Lib.hid (show T.length = K by rw [hT, List.length_take]; omega)
  have Hr0 := Lib.hid (show Rd w w.heap.size 1 A K (vs.take K) by simpa using hr.take (k := K) hK1)
  have Hs0 := Lib.hid (show SlsB w w.heap.size (vs.take K) T by rw [hT]; exact hs.take K)
  have HA0 := Lib.hid hA
  have Hv0 := Lib.hid (show SlSs w w.heap.size (.slice A K C) T from ⟨A, K, C, vs.take K, rfl, hTK.out, hKC, hA, Hr0.out, Hs0.out⟩)
  have hT8 := Lib.hid (show ∀ r ∈ T, ∀ x ∈ r, x < 256 from fun r hx => (h8 r (List.mem_of_mem_take (by rw [hT] at hx; exact hx))).1)
  have Hy := Lib.hid (wf_u8 w2)
  clear hN hA hr hs h8 hK hT hNC w2
  have hu31 := Lib.hid (show Try.prog.underlying 31 = some (.slice (Try.prog.elem 31)) by kernel_rfl)
  have hu26 := Lib.hid (show Try.prog.underlying 26 = some (.slice (Try.prog.elem 26)) by kernel_rfl)
  go_enter Try.func6, Try.ntmps6
  go_wp2_with fail
  have hz0 : ∀ X, Below w.heap.size w (w.alloc X) := fun X => (Below.refl _ _).alloc (Nat.le_refl _) _
  refine (read_any _ _ [0, 0] ⟨_, 2, 2, rfl, rfl, Nat.le_refl _, (fun h => by cases h), ?_⟩ (by simp) (by simp)).mono ?_
  · have h1 := Rd.lit w 5 [.int .u8 0, .int .u8 0] 1 2 rfl
    simpa [bv] using h1
  rintro e w1 ⟨v1, vs1, rfl, hown1, hob1, hb1⟩
  have hb1 := (hz0 _).trans (hb1.mono (by simp))
  rw [scan_two] at hob1 ⊢
  have hn1 : vs1.length = 0 := hob1.1
  rw [hn1] at hown1
  obtain ⟨A1, c1, rfl, _, _, _⟩ := own_rd hown1
  clear hown1 hob1 hn1
  go_wp2_with fail
  refine (whole_any w1 _ [] ⟨none, 0, 0, rfl, rfl, Nat.le_refl _, fun _ => rfl, ⟨rfl, fun h => by omega⟩⟩ (by simp) (by simp)).mono ?_
  rintro e w2 ⟨he, hb2⟩
  obtain rfl : e = .returned (.bool true) := he.trans (ret_bool (by rw [scan_nil]; simp))
  have hb2 := hb1.trans (hb2.mono hb1.size)
  have HA1 := Lib.hid (all_any w2 (.slice A K C) T ((Hv0.out.below hb2).more hb2.size) (by rw [hTK.out]; omega) hT8.out)
  go_wp2_with (first
    | (refine wpList_min2 rfl (.tmp 36) (.const (.int .i64 20)) _ rfl N 20 rfl rfl K hmin ?_)
    | (refine wpList_slice_to rfl 31 (.tmp 34) (.tmp 37) rfl A N C K rfl rfl hu31.out hto ?_))
  refine HA1.out.mono ?_
  rintro e w3 ⟨v3, n3, rfl, hown3, hb3⟩
  clear HA1
  have hb3 := hb2.trans (hb3.mono hb2.size)
  by_cases hE : (allF [] T).2 = 0
  · rw [hE]
    obtain ⟨hb', hrl, _⟩ := all_book T [] (by simp) hT8.out hE
    obtain ⟨b, hbd⟩ : ∃ b, b = (allF [] T).1 := ⟨_, rfl⟩
    rw [← hbd] at hown3
    have hbk : b = bookF 0 T := hbd.trans hb'
    have hTT := Lib.hid (show ∀ r ∈ T, r.length ≤ 2000 ∧ ∀ x ∈ r, x < 256 from fun r hr => ⟨hrl r hr, hT8.out r hr⟩)
    have hb8 := Lib.hid (show ∀ x ∈ b, x < 256 by rw [hbk]; exact bookF_lt 0 T hT8.out)
    have hbl := Lib.hid (show b.length ≤ 40120 by rw [hbk]; have := book_len 0 T hrl; have := hTK.out; omega)
    have hsc := Lib.hid (show scanL b = (T, b.length, lastF 0 T) by rw [hbk]; exact scan_book hTT.out)
    have Hbk := Lib.hid hbk
    have hn3 : b.length = n3 := by have := hown3.1; simpa using this
    have Hn3 := Lib.hid hn3
    obtain ⟨A3, c3, rfl, hc3, _, hr3⟩ := own_rd hown3
    have hA3 := fun h => (own_none hown3 h).2
    have hn3' : n3 ≤ 40120 := by rw [← hn3]; exact hbl.out
    have Hb3 := Lib.hid (SlB.own (r := b) hown3)
    have Hr3 := Lib.hid hr3
    have HA3 := Lib.hid hA3
    clear hown3 hE hbd hbk hb' hrl hn3 hr3 hA3
    -- Read, Whole, EqualFunc of the whole log
    have HR := Lib.hid (read_any w3 _ b Hb3.out (Nat.le_trans hbl.out (by omega)) hb8.out)
    go_wp2_with fail
    refine HR.out.mono ?_
    rintro e w4 ⟨v4, vs4, rfl, hown4, hob4, hb4⟩
    clear HR
    rw [hsc.out] at hob4 ⊢
    have hl4 : vs4.length = K := hob4.1.trans hTK.out
    rw [hl4] at hown4
    obtain ⟨A4, c4, rfl, _, _, _⟩ := own_rd hown4
    have Hown4 := Lib.hid hown4
    have Hob4 := Lib.hid hob4
    have hb34 := hb3.trans (hb4.mono hb3.size)
    clear hown4 hob4 hl4
    rw [Hn3.out]
    have HW := Lib.hid (whole_any w4 _ b ((Hb3.out.below hb4).more hb4.size) (Nat.le_trans hbl.out (by omega)) hb8.out)
    go_wp2_with fail
    refine HW.out.mono ?_
    rintro e w5 ⟨he, hb5⟩
    clear HW
    obtain rfl : e = .returned (.bool true) := he.trans (ret_bool (by rw [hsc.out]; simp))
    have hb35 := hb34.trans (hb5.mono hb34.size)
    have hrows := fun (r : List Nat) (hr : r ∈ T) => Nat.le_trans (hTT.out r hr).1 (show 2000 ≤ 140737488355328 by omega)
    have HE := Lib.hid (equal_rows w5 (.slice A4 K c4) (.slice A K C) w5.heap.size T T (SlSs.own (own_below Hown4.out hb5 (Nat.le_refl _)) (Hob4.out.below hb5 (Nat.le_refl _)).reads) ((Hv0.out.below hb35).more hb35.size) hrows hrows (by rw [hTK.out]; omega) (by rw [hTK.out]; omega))
    have Hrows := Lib.hid hrows
    clear Hown4 Hob4 hrows
    go_wp2_with fail
    refine HE.out.mono ?_
    rintro e w6 ⟨he, q6, rfl⟩
    clear HE
    obtain rfl : e = .returned (.bool true) := he.trans (ret_bool (by simp))
    have hb36 := below_drewN hb35 q6
    have hbb36 : Below w3.heap.size w3 (w5.drewN q6) := below_drewN (hb4.trans (hb5.mono hb4.size)) q6
    obtain ⟨w6, hw6⟩ : ∃ w6, w6 = w5.drewN q6 := ⟨_, rfl⟩
    rw [← hw6] at hb36 hbb36 ⊢
    clear hw6
    -- the cut
    obtain ⟨q, hq⟩ : ∃ q : Nat, n % ((n3 : Int) + 1) = (q : Int) := ⟨(n % ((n3 : Int) + 1)).toNat, by have := Int.emod_nonneg n (show (n3 : Int) + 1 ≠ 0 by omega); omega⟩
    have hq3 : q ≤ n3 := by have := Int.emod_lt_of_pos n (show (0 : Int) < (n3 : Int) + 1 by omega); omega
    have hto3 := bytes_to A3 n3 c3 q (by omega)
    have HBel := Lib.hid (fun w => below_any n ((n3 : Int) + 1) w (by omega) (by omega))
    obtain ⟨cut, hcut⟩ : ∃ cut, cut = b.take q := ⟨_, rfl⟩
    have hc8 := Lib.hid (show ∀ x ∈ cut, x < 256 from fun x hx => hb8.out x (List.mem_of_mem_take (by rw [hcut] at hx; exact hx)))
    have hcl := Lib.hid (show cut.length ≤ 40120 by rw [hcut, List.length_take]; have := hbl.out; omega)
    have Hcut := Lib.hid (show SlB w3 w3.heap.size (.slice A3 q c3) cut from ⟨A3, q, c3, rfl, by rw [hcut, List.length_take, Hn3.out]; omega, by omega, HA3.out, by have := Hr3.out.take (k := q) hq3; rw [hcut, ← List.map_take] at *; simpa using this⟩)
    obtain ⟨j, hj1, hj2, hj3⟩ := scan_cut hTT.out q
    rw [← Hbk.out, ← hcut] at hj2 hj3
    obtain ⟨k1, hk1⟩ : ∃ k, k = (scanL cut).2.1 := ⟨_, rfl⟩
    rw [← hk1] at hj3
    have hjK : j ≤ K := by rw [← hTK.out]; exact hj1
    have hjl : (T.take j).length = j := by rw [List.length_take]; omega
    have Hj2 := Lib.hid hj2
    have Hjl := Lib.hid hjl
    have Hk1 := Lib.hid hk1
    clear hj1 hj2 hjl hk1 hcut
    have HR := Lib.hid (read_any w6 _ cut ((Hcut.out.below hbb36).more hbb36.size) (Nat.le_trans hcl.out (by omega)) hc8.out)
    go_wp2_with (first
      | (go_at_call 31; refine (HBel.out _).mono ?_; rw [hq]; rintro e w3' ⟨rfl, rfl⟩)
      | (refine wpList_slice_to rfl 26 (.tmp 74) (.tmp 75) rfl A3 n3 c3 q rfl rfl hu26.out hto3 ?_))
    refine HR.out.mono ?_
    rintro e w7 ⟨v7, vs7, rfl, hown7, hob7, hb7⟩
    clear HR
    rw [← Hk1.out]
    rw [Hj2.out] at hob7
    have hl7 : vs7.length = j := hob7.1.trans Hjl.out
    rw [hl7] at hown7
    obtain ⟨A7, c7, rfl, _, _, _⟩ := own_rd hown7
    have hb37 := hb36.trans (hb7.mono hb36.size)
    have hbb37 : Below w3.heap.size w3 w7 := hbb36.trans (hb7.mono hbb36.size)
    have hrows := fun (r : List Nat) (hr : r ∈ T.take j) => Hrows.out r (List.mem_of_mem_take hr)
    have Hpre := Lib.hid (fun (i : Nat) (hi : i ≤ K) => show SlSs w w.heap.size (.slice A i C) (T.take i) from ⟨A, i, C, (vs.take K).take i, rfl, by rw [List.length_take, hTK.out]; omega, by omega, HA0.out, by simpa using Hr0.out.take (k := i) hi, Hs0.out.take i⟩)
    have HE := Lib.hid (equal_rows w7 (.slice A7 j c7) (.slice A j C) w7.heap.size (T.take j) (T.take j) (SlSs.own hown7 hob7.reads) (((Hpre.out j hjK).below hb37).more hb37.size) hrows hrows (by rw [Hjl.out]; omega) (by rw [Hjl.out]; omega))
    have htoj := rows_to A K C j (by omega)
    clear hown7 hob7 hl7 hrows
    go_wp2_with (refine wpList_slice_toG (by rfl) 31 (.tmp 92) (.tmp 94) rfl A K C j rfl rfl hu31.out htoj ?_)
    refine HE.out.mono ?_
    rintro e w8 ⟨he, q8, rfl⟩
    clear HE
    obtain rfl : e = .returned (.bool true) := he.trans (ret_bool (by simp))
    have hb38 := below_drewN hb37 q8
    have hbb38 := below_drewN hbb37 q8
    obtain ⟨w8, hw8⟩ : ∃ w8, w8 = w7.drewN q8 := ⟨_, rfl⟩
    rw [← hw8] at hb38 hbb38 ⊢
    clear hw8 hb37 hbb37 hb36 hbb36 hb35 hb34
    by_cases hqn : q = n3
    · have hqn' : (q : Int) = (n3 : Int) := by omega
      go_wp2_with fail
      go_ret
      exact ⟨rfl, hb38⟩
    · have hqn' : ¬ (q : Int) = (n3 : Int) := by omega
      by_cases hy0 : y = 0
      · subst hy0
        go_wp2_with fail
        go_ret
        exact ⟨rfl, hb38⟩
      · have hyb : (y == 0) = false := by simp [hy0]
        go_wp2_with fail
        go_loop [14, 109] (fun a i => AtRel T K q a i) (fun _ i => K - (intOf i).toNat)
        case atStart => exact ⟨0, Nat.zero_le _, rfl, by cases T <;> rfl, Lib.hid (fun j hj => by omega)⟩
        case round =>
          obtain ⟨k, hk, rfl, rfl, Hpos⟩ := hrel
          have hpl := posn_le T (fun r hr => (hTT.out r hr).1) k
          by_cases hlt : k < K
          · obtain ⟨bb, o, u, rfl, hbb, hu, hc⟩ := (Hr0.out.below hb38).at_ hlt
            have hTk : T[k]? = some (T[k]'(by have := hTK.out; omega)) := List.getElem?_eq_getElem _
            obtain ⟨r, hr0⟩ : ∃ r, r = T[k]'(by have := hTK.out; omega) := ⟨_, rfl⟩
            rw [← hr0] at hTk
            obtain ⟨A', m, c', rfl, h1, _, _, _⟩ := Hs0.out.2 k u r hu hTk
            have hp1 := posn_succ T k r hTk
            rw [h1] at hp1
            have hrm : m ≤ 2000 := by rw [← h1]; exact (hTT.out r (List.mem_of_getElem? hTk)).1
            obtain ⟨P, hP⟩ : ∃ P, P = posn T k := ⟨_, rfl⟩
            have HP := Lib.hid hP
            rw [← hP] at hp1 hpl ⊢
            have Hp1 := Lib.hid hp1
            clear hr0 hTk hu h1 hP hp1
            by_cases hq0 : q = P
            · have hq0' : (q : Int) = (P : Int) := by omega
              go_wp2_with fail
              go_ret
              exact ⟨rfl, hb38⟩
            · have hq0' : ¬ (q : Int) = (P : Int) := by omega
              by_cases hq1 : q = P + 1
              · have hq1' : (q : Int) = (P : Int) + 1 := by omega
                have hqb1 : ((q : Int) == (P : Int) + 1) = true := by simp; omega
                go_wp2_with fail
                go_ret
                exact ⟨rfl, hb38⟩
              · have hq1' : ¬ (q : Int) = (P : Int) + 1 := by omega
                have hqb0 : ((q : Int) == (P : Int)) = false := by simp; omega
                have hqb1 : ((q : Int) == (P : Int) + 1) = false := by simp; omega
                go_wp2_with fail
                go_round
                case rel =>
                  refine ⟨k + 1, by omega, by go_num, ?_, Lib.hid fun j hj => ?_⟩
                  · rw [Hp1.out]; congr 1
                  · rcases Nat.lt_or_ge j k with h | h
                    · exact Hpos.out j h
                    · obtain rfl : j = k := by omega
                      rw [← HP.out]; exact ⟨hq0, hq1⟩
                case measure => simp [intOf]; omega
          · obtain rfl : k = K := by omega
            -- a copy, one byte of it changed
            have HC := Lib.hid (clone_bytes w8 (.slice A3 n3 c3) b ((Hb3.out.below hbb38).more hbb38.size) (Nat.le_trans hbl.out (by omega)))
            go_wp2_with fail
            refine HC.out.mono ?_
            rintro e w9 ⟨v9, rfl, hown9, hb9⟩
            clear HC
            rw [Hn3.out] at hown9
            have hq9 : q < n3 := by omega
            obtain ⟨hl9, ⟨_, h0⟩ | ⟨g, cap, cur, rfl, hg9, hblk, hnc9, hcm9, hcs9, htk9⟩⟩ := hown9
            · omega
            have Hblk := Lib.hid (show Blk w9 g 5 cur from hblk)
            obtain ⟨z, hz⟩ : ∃ z, b[q]? = some z := ⟨b[q]'(by rw [Hn3.out]; exact hq9), List.getElem?_eq_getElem _⟩
            have hz8 := hb8.out z (List.mem_of_getElem? hz)
            have hcurq : cur[q]? = some (.int .u8 (z : Int)) := by
              have h1 : (cur.toList.take (n3 * 1))[q]? = some (bv z) := by rw [htk9, List.getElem?_map, hz]; rfl
              rw [List.getElem?_take, if_pos (by omega)] at h1
              simpa using h1
            have hc9 := Hblk.out.cell q _ hcurq
            have hf9 := Hblk.out.free q
            have hyN : y = ((y.toNat : Nat) : Int) := by have := Hy.out; omega
            have hy8 : y.toNat < 256 := by have := Hy.out; omega
            have hxor : bits .xor .u8 (z : Int) y = ((z ^^^ y.toNat : Nat) : Int) := by rw [hyN]; exact u8_xor_nat z y.toNat hz8 hy8
            obtain ⟨x, hx⟩ : ∃ x, x = z ^^^ y.toNat := ⟨_, rfl⟩
            have hx8 : x < 256 := by rw [hx]; exact Nat.xor_lt_two_pow (n := 8) hz8 hy8
            have hxz : z ≠ x := by
              intro h
              rw [hx] at h
              have h1 : z ^^^ 0 = z ^^^ y.toNat := by rw [Nat.xor_zero]; exact h
              have h2 := xor_cancel_left h1
              omega
            rw [← hx] at hxor
            have Hz := Lib.hid hz
            have Hx := Lib.hid hxz
            have Htk := Lib.hid htk9
            have Hl9 := Lib.hid hl9
            have hbw9 := hb38.trans (hb9.mono hb38.size)
            clear hblk hz hcurq hx hxz htk9 hl9 hyN hy8
            have HS := Lib.hid (own_set (x := x) Hblk.out Htk.out Hn3.out hq9 hnc9)
            obtain ⟨c, hcd⟩ : ∃ c, c = b.set q x := ⟨_, rfl⟩
            have hcl9 := Lib.hid (show c.length ≤ 40120 by rw [hcd, List.length_set]; exact hbl.out)
            have hc98 := Lib.hid (show ∀ t ∈ c, t < 256 by
              intro t ht
              rw [hcd] at ht
              rcases List.mem_or_eq_of_mem_set ht with h | h
              · exact hb8.out t h
              · rw [h]; exact hx8)
            obtain ⟨j2, hj21, hj22, hj23⟩ := scan_flip hTT.out (by rw [← Hbk.out]; exact Hz.out) hx8 Hx.out (fun i hi => Hpos.out i (by rw [hTK.out] at hi; exact hi))
            rw [← Hbk.out, ← hcd] at hj22 hj23
            rw [hTK.out] at hj21
            rw [← hcd] at HS
            obtain ⟨k2, hk2⟩ : ∃ k, k = (scanL c).2.1 := ⟨_, rfl⟩
            rw [← hk2] at hj23
            have hjl2 : (T.take j2).length = j2 := by rw [List.length_take, hTK.out]; omega
            have Hj22 := Lib.hid hj22
            have Hjl2 := Lib.hid hjl2
            have Hk2 := Lib.hid hk2
            have hgw : w.heap.size ≤ g := Nat.le_trans hb38.size hg9
            have hbwS := Lib.hid (fun u => show Below w.heap.size w (w9.setCell ⟨g, q, none⟩ u) from hbw9.setCell hgw u)
            clear hj22 hjl2 hk2 hcd
            go_wp2_with fail
            refine (read_any _ _ c HS.out (Nat.le_trans hcl9.out (by omega)) hc98.out).mono ?_
            rintro e w10 ⟨v10, vs10, rfl, hown10, hob10, hb10⟩
            rw [← Hk2.out]
            rw [Hj22.out] at hob10
            have hl10 : vs10.length = j2 := hob10.1.trans Hjl2.out
            rw [hl10] at hown10
            obtain ⟨A10, c10, rfl, _, _, _⟩ := own_rd hown10
            have hbw10 := (hbwS.out _).trans (hb10.mono (hbwS.out _).size)
            have hrows := fun (r : List Nat) (hr : r ∈ T.take j2) => Hrows.out r (List.mem_of_mem_take hr)
            have HE := Lib.hid (equal_rows w10 (.slice A10 j2 c10) (.slice A j2 C) w10.heap.size (T.take j2) (T.take j2) (SlSs.own hown10 hob10.reads) (((Hpre.out j2 (by omega)).below hbw10).more hbw10.size) hrows hrows (by rw [Hjl2.out]; omega) (by rw [Hjl2.out]; omega))
            have htoj2 := rows_to A k C j2 (by omega)
            clear hown10 hob10 hl10 hrows
            go_wp2_with (refine wpList_slice_toG (by rfl) 31 (.tmp 154) (.tmp 156) rfl A k C j2 rfl rfl hu31.out htoj2 ?_)
            refine HE.out.mono ?_
            rintro e w11 ⟨he, q11, rfl⟩
            clear HE
            obtain rfl : e = .returned (.bool true) := he.trans (ret_bool (by simp))
            have hbw11 := below_drewN hbw10 q11
            go_wp2_with fail
            go_ret
            exact ⟨rfl, hbw11⟩
  · have hne : ¬ (((allF [] T).2 : Nat) : Int) = 0 := by omega
    have HC := Lib.hid (contains_rows w3 (.slice A K C) w.heap.size T (Hv0.out.below hb3) (by rw [hTK.out]; omega) (all_long hT8.out (by rw [hTK.out]; exact hK2) hE))
    obtain ⟨x, hx⟩ : ∃ x, x = (allF [] T).2 := ⟨_, rfl⟩
    rw [← hx] at hne ⊢
    clear hx hE hown3
    go_wp2_with fail
    refine HC.out.mono ?_
    rintro e w4 ⟨rfl, rfl⟩
    clear HC
    go_wp2
    go_ret
    exact ⟨rfl, hb3⟩
end Go.Proofs.Ytbeemdlgjiclcaa.logCut
