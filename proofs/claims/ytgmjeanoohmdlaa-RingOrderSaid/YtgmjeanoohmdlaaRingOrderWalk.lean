/- RingOrder's walk: it returns true. Conditions: the reach. -/
import Derived.Test.YtgmjeanoohmdlaaRingToys
namespace Go.Proofs.Ytgmjeanoohmdlaa.ringOrder
open Go.RowKit Go.Gy
set_option linter.unusedVariables false
/-! [][]int{{1}, nil} -/
theorem ed1 {i k : Nat} (h : Ed [[1], []] i k) : i = 0 ∧ k = 1 := by
  obtain ⟨r, h1, h2⟩ := h
  match i with
  | 0 => simp at h1; subst h1; simp at h2; exact ⟨rfl, by omega⟩
  | 1 => simp at h1; subst h1; simp at h2
  | i + 2 => simp at h1
theorem reach1 (i : Nat) : false = true ↔ Reach [[1], []] i i := by
  constructor
  · intro h; cases h
  · intro h
    exfalso
    cases h with
    | one h => have := ed1 h; omega
    | more h1 h2 =>
      have h3 := ed1 h2
      have : ∀ k, Reach [[1], []] i k → i = 0 ∧ k = 1 := by
        intro k hk
        induction hk with
        | one h => exact ed1 h
        | more _ h ih => have := ed1 h; omega
      have := this _ h1
      omega
theorem good1 : GoodG [[1], []] := ⟨by simp, by intro r hr x hx; simp at hr; rcases hr with rfl | rfl <;> simp at hx; subst hx; simp, by simp⟩
theorem order1 (w : World) (v : Value) (hv : RowsI w w.heap.size v [[1], []]) : Calls Try.prog 14 #[v] w (OwnIE w [1, 0]) := by
  have h := order_good w v [[1], []] hv good1 (fun _ => false) reach1 rfl
  have e : orderN [[1], []] 2 = [1, 0] := by decide
  rw [show ([[1], []] : List (List Int)).length = 2 from rfl, e] at h
  exact h
theorem rows_two (w : World) : RowsI ((w.alloc (.cells #[.int .i64 1] 3)).alloc (.cells #[.slice (some ⟨w.heap.size, 0, none⟩) 1 1, .slice none 0 0] 22)) (w.heap.size + 2) (.slice (some ⟨w.heap.size + 1, 0, none⟩) 2 2) [[1], []] := by
  have h1 := Rd.lit w 3 [iv 1] 1 1 rfl
  have h2 := Rd.lit (w.alloc (.cells #[iv 1] 3)) 22 [.slice (some ⟨w.heap.size, 0, none⟩) 1 1, .slice none 0 0] 1 2 rfl
  rw [World.size_alloc] at h2
  refine ⟨_, 2, 2, [.slice (some ⟨w.heap.size, 0, none⟩) 1 1, .slice none 0 0], rfl, rfl, Nat.le_refl _, (fun h => by cases h), h2, rfl, fun i v r hv hr => ?_⟩
  match i with
  | 0 =>
    simp at hv hr
    subst hv hr
    exact ⟨_, 1, 1, rfl, rfl, Nat.le_refl _, (fun h => by cases h), (h1.alloc (by rw [World.size_alloc]; exact Nat.le_refl _) _).more (by omega)⟩
  | 1 =>
    simp at hv hr
    subst hv hr
    exact ⟨none, 0, 0, rfl, rfl, Nat.le_refl _, fun _ => rfl, Rd.nil⟩
  | i + 2 => simp at hv
set_option maxRecDepth 100000 in
set_option maxHeartbeats 4000000 in
theorem walk (n0 : Int) (v : Value) (w : World) {b0 : Nat} (w0 : wfI .i64 n0) (f1 : IntsArg w v b0) :
    Calls Try.prog 5 #[.int .i64 n0, v] w fun e w' => e = .returned (.bool true) ∧ Below w.heap.size w w' := by
  obtain ⟨l, hl, hi, _, hlb⟩ := f1
  have hlb' : l.length ≤ 140737488355328 := by unfold reachBytes at hlb; omega
  have Hl := Lib.hid hl
  have Hi := Lib.hid hi
  have HF0 := Lib.hid (order1 ((w.alloc (.cells #[.int .i64 1] 3)).alloc (.cells #[.slice (some ⟨w.heap.size, 0, none⟩) 1 1, .slice none 0 0] 22)) (.slice (some ⟨w.heap.size + 1, 0, none⟩) 2 2) (by
    have h := rows_two w
    rw [World.size_alloc, World.size_alloc]
    exact h))
  have hbA : Below w.heap.size w ((w.alloc (.cells #[.int .i64 1] 3)).alloc (.cells #[.slice (some ⟨w.heap.size, 0, none⟩) 1 1, .slice none 0 0] 22)) := ((Below.refl _ _).alloc (Nat.le_refl _) _).alloc (by simp) _
  have HbA := Lib.hid hbA
  clear hl hi w0 hlb hbA
  obtain ⟨A, n, c, rfl, _⟩ := id Hl.out
  go_enter Try.func5, Try.ntmps5
  go_wp2_with fail
  refine HF0.out.mono ?_
  rintro e w1 ⟨v1, rfl, hown1, hb1⟩
  have hb1' := HbA.out.trans (hb1.mono HbA.out.size)
  have hz1 := hb1'.size
  have S1 := SlI.own (r := [1, 0]) hown1
  have HE := Lib.hid (equal_ints (w1.alloc (.cells #[.int .i64 1, .int .i64 0] 3)) v1 (.slice (some ⟨w1.heap.size, 0, none⟩) 2 2) (w1.heap.size + 1) [1, 0] [1, 0] ((S1.below ((Below.refl _ _).alloc (Nat.le_refl _) _)).more (by omega)) ⟨_, 2, 2, rfl, rfl, Nat.le_refl _, (fun h => by cases h), Rd.lit w1 3 [iv 1, iv 0] 1 2 rfl⟩ (by simp) (by simp))
  have Hb1 := Lib.hid hb1'
  obtain ⟨A1, c1, rfl, _, _, _⟩ := own_rd hown1
  clear hown1 hb1 hb1' HF0 HbA S1
  go_wp2_with fail
  refine HE.out.mono ?_
  rintro e w2 ⟨rfl, q1, rfl⟩
  have hbw2 : Below w.heap.size w ((w1.alloc (.cells #[.int .i64 1, .int .i64 0] 3)).drewN q1) := below_drewN (Hb1.out.alloc hz1 _) _
  obtain ⟨w2, hw2⟩ : ∃ w2, w2 = (w1.alloc (.cells #[.int .i64 1, .int .i64 0] 3)).drewN q1 := ⟨_, rfl⟩
  rw [← hw2] at hbw2 ⊢
  have HG := Lib.hid (graph_any w2 n0 _ l ((Hl.out.below hbw2).more hbw2.size) hlb' Hi.out)
  have Hbw2 := Lib.hid hbw2
  clear HE hw2 Hb1 hbw2
  go_wp2_with fail
  refine HG.out.mono ?_
  rintro e w3 ⟨vg, rs, rfl, hgood, hlen, hrows, hb3⟩
  have hbw3 := Hbw2.out.trans (hb3.mono Hbw2.out.size)
  obtain ⟨p, hp⟩ := reach_dec rs
  have hgl := hgood.len
  obtain ⟨N, hN⟩ : ∃ N, N = rs.length := ⟨_, rfl⟩
  obtain ⟨st, hst⟩ : ∃ st, st = stuckI p rs.length := ⟨_, rfl⟩
  have Hgood := Lib.hid hgood
  have Hrows := Lib.hid hrows
  have Hp := Lib.hid hp
  have HN := Lib.hid hN
  have Hst := Lib.hid hst
  have Hbw3 := Lib.hid hbw3
  have hz3 := hbw3.size
  rw [← hN] at hlen hgl
  obtain ⟨Ag, ng, cg, vs, rfl, hng, _, _, hrg, hsg⟩ := hrows
  rw [← hN] at hng
  subst hng
  have Hsg := Lib.hid hsg
  clear HG hb3 hbw3 hgood hp hN Hbw2 hsg
  cases st with
  | cons a' t =>
    obtain ⟨a, ha', haN, hpa⟩ := stuckI_mem (p := p) (n := rs.length) (x := a') (by rw [← hst]; simp)
    subst ha'
    obtain ⟨d, hd1, hdn, hw, hmin⟩ := least_way Hgood.out haN ((Hp.out a).1 hpa)
    have HO := Lib.hid (order_ring w3 _ rs Hrows.out Hgood.out p Hp.out (by rw [← hst]; simp))
    have HF := Lib.hid (fun w4 (hb4 : Below w3.heap.size w3 w4) => find_some w4 _ rs ((Hrows.out.below hb4).more hb4.size) Hgood.out p Hp.out a t hst.symm d hd1 hdn hw hmin)
    clear hst hpa hd1 hdn hw hmin haN
    go_wp2_with fail
    refine HO.out.mono ?_
    rintro e w4 ⟨rfl, hb4⟩
    have HF4 := Lib.hid (HF.out w4 hb4)
    have Hbw4 := Lib.hid (Hbw3.out.trans (hb4.mono hz3))
    clear HO HF hb4
    go_wp2_with fail
    refine HF4.out.mono ?_
    rintro e w5 ⟨v5, rfl, hown5, hb5⟩
    obtain ⟨A5, c5, rfl, _, _, _⟩ := own_rd hown5
    have hfin := Lib.hid (Hbw4.out.trans (hb5.mono Hbw4.out.size))
    clear hown5 hb5 HF4
    go_wp2_with fail
    go_ret
    exact ⟨rfl, hfin.out⟩
  | nil =>
    have HO := Lib.hid (order_good w3 _ rs Hrows.out Hgood.out p Hp.out hst.symm)
    have HF := Lib.hid (fun w4 (hb4 : Below w3.heap.size w3 w4) => find_none w4 _ rs ((Hrows.out.below hb4).more hb4.size) Hgood.out p Hp.out hst.symm)
    have hac : ∀ i, ¬ Reach rs i i := by
      intro i hi
      have hl : i < rs.length := by
        cases hi with
        | one h => exact Hgood.out.edge h
        | more _ h => exact Hgood.out.edge h
      have := mem_stuckI hl ((Hp.out i).2 hi)
      rw [← hst] at this
      cases this
    have Hac := Lib.hid hac
    clear hst hac
    go_wp2_with fail
    refine HO.out.mono ?_
    rintro e w4 ⟨v4, rfl, hown4, hb4⟩
    have HF4 := Lib.hid (HF.out w4 hb4)
    have Hbw4 := Lib.hid (Hbw3.out.trans (hb4.mono hz3))
    have Hb34 := Lib.hid hb4
    have hz4 := hb4.size
    rw [orderN_len, ← HN.out] at hown4
    have hs4 := SlI.own (r := orderN rs N) (n := N) hown4
    obtain ⟨g4, c4, rfl, hc4, _, _⟩ := own_shape hown4 (by omega)
    have Hs4 := Lib.hid hs4
    clear HO HF hb4 hown4 hs4
    go_wp2_with fail
    refine HF4.out.mono ?_
    rintro e w5 ⟨rfl, hb5⟩
    have Hbw5 := Lib.hid (Hbw4.out.trans (hb5.mono Hbw4.out.size))
    have hs5 := (Hs4.out.below hb5).more hb5.size
    have hb35 := Hb34.out.trans (hb5.mono hz4)
    obtain ⟨A4', n4', c4', he4, _, _, _, hrd4⟩ := id hs5
    injection he4 with he1 he2 he3
    subst he1 he2 he3
    have Hs5 := Lib.hid hs5
    have Hr5 := Lib.hid (hrg.below hb35)
    have Hsg5 := Lib.hid (Hsg.out.below hb35)
    clear HF4 hb5 hs5 hb35
    have hnode : ∀ k, k < N → ∃ z : Nat, (orderN rs N)[k]? = some (z : Int) ∧ z < N ∧ (z : Int) ∉ orderN rs k ∧ ∀ r, rs[z]? = some r → ∀ x ∈ r, x ∈ orderN rs k := by
      intro k hk
      obtain ⟨z, h1, h2, h3, _⟩ := next_ok Hgood.out Hac.out (orderN_inv Hgood.out Hac.out k (by rw [← HN.out]; omega)) (by rw [orderN_len, ← HN.out]; exact hk)
      refine ⟨z, by rw [orderN_at rs hk, h2], by rw [HN.out]; exact h1, ?_, fun r hr x hx => ?_⟩
      · simp only [okB, Bool.and_eq_true, Bool.not_eq_true', decide_eq_false_iff_not] at h3
        exact h3.1
      · simp only [okB, Bool.and_eq_true, Bool.not_eq_true', List.getD_eq_getElem?_getD, hr, Option.getD_some, List.any_eq_false] at h3
        have := h3.2 x hx
        simpa using this
    have Hnode := Lib.hid hnode
    clear hnode
    go_wp2_with fail
    go_loop [67] (fun i => ∃ k : Nat, k ≤ N ∧ i = .int .i64 (k : Int)) (fun i => N - (intOf i).toNat)
    case atStart => exact ⟨0, Nat.zero_le _, rfl⟩
    case round =>
      obtain ⟨k, hk, rfl⟩ := hrel
      by_cases hkl : k < N
      · have hkl' : (k : Int) < (N : Int) := by omega
        obtain ⟨z, hz, hzN, hzt, hdep⟩ := Hnode.out k hkl
        obtain ⟨b', o', z', he, _, hz', hcz⟩ := hrd4.one hkl
        injection he with he
        injection he with he1 he2
        subst he1 he2
        rw [hz] at hz'
        obtain rfl : (z : Int) = z' := by simpa using hz'
        rw [Nat.zero_add] at hcz
        have q1 : ¬ (z : Int) < 0 := by omega
        have q2 : ¬ (N : Int) ≤ (z : Int) := by omega
        have hzN' : (z : Int) < (N : Int) := by omega
        have htk := orderN_take rs N k hk
        have hst5 := Hs5.out.take hk
        rw [htk] at hst5
        have HC2 := Lib.hid (contains_no w5 (.slice (some ⟨g4, 0, none⟩) k c4) _ _ (z : Int) hst5 (by rw [orderN_len]; omega) hzt)
        obtain ⟨br, or, u, rfl, hbr, hu, hcu⟩ := Hr5.out.at_ hzN
        have hrz : rs[z]? = some (rs[z]'(by have := HN.out; omega)) := List.getElem?_eq_getElem _
        obtain ⟨r, hr0⟩ : ∃ r, r = rs[z]'(by have := HN.out; omega) := ⟨_, rfl⟩
        rw [← hr0] at hrz
        have hsz := Hsg5.out.2 z u r hu hrz
        obtain ⟨Az, nz, cz, rfl, hnz, _, _, hrdz⟩ := id hsz
        have hnzb : nz ≤ 1000000000 := by rw [← hnz]; exact Hgood.out.row (List.mem_of_getElem? hrz)
        have Hdep := Lib.hid (hdep r hrz)
        have Hst5 := Lib.hid hst5
        have Hnz := Lib.hid hnz
        have hkc : k ≤ c4 := by omega
        clear hz hz' hzt hdep htk hst5 hu hrz hr0 hsz hnz
        go_wp2_with (refine wpList_slice_toG (by rfl) 22 (.tmp 81) (.tmp 82) rfl (some ⟨g4, 0, none⟩) N c4 k rfl rfl (by kernel_rfl) (fun w => ints_to _ N c4 k hkc w) ?_)
        refine HC2.out.mono ?_
        rintro e w' ⟨rfl, rfl⟩
        clear HC2
        go_wp2_with fail
        go_loop [92] (fun i => ∃ j : Nat, j ≤ nz ∧ i = .int .i64 (j : Int)) (fun i => nz - (intOf i).toNat)
        case atStart => exact ⟨0, Nat.zero_le _, rfl⟩
        case round =>
          obtain ⟨j, hj, rfl⟩ := hrel
          by_cases hjl : j < nz
          · have hjl' : (j : Int) < (nz : Int) := by omega
            obtain ⟨bx, ox, x, rfl, _, hx, hcx⟩ := hrdz.one hjl
            have HC3 := Lib.hid (contains_yes w5 (.slice (some ⟨g4, 0, none⟩) k c4) _ _ x Hst5.out (by rw [orderN_len]; omega) (Hdep.out x (List.mem_of_getElem? hx)))
            clear hx
            go_wp2_with (refine wpList_slice_to rfl 22 (.tmp 96) (.tmp 97) rfl (some ⟨g4, 0, none⟩) N c4 k rfl rfl (by kernel_rfl) (fun w => ints_to _ N c4 k hkc w) ?_)
            refine HC3.out.mono ?_
            rintro e w' ⟨rfl, rfl⟩
            clear HC3
            go_wp2_with fail
            go_round
            case rel => exact ⟨j + 1, by omega, by go_num⟩
            case measure => simp [intOf]; omega
          · obtain rfl : j = nz := by omega
            go_wp2_with fail
            go_round
            case rel => exact ⟨k + 1, by omega, by go_num⟩
            case measure => simp [intOf]; omega
      · obtain rfl : k = N := by omega
        go_wp2_with fail
        go_ret
        exact ⟨rfl, Hbw5.out⟩
end Go.Proofs.Ytgmjeanoohmdlaa.ringOrder
