/- RingFound's walk: it returns true. Conditions: the reach. -/
import Derived.Test.YtgmjeanoohmdlaaRingToys
namespace Go.Proofs.Ytgmjeanoohmdlaa.ringFound
open Go.RowKit Go.Gy
set_option linter.unusedVariables false
set_option maxRecDepth 100000 in
set_option maxHeartbeats 4000000 in
theorem walk (n0 : Int) (v : Value) (w : World) {b0 : Nat} (w0 : wfI .i64 n0) (f1 : IntsArg w v b0) :
    Calls Try.prog 3 #[.int .i64 n0, v] w fun e w' => e = .returned (.bool true) ∧ Below w.heap.size w w' := by
  obtain ⟨l, hl, hi, _, hlb⟩ := f1
  have hlb' : l.length ≤ 140737488355328 := by unfold reachBytes at hlb; omega
  have Hl := Lib.hid hl
  have Hi := Lib.hid hi
  have HF0 := Lib.hid (find0 ((w.alloc (.cells #[.int .i64 0] 3)).alloc (.cells #[.slice (some ⟨w.heap.size, 0, none⟩) 1 1] 22)) (.slice (some ⟨w.heap.size + 1, 0, none⟩) 1 1) (by
    have h := rows_one w [0] 1 rfl
    rw [World.size_alloc, World.size_alloc]
    exact h))
  have hbA : Below w.heap.size w ((w.alloc (.cells #[.int .i64 0] 3)).alloc (.cells #[.slice (some ⟨w.heap.size, 0, none⟩) 1 1] 22)) := ((Below.refl _ _).alloc (Nat.le_refl _) _).alloc (by simp) _
  have HbA := Lib.hid hbA
  clear hl hi w0 hlb hbA
  obtain ⟨A, n, c, rfl, _⟩ := id Hl.out
  go_enter Try.func3, Try.ntmps3
  go_wp2_with fail
  refine HF0.out.mono ?_
  rintro e w1 ⟨v1, rfl, hown1, hb1⟩
  have hb1' := HbA.out.trans (hb1.mono HbA.out.size)
  have hz1 := hb1'.size
  have S1 := SlI.own (r := [0]) hown1
  have HE := Lib.hid (equal_ints (w1.alloc (.cells #[.int .i64 0] 3)) v1 (.slice (some ⟨w1.heap.size, 0, none⟩) 1 1) (w1.heap.size + 1) [0] [0] ((S1.below ((Below.refl _ _).alloc (Nat.le_refl _) _)).more (by omega)) ⟨_, 1, 1, rfl, rfl, Nat.le_refl _, (fun h => by cases h), Rd.lit w1 3 [iv 0] 1 1 rfl⟩ (by simp) (by simp))
  have Hb1 := Lib.hid hb1'
  obtain ⟨A1, c1, rfl, _, _, _⟩ := own_rd hown1
  clear hown1 hb1 hb1' HF0 HbA S1
  go_wp2_with fail
  refine HE.out.mono ?_
  rintro e w2 ⟨rfl, q1, rfl⟩
  have hbw2 : Below w.heap.size w ((w1.alloc (.cells #[.int .i64 0] 3)).drewN q1) := below_drewN (Hb1.out.alloc hz1 _) _
  obtain ⟨w2, hw2⟩ : ∃ w2, w2 = (w1.alloc (.cells #[.int .i64 0] 3)).drewN q1 := ⟨_, rfl⟩
  rw [← hw2] at hbw2 ⊢
  have HG := Lib.hid (graph_any w2 n0 _ l ((Hl.out.below hbw2).more hbw2.size) hlb' Hi.out)
  have Hbw2 := Lib.hid hbw2
  clear HE hw2 Hb1 hbw2
  go_wp2_with fail
  refine HG.out.mono ?_
  rintro e w3 ⟨vg, rs, rfl, hgood, hlen, hrows, hb3⟩
  have hbw3 := Hbw2.out.trans (hb3.mono Hbw2.out.size)
  obtain ⟨p, hp⟩ := reach_dec rs
  have hgl := hgood.len
  obtain ⟨N, hN⟩ : ∃ N, N = rs.length := ⟨_, rfl⟩
  obtain ⟨st, hst⟩ : ∃ st, st = stuckI p rs.length := ⟨_, rfl⟩
  have Hgood := Lib.hid hgood
  have Hrows := Lib.hid hrows
  have Hp := Lib.hid hp
  have HN := Lib.hid hN
  have Hst := Lib.hid hst
  have Hbw3 := Lib.hid hbw3
  have hz3 := hbw3.size
  rw [← hN] at hlen hgl
  obtain ⟨Ag, ng, cg, vs, rfl, hng, _, _, hrg, hsg⟩ := hrows
  rw [← hN] at hng
  subst hng
  have Hsg := Lib.hid hsg
  clear HG hb3 hbw3 hgood hp hN Hbw2 hsg
  cases st with
  | nil =>
    have HF := Lib.hid (find_none w3 _ rs Hrows.out Hgood.out p Hp.out Hst.out.symm)
    clear hst
    go_wp2_with fail
    refine HF.out.mono ?_
    rintro e w4 ⟨rfl, hb4⟩
    have HS := Lib.hid (stuck_good w4 _ rs ((Hrows.out.below hb4).more hb4.size) Hgood.out p Hp.out)
    rw [← Hst.out] at HS
    have Hbw4 := Lib.hid (Hbw3.out.trans (hb4.mono hz3))
    clear HF hb4
    go_wp2_with fail
    refine HS.out.mono ?_
    rintro e w5 ⟨v5, rfl, hown5, hb5⟩
    obtain ⟨A5, c5, rfl, _, _, _⟩ := own_rd hown5
    have hfin := Lib.hid (Hbw4.out.trans (hb5.mono Hbw4.out.size))
    clear hown5 hb5 HS
    go_wp2_with fail
    go_ret
    exact ⟨rfl, hfin.out⟩
  | cons a' t =>
    obtain ⟨a, ha', haN, hpa⟩ := stuckI_mem (p := p) (n := rs.length) (x := a') (by rw [← hst]; simp)
    subst ha'
    obtain ⟨d, hd1, hdn, hw, hmin⟩ := least_way Hgood.out haN ((Hp.out a).1 hpa)
    obtain ⟨lN, hlN, hch⟩ := wayK_chain Hgood.out (d := d) (d - 1) a (by rw [show d - 1 + 1 = d by omega]; exact hw) (by rw [show d - 1 + 1 = d by omega]; exact hmin) (by omega)
    rw [show d - 1 + 1 = d by omega] at hch
    have HF := find_some w3 _ rs Hrows.out Hgood.out p Hp.out a t hst.symm d hd1 hdn hw hmin
    rw [hlN] at HF
    have HF := Lib.hid HF
    have Hch := Lib.hid hch
    have Hnd := Lib.hid (hch.nodup hmin)
    have Hra := Lib.hid ((Hp.out a).1 hpa)
    have hsorted := stuckI_sorted p rs.length
    rw [← hst] at hsorted
    have Hso := Lib.hid hsorted
    have hlnl : lN.length ≤ 64 := by have := hch.len; have := HN.out; omega
    have HaN := Lib.hid haN
    clear hst hpa hd1 hdn hw hmin hlN hch hsorted haN
    go_wp2_with fail
    refine HF.out.mono ?_
    rintro e w4 ⟨v4, rfl, hown4, hb4⟩
    have HS := stuck_good w4 _ rs ((Hrows.out.below hb4).more hb4.size) Hgood.out p Hp.out
    rw [← Hst.out] at HS
    have HS := Lib.hid HS
    have Hbw4 := Lib.hid (Hbw3.out.trans (hb4.mono hz3))
    have hz4 := hb4.size
    have hb4' := Lib.hid hb4
    obtain ⟨ln, hln⟩ : ∃ ln, ln = lN.length + 1 := ⟨_, rfl⟩
    have e4 : ((a : Int) :: lN.map fun (k : Nat) => (k : Int)).length = ln := by rw [hln]; simp
    have hs4 := SlI.own (r := (a : Int) :: lN.map fun (k : Nat) => (k : Int)) hown4
    rw [e4] at hown4
    obtain ⟨g4, c4, rfl, hc4, _, _⟩ := own_shape hown4 (by omega)
    have Hs4 := Lib.hid hs4
    have Hln := Lib.hid hln
    clear HF hb4 hown4 e4 hln hs4
    go_wp2_with fail
    refine HS.out.mono ?_
    rintro e w5 ⟨v5, rfl, hown5, hb5⟩
    have hb45 := hb4'.out.trans (hb5.mono hz4)
    have Hbw5 := Lib.hid (Hbw3.out.trans (hb45.mono hz3))
    have S5 := SlI.own (r := (a : Int) :: t) hown5
    obtain ⟨sl, hsl⟩ : ∃ sl, sl = ((a : Int) :: t).length := ⟨_, rfl⟩
    rw [← hsl] at hown5
    have hslN : sl ≤ 64 := by have := stuckI_len p rs.length; rw [← Hst.out] at this; have := HN.out; omega
    obtain ⟨A5, c5, rfl, _, _, _⟩ := own_rd hown5
    have S4 := (Hs4.out.below hb5).more hb5.size
    obtain ⟨L, hL⟩ : ∃ L : List Int, L = (a : Int) :: lN.map fun (k : Nat) => (k : Int) := ⟨_, rfl⟩
    rw [← hL] at S4
    have hLl : L.length = ln := by rw [hL, Hln.out]; simp
    have hLn : ∀ k, L[k]? = ((a :: lN)[k]?).map fun (k : Nat) => (k : Int) := fun k => by
      rw [hL, ← List.getElem?_map, List.map_cons]
    have hr5 := hrg.below hb45
    obtain ⟨A4', n4', c4', he4, _, _, _, hrd4⟩ := id S4
    injection he4 with he1 he2 he3
    subst he1 he2 he3
    have HLl := Lib.hid hLl
    have HLn := Lib.hid hLn
    have Hsl := Lib.hid hsl
    have HL := Lib.hid hL
    have Hs5 := Lib.hid S5
    have HS4 := Lib.hid S4
    have Hr5 := Lib.hid hr5
    have Hsg5 := Lib.hid (Hsg.out.below hb45)
    have hln64 : ln ≤ 65 := by have := Hln.out; omega
    have hln1 : 1 ≤ ln := by have := Hln.out; omega
    clear hsl hL S4 S5 hLl hLn hown5 hb5 hb45 HS hr5
    -- a node of the way, its number, the row that it stands in
    have hnode : ∀ k, k < ln → ∃ z : Nat, L[k]? = some (z : Int) ∧ (a :: lN)[k]? = some z ∧ z < N ∧ (z : Int) ∈ (a : Int) :: t ∧ (z : Int) ∉ L.take k := by
      intro k hk
      have hkl : k < (a :: lN).length := by have := Hln.out; simp; omega
      have hz : (a :: lN)[k]? = some ((a :: lN)[k]) := List.getElem?_eq_getElem hkl
      have hzN : (a :: lN)[k] < rs.length ∧ Reach rs ((a :: lN)[k]) ((a :: lN)[k]) := by
        rcases List.mem_cons.1 (List.getElem_mem hkl) with h1 | h1
        · rw [h1]; exact ⟨HaN.out, Hra.out⟩
        · obtain ⟨h2, h3, h4, _⟩ := Hch.out.mem _ h1
          exact ⟨h2, Reach.trans h4 h3⟩
      refine ⟨_, ?_, hz, by rw [HN.out]; exact hzN.1, ?_, ?_⟩
      · rw [HLn.out k, hz]; rfl
      · rw [Hst.out]; exact mem_stuckI hzN.1 ((Hp.out _).2 hzN.2)
      · rw [HL.out, ← List.map_cons (f := fun (k : Nat) => (k : Int)), ← List.map_take, mem_cast]
        exact nodup_take Hnd.out hz
    have Hnode := Lib.hid hnode
    clear hnode
    go_wp2_with fail
    go_loop [59] (fun i => ∃ k : Nat, k ≤ ln ∧ i = .int .i64 (k : Int)) (fun i => ln - (intOf i).toNat)
    case atStart => exact ⟨0, Nat.zero_le _, rfl⟩
    case round =>
      obtain ⟨k, hk, rfl⟩ := hrel
      by_cases hkl : k < ln
      · have hkl' : (k : Int) < (ln : Int) := by omega
        obtain ⟨z, hz, hzn, hzN, hzs, hzt⟩ := Hnode.out k hkl
        obtain ⟨b', o', z', he, _, hz', hcz⟩ := hrd4.one hkl
        injection he with he
        injection he with he1 he2
        subst he1 he2
        rw [hz] at hz'
        obtain rfl : (z : Int) = z' := by simpa using hz'
        rw [Nat.zero_add] at hcz
        have q1 : ¬ (z : Int) < 0 := by omega
        have q2 : ¬ (N : Int) ≤ (z : Int) := by omega
        have HC1 := Lib.hid (contains_yes w5 _ _ _ (z : Int) Hs5.out (by rw [← Hsl.out]; omega) hzs)
        have HC2 := Lib.hid (contains_no w5 (.slice (some ⟨g4, 0, none⟩) k c4) _ _ (z : Int) (HS4.out.take hk) (by rw [List.length_take, HLl.out]; omega) hzt)
        have Hzn := Lib.hid hzn
        have hkc : k ≤ c4 := by omega
        clear hz hz' hzn hzs hzt
        go_wp2_with fail
        refine HC1.out.mono ?_
        rintro e w' ⟨rfl, rfl⟩
        clear HC1
        go_wp2_with (refine wpList_slice_toG (by rfl) 22 (.tmp 79) (.tmp 80) rfl (some ⟨g4, 0, none⟩) ln c4 k rfl rfl (by kernel_rfl) (fun w => ints_to _ ln c4 k hkc w) ?_)
        refine HC2.out.mono ?_
        rintro e w' ⟨rfl, rfl⟩
        clear HC2
        by_cases hk0 : k = 0
        · have q3 : ¬ (0 : Int) < (k : Int) := by omega
          clear hk0
          go_wp2_with fail
          go_round
          case rel => exact ⟨k + 1, by omega, by go_num⟩
          case measure => simp [intOf]; omega
        · obtain ⟨j, hj⟩ : ∃ j, k = j + 1 := ⟨k - 1, by omega⟩
          have hjl : j < ln := by omega
          obtain ⟨y, hy, hyn, hyN, _, _⟩ := Hnode.out j hjl
          obtain ⟨b', o', y', he, _, hy', hcy⟩ := hrd4.one hjl
          injection he with he
          injection he with he1 he2
          subst he1 he2
          rw [hy] at hy'
          obtain rfl : (y : Int) = y' := by simpa using hy'
          rw [Nat.zero_add] at hcy
          have hed := Hch.out.edges j y z hyn (by rw [← hj]; exact Hzn.out)
          obtain ⟨br, or, u, rfl, hbr, hu, hcu⟩ := Hr5.out.at_ hyN
          have hry : rs[y]? = some (rs[y]'(by have := HN.out; omega)) := List.getElem?_eq_getElem _
          have hsy := Hsg5.out.2 y u _ hu hry
          have HC3 := Lib.hid (contains_yes w5 u _ _ (z : Int) hsy (by have := Hgood.out.row (List.mem_of_getElem? hry); omega) (hed.mem hry))
          obtain ⟨Ay, ny, cy, rfl, _⟩ := id hsy
          have q3 : (0 : Int) < (k : Int) := by omega
          have q4 : ((k : Int) - 1).toNat = j := by omega
          have q5 : (k : Int) - 1 < (ln : Int) := by omega
          have q6 : (0 : Int) ≤ (k : Int) - 1 := by omega
          have q7 : (y : Int) < (N : Int) := by omega
          clear hj hy hy' hyn hed hu hry hsy hk0
          go_wp2_with fail
          refine HC3.out.mono ?_
          rintro e w' ⟨rfl, rfl⟩
          clear HC3
          go_wp2_with fail
          go_round
          case rel => exact ⟨k + 1, by omega, by go_num⟩
          case measure => simp [intOf]; omega
      · obtain rfl : k = ln := by omega
        obtain ⟨z0, hz0, hzn0, _⟩ := Hnode.out 0 (by omega)
        have hza : z0 = a := by simpa using hzn0.symm
        subst hza
        obtain ⟨b', o', z', he, _, hz', hc0⟩ := hrd4.one (show 0 < k by omega)
        injection he with he
        injection he with he1 he2
        subst he1 he2
        rw [hz0] at hz'
        obtain rfl : (z0 : Int) = z' := by simpa using hz'
        rw [Nat.zero_add] at hc0
        obtain ⟨j, hj⟩ : ∃ j, k = j + 1 := ⟨k - 1, by omega⟩
        have hjl : j < k := by omega
        obtain ⟨y, hy, hyn, hyN, _, _⟩ := Hnode.out j hjl
        obtain ⟨b', o', y', he, _, hy', hcy⟩ := hrd4.one hjl
        injection he with he
        injection he with he1 he2
        subst he1 he2
        rw [hy] at hy'
        obtain rfl : (y : Int) = y' := by simpa using hy'
        rw [Nat.zero_add] at hcy
        obtain ⟨ye, hye, hed⟩ := Hch.out.end_
        have hyy : y = ye := by
          have : j = lN.length := by have := Hln.out; omega
          rw [this, hye] at hyn
          simpa using hyn.symm
        subst hyy
        obtain ⟨br, or, u, rfl, hbr, hu, hcu⟩ := Hr5.out.at_ hyN
        have hry : rs[y]? = some (rs[y]'(by have := HN.out; omega)) := List.getElem?_eq_getElem _
        have hsy := Hsg5.out.2 y u _ hu hry
        have hrb : (rs[y]'(by have := HN.out; omega)).length ≤ 140737488355328 := by have := Hgood.out.row (List.mem_of_getElem? hry); omega
        have HC := Lib.hid (fun n => (contains_yes (w5.drewN n) u _ _ (z0 : Int) hsy hrb (hed.mem hry)).mono fun _ _ ⟨he, hw⟩ => (⟨he, hw.symm⟩ : _ ∧ _))
        have HM := Lib.hid (fun n => (min_any (w5.drewN n) _ _ ((z0 : Int) :: t) (z0 : Int) Hs5.out (by rw [← Hsl.out]; omega) (by simp) (fun x hx => by
          rcases List.mem_cons.1 hx with h | h
          · omega
          · have := (List.pairwise_cons.1 Hso.out).1 x h; omega)).mono fun _ _ ⟨he, hw⟩ => (⟨he, hw.symm⟩ : _ ∧ _))
        obtain ⟨Ay, ny, cy, rfl, _⟩ := id hsy
        have q0 : (0 : Int) < (k : Int) := by omega
        have q00 : 0 < k := by omega
        have q01 : decide (0 < k) = true := by simpa using q00
        have q02 : decide ((0 : Int) < (k : Int)) = true := by simpa using q00
        have q3 : IntKind.i64.wrap ((k : Int) - 1) = (k : Int) - 1 := IntWalk.i64_in _ (by omega)
        have q4 : ((k : Int) - 1).toNat = j := by omega
        have q5 : (k : Int) - 1 < (k : Int) := by omega
        have q6 : (0 : Int) ≤ (k : Int) - 1 := by omega
        have q7 : (y : Int) < (N : Int) := by omega
        have q8 : ((y : Int)).toNat = y := by omega
        have q9 : (0 : Int) ≤ (y : Int) := by omega
        clear hj hy hy' hyn hed hye hu hry hsy hz0 hzn0 hz' hrb
        go_wp2_with fail
        go_quiet ((first | (go_at_call 10; exact Calls.quiet_of_same (HC.out _)) | (go_at_call 11; exact Calls.quiet_of_same (HM.out _))))
        clear q3 q4 q5 q6 q7 q8 q9
        go_wp2_with fail
        go_ret
        exact ⟨rfl, below_drewN Hbw5.out _⟩
end Go.Proofs.Ytgmjeanoohmdlaa.ringFound
