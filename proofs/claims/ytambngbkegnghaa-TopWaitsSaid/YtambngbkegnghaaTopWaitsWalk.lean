/- TopWaits' walk: it returns true. Conditions: the reach. -/
import Derived.Test.YtambngbkegnghaaWaitsCore
namespace Go.Proofs.Ytambngbkegnghaa.topWaits
open Go.RowKit Go.Gy
set_option linter.unusedVariables false
theorem two_sli (w : World) (a b : Int) : SlI (w.alloc (.cells #[.int .i64 a, .int .i64 b] 3)) (w.alloc (.cells #[.int .i64 a, .int .i64 b] 3)).heap.size (.slice (some ⟨w.heap.size, 0, none⟩) 2 2) [a, b] :=
  ⟨some ⟨w.heap.size, 0, none⟩, 2, 2, rfl, rfl, Nat.le_refl _, (fun h => by cases h), (Rd.lit w 3 [.int .i64 a, .int .i64 b] 1 2 rfl).more (by simp)⟩
theorem info_introw : (Try.prog.info? 22).map (fun i => (i.zero, i.size, i.bytes)) = some (some (.slice none 0 0), 1, 24) := by kernel_rfl
structure ORel (wt : World) (G n : Nat) (st : Tab) (i : Nat) (v u : Value) (E F : List ElC) (vs : List Value) (wr : World) : Prop where
  le : i ≤ n
  eLen : E.length = i
  fLen : F.length = i
  e : ∀ (j : Nat) (x : ElC), E[j]? = some x → x.2 = cellsT st j
  f : ∀ (j : Nat) (x : ElC), F[j]? = some x → x.2 = waitsT st j
  vLen : vs.length = n
  nil : ∀ j, i ≤ j → j < n → vs[j]? = some (.slice none 0 0)
  core : Core wt G wr v E u F vs (fun j => if j < i then nextT st j n else [])
theorem ORel.start (wt : World) (n : Nat) (st : Tab) : ORel wt wt.heap.size n st 0 (.slice none 0 0) (.slice none 0 0) [] [] (List.replicate n (.slice none 0 0)) (wt.alloc (.cells (Array.replicate n (.slice none 0 0)) 22)) := by
  have hc : Core wt wt.heap.size (wt.alloc (.cells (Array.replicate n (.slice none 0 0)) 22)) (.slice none 0 0) [] (.slice none 0 0) [] (List.replicate n (.slice none 0 0)) (fun j => if j < 0 then nextT st j n else []) := by
    refine ⟨Two.start ((Below.refl _ _).alloc (Nat.le_refl _) _), by rw [List.toArray_replicate]; exact Blk.new wt _ _, fun j a ha => ?_, (fun h => by cases h), (fun h => by cases h), fun x hx => ?_, Nat.le_refl _⟩
    · rw [List.getElem?_replicate] at ha
      split at ha
      · injection ha with ha
        subst ha
        exact ⟨SlI.own (r := []) (World.ownsRow_nil _ 0 _ _), fun g hg => by cases hg⟩
      · cases ha
    · rcases hx with hx | hx <;> simp at hx
  refine ⟨Nat.zero_le _, rfl, rfl, fun j x h => ?_, fun j x h => ?_, by simp, fun j _ hj => by rw [List.getElem?_replicate, if_pos hj], hc⟩
  · simp at h
  · simp at h
theorem set_same {α : Type} {l : List α} {i : Nat} {a : α} (h : l[i]? = some a) : l.set i a = l := by
  apply List.ext_getElem?
  intro j
  rw [List.getElem?_set]
  split
  · rename_i hij
    subst hij
    rw [if_pos (List.getElem?_eq_some_iff.1 h).1, h]
  · rfl
theorem snoc_get {E : List ElC} {x : ElC} {P : Nat → List Cell} (h : ∀ (j : Nat) (y : ElC), E[j]? = some y → y.2 = P j) (hx : x.2 = P E.length) : ∀ (j : Nat) (y : ElC), (E ++ [x])[j]? = some y → y.2 = P j := by
  intro j y hj
  rcases Nat.lt_or_ge j E.length with h1 | h1
  · rw [List.getElem?_append_left h1] at hj; exact h j y hj
  · rw [List.getElem?_append_right h1] at hj
    have hjE : j - E.length = 0 := by have := (List.getElem?_eq_some_iff.1 hj).1; simp at this; omega
    rw [hjE] at hj
    injection hj with hj
    subst hj
    rw [hx, show E.length = j by omega]
theorem getD_all {E : List ElC} {n : Nat} {P : Nat → List Cell} (hn : E.length = n) (h : ∀ (j : Nat) (y : ElC), E[j]? = some y → y.2 = P j) : ∀ i, i < n → (E.map Prod.snd).getD i [] = P i := fun i hi => by
  obtain ⟨x, hx⟩ : ∃ x, E[i]? = some x := ⟨_, List.getElem?_eq_getElem (by omega)⟩
  rw [List.getD_eq_getElem?_getD, List.getElem?_map, hx]
  exact h i x hx
set_option maxRecDepth 100000 in
set_option maxHeartbeats 4000000 in
theorem walk (a0 : Int) (v : Value) (w : World) {b0 : Nat} (w0 : wfI .i64 a0) (f1 : IntsArg w v b0) :
    Calls Try.prog 10 #[.int .i64 a0, v] w fun e w' => e = .returned (.bool true) ∧ Below w.heap.size w w' := by
  obtain ⟨l, hl, _, _, hlb⟩ := f1
  obtain ⟨n, hn⟩ : ∃ n : Nat, (n : Int) = 2 + a0 % 3 := ⟨(2 + a0 % 3).toNat, by omega⟩
  have hn1 : 1 ≤ n := by omega
  have hn4 : n ≤ 4 := by omega
  obtain ⟨j0, hji, hy0, hy1, hy2⟩ := info_parts info_cellrow
  obtain ⟨i0, hii, hz0, hz1, hz2⟩ := info_parts info_int
  obtain ⟨r0, hri, hr0, hr1, hr2⟩ := info_parts info_introw
  have hmk : ∀ W : World, (Instr.makeSlice 65 (.int .i64 (n : Int)) (.int .i64 (n : Int))).run Try.prog W = .ok (.slice (some ⟨W.heap.size, 0, none⟩) n n) (W.alloc (.cells (Array.replicate n (.slice none 0 0)) 22)) := fun W => by
    have h := run_makeSlice (P := Try.prog) W 65 22 r0 (.slice none 0 0) Try.underlying65 hri hr0 .i64 .i64 (n : Int) (n : Int) (by omega) (Int.le_refl _) (by rw [hr1]; omega) (by rw [hr2]; omega) (by omega)
    rw [Int.toNat_natCast, hr1, Nat.mul_one] at h
    rw [h]
    congr 3
    apply Array.ext
    · simp [madeCells]
    · intro j h1 h2
      simp [madeCells, Value.cells, Nat.mod_one]
  have HF0 := Lib.hid (find0 ((w.alloc (.cells #[.int .i64 0] 3)).alloc (.cells #[.slice (some ⟨w.heap.size, 0, none⟩) 1 1] 22)) (.slice (some ⟨w.heap.size + 1, 0, none⟩) 1 1) (by
    have h := rows_one w [0] 1 rfl
    rw [World.size_alloc, World.size_alloc]
    exact h))
  have hbA : Below w.heap.size w ((w.alloc (.cells #[.int .i64 0] 3)).alloc (.cells #[.slice (some ⟨w.heap.size, 0, none⟩) 1 1] 22)) := ((Below.refl _ _).alloc (Nat.le_refl _) _).alloc (by simp) _
  have HbA := Lib.hid hbA
  have HB3 := Lib.hid (fun w => below_any a0 3 w (by decide) (by decide))
  have Hl := Lib.hid hl
  have Hn := Lib.hid hn
  obtain ⟨A, ln, c, rfl, hln, hnc, hA, hr⟩ := id hl
  obtain ⟨m, hm⟩ : ∃ m : Nat, m = min ln 40 := ⟨_, rfl⟩
  have hmn : m ≤ ln := by omega
  have hm40 : m ≤ 40 := by omega
  have Hmin := Lib.hid (show min (ln : Int) 40 = (m : Int) by omega)
  have hmc : m ≤ c := by omega
  have hn0 : (0 : Int) < (n : Int) := by omega
  have hnb : (n : Int) ≤ 4294967296 := by omega
  have Hr := Lib.hid hr
  clear hl w0 hlb hbA hn hm hln hr hnc
  go_enter Try.func10, Try.ntmps10
  go_wp2_with fail
  refine HF0.out.mono ?_
  rintro e w1 ⟨v1, rfl, hown1, hb1⟩
  have hb1' := HbA.out.trans (hb1.mono HbA.out.size)
  have hs1 := hb1'.size
  have S1 := SlI.own (r := [0]) hown1
  have HE := Lib.hid (equal_ints (w1.alloc (.cells #[.int .i64 0] 3)) v1 (.slice (some ⟨w1.heap.size, 0, none⟩) 1 1) (w1.heap.size + 1) [0] [0] ((S1.below ((Below.refl _ _).alloc (Nat.le_refl _) _)).more (by omega)) ⟨_, 1, 1, rfl, rfl, Nat.le_refl _, (fun h => by cases h), Rd.lit w1 3 [.int .i64 0] 1 1 rfl⟩ (by simp) (by simp))
  have Hb1 := Lib.hid hb1'
  obtain ⟨A1, c1, rfl, _, _, _⟩ := own_rd hown1
  clear hown1 hb1 hb1' HF0 HbA S1
  go_wp2_with fail
  refine HE.out.mono ?_
  rintro e w2 ⟨rfl, q1, rfl⟩
  have hbw2 : Below w.heap.size w ((w1.alloc (.cells #[.int .i64 0] 3)).drewN q1) := below_drewN (Hb1.out.alloc hs1 _) _
  obtain ⟨w2, hw2⟩ : ∃ w2, w2 = (w1.alloc (.cells #[.int .i64 0] 3)).drewN q1 := ⟨_, rfl⟩
  rw [← hw2] at hbw2 ⊢
  have Hb2 := Lib.hid hbw2
  clear hw2 hbw2 HE
  go_wp2_with fail
  refine (HB3.out _).mono ?_
  rintro e w' ⟨rfl, rfl⟩
  have hw1 : IntKind.i64.wrap (2 + a0 % 3) = (n : Int) := by rw [← Hn.out]; exact IntWalk.i64_in _ (by omega)
  have hw2 : 2 + a0 % 3 = (n : Int) := Hn.out.symm
  have HN := Lib.hid (new_any w2 n hn1 hn4)
  go_wp2_with fail
  refine HN.out.mono ?_
  rintro e w3 ⟨rfl, hT3, hb3⟩
  have HR := Lib.hid (show TabRel w2 n m (.int .i64 0) w3 from ⟨0, _, Nat.zero_le _, rfl, hT3, ⟨(emptyT_safe n hn4).1, (emptyT_safe n hn4).2, by simp [emptyT]⟩, hb3⟩)
  clear hw1 hw2 hT3 hb3 HN HB3
  go_wp2_with (first | (refine wpList_min2 rfl (.tmp 51) (.const (.int .i64 40)) _ rfl (ln : Int) 40 rfl rfl (m : Int) Hmin.out ?_) | (refine wpList_slice_to rfl 22 (.tmp 49) (.tmp 52) rfl A ln c m rfl rfl (by kernel_rfl) (fun w => ints_to A ln c m hmc w) ?_))
  go_loopw [55] (fun i wr => TabRel w2 n m i wr) (fun i _ => m - (intOf i).toNat)
  case atStart => exact HR.out
  case round =>
    obtain ⟨k, st, hk, rfl, hT, hG, hb⟩ := hrel
    have HT := Lib.hid hT
    have HG := Lib.hid hG
    have Hb := Lib.hid hb
    by_cases hkm : k < m
    · obtain ⟨b, o, x, rfl, hbb, hx, hcx⟩ := (Hr.out.below (Hb2.out.trans (hb.mono Hb2.out.size))).one (show k < ln by omega)
      have HBn := Lib.hid (fun x (wr : World) => below_any x (n : Int) wr hn0 hnb)
      have HB5 := Lib.hid (below_any x 5 wr (by decide) (by decide))
      clear hT hG hb hx hbb
      go_wp2_with fail
      refine HB5.out.mono ?_
      rintro e w' ⟨rfl, rfl⟩
      generalize x % 5 = y
      clear HB5
      by_cases hy : y = 0
      · subst hy
        go_wp2_with fail
        refine (HBn.out _ _).mono ?_
        rintro e w' ⟨rfl, rfl⟩
        generalize wrap64 (x.tdiv 5) % (n : Int) = arm
        have HC := Lib.hid (cells_of wr _ _ st _ arm HT.out HG.out.1.fit)
        go_wp2_with fail
        refine HC.out.mono ?_
        rintro e w5 ⟨A5, n5, c5, rfl, hl5, hown5, hb5⟩
        have Hb5 := Lib.hid (Hb.out.trans (hb5.mono Hb.out.size))
        have HD := Lib.hid (done_any w5 _ _ st [] arm (.slice A5 n5 c5) _ (HT.out.below hb5) HG.out.1.fit (SlC.own hown5) (by have := HG.out.few arm; omega))
        clear hl5 hown5 hb5 HC
        go_wp2_with fail
        refine HD.out.mono ?_
        rintro e w6 ⟨rfl, hT6, hb6⟩
        have HR6 := Lib.hid (show TabRel w2 n m (.int .i64 ((k + 1 : Nat) : Int)) w6 from ⟨k + 1, _, by omega, rfl, hT6, HG.out.done _ _, Hb5.out.trans hb6⟩)
        clear hT6 hb6 HD
        go_wp2_with fail
        go_roundw
        case rel => have h := HR6.out; rw [Int.natCast_add] at h; exact h
        case measure => simp [intOf]; omega
      · have hy2 : (y == 0) = false := by simpa using hy
        have hal : ∀ X, Below wr.heap.size wr (wr.alloc X) := fun X => (Below.refl _ _).alloc (Nat.le_refl _) _
        have HC := Lib.hid (fun a b => cells_any _ _ _ (two_sli wr a b) (show ([a, b] : List Int).length ≤ 140737488355328 by simp))
        have HbA := Lib.hid (fun X => Hb.out.trans ((hal X).mono Hb.out.size))
        have HTA := Lib.hid (fun X => HT.out.below (hal X))
        have HsA := Lib.hid (show ∀ X : Obj, w2.heap.size ≤ (wr.alloc X).heap.size from fun X => by have := Hb.out.size; simp; omega)
        clear hal
        go_wp2_with fail
        refine (HBn.out _ _).mono ?_
        rintro e w' ⟨rfl, rfl⟩
        generalize wrap64 (x.tdiv 5) % (n : Int) = arm
        go_wp2_with fail
        refine (HC.out _ _).mono ?_
        rintro e w5 ⟨v5, cs, rfl, hcs8, hcs0, hown5, hb5⟩
        have Hb5 := Lib.hid ((HbA.out _).trans (hb5.mono (HsA.out _)))
        have HK := Lib.hid (ask_any w5 _ _ st [] arm v5 cs ((HTA.out _).below hb5) HG.out.1.fit (SlC.own hown5) (by omega))
        obtain ⟨A5, c5, rfl, _⟩ := own_rd hown5
        clear hcs8 hcs0 hown5 hb5 HC
        go_wp2_with fail
        refine HK.out.mono ?_
        rintro e w6 ⟨rfl, hT6, hb6⟩
        have HR6 := Lib.hid (show TabRel w2 n m (.int .i64 ((k + 1 : Nat) : Int)) w6 from ⟨k + 1, _, by omega, rfl, hT6, HG.out.ask _ _, Hb5.out.trans hb6⟩)
        clear hT6 hb6 HK
        go_wp2_with fail
        go_roundw
        case rel => have h := HR6.out; rw [Int.natCast_add] at h; exact h
        case measure => simp [intOf]; omega
    · obtain rfl : k = m := by omega
      have Hbt := Lib.hid (Hb2.out.trans (hb.mono Hb2.out.size))
      clear hT hG hb hkm
      obtain ⟨wt, rfl⟩ : ∃ wt, wt = wr := ⟨_, rfl⟩
      have HO := Lib.hid (ORel.start wt n st)
      go_wp2_with fail
      go_loopw [13, 14, 88] (fun v u i wr => ∃ (i' : Nat) (E F : List ElC) (vs : List Value), i = .int .i64 (i' : Int) ∧ ORel wt wt.heap.size n st i' v u E F vs wr) (fun _ _ i _ => n - (intOf i).toNat)
      case atStart => exact ⟨0, [], [], _, rfl, HO.out⟩
      case round =>
        rename_i v u
        obtain ⟨i, E, F, vs, rfl, hO⟩ := hrel
        have hin := hO.le
        have HC1 := Lib.hid hO.core
        have HeL := Lib.hid hO.eLen
        have HfL := Lib.hid hO.fLen
        have He := Lib.hid hO.e
        have Hf := Lib.hid hO.f
        have HvL := Lib.hid hO.vLen
        have Hnil := Lib.hid hO.nil
        obtain ⟨Av, cv, rfl, _⟩ := own_rd hO.core.two.1
        obtain ⟨Au, cu, rfl, _⟩ := own_rd hO.core.two.2.1
        rw [hO.eLen, hO.fLen] at HC1 ⊢
        have hbw := hO.core.two.2.2.2.2
        have Hbw := Lib.hid hbw
        clear hO hbw
        by_cases hlt : i < n
        · have HCe := Lib.hid (cells_of wr _ _ st [] i (HT.out.below Hbw.out) HG.out.1.fit)
          have hlo : i + 1 ≤ maxLen := by unfold maxLen; omega
          have Hlo := Lib.hid hlo
          clear hlo
          go_wp2_with fail
          refine HCe.out.mono ?_
          rintro e w5 ⟨A5, n5, c5, rfl, hl5, hown5, hb5⟩
          have HC5 := Lib.hid (HC1.out.below hb5)
          have Hx5 := Lib.hid (And.intro (SlC.own hown5) (And.intro (HC1.out.two.fresh hown5) (show 0 < (cellsT st i).length → (Value.slice A5 n5 c5).ownBlock ≠ some wt.heap.size from fun _ e => by have := (hown5.lt _ e).1; have := HC1.out.blk.lt; omega)))
          have HP5 := Lib.hid (show ∀ v' w', w5.grownBy w' (Value.slice Av i cv).ownBlock → Near w5 (.slice Av i cv) v' → w'.ownsRow wt.heap.size 24 1 v' (i + 1) (E.map Prod.fst ++ [.slice A5 n5 c5]) → Core wt wt.heap.size w' v' (E ++ [(.slice A5 n5 c5, cellsT st i)]) (.slice Au i cu) F vs (fun j => if j < i then nextT st j n else []) from fun v' w' q1 q2 q3 => HC5.out.push (x := (.slice A5 n5 c5, cellsT st i)) Hx5.out.1 Hx5.out.2.1 Hx5.out.2.2 q1 q2 (by rw [HeL.out]; exact q3))
          have h25 := HC5.out.two.1
          rw [HeL.out] at h25
          have H251 := Lib.hid h25
          have hsz5 := HC5.out.two.2.2.2.2.size
          clear hl5 hown5 hb5 HCe h25
          go_wp2_with (at_builtin; refine wpList_push2 rfl (.tmp 91) (.tmp 95) 45 rfl wt.heap.size 24 j0 (.slice none 0 0) 1 24 Try.underlying45 hji hy0 hy1 hy2 rfl (by omega) (.slice Av i cv) i _ rfl H251.out [.slice A5 n5 c5] rfl rfl (by simp [Value.oneCell']) Hlo.out (by omega) hsz5 ?_; intro v6 w6 hn6 hg6 hnear6 hv6; obtain ⟨g6, c6, rfl⟩ := hv6; have HC6 := Lib.hid (HP5.out _ _ hg6 hnear6 hn6); have HW6 := Lib.hid (waits_of w6 _ _ st [] i (HT.out.below HC6.out.two.2.2.2.2) HG.out.1.fit); clear hn6 hg6 hnear6)
          refine HW6.out.mono ?_
          rintro e w7 ⟨A7, n7, c7, rfl, hl7, hown7, hb7⟩
          have HC7 := Lib.hid (HC6.out.below hb7)
          have Hx7 := Lib.hid (And.intro (SlC.own hown7) (And.intro (HC6.out.two.fresh hown7) (show 0 < (waitsT st i).length → (Value.slice A7 n7 c7).ownBlock ≠ some wt.heap.size from fun _ e => by have := (hown7.lt _ e).1; have := HC6.out.blk.lt; omega)))
          have HP7 := Lib.hid (show ∀ v' w', w7.grownBy w' (Value.slice Au i cu).ownBlock → Near w7 (.slice Au i cu) v' → w'.ownsRow wt.heap.size 24 1 v' (i + 1) (F.map Prod.fst ++ [.slice A7 n7 c7]) → Core wt wt.heap.size w' (.slice (some ⟨g6, 0, none⟩) (i + 1) c6) (E ++ [(.slice A5 n5 c5, cellsT st i)]) v' (F ++ [(.slice A7 n7 c7, waitsT st i)]) vs (fun j => if j < i then nextT st j n else []) from fun v' w' q1 q2 q3 => (HC7.out.swap.push (x := (.slice A7 n7 c7, waitsT st i)) Hx7.out.1 (fun h0 g hg => (Hx7.out.2.1 h0 g hg).symm) Hx7.out.2.2 q1 q2 (by rw [HfL.out]; exact q3)).swap)
          have h27 := HC7.out.two.2.1
          rw [HfL.out] at h27
          have H271 := Lib.hid h27
          have hsz7 := HC7.out.two.2.2.2.2.size
          clear hl7 hown7 hb7 HW6 h27
          go_wp2_with (at_builtin; refine wpList_push2 rfl (.tmp 97) (.tmp 101) 45 rfl wt.heap.size 24 j0 (.slice none 0 0) 1 24 Try.underlying45 hji hy0 hy1 hy2 rfl (by omega) (.slice Au i cu) i _ rfl H271.out [.slice A7 n7 c7] rfl rfl (by simp [Value.oneCell']) Hlo.out (by omega) hsz7 ?_; intro v8 w8 hn8 hg8 hnear8 hv8; obtain ⟨g8, c8, rfl⟩ := hv8; have HC8 := Lib.hid (HP7.out _ _ hg8 hnear8 hn8); clear hn8 hg8 hnear8)
          have hG8 : wt.heap.size < w8.heap.size := HC8.out.blk.lt
          have Hvi := Lib.hid (Hnil.out i (Nat.le_refl _) hlt)
          have Hb8 := Lib.hid HC8.out.two.2.2.2.2
          have HI0 := Lib.hid (show Off w8 w8 wt.heap.size ∧ Below wt.heap.size wt w8 ∧ Blk w8 wt.heap.size 22 (vs.set i (.slice none 0 0)).toArray ∧ w8.ownsRow w8.heap.size 3 1 (.slice none 0 0) (nextT st i 0).length ((nextT st i 0).map iv) from ⟨⟨Nat.le_refl _, fun b _ _ => rfl⟩, Hb8.out, by rw [set_same Hvi.out]; exact HC8.out.blk, World.ownsRow_nil _ _ _ _⟩)
          go_wp2_with fail
          go_loopw [104] (fun k wr => ∃ (k' : Nat) (r : Value), k = .int .i64 (k' : Int) ∧ k' ≤ n ∧ Off w8 wr wt.heap.size ∧ Below wt.heap.size wt wr ∧ Blk wr wt.heap.size 22 (vs.set i r).toArray ∧ wr.ownsRow w8.heap.size 3 1 r (nextT st i k').length ((nextT st i k').map iv)) (fun k _ => n - (intOf k).toNat)
          case atStart => exact ⟨0, _, rfl, Nat.zero_le _, HI0.out⟩
          case round =>
            obtain ⟨k, r, rfl, hkn, hoff, hbk, hblk, hown⟩ := hrel
            have Hoff := Lib.hid hoff
            have Hbk := Lib.hid hbk
            have Hblk := Lib.hid hblk
            have Hown := Lib.hid hown
            obtain ⟨Ar, cr, rfl, _⟩ := own_rd hown
            clear hoff hbk hblk hown
            by_cases hk : k < n
            · have hno : (k = i ∨ meets (waitsT st i) (cellsT st k) = false) → nextT st i (k + 1) = nextT st i k := fun h => by
                show (if _ then _ else _) = _
                rw [if_neg]
                rcases h with h | h
                · simp [h]
                · simp [h]
              have Hno := Lib.hid hno
              clear hno
              by_cases hki : k = i
              · have h1 : ((k : Int) != (i : Int)) = false := by simpa using (show (k : Int) = (i : Int) by omega)
                have HI := Lib.hid (show wr.ownsRow w8.heap.size 3 1 (.slice Ar (nextT st i k).length cr) (nextT st i (k + 1)).length ((nextT st i (k + 1)).map iv) from by rw [Hno.out (.inl hki)]; exact Hown.out)
                clear hki
                go_wp2_with fail
                go_roundw
                case rel => exact ⟨k + 1, _, by go_num, hk, Hoff.out, Hbk.out, Hblk.out, HI.out⟩
                case measure => simp [intOf]; omega
              have h1 : ((k : Int) != (i : Int)) = true := by simpa using (show ¬ (k : Int) = (i : Int) by omega)
              have Hki := Lib.hid hki
              have HW := Lib.hid (waits_of wr _ _ st [] i (HT.out.below Hbk.out) HG.out.1.fit)
              clear hki
              go_wp2_with fail
              refine HW.out.mono ?_
              rintro e w9 ⟨A9, n9, c9, rfl, hl9, hown9, hb9⟩
              have Hb9 := Lib.hid hb9
              have Hbt9 := Lib.hid (Hbk.out.trans (hb9.mono Hbk.out.size))
              have Hv9 := Lib.hid (SlC.own hown9)
              have HCe := Lib.hid (cells_of w9 _ _ st [] k (HT.out.below Hbt9.out) HG.out.1.fit)
              clear hl9 hown9 hb9 HW
              go_wp2_with fail
              refine HCe.out.mono ?_
              rintro e w10 ⟨A10, n10, c10, rfl, hl10, hown10, hb10⟩
              have Hb10 := Lib.hid (Hb9.out.trans (hb10.mono Hb9.out.size))
              have HM := Lib.hid (meet_any w10 (.slice A9 n9 c9) (.slice A10 n10 c10) (waitsT st i) (cellsT st k) ((Hv9.out.below hb10).more hb10.size) (SlC.own hown10) (by have := cellsF_len (waitsT_ok HG.out.1.fit i); omega) (by have := HG.out.few k; omega))
              clear hl10 hown10 hb10 HCe
              go_wp2_with fail
              refine HM.out.mono ?_
              rintro e w11 ⟨A11, n11, c11, rfl, hl11, hown11, hb11⟩
              have Hb11 := Lib.hid (Hb10.out.trans (hb11.mono Hb10.out.size))
              have Hl11 := Lib.hid hl11
              have Hblk11 := Lib.hid (Hblk.out.below Hb11.out (Nat.lt_of_lt_of_le hG8 Hoff.out.1))
              have Hown11 := Lib.hid (own_below Hown.out Hb11.out (Nat.le_refl _))
              have Hoff11 := Lib.hid (show Off w8 w11 wt.heap.size from ⟨Nat.le_trans Hoff.out.1 Hb11.out.size, fun b hb hne => (Hb11.out.block b (Nat.lt_of_lt_of_le hb Hoff.out.1)).trans (Hoff.out.2 b hb hne)⟩)
              have Hbt11 := Lib.hid (Hbk.out.trans (Hb11.out.mono Hbk.out.size))
              clear hown11 hb11 hl11 HM
              by_cases h0 : n11 = 0
              · subst h0
                have HI := Lib.hid (show w11.ownsRow w8.heap.size 3 1 (.slice Ar (nextT st i k).length cr) (nextT st i (k + 1)).length ((nextT st i (k + 1)).map iv) from by rw [Hno.out (.inr (by unfold meets; rw [Hl11.out]; rfl))]; exact Hown11.out)
                go_wp2_with fail
                go_roundw
                case rel => exact ⟨k + 1, _, by go_num, hk, Hoff11.out, Hbt11.out, Hblk11.out, HI.out⟩
                case measure => simp [intOf]; omega
              · have h2 : (0 : Int) < (n11 : Int) := by omega
                have Hyes := Lib.hid (show nextT st i (k + 1) = nextT st i k ++ [(k : Int)] from by
                  show (if _ then _ else _) = _
                  rw [if_pos]
                  unfold meets
                  rw [Hl11.out, decide_eq_true (show 0 < n11 by omega), decide_eq_true (show k ≠ i from Hki.out)]; rfl)
                have hlt2 : i < vs.length := by rw [HvL.out]; exact hlt
                have hvlen := HvL.out
                have q0 : w11.cell? ⟨wt.heap.size, i, none⟩ = some (.slice Ar (nextT st i k).length cr) := Hblk11.out.cell i _ (by simp [hlt2])
                have Hlen := Lib.hid (nextT_len st i k)
                have hlo2 : (nextT st i k).length + 1 ≤ maxLen := by have := Hlen.out; unfold maxLen; omega
                have Hlo2 := Lib.hid hlo2
                have hw11 : w8.heap.size ≤ w11.heap.size := Hoff11.out.1
                have HP := Lib.hid (show ∀ v' w', w'.ownsRow w8.heap.size 3 1 v' ((nextT st i k).length + 1) ((nextT st i k).map iv ++ [.int .i64 (k : Int)]) → Below w8.heap.size w11 w' → Off w8 (w'.setCell ⟨wt.heap.size, i, none⟩ v') wt.heap.size ∧ Below wt.heap.size wt (w'.setCell ⟨wt.heap.size, i, none⟩ v') ∧ Blk (w'.setCell ⟨wt.heap.size, i, none⟩ v') wt.heap.size 22 (vs.set i v').toArray ∧ (w'.setCell ⟨wt.heap.size, i, none⟩ v').ownsRow w8.heap.size 3 1 v' (nextT st i (k + 1)).length ((nextT st i (k + 1)).map iv) from fun v' w' p1 p2 => by
                  refine ⟨⟨by have := p2.size; simp; omega, fun b hb hne => ?_⟩, ?_, ?_, ?_⟩
                  · exact (Below.heap_setCell w' ⟨wt.heap.size, i, none⟩ v' b hne).trans ((p2.block b hb).trans (Hoff11.out.2 b hb hne))
                  · exact (Hbt11.out.trans (p2.mono (by omega))).setCell (Nat.le_refl _) _
                  · have h := (Hblk11.out.below p2 hG8).set i v'
                    simpa using h
                  · rw [Hyes.out, List.length_append, List.map_append]
                    exact ownsRow_setCell_below p1 hG8 _)
                have HfK := Lib.hid (show ∀ w', Below w8.heap.size w11 w' → w'.frozen? ⟨wt.heap.size, i, none⟩ = false from fun w' p2 => (Hblk11.out.below p2 hG8).free i)
                clear hlo2 h0
                go_wp2_with (at_builtin; refine wpList_push rfl (.tmp 126) (.tmp 128) 22 rfl w8.heap.size 3 i0 (.int .i64 0) 1 8 Try.underlying22 hii hz0 hz1 hz2 rfl (by omega) _ _ _ rfl Hown11.out [.int .i64 (k : Int)] rfl rfl (by simp [Value.oneCell']) Hlo2.out (by have := Hlen.out; omega) hw11 ?_; intro v12 w12 hn12 hb12 hv12; obtain ⟨g12, c12, rfl, _⟩ := hv12; have HI := Lib.hid (HP.out _ _ hn12 hb12); have hf12 := HfK.out _ hb12; have q12 := ((Hblk11.out.below hb12 hG8).cell i (.slice Ar (nextT st i k).length cr) (by simp [hlt2])); clear hn12 hb12)
                go_roundw
                case rel => exact ⟨k + 1, _, by go_num, hk, HI.out⟩
                case measure => simp [intOf]; omega
            · obtain rfl : k = n := by omega
              have HC9 := Lib.hid (show Core wt wt.heap.size wr (.slice (some ⟨g6, 0, none⟩) (i + 1) c6) (E ++ [(.slice A5 n5 c5, cellsT st i)]) (.slice (some ⟨g8, 0, none⟩) (i + 1) c8) (F ++ [(.slice A7 n7 c7, waitsT st i)]) (vs.set i (.slice Ar (nextT st i k).length cr)) (fun j => if j < i + 1 then nextT st j k else []) from HC8.out.turn Hoff.out Hbk.out Hblk.out (by simp only [Nat.lt_succ_self, if_true]; exact own_sli Hown.out) (fun g hg => Hown.out.lt g hg) (fun j hj => by
                by_cases hji : j < i
                · simp [hji, show j < i + 1 by omega]
                · simp [hji, show ¬ j < i + 1 by omega]))
              have HO := Lib.hid (show ORel wt wt.heap.size k st (i + 1) (.slice (some ⟨g6, 0, none⟩) (i + 1) c6) (.slice (some ⟨g8, 0, none⟩) (i + 1) c8) (E ++ [(.slice A5 n5 c5, cellsT st i)]) (F ++ [(.slice A7 n7 c7, waitsT st i)]) (vs.set i (.slice Ar (nextT st i k).length cr)) wr from
                ⟨hlt, by rw [List.length_append, HeL.out]; rfl, by rw [List.length_append, HfL.out]; rfl, snoc_get (P := fun j => cellsT st j) He.out (by show cellsT st i = cellsT st E.length; rw [HeL.out]), snoc_get (P := fun j => waitsT st j) Hf.out (by show waitsT st i = waitsT st F.length; rw [HfL.out]), by rw [List.length_set]; exact HvL.out, fun j h1 h2 => by rw [List.getElem?_set_ne (by omega)]; exact Hnil.out j (by omega) h2, HC9.out⟩)
              have Hi := Lib.hid hlt
              clear hlt
              go_wp2_with fail
              go_roundw
              case rel => exact ⟨i + 1, _, _, _, by go_num, HO.out⟩
              case measure => have := Hi.out; simp [intOf]; omega
        · obtain rfl : i = n := by omega
          have hRI := HC1.out.rowsI
          rw [HvL.out] at hRI
          have hRI2 : RowsI wr wr.heap.size (.slice (some ⟨wt.heap.size, 0, none⟩) i i) (rowsT st i) := by
            have e : rowsT st i = (List.range i).map (fun j => if j < i then nextT st j i else []) := by
              unfold rowsT
              apply List.map_congr_left
              intro j hj
              rw [if_pos (by simpa using hj)]
            rw [e]; exact hRI
          have HFn := Lib.hid (find_rows HG.out.1 i hn4 wr _ hRI2)
          have hr1' := HC1.out.two.rows
          have hr2' := HC1.out.two.swap.rows
          have HR1 := Lib.hid hr1'
          have HR2 := Lib.hid hr2'
          have HSw := Lib.hid (safe_waits HG.out hn4 (has := E.map Prod.snd) (wants := F.map Prod.snd) (by rw [List.length_map, HeL.out]) (by rw [List.length_map, HfL.out]) (getD_all HeL.out He.out) (getD_all HfL.out Hf.out))
          have HEl := Lib.hid (show (E.map Prod.snd).length = i by rw [List.length_map, HeL.out])
          have HFl := Lib.hid (show (F.map Prod.snd).length = i by rw [List.length_map, HfL.out])
          clear hRI hRI2 hr1' hr2'
          go_wp2_with fail
          refine HFn.out.mono ?_
          rintro e w5 ⟨rfl, hb5⟩
          have Hb5 := Lib.hid (Hbt.out.trans ((Hbw.out.trans (hb5.mono Hbw.out.size)).mono Hbt.out.size))
          have HSa := Lib.hid (safe_any w5 _ _ _ _ ((HR1.out.below hb5).more hb5.size) ((HR2.out.below hb5).more hb5.size) (by rw [HEl.out]; omega) (by rw [HFl.out]; omega))
          clear hb5 HFn
          go_wp2_with fail
          refine HSa.out.mono ?_
          intro e w6 hp
          obtain ⟨lo, hlo1, hlo2⟩ := HSw.out
          obtain ⟨v6, rfl, hown6, hb6⟩ := SafePost.is hp hlo1
          have Hb6 := Lib.hid (Hb5.out.trans (hb6.mono Hb5.out.size))
          rw [hlo2] at hown6
          obtain ⟨A6, c6, rfl, _⟩ := own_rd hown6
          clear hp hown6 hb6 HSa hlo1 hlo2
          go_wp2_with fail
          go_ret
          exact ⟨rfl, Hb6.out⟩
end Go.Proofs.Ytambngbkegnghaa.topWaits
