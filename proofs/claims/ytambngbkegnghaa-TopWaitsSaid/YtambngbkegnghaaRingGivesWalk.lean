/- RingGives' walk: it returns true. Conditions: the reach. -/
import Derived.Test.YtambngbkegnghaaTwoRows
import Derived.Test.YtambngbkegnghaaLeaseFirstWalk
import Derived.Test.YtambngbkegnghaaLeaseEndsWalk
namespace Go.Proofs.Ytambngbkegnghaa
open Go.RowKit Go.Gy
section
variable {ops : Array Oper} {rest : List Oper} {o : Oper} {a : Act} {w : World} {Q : Exit → Act → World → Prop}
theorem SlI.drop {w : World} {B n c k : Nat} {A : Option Addr} {l : List Int} (h : SlI w B (.slice A n c) l) (hk : k ≤ n) : SlI w B (.slice (if c = k then A else A.map (·.add k)) (n - k) (c - k)) (l.drop k) := by
  obtain ⟨A', n', c', he, h1, h2, h3, h4⟩ := h
  injection he with e1 e2 e3
  subst e1 e2 e3
  refine ⟨_, n - k, c - k, rfl, by rw [List.length_drop, h1], by omega, fun e => ?_, by rw [List.length_map, List.length_drop, h1, Nat.mul_one], fun h0 => ?_⟩
  · split at e
    · omega
    · cases A with
      | none => have := h3 rfl; omega
      | some a => cases e
  · obtain ⟨b, o, rfl, hb, hc⟩ := h4.2 (by omega)
    rw [if_neg (by omega)]
    refine ⟨b, o + k, (by show some ((⟨b, o, none⟩ : Addr).add k) = _; rw [add_none]), hb, fun j u hu => ?_⟩
    rw [List.map_drop, List.getElem?_drop] at hu
    rw [Nat.add_assoc]
    exact hc (k + j) u hu
theorem SlI.take {w : World} {B n c k : Nat} {A : Option Addr} {l : List Int} (h : SlI w B (.slice A n c) l) (hk : k ≤ n) : SlI w B (.slice A k c) (l.take k) := by
  obtain ⟨A', n', c', he, h1, h2, h3, h4⟩ := h
  injection he with e1 e2 e3
  subst e1 e2 e3
  exact ⟨A, k, c, rfl, by rw [List.length_take, h1]; omega, by omega, h3, by rw [List.length_map, List.length_take, h1]; omega, fun h0 => by
    obtain ⟨b, o, he, hb, hc⟩ := h4.2 (by omega)
    refine ⟨b, o, he, hb, fun j u hu => hc j u ?_⟩
    rw [List.map_take, List.getElem?_take] at hu
    split at hu
    · exact hu
    · cases hu⟩
/-- x = l[k:] -/
theorem wpList_ints_from (hgd : o.guard = none) (s x : Operand) (ho : o.op = .slice 22 s (some x) none none) (A : Option Addr) (n c k B : Nat) (l : List Int) (hk : k ≤ n) (hs : a.eval s = .slice A n c) (hx : a.eval x = .int .i64 (k : Int)) (hl : SlI w B (.slice A n c) l)
    (h : ∀ A' n' c', SlI w B (.slice A' n' c') (l.drop k) → wpList Try.prog ops Q rest (a.put o.dst (.slice A' n' c')) w) : wpList Try.prog ops Q (o :: rest) a w :=
  wpList_plain hgd fun _ hK => by
    have hu : Try.prog.underlying 22 = some (.slice (Try.prog.elem 22)) := by kernel_rfl
    have hr := run_slice_l (P := Try.prog) (w := w) 22 A n c hu .i64 (k : Int) (by omega) (by omega)
    rw [size_int' w] at hr
    simp only [Result.andThen, sliced, Int.toNat_natCast, Nat.mul_one] at hr
    unfold Oper.wp execOp
    simp only [ho, hs, hx, Option.map_none, Option.map_some, run_sliceAt_slice w 22 _ _ _ _ hu, hr, Sem.run_bind, Sem.run_pure, Result.andThen_ok]
    exact hK _ _ (h _ _ _ (hl.drop hk))
end
end Go.Proofs.Ytambngbkegnghaa
namespace Go.Proofs.Ytambngbkegnghaa.ringGives
open Go.RowKit Go.Gy
set_option linter.unusedVariables false
theorem safe_first : safeF [[]] [[(0, 0)]] = (0, [0]) := by decide
theorem rows_first (w : World) : RowsC (((w.alloc (.cells #[.slice none 0 0] 24)).alloc (.cells #[.int .i64 0, .int .i64 0] 39)).alloc (.cells #[.slice (some ⟨w.heap.size + 1, 0, none⟩) 1 1] 24)) (w.heap.size + 3) (.slice (some ⟨w.heap.size, 0, none⟩) 1 1) [[]] ∧
    RowsC (((w.alloc (.cells #[.slice none 0 0] 24)).alloc (.cells #[.int .i64 0, .int .i64 0] 39)).alloc (.cells #[.slice (some ⟨w.heap.size + 1, 0, none⟩) 1 1] 24)) (w.heap.size + 3) (.slice (some ⟨w.heap.size + 2, 0, none⟩) 1 1) [[(0, 0)]] := by
  have h1 : Rd (w.alloc (.cells #[.slice none 0 0] 24)) (w.heap.size + 1) 1 (some ⟨w.heap.size, 0, none⟩) 1 [.slice none 0 0] := (Rd.lit w 24 [.slice none 0 0] 1 1 rfl)
  have h2 := lit_slc (w.alloc (.cells #[.slice none 0 0] 24)) 0 0
  have b2 : ∀ (w : World) X, Below w.heap.size w (w.alloc X) := fun w X => (Below.refl _ _).alloc (Nat.le_refl _) _
  have h3 : Rd (((w.alloc (.cells #[.slice none 0 0] 24)).alloc (.cells #[.int .i64 0, .int .i64 0] 39)).alloc (.cells #[.slice (some ⟨w.heap.size + 1, 0, none⟩) 1 1] 24)) (w.heap.size + 3) 1 (some ⟨w.heap.size + 2, 0, none⟩) 1 [.slice (some ⟨w.heap.size + 1, 0, none⟩) 1 1] := by
    have h := Rd.lit ((w.alloc (.cells #[.slice none 0 0] 24)).alloc (.cells #[.int .i64 0, .int .i64 0] 39)) 24 [.slice (some ⟨w.heap.size + 1, 0, none⟩) 1 1] 1 1 rfl
    rw [World.size_alloc, World.size_alloc] at h
    exact h
  refine ⟨⟨_, 1, 1, [.slice none 0 0], rfl, rfl, Nat.le_refl _, (fun h => by cases h), (((h1.below ((b2 _ _).mono (by simp))).below ((b2 _ _).mono (by simp)))).more (by omega), rfl, fun i v r e1 e2 => ?_⟩, ⟨_, 1, 1, _, rfl, rfl, Nat.le_refl _, (fun h => by cases h), h3, rfl, fun i v r e1 e2 => ?_⟩⟩
  · match i with
    | 0 =>
      injection e1 with e1; injection e2 with e2
      subst e1 e2
      exact (SlC.own (World.ownsRow_nil _ 0 _ _)).more (by simp)
    | i + 1 => simp at e1
  · match i with
    | 0 =>
      injection e1 with e1; injection e2 with e2
      subst e1 e2
      have := (h2.below (b2 _ (.cells #[.slice (some ⟨w.heap.size + 1, 0, none⟩) 1 1] 24))).more (B' := w.heap.size + 3) (by simp)
      rw [World.size_alloc] at this
      exact this
    | i + 1 => simp at e1
def GRel (w2 : World) (st : Tab) (v u i : Value) (wr : World) : Prop := ∃ (k : Nat) (E F : List ElC), i = .int .i64 (k : Int) ∧ k ≤ 3 ∧ E.length = k ∧ F.length = k ∧ (∀ (j : Nat) (x : ElC), E[j]? = some x → x.2 = cellsT st j) ∧ (∀ x ∈ F, cellsF x.2 = 0) ∧ Two w2 wr v E u F
theorem safe_code {st : Tab} (hG : Good st 3) {E F : List ElC} (hE : E.length = 3) (hF : F.length = 3) (h1 : ∀ (j : Nat) (x : ElC), E[j]? = some x → x.2 = cellsT st j) (h2 : ∀ x ∈ F, cellsF x.2 = 0) :
    safeF (E.map Prod.snd) (F.map Prod.snd) = (11, []) ∨ ∃ l, safeF (E.map Prod.snd) (F.map Prod.snd) = (0, l) ∧ greedyF (E.map Prod.snd) (F.map Prod.snd) 3 [] = some l := by
  have hg : ∀ i, i < 3 → (E.map Prod.snd).getD i [] = st.1.getD i [] := fun i hi => by
    rw [List.getD_eq_getElem?_getD, List.getElem?_map]
    obtain ⟨x, hx⟩ : ∃ x, E[i]? = some x := ⟨_, List.getElem?_eq_getElem (by omega)⟩
    rw [hx]
    show x.2 = _
    rw [h1 i x hx, Go.Proofs.Ytambngbkegnghaa.leaseEnds.cellsT_nat]
  have hchk : ∀ k, k ≤ 3 → chkF (E.map Prod.snd) (F.map Prod.snd) k = 0 := by
    intro k
    induction k with
    | zero => intro _; rfl
    | succ k ih =>
      intro hk
      rw [chkF, ih (by omega), if_neg (by simp), hg k (by omega), hG.1.fit.cells, if_neg (by simp)]
      rw [List.getD_eq_getElem?_getD, List.getElem?_map]
      obtain ⟨x, hx⟩ : ∃ x, F[k]? = some x := ⟨_, List.getElem?_eq_getElem (by omega)⟩
      rw [hx]
      exact h2 x (List.mem_of_getElem? hx)
  have hcl : clashF (E.map Prod.snd) 3 = false := clashF_no fun i hi j hj => by
    rw [hg i hi, hg j (by omega), Bool.eq_false_iff]
    intro h
    obtain ⟨x, hx, hx'⟩ := meets_iff.1 h
    exact hG.1.apart i j (by omega) x hx hx'
  unfold safeF
  simp only [List.length_map, hE, hF, hchk 3 (Nat.le_refl _), hcl]
  rw [if_neg (by omega), if_neg (by simp), if_neg (by simp)]
  cases h : greedyF (E.map Prod.snd) (F.map Prod.snd) 3 [] with
  | none => exact .inl rfl
  | some l => exact .inr ⟨l, rfl, rfl⟩
set_option maxRecDepth 100000 in
set_option maxHeartbeats 4000000 in
theorem walk (v v2 : Value) (w : World) {b0 b1 : Nat} (f0 : IntsArg w v b0) (f1 : IntsArg w v2 b1) :
    Calls Try.prog 8 #[v, v2] w fun e w' => e = .returned (.bool true) ∧ Below w.heap.size w w' := by
  obtain ⟨l, hl, _, _, hlb⟩ := f0
  obtain ⟨l2, hl2, _, _, hlb2⟩ := f1
  have hlb2' : l2.length ≤ 140737488355328 := by unfold reachBytes at hlb2; omega
  obtain ⟨j0, hji, hy0, hy1, hy2⟩ := info_parts info_cellrow
  have hrf := rows_first w
  have hbA : Below w.heap.size w (((w.alloc (.cells #[.slice none 0 0] 24)).alloc (.cells #[.int .i64 0, .int .i64 0] 39)).alloc (.cells #[.slice (some ⟨w.heap.size + 1, 0, none⟩) 1 1] 24)) := (((Below.refl _ _).alloc (Nat.le_refl _) _).alloc (by simp) _).alloc (by simp; omega) _
  have HS := Lib.hid (safe_any _ _ _ _ _ (hrf.1.more (by simp)) (hrf.2.more (by simp)) (by simp) (by simp))
  have HbA := Lib.hid hbA
  have Hl := Lib.hid hl
  have Hl2 := Lib.hid hl2
  obtain ⟨A, n, c, rfl, hln, hlx⟩ := id hl
  obtain ⟨A2, n2, c2, rfl, hln2, hlx2⟩ := id hl2
  have Hn2 := Lib.hid hln2
  clear hl hl2 hlb hlb2 hlx hlx2 hrf hbA hln hln2
  go_enter Try.func8, Try.ntmps8
  go_wp2_with fail
  refine HS.out.mono ?_
  intro e w1 hp
  obtain ⟨v1, rfl, hown1, hb1⟩ := SafePost.is (has := [[]]) (wants := [[(0, 0)]]) hp safe_first
  have Hb1 := Lib.hid (HbA.out.trans (hb1.mono HbA.out.size))
  have Hs1 := Lib.hid (own_sli (l := [0]) hown1)
  obtain ⟨A1, c1, rfl, _⟩ := own_rd hown1
  have hal : ∀ X, Below w1.heap.size w1 (w1.alloc X) := fun X => (Below.refl _ _).alloc (Nat.le_refl _) _
  have HE := Lib.hid (equal_ints (w1.alloc (.cells #[.int .i64 0] 3)) (.slice A1 1 c1) (.slice (some ⟨w1.heap.size, 0, none⟩) 1 1) (w1.heap.size + 1) [0] [0] ((Hs1.out.below (hal _)).more (by omega)) ⟨_, 1, 1, rfl, rfl, Nat.le_refl _, (fun h => by cases h), Rd.lit w1 3 [.int .i64 0] 1 1 rfl⟩ (by simp) (by simp))
  have Hb1A := Lib.hid (Hb1.out.trans ((hal (.cells #[.int .i64 0] 3)).mono Hb1.out.size))
  clear hp hown1 hb1 HS hal
  go_wp2_with fail
  refine HE.out.mono ?_
  rintro e w9 ⟨rfl, qq, rfl⟩
  have Hb2 := Lib.hid (below_drewN Hb1A.out qq)
  obtain ⟨w3, hw3⟩ : ∃ w3, w3 = (w1.alloc (.cells #[.int .i64 0] 3)).drewN qq := ⟨_, rfl⟩
  rw [← hw3] at Hb2 ⊢
  have HT := Lib.hid (table_any w3 3 _ l (by decide) (by decide) ((Hl.out.below Hb2.out).more Hb2.out.size))
  clear hw3 HE
  go_wp2_with fail
  refine HT.out.mono ?_
  rintro e w4 ⟨st, p, rfl, hT4, hG4, hb4⟩
  have HT4 := Lib.hid hT4
  have HG := Lib.hid hG4
  have Hb4 := Lib.hid (Hb2.out.trans (hb4.mono Hb2.out.size))
  clear hT4 hG4 hb4 HT
  go_wp2_with fail
  go_loopw [9, 10, 40] (fun v u i wr => GRel w4 st v u i wr) (fun _ _ i _ => 3 - (intOf i).toNat)
  case atStart => exact ⟨0, [], [], rfl, by omega, rfl, rfl, fun j x h => by simp at h, fun x hx => by simp at hx, Two.start (Below.refl _ _)⟩
  case round =>
    rename_i v u
    obtain ⟨k, E, F, rfl, hk, hE, hF, hE2, hF2, h2⟩ := hrel
    have H2 := Lib.hid h2
    have HE := Lib.hid hE
    have HF := Lib.hid hF
    have HE2 := Lib.hid hE2
    have HF2 := Lib.hid hF2
    obtain ⟨Av, cv, rfl, _⟩ := own_rd h2.1
    obtain ⟨Au, cu, rfl, _⟩ := own_rd h2.2.1
    rw [hE, hF] at H2 ⊢
    clear h2 hE2 hF2
    by_cases hk3 : k < 3
    · have HC := Lib.hid (cells_of wr _ p st [] k (HT4.out.below H2.out.2.2.2.2) HG.out.1.fit)
      obtain ⟨a, ha⟩ : ∃ a : Nat, a = min n2 (3 * k) := ⟨_, rfl⟩
      have Ha := Lib.hid (show min (n2 : Int) (3 * (k : Int)) = (a : Int) by omega)
      have Ha2 := Lib.hid (show a ≤ n2 by omega)
      have hmul : IntKind.i64.wrap (3 * (k : Int)) = 3 * (k : Int) := IntWalk.i64_in _ (by omega)
      have hlo : k + 1 ≤ maxLen := by unfold maxLen; omega
      have Hlo := Lib.hid hlo
      clear ha hlo hE hF
      go_wp2_with fail
      refine HC.out.mono ?_
      rintro e w5 ⟨A5, n5, c5, rfl, hl5, hown5, hb5⟩
      have H25 := Lib.hid (H2.out.below hb5)
      have Hx5 := Lib.hid (And.intro (SlC.own hown5) (H2.out.fresh hown5))
      have HP5 := Lib.hid (show ∀ v' w', w5.grownBy w' (Value.slice Av k cv).ownBlock → Near w5 (.slice Av k cv) v' → w'.ownsRow w4.heap.size 24 1 v' (k + 1) (E.map Prod.fst ++ [.slice A5 n5 c5]) → Two w4 w' v' (E ++ [(.slice A5 n5 c5, cellsT st k)]) (.slice Au k cu) F from fun v' w' q1 q2 q3 => H25.out.push Hx5.out.1 Hx5.out.2 q1 q2 (by rw [HE.out]; exact q3))
      have h25 := H25.out.1
      rw [HE.out] at h25
      have H251 := Lib.hid h25
      have hsz5 := H25.out.2.2.2.2.size
      clear hl5 hown5 hb5 HC h25
      go_wp2_with (first | (at_builtin; refine wpList_push2 rfl (.tmp 43) (.tmp 47) 45 rfl w4.heap.size 24 j0 (.slice none 0 0) 1 24 Try.underlying45 hji hy0 hy1 hy2 rfl (by omega) (.slice Av k cv) k _ rfl H251.out [.slice A5 n5 c5] rfl rfl (by simp [Value.oneCell']) Hlo.out (by omega) hsz5 ?_; intro v6 w6 hn6 hg6 hnear6 hv6; obtain ⟨g6, c6, rfl⟩ := hv6; have H26 := Lib.hid (HP5.out _ _ hg6 hnear6 hn6); have HL6 := Lib.hid ((Hl2.out.below (Hb4.out.trans (H26.out.2.2.2.2.mono Hb4.out.size))).more (Nat.le_trans Hb4.out.size H26.out.2.2.2.2.size)); clear hn6 hg6 hnear6) | (refine wpList_min2 rfl (.tmp 52) (.tmp 54) _ rfl (n2 : Int) (3 * (k : Int)) rfl rfl (a : Int) Ha.out ?_) | (refine wpList_ints_from rfl (.tmp 50) (.tmp 55) rfl A2 n2 c2 a w6.heap.size l2 Ha2.out rfl rfl HL6.out ?_; intro A7 n7 c7 hs7; have HC7 := Lib.hid (cells_any w6 _ _ hs7 (by rw [List.length_drop]; omega)); clear hs7))
      refine HC7.out.mono ?_
      rintro e w7 ⟨v7, cs, rfl, hcs8, hcs0, hown7, hb7⟩
      have H27 := Lib.hid (H26.out.below hb7)
      have Hx7 := Lib.hid (And.intro (SlC.own hown7) (H26.out.fresh hown7))
      have Hc0 := Lib.hid hcs0
      obtain ⟨A7, c7, rfl, _⟩ := own_rd hown7
      obtain ⟨n7, hn7⟩ : ∃ n7, n7 = cs.length := ⟨_, rfl⟩
      rw [← hn7] at Hx7 ⊢
      have Hn7 := Lib.hid hn7
      have HP7 := Lib.hid (show ∀ v' w', w7.grownBy w' (Value.slice Au k cu).ownBlock → Near w7 (.slice Au k cu) v' → w'.ownsRow w4.heap.size 24 1 v' (k + 1) (F.map Prod.fst ++ [.slice A7 n7 c7]) → Two w4 w' (.slice (some ⟨g6, 0, none⟩) (k + 1) c6) (E ++ [(.slice A5 n5 c5, cellsT st k)]) v' (F ++ [(.slice A7 n7 c7, cs)]) from fun v' w' q1 q2 q3 => (H27.out.swap.push (x := (.slice A7 n7 c7, cs)) Hx7.out.1 (fun h0 g hg => (Hx7.out.2 (by rw [Hn7.out]; exact h0) g hg).symm) q1 q2 (by rw [HF.out]; exact q3)).swap)
      have h27 := H27.out.2.1
      rw [HF.out] at h27
      have H271 := Lib.hid h27
      have hsz7 := H27.out.2.2.2.2.size
      clear hcs8 hcs0 hown7 hb7 HC7 h27 hn7
      go_wp2_with (at_builtin; refine wpList_push2 rfl (.tmp 49) (.tmp 58) 45 rfl w4.heap.size 24 j0 (.slice none 0 0) 1 24 Try.underlying45 hji hy0 hy1 hy2 rfl (by omega) (.slice Au k cu) k _ rfl H271.out [.slice A7 n7 c7] rfl rfl (by simp [Value.oneCell']) Hlo.out (by omega) hsz7 ?_; intro v8 w8 hn8 hg8 hnear8 hv8; obtain ⟨g8, c8, rfl⟩ := hv8; have H28 := Lib.hid (HP7.out _ _ hg8 hnear8 hn8); clear hn8 hg8 hnear8)
      go_roundw
      case rel =>
        refine ⟨k + 1, _, _, by go_num, by omega, by rw [List.length_append, HE.out]; rfl, by rw [List.length_append, HF.out]; rfl, fun j x hj => ?_, fun x hx => ?_, H28.out⟩
        · rcases Nat.lt_or_ge j E.length with h1 | h1
          · rw [List.getElem?_append_left h1] at hj; exact HE2.out j x hj
          · rw [List.getElem?_append_right h1] at hj
            have hjE : j - E.length = 0 := by have := (List.getElem?_eq_some_iff.1 hj).1; simp at this; omega
            rw [hjE] at hj
            injection hj with hj
            subst hj
            show cellsT st k = cellsT st j
            rw [show j = k by have := HE.out; omega]
        · rcases List.mem_append.1 hx with hx | hx
          · exact HF2.out x hx
          · have hx := List.mem_singleton.1 hx
            subst hx
            exact Hc0.out
      case measure => simp [intOf]; omega
    · obtain rfl : k = 3 := by omega
      have hcode := safe_code HG.out hE hF HE2.out HF2.out
      have hEl : (E.map Prod.snd).length = 3 := by rw [List.length_map, hE]
      have hFl : (F.map Prod.snd).length = 3 := by rw [List.length_map, hF]
      have hRE := H2.out.rows
      have hRF := H2.out.swap.rows
      have HRE := Lib.hid hRE
      have HRF := Lib.hid hRF
      have HSf := Lib.hid (safe_any wr (.slice Av 3 cv) (.slice Au 3 cu) (E.map Prod.snd) (F.map Prod.snd) hRE hRF (by omega) (by omega))
      have Hbw := Lib.hid (Hb4.out.trans (H2.out.2.2.2.2.mono Hb4.out.size))
      obtain ⟨hs, hhs⟩ : ∃ hs, hs = E.map Prod.snd := ⟨_, rfl⟩
      obtain ⟨ws, hws⟩ : ∃ ws, ws = F.map Prod.snd := ⟨_, rfl⟩
      have HlE := Lib.hid (show ∀ (j : Nat) x, hs[j]? = some x → x.length ≤ 400 from fun j x hx => by
        rw [hhs, List.getElem?_map] at hx
        cases hEj : E[j]? with
        | none => rw [hEj] at hx; cases hx
        | some y =>
          rw [hEj] at hx
          injection hx with hx
          subst hx
          rw [HE2.out j y hEj]
          exact HG.out.few j)
      have HlF := Lib.hid (show ∀ x ∈ ws, x.length ≤ 400 from fun x hx => by
        rw [hws] at hx
        obtain ⟨y, hy, rfl⟩ := List.mem_map.1 hx
        exact cellsF_len (HF2.out y hy))
      rw [← hhs] at hcode hEl HRE HSf
      rw [← hws] at hcode hFl HRF HSf
      have HEl := Lib.hid hEl
      have HFl := Lib.hid hFl
      clear hRE hRF hEl hFl hhs hws hE hF HE HF HE2 HF2 H2 hk hk3
      go_wp2_with fail
      refine HSf.out.mono ?_
      intro e w8 hp
      rcases hcode with hcode | ⟨lo, hcode, hgr⟩
      · obtain ⟨v8, rfl, hown8, hb8⟩ := SafePost.is hp hcode
        have HP := Lib.hid (Hbw.out.trans (hb8.mono Hbw.out.size))
        obtain ⟨A8, c8, rfl, _⟩ := own_rd hown8
        clear hp hown8 hb8 HSf hcode
        go_wp2_with fail
        go_ret
        exact ⟨rfl, HP.out⟩
      · obtain ⟨v8, rfl, hown8, hb8⟩ := SafePost.is hp hcode
        obtain ⟨hl3, _, hlaw⟩ := greedy_law 3 [] lo hgr
        simp only [List.length_nil, Nat.zero_add] at hl3 hlaw
        have Hlaw := Lib.hid hlaw
        have HREw := Lib.hid (HRE.out.below hb8)
        have HRFw := Lib.hid (HRF.out.below hb8)
        have Hb8 := Lib.hid (Hbw.out.trans (hb8.mono Hbw.out.size))
        have Hz8 := Lib.hid hb8.size
        rw [hl3] at hown8
        obtain ⟨A8, c8, rfl, hc8, _, hr8⟩ := own_rd hown8
        have Hr8 := Lib.hid hr8
        have hso := own_sli (l := lo) (by rw [hl3]; exact hown8)
        have Hso := Lib.hid hso
        have Hl3 := Lib.hid hl3
        clear hp hown8 hb8 HSf hcode hgr hl3 hlaw hso hr8
        go_wp2_with fail
        go_loopw [81] (fun i wr => ∃ i' : Nat, i = .int .i64 (i' : Int) ∧ i' ≤ 3 ∧ Below w8.heap.size w8 wr) (fun i _ => 3 - (intOf i).toNat)
        case atStart => exact ⟨0, rfl, by omega, Below.refl _ _⟩
        case round =>
          rename_i wr0
          obtain ⟨i, rfl, hi3, hbi⟩ := hrel
          have Hbi := Lib.hid hbi
          by_cases hlt : i < 3
          · obtain ⟨b, o, k, rfl, hbB, hk, hck⟩ := (Hr8.out.below hbi).one (show i < 3 from hlt)
            obtain ⟨hk0, hk3, hknot, hfree⟩ := Hlaw.out i k (Nat.zero_le _) hk
            rw [HEl.out] at hk3
            obtain ⟨kn, rfl⟩ : ∃ kn : Nat, k = (kn : Int) := ⟨k.toNat, by omega⟩
            rw [Int.toNat_natCast] at hfree
            have hkn3 : kn < 3 := by omega
            have g1 : ¬ (kn : Int) < 0 := by omega
            have g2 : ¬ (2 : Int) < (kn : Int) := by omega
            have hic : i ≤ c8 := by omega
            have Hst := Lib.hid (((Hso.out.below hbi).more hbi.size).take (k := i) (by omega))
            have HCn := Lib.hid (fun (w9 : World) (h9 : Below wr.heap.size wr w9) (x : Int) => contains_ints w9 (.slice (some ⟨b, o, none⟩) i c8) w9.heap.size (lo.take i) x ((Hst.out.below h9).more h9.size) (by rw [List.length_take, Hl3.out]; omega))
            have HC0 := Lib.hid (HCn.out wr (Below.refl _ _) (kn : Int))
            rw [decide_eq_false hknot] at HC0
            have Hfree := Lib.hid hfree
            have Hlt := Lib.hid hlt
            clear hbi hk hknot hfree hbB hk0 hk3
            go_wp2_with (refine wpList_slice_toG (by rfl) 22 _ _ rfl (some ⟨b, o, none⟩) 3 c8 i rfl rfl (by kernel_rfl) (fun w => ints_to (some ⟨b, o, none⟩) 3 c8 i hic w) ?_)
            refine HC0.out.mono ?_
            rintro e w9 ⟨rfl, rfl⟩
            go_wp2_with fail
            obtain ⟨w9, rfl⟩ : ∃ w9, w9 = wr := ⟨_, rfl⟩
            go_loopw [99] (fun i wr => ∃ j : Nat, i = .int .i64 (j : Int) ∧ j ≤ 3 ∧ Below w9.heap.size w9 wr) (fun i _ => 3 - (intOf i).toNat)
            case atStart => exact ⟨0, rfl, by omega, Below.refl _ _⟩
            case round =>
              obtain ⟨j, rfl, hj3, hbj⟩ := hrel
              have Hbj := Lib.hid hbj
              have Hb8j := Lib.hid (Hbi.out.trans (hbj.mono Hbi.out.size))
              by_cases hlj : j < 3
              · by_cases hjk : j = kn
                · subst hjk
                  go_wp2_with fail
                  go_quiet (fail)
                  go_wp2_with fail
                  go_roundw
                  case rel => exact ⟨j + 1, by go_num, by omega, below_drewN Hbj.out _⟩
                  case measure => simp [intOf]; omega
                · have hjn : ¬ (j : Int) = (kn : Int) := by omega
                  have hjb : ((j : Int) != (kn : Int)) = true := by simpa using hjn
                  have HCj := Lib.hid (fun n => (HCn.out (wr.drewN n) (below_drewN Hbj.out n) (j : Int)).mono fun _ _ ⟨he, hw⟩ => (⟨he, hw.symm⟩ : _ ∧ _))
                  have HCd := Lib.hid (HCn.out wr.drew (Hbj.out.drew) (j : Int))
                  have HbD := Lib.hid ((Below.refl wr.heap.size wr).drew)
                  obtain ⟨bE, oE, x, r, rfl, hbE, q0, hr, hx⟩ := (HREw.out.below (Hb8j.out.mono Hz8.out)).get hlj
                  obtain ⟨bF, oF, y, r', rfl, hbF, q1, hr', hy⟩ := (HRFw.out.below (Hb8j.out.mono Hz8.out)).get hkn3
                  obtain ⟨Ax, nx, cx, rfl, _⟩ := id hx
                  obtain ⟨Ay, ny, cy, rfl, _⟩ := id hy
                  have hsz : w8.heap.size ≤ wr.heap.size := Hb8j.out.size
                  have hzz := Nat.le_trans Hz8.out hsz
                  have s1 : (i : Int).toNat = i := Int.toNat_natCast i
                  have s2 : (0 : Int) ≤ (i : Int) := by omega
                  have s3 : (i : Int) ≤ (c8 : Int) := by omega
                  have s4 : ¬ c8 = 0 := by omega
                  have s5 : (0 : Int) ≤ (kn : Int) := by omega
                  have s6 : (kn : Int) < 3 := by omega
                  have s7 : kn < 3 := by omega
                  by_cases hin : (j : Int) ∈ lo.take i
                  · rw [decide_eq_true hin] at HCj
                    clear hin hx hy hr hr' hbE hbF
                    go_wp2_with fail
                    go_quiet ((go_at_call 24; exact Calls.quiet_of_same (HCj.out _)))
                    go_wp2_with fail
                    go_roundw
                    case rel => exact ⟨j + 1, by go_num, by omega, below_drewN Hbj.out _⟩
                    case measure => simp [intOf]; omega
                  · have hmt : meets r r' = false := by
                      have h1 := Hfree.out
                      unfold freeF at h1
                      rw [List.all_eq_true] at h1
                      have h2 := h1 j (by rw [HEl.out]; simpa using hlj)
                      unfold freeAt at h2
                      rw [decide_eq_false hjn, decide_eq_false hin, List.getD_eq_getElem?_getD, List.getD_eq_getElem?_getD, hr, hr'] at h2
                      simpa using h2
                    have hmn : (meetC r r').length = 0 := by
                      unfold meets at hmt
                      have := of_decide_eq_false hmt
                      omega
                    have HM := Lib.hid (meet_any wr.drew (.slice Ax nx cx) (.slice Ay ny cy) r r' (hx.more (by exact hzz)) (hy.more (by exact hzz)) (by have := HlE.out j r hr; omega) (by have := HlF.out r' (List.mem_of_getElem? hr'); omega))
                    have Hmn := Lib.hid hmn
                    have HSk := Lib.hid (show ∀ w', Below wr.heap.size wr w' → w'.cell? ⟨bE, oE + j, none⟩ = some (.slice Ax nx cx) ∧ w'.cell? ⟨bF, oF + kn, none⟩ = some (.slice Ay ny cy) ∧ Below wr.heap.size wr w' from fun w' hb => ⟨(hb.cell (p := ⟨bE, oE + j, none⟩) (by show bE < _; omega)).trans q0, (hb.cell (p := ⟨bF, oF + kn, none⟩) (by show bF < _; omega)).trans q1, hb⟩)
                    rw [decide_eq_false hin] at HCd
                    clear hin hx hy hr hr' hbE hbF hmt hmn
                    go_wp2_with fail
                    go_region_held3 (fun w' => w'.cell? ⟨bE, oE + j, none⟩ = some (.slice Ax nx cx) ∧ w'.cell? ⟨bF, oF + kn, none⟩ = some (.slice Ay ny cy) ∧ Below wr.heap.size wr w') (with_reducible (first | exact HSk.out _ HbD.out | exact HSk.out _ hb7))
                      (first | (go_at_call 24; refine HCd.out.mono ?_; rintro e w7 ⟨rfl, rfl⟩) | (go_at_call 23; refine HM.out.mono ?_; rintro e w7 ⟨A7, n7, c7, rfl, hl7, hown7, hb7'⟩; have hn7 : n7 = 0 := hl7.symm.trans Hmn.out; subst hn7; have hb7 : Below wr.heap.size wr w7 := HbD.out.trans hb7'; clear hown7 hb7' hl7))
                    go_wp2_with fail
                    go_roundw
                    case rel => exact ⟨j + 1, by go_num, by omega, Hbj.out.trans (hb7.mono Hbj.out.size)⟩
                    case measure => simp [intOf]; omega
              · obtain rfl : j = 3 := by omega
                clear hbj
                go_wp2_with fail
                go_roundw
                case rel => exact ⟨i + 1, by go_num, Hlt.out, Hb8j.out⟩
                case measure => have := Hlt.out; simp [intOf]; omega
          · obtain rfl : i = 3 := by omega
            have HP := Lib.hid (Hb8.out.trans (hbi.mono Hb8.out.size))
            clear hbi
            go_wp2_with fail
            go_ret
            exact ⟨rfl, HP.out⟩
end Go.Proofs.Ytambngbkegnghaa.ringGives
