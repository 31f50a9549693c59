/- ring.Safe. Conditions: those typed. -/
import Derived.Test.YtambngbkegnghaaSafeA
namespace Go.Proofs.Ytambngbkegnghaa
open Go.RowKit Go.Gy
set_option linter.unusedVariables false
/-- the first fault of the first k rows -/
def chkF (has wants : List (List Cell)) : Nat → Nat
  | 0 => 0
  | k + 1 => if chkF has wants k ≠ 0 then chkF has wants k else if cellsF (has.getD k []) ≠ 0 then cellsF (has.getD k []) else cellsF (wants.getD k [])
/-- two of the first k rows have a cell in common -/
def clashF (has : List (List Cell)) (k : Nat) : Bool := (List.range k).any fun i => (List.range i).any fun j => meets (has.getD i []) (has.getD j [])
/-- the least arm, of the first i, that can be next -/
def pickF (has wants : List (List Cell)) (out : List Int) : Nat → Int
  | 0 => -1
  | i + 1 => if pickF has wants out i < 0 ∧ (i : Int) ∉ out ∧ freeF has (wants.getD i []) i out = true then i else pickF has wants out i
def greedyF (has wants : List (List Cell)) : Nat → List Int → Option (List Int)
  | 0, out => some out
  | f + 1, out => if pickF has wants out has.length < 0 then none else greedyF has wants f (out ++ [pickF has wants out has.length])
def safeF (has wants : List (List Cell)) : Nat × List Int :=
  if 4 < has.length ∨ wants.length ≠ has.length then (2, [])
  else if chkF has wants has.length ≠ 0 then (chkF has wants has.length, [])
  else if clashF has has.length = true then (10, [])
  else match greedyF has wants has.length [] with
    | none => (11, [])
    | some l => (0, l)
theorem chkF_mono {has wants : List (List Cell)} : ∀ {k n : Nat}, k ≤ n → chkF has wants k ≠ 0 → chkF has wants n = chkF has wants k
  | k, 0, h, h0 => by obtain rfl : k = 0 := by omega
                      rfl
  | k, n + 1, h, h0 => by
    by_cases hk : k = n + 1
    · rw [hk]
    · have ih := chkF_mono (has := has) (wants := wants) (k := k) (n := n) (by omega) h0
      show (if _ then _ else _) = _
      rw [if_pos (by rw [ih]; exact h0), ih]
theorem chkF_get {has wants : List (List Cell)} {n : Nat} (h : chkF has wants n = 0) : ∀ k, k < n → cellsF (has.getD k []) = 0 ∧ cellsF (wants.getD k []) = 0 := by
  intro k hk
  have h1 : chkF has wants (k + 1) = 0 := by
    rcases Nat.eq_zero_or_pos (chkF has wants (k + 1)) with h1 | h1
    · exact h1
    · rw [← chkF_mono (n := n) (by omega) (by omega)]; exact h
  rw [chkF] at h1
  split at h1
  · contradiction
  · split at h1
    · contradiction
    · exact ⟨by omega, h1⟩
theorem clashF_yes {has : List (List Cell)} {i j n : Nat} (hi : i < n) (hj : j < i) (h : meets (has.getD i []) (has.getD j []) = true) : clashF has n = true := by
  unfold clashF
  rw [List.any_eq_true]
  refine ⟨i, by simpa using hi, ?_⟩
  rw [List.any_eq_true]
  exact ⟨j, by simpa using hj, h⟩
theorem clashF_no {has : List (List Cell)} {n : Nat} (h : ∀ i, i < n → ∀ j, j < i → meets (has.getD i []) (has.getD j []) = false) : clashF has n = false := by
  rw [Bool.eq_false_iff]
  intro hc
  unfold clashF at hc
  rw [List.any_eq_true] at hc
  obtain ⟨i, hi, hc⟩ := hc
  rw [List.any_eq_true] at hc
  obtain ⟨j, hj, hc⟩ := hc
  rw [h i (by simpa using hi) j (by simpa using hj)] at hc
  cases hc
theorem pickF_range {has wants : List (List Cell)} {out : List Int} : ∀ i, pickF has wants out i = -1 ∨ 0 ≤ pickF has wants out i ∧ pickF has wants out i < i
  | 0 => .inl rfl
  | i + 1 => by
    unfold pickF
    split
    · exact .inr ⟨by omega, by omega⟩
    · rcases pickF_range (has := has) (wants := wants) (out := out) i with h | h
      · exact .inl h
      · exact .inr ⟨h.1, by omega⟩
def SafePost (w : World) (has wants : List (List Cell)) (e : Ending) (w' : World) : Prop := ∃ v', e = .returned (.tuple #[v', .int .i64 ((safeF has wants).1 : Int)]) ∧ w'.ownsRow w.heap.size 3 1 v' (safeF has wants).2.length ((safeF has wants).2.map iv) ∧ Below w.heap.size w w'
theorem SafePost.none {w w' : World} {has wants : List (List Cell)} {x : Nat} (h : safeF has wants = (x, [])) (hb : Below w.heap.size w w') : SafePost w has wants (.returned (.tuple #[.slice none 0 0, .int .i64 (x : Int)])) w' :=
  ⟨_, by rw [h], by rw [h]; exact World.ownsRow_nil _ _ _ _, hb⟩
set_option maxRecDepth 100000 in
set_option maxHeartbeats 4000000 in
theorem safe_any (w : World) (v v2 : Value) (has wants : List (List Cell)) (hv : RowsC w w.heap.size v has) (hv2 : RowsC w w.heap.size v2 wants) (hb1 : has.length ≤ 140737488355328) (hb2 : wants.length ≤ 140737488355328) :
    Calls Try.prog 30 #[v, v2] w (SafePost w has wants) := by
  obtain ⟨A, n, c, vs, rfl, hln, _⟩ := id hv
  obtain ⟨A', n', c', vs', rfl, hln', _⟩ := id hv2
  obtain ⟨i0, hi, hz0, hz1, hz2⟩ := info_parts info_int
  have HV := Lib.hid hv
  have HV2 := Lib.hid hv2
  have Hln := Lib.hid hln
  have Hln' := Lib.hid hln'
  clear hv hv2
  by_cases h4 : 4 < n
  · have h4' : (4 : Int) < (n : Int) := by omega
    have HP := Lib.hid (SafePost.none (w := w) (has := has) (wants := wants) (x := 2) (by unfold safeF; rw [if_pos (.inl (by omega))]) (Below.refl w.heap.size w))
    clear hln hln' h4
    go_enter Try.func30, Try.ntmps30
    go_wp2_with fail
    go_ret2
    exact HP.out
  have h4' : ¬ (4 : Int) < (n : Int) := by omega
  by_cases hnn : n' = n
  rotate_left
  · have hne : ((n' : Int) != (n : Int)) = true := by simpa using (show ¬ (n' : Int) = (n : Int) by omega)
    have HP := Lib.hid (SafePost.none (w := w) (has := has) (wants := wants) (x := 2) (by unfold safeF; rw [if_pos (.inr (by omega))]) (Below.refl w.heap.size w))
    clear hln hln' hnn
    go_enter Try.func30, Try.ntmps30
    go_wp2_with fail
    go_ret2
    exact HP.out
  subst hnn
  have hn4 : n' ≤ 4 := by omega
  have HS := Lib.hid (show safeF has wants = if chkF has wants n' ≠ 0 then (chkF has wants n', []) else if clashF has n' = true then (10, []) else match greedyF has wants n' [] with
    | none => (11, [])
    | some l => (0, l) from by
      unfold safeF
      rw [if_neg (by omega), hln])
  clear hln hln' h4 hb1 hb2
  go_enter Try.func30, Try.ntmps30
  go_wp2_with fail
  go_loopw [29] (fun i wr => ∃ k : Nat, k ≤ n' ∧ i = .int .i64 (k : Int) ∧ Hid (chkF has wants k = 0) ∧ Below w.heap.size w wr) (fun i _ => n' - (intOf i).toNat)
  case atStart => exact ⟨0, Nat.zero_le _, rfl, Lib.hid rfl, Below.refl _ _⟩
  case round =>
    obtain ⟨k, hk, rfl, Hok, hb⟩ := hrel
    have Hb := Lib.hid hb
    by_cases hkn : k < n'
    · obtain ⟨b, o, x, r, rfl, hbB, q0, hr, hx⟩ := (HV.out.below hb).get hkn
      obtain ⟨b', o', x', r', rfl, hbB', q1, hr', hx'⟩ := (HV2.out.below hb).get hkn
      obtain ⟨Ar, nr, cr, rfl, hrl, _, _, hrr⟩ := id hx
      obtain ⟨As, ns, cs, rfl, hsl, _, _, hss⟩ := id hx'
      have hrD : has.getD k [] = r := by rw [List.getD_eq_getElem?_getD, hr]; rfl
      have hrD' : wants.getD k [] = r' := by rw [List.getD_eq_getElem?_getD, hr']; rfl
      have Hstep := Lib.hid (show chkF has wants (k + 1) = if cellsF r ≠ 0 then cellsF r else cellsF r' from by rw [chkF, if_neg (by rw [Hok.out]; exact fun h => h rfl), hrD, hrD'])
      have HG := Lib.hid (fun (w9 : World) (h9 : Below wr.heap.size wr w9) => grid_any w9 Ar nr cr r hrl ((hrr.more hb.size).below h9 |>.more h9.size))
      have HG2 := Lib.hid (fun (w9 : World) (h9 : Below wr.heap.size wr w9) => grid_any w9 As ns cs r' hsl ((hss.more hb.size).below h9 |>.more h9.size))
      have HbA := Lib.hid (show Below wr.heap.size wr ((wr.alloc (.cells #[.slice Ar nr cr, .slice As ns cs] 24)).drew) from ((Below.refl _ _).alloc (Nat.le_refl _) _).drew)
      have Hbx := Lib.hid ((Blk.new wr 24 #[.slice Ar nr cr, .slice As ns cs]).drew)
      have HsA := Lib.hid (show ((wr.alloc (.cells #[.slice Ar nr cr, .slice As ns cs] 24)).drew).heap.size = wr.heap.size + 1 from World.size_alloc _ _)
      clear hb hx hx' hr hr' hrr hss hrD hrD' hrl hsl hbB hbB'
      go_wp2_with fail
      refine wp_region_held_drew (S := fun w' => w'.cell? ⟨b, o + k, none⟩ = some (.slice Ar nr cr) ∧ w'.cell? ⟨b', o' + k, none⟩ = some (.slice As ns cs)) (by kernel_rfl) ⟨q0, q1⟩ (fun hHeld => ?_)
      refine wpAnyH_take (i := 0) (v := ?_) rfl (by kernel_rfl) (by kernel_rfl) (by kernel_rfl) (fun _ _ _ h => h) (Or.inl ⟨by rfl, ?_⟩) (by assumption) ?_
      rotate_left
      · ((intro w' hSw; (try dsimp only at hSw); go_simp) <;> with_reducible rfl)
      refine wpAnyH_take (i := 1) (v := ?_) rfl (by kernel_rfl) (by kernel_rfl) (by kernel_rfl) (fun _ _ _ h => h) (Or.inl ⟨by rfl, ?_⟩) (by assumption) ?_
      rotate_left
      · ((intro w' hSw; (try dsimp only at hSw); go_simp) <;> with_reducible rfl)
      refine wpAnyH_take (i := 2) (v := ?_) rfl (by kernel_rfl) (by kernel_rfl) (by kernel_rfl) (fun _ _ _ h => h) (Or.inl ⟨by rfl, ?_⟩) (by assumption) ?_
      rotate_left
      · ((intro w' hSw; (try dsimp only at hSw); go_simp) <;> with_reducible rfl)
      refine wpAnyH_take (i := 3) (v := ?_) rfl (by kernel_rfl) (by kernel_rfl) (by kernel_rfl) (fun _ _ _ h => h) (Or.inl ⟨by rfl, ?_⟩) (by assumption) ?_
      rotate_left
      · ((intro w' hSw; (try dsimp only at hSw); go_simp) <;> with_reducible rfl)
      refine wpAnyH_take (i := 4) (v := ?_) rfl (by kernel_rfl) (by kernel_rfl) (by kernel_rfl) (fun _ _ _ h => h) (Or.inl ⟨by rfl, ?_⟩) (by assumption) ?_
      rotate_left
      · ((intro w' hSw; (try dsimp only at hSw); go_simp) <;> with_reducible rfl)
      refine wpAnyH_take (i := 5) (v := ?_) rfl (by kernel_rfl) (by kernel_rfl) (by kernel_rfl) (fun _ _ _ h => h) (Or.inl ⟨by rfl, ?_⟩) (by assumption) ?_
      rotate_left
      · ((intro w' hSw; (try dsimp only at hSw); go_simp) <;> with_reducible rfl)
      refine wpAnyH_take (i := 6) (v := ?_) rfl (by kernel_rfl) (by kernel_rfl) (by kernel_rfl) (fun _ _ _ h => h) (Or.inl ⟨by rfl, ?_⟩) (by assumption) ?_
      rotate_left
      · ((intro w' hSw; (try dsimp only at hSw); go_simp) <;> with_reducible rfl)
      refine wpAnyH_take (i := 7) (v := ?_) rfl (by kernel_rfl) (by kernel_rfl) (by kernel_rfl) (fun _ _ _ h => h) (Or.inl ⟨by rfl, ?_⟩) (by assumption) ?_
      rotate_left
      · ((intro w' hSw; (try dsimp only at hSw); go_simp) <;> with_reducible rfl)
      refine wpAnyH_take (i := 10) (v := ?_) rfl (by kernel_rfl) (by kernel_rfl) (by kernel_rfl) (fun _ _ _ h => h) (Or.inl ⟨by rfl, ?_⟩) (by assumption) ?_
      rotate_left
      · ((intro w' hSw; (try dsimp only at hSw); go_simp) <;> with_reducible rfl)
      try simp only [Act.put, List.setIfInBounds_toArray]
      refine wpAnyH_ready (rs := [8]) (by kernel_rfl) (by simp) ?_
      refine AllReadyH.cons rfl (fun K hK => ?_) AllReadyH.nil
      rw [if_pos (by rfl)]
      go_simp
      refine hK.out _ _ ⟨(World.cell?_alloc_lt _ _ ⟨b, o + k, none⟩ (World.block_lt_of_cell? wr _ q0)).trans q0, (World.cell?_alloc_lt _ _ ⟨b', o' + k, none⟩ (World.block_lt_of_cell? wr _ q1)).trans q1⟩ (fun hHeld => ?_)
      clear hK K
      try simp only [Act.put, List.setIfInBounds_toArray, List.set_cons_zero, List.set_cons_succ]
      refine wpAnyH_ready (rs := [9]) (by kernel_rfl) (by simp) ?_
      refine AllReadyH.cons rfl (fun K hK => ?_) AllReadyH.nil
      rw [if_pos (by rfl)]
      go_simp
      refine hK.out _ _ hHeld (fun hHeld => ?_)
      clear hK K
      try simp only [Act.put, List.setIfInBounds_toArray, List.set_cons_zero, List.set_cons_succ]
      refine wpAnyH_done (by kernel_rfl) ?_ _
      clear hHeld
      obtain ⟨w7, hw7⟩ : ∃ w7, w7 = (wr.alloc (.cells #[.slice Ar nr cr, .slice As ns cs] 24)).drew := ⟨_, rfl⟩
      rw [← hw7] at HbA Hbx HsA ⊢
      have Hkn := Lib.hid hkn
      clear hw7 q0 q1 hkn
      go_wp2_with fail
      obtain ⟨w0, rfl⟩ : ∃ w0, w0 = wr := ⟨_, rfl⟩
      go_loopw [42] (fun i wr => ∃ j : Nat, j ≤ 2 ∧ i = .int .i64 (j : Int) ∧ Hid (1 ≤ j → cellsF r = 0) ∧ Hid (2 ≤ j → cellsF r' = 0) ∧ Below w7.heap.size w7 wr) (fun i _ => 2 - (intOf i).toNat)
      case atStart => exact ⟨0, by omega, rfl, Lib.hid (fun h => absurd h (by omega)), Lib.hid (fun h => absurd h (by omega)), Below.refl _ _⟩
      case round =>
        obtain ⟨j, hj, rfl, H1, H2, hbj⟩ := hrel
        have hB7 : w0.heap.size < w7.heap.size := by rw [HsA.out]; omega
        have hbw : Below w0.heap.size w0 wr := HbA.out.trans (hbj.mono (Nat.le_of_lt hB7))
        have Hbw := Lib.hid (Hb.out.trans (hbw.mono Hb.out.size))
        have Hbj := Lib.hid hbj
        by_cases hj2 : j < 2
        · obtain rfl | rfl : j = 0 ∨ j = 1 := by omega
          · have e0 : wr.cell? ⟨w0.heap.size, 0, none⟩ = some (.slice Ar nr cr) := (hbj.cell (p := ⟨w0.heap.size, 0, none⟩) hB7).trans (Hbx.out.cell 0 _ rfl)
            have HGw := Lib.hid (HG.out wr hbw)
            obtain ⟨q, hq⟩ : ∃ q, q = cellsF r := ⟨_, rfl⟩
            rw [← hq] at HGw Hstep
            have Hq := Lib.hid hq
            clear hbj hbw hq
            go_wp2_with fail
            refine HGw.out.mono ?_
            rintro e w8 ⟨rfl, hb8⟩
            have Hb8 := Lib.hid (Hbj.out.trans (hb8.mono Hbj.out.size))
            have Hbw8 := Lib.hid (Hbw.out.trans (hb8.mono Hbw.out.size))
            clear hb8 HGw
            by_cases hq0 : q = 0
            · subst hq0
              have HR := Lib.hid (show Hid (1 ≤ 1 → cellsF r = 0) ∧ Hid (2 ≤ 1 → cellsF r' = 0) ∧ Below w7.heap.size w7 w8 from ⟨Lib.hid (fun _ => Hq.out.symm), Lib.hid (fun h => absurd h (by omega)), Hb8.out⟩)
              go_wp2_with fail
              go_roundw
              case rel => exact ⟨1, by omega, rfl, HR.out⟩
              case measure => simp [intOf]
            · have hq1 : ¬ (q : Int) = 0 := by omega
              have hq2 : ((q : Int) == 0) = false := by simpa using hq1
              have hk1 : chkF has wants (k + 1) = q := by rw [Hstep.out, if_pos hq0]
              have HP := Lib.hid (SafePost.none (w := w) (has := has) (wants := wants) (x := q) (by
                rw [HS.out, chkF_mono (k := k + 1) Hkn.out (by rw [hk1]; exact hq0), hk1, if_pos hq0]) Hbw8.out)
              clear hk1 hq0
              go_wp2_with fail
              go_ret2
              exact HP.out
          · have e0 : wr.cell? ⟨w0.heap.size, 1, none⟩ = some (.slice As ns cs) := (hbj.cell (p := ⟨w0.heap.size, 1, none⟩) hB7).trans (Hbx.out.cell 1 _ rfl)
            have HGw := Lib.hid (HG2.out wr hbw)
            have Hr0 := Lib.hid (H1.out (by omega))
            obtain ⟨q, hq⟩ : ∃ q, q = cellsF r' := ⟨_, rfl⟩
            rw [← hq] at HGw Hstep
            have Hq := Lib.hid hq
            clear hbj hbw hq H1
            go_wp2_with fail
            refine HGw.out.mono ?_
            rintro e w8 ⟨rfl, hb8⟩
            have Hb8 := Lib.hid (Hbj.out.trans (hb8.mono Hbj.out.size))
            have Hbw8 := Lib.hid (Hbw.out.trans (hb8.mono Hbw.out.size))
            clear hb8 HGw
            by_cases hq0 : q = 0
            · subst hq0
              have HR := Lib.hid (show Hid (1 ≤ 2 → cellsF r = 0) ∧ Hid (2 ≤ 2 → cellsF r' = 0) ∧ Below w7.heap.size w7 w8 from ⟨Lib.hid (fun _ => Hr0.out), Lib.hid (fun _ => Hq.out.symm), Hb8.out⟩)
              go_wp2_with fail
              go_roundw
              case rel => exact ⟨2, by omega, rfl, HR.out⟩
              case measure => simp [intOf]
            · have hq1 : ¬ (q : Int) = 0 := by omega
              have hq2 : ((q : Int) == 0) = false := by simpa using hq1
              have hk1 : chkF has wants (k + 1) = q := by rw [Hstep.out, if_neg (by rw [Hr0.out]; exact fun h => h rfl)]
              have HP := Lib.hid (SafePost.none (w := w) (has := has) (wants := wants) (x := q) (by
                rw [HS.out, chkF_mono (k := k + 1) Hkn.out (by rw [hk1]; exact hq0), hk1, if_pos hq0]) Hbw8.out)
              clear hk1 hq0
              go_wp2_with fail
              go_ret2
              exact HP.out
        · obtain rfl : j = 2 := by omega
          have HR := Lib.hid (show Hid (chkF has wants (k + 1) = 0) from Lib.hid (by rw [Hstep.out, if_neg (by rw [H1.out (by omega)]; exact fun h => h rfl), H2.out (by omega)]))
          clear hbj hbw
          go_wp2_with fail
          go_roundw
          case rel => exact ⟨k + 1, Hkn.out, by go_num, HR.out, Hbw.out⟩
          case measure => have := Hkn.out; simp [intOf]; omega
    · obtain rfl : k = n' := by omega
      have Hall := Lib.hid (chkF_get Hok.out)
      have HlenH := Lib.hid (show ∀ r ∈ has, r.length ≤ 400 from fun r hr => by
        obtain ⟨i, hi⟩ := List.getElem?_of_mem hr
        have := cellsF_len (Hall.out i (by rw [← Hln.out]; exact (List.getElem?_eq_some_iff.1 hi).1)).1
        rw [List.getD_eq_getElem?_getD, hi] at this
        exact this)
      have HlenW := Lib.hid (show ∀ r ∈ wants, r.length ≤ 400 from fun r hr => by
        obtain ⟨i, hi⟩ := List.getElem?_of_mem hr
        have := cellsF_len (Hall.out i (by rw [← Hln'.out]; exact (List.getElem?_eq_some_iff.1 hi).1)).2
        rw [List.getD_eq_getElem?_getD, hi] at this
        exact this)
      have hS2 := HS.out
      rw [if_neg (by rw [Hok.out]; exact fun h => h rfl)] at hS2
      have HS2 := Lib.hid hS2
      have hkc : k ≤ c := by
        obtain ⟨B1, m1, d1, us, e, q1, q2, _⟩ := HV.out
        injection e with e1 e2 e3
        omega
      clear hb hS2 HS Hok hkn
      go_wp2_with fail
      obtain ⟨w0, rfl⟩ : ∃ w0, w0 = wr := ⟨_, rfl⟩
      go_loopw [55] (fun i wr => ∃ m : Nat, m ≤ k ∧ i = .int .i64 (m : Int) ∧ Hid (∀ i, i < m → ∀ j, j < i → meets (has.getD i []) (has.getD j []) = false) ∧ Below w.heap.size w wr) (fun i _ => k - (intOf i).toNat)
      case atStart => exact ⟨0, Nat.zero_le _, rfl, Lib.hid (fun i h => absurd h (by omega)), Hb.out⟩
      case round =>
        obtain ⟨m, hm, rfl, Hno, hbm⟩ := hrel
        have Hbm := Lib.hid hbm
        by_cases hmk : m < k
        · obtain ⟨b, o, u, r, rfl, hbB, q0, hr, hx⟩ := (HV.out.below hbm).get hmk
          obtain ⟨Ar, nr, cr, rfl, _⟩ := id hx
          have hrD : has.getD m [] = r := by rw [List.getD_eq_getElem?_getD, hr]; rfl
          have HrD := Lib.hid hrD
          have HX := Lib.hid hx
          have Hr4 := Lib.hid (HlenH.out r (List.mem_of_getElem? hr))
          have Hmk := Lib.hid hmk
          have hmc : m ≤ c := by omega
          clear hbm hx hr hrD hbB
          go_wp2_with (refine wpList_slice_to rfl 45 (.tmp 60) (.tmp 61) rfl (some ⟨b, o, none⟩) k c m rfl rfl rfl (fun w => rowsC_to (some ⟨b, o, none⟩) k c m hmc w) ?_)
          obtain ⟨w9, rfl⟩ : ∃ w9, w9 = wr := ⟨_, rfl⟩
          go_loopw [64] (fun i wr => ∃ j : Nat, j ≤ m ∧ i = .int .i64 (j : Int) ∧ Hid (∀ i, i < j → meets (has.getD m []) (has.getD i []) = false) ∧ Below w9.heap.size w9 wr) (fun i _ => m - (intOf i).toNat)
          case atStart => exact ⟨0, Nat.zero_le _, rfl, Lib.hid (fun i h => absurd h (by omega)), Below.refl _ _⟩
          case round =>
            obtain ⟨j, hj, rfl, Hnj, hbj⟩ := hrel
            have Hbj := Lib.hid (Hbm.out.trans (hbj.mono Hbm.out.size))
            have Hb9 := Lib.hid hbj
            by_cases hjm : j < m
            · obtain ⟨b2, o2, u2, r2, e2, hbB2, q2, hr2, hx2⟩ := (HV.out.below Hbj.out).get (show j < k by omega)
              injection e2 with e2
              injection e2 with e21 e22
              subst e21 e22
              obtain ⟨As, ns, cs, rfl, _⟩ := id hx2
              have hrD2 : has.getD j [] = r2 := by rw [List.getD_eq_getElem?_getD, hr2]; rfl
              have HrD2 := Lib.hid hrD2
              have HM := Lib.hid (meet_any wr (.slice Ar nr cr) (.slice As ns cs) r r2 ((HX.out.more Hbm.out.size).below hbj |>.more hbj.size) (hx2.more Hbj.out.size) (by have := Hr4.out; omega) (by have := HlenH.out r2 (List.mem_of_getElem? hr2); omega))
              have hjk : (j : Int) < (k : Int) := by omega
              clear hbj hx2 hr2 hrD2 hbB2
              go_wp2_with fail
              refine HM.out.mono ?_
              rintro e w4 ⟨A4, n4, c4, rfl, hl4, hown4, hb4⟩
              have Hl4 := Lib.hid hl4
              have Hb4 := Lib.hid (Hb9.out.trans (hb4.mono Hb9.out.size))
              have Hbw4 := Lib.hid (Hbj.out.trans (hb4.mono Hbj.out.size))
              clear hown4 hb4 hl4 HM
              by_cases h0 : n4 = 0
              · subst h0
                have HR := Lib.hid (show Hid (∀ i, i < j + 1 → meets (has.getD m []) (has.getD i []) = false) from Lib.hid (fun i hi => by
                  by_cases hij : i = j
                  · subst hij
                    rw [HrD.out, HrD2.out]
                    unfold meets
                    rw [Hl4.out]; rfl
                  · exact Hnj.out i (by omega)))
                go_wp2_with fail
                go_roundw
                case rel => exact ⟨j + 1, by omega, by go_num, HR.out, Hb4.out⟩
                case measure => simp [intOf]; omega
              · have h4 : (0 : Int) < (n4 : Int) := by omega
                have HP := Lib.hid (SafePost.none (w := w) (has := has) (wants := wants) (x := 10) (by
                  rw [HS2.out, if_pos (clashF_yes (i := m) (j := j) Hmk.out hjm (by
                    rw [HrD.out, HrD2.out]
                    unfold meets
                    rw [Hl4.out, decide_eq_true (by omega)]))]) Hbw4.out)
                clear h0
                go_wp2_with fail
                go_ret2
                exact HP.out
            · obtain rfl : j = m := by omega
              have HR := Lib.hid (show Hid (∀ i, i < j + 1 → ∀ l, l < i → meets (has.getD i []) (has.getD l []) = false) from Lib.hid (fun i hi l hl => by
                by_cases hij : i = j
                · subst hij; exact Hnj.out l hl
                · exact Hno.out i (by omega) l hl))
              clear hbj
              go_wp2_with fail
              go_roundw
              case rel => exact ⟨j + 1, Hmk.out, by go_num, HR.out, Hbj.out⟩
              case measure => have := Hmk.out; simp [intOf]; omega
        · obtain rfl : m = k := by omega
          have hS3 := HS2.out
          rw [clashF_no Hno.out, if_neg (by simp)] at hS3
          have HS3 := Lib.hid hS3
          clear hbm hS3 HS2 Hno
          go_wp2_with fail
          obtain ⟨w8, rfl⟩ : ∃ w8, w8 = wr := ⟨_, rfl⟩
          go_loopg [14] m (fun f o wr => ∃ out : List Int, wr.ownsRow w.heap.size 3 1 o out.length (out.map iv) ∧ f + out.length = m ∧ Hid (greedyF has wants f out = greedyF has wants m []) ∧ Below w.heap.size w wr)
          case atStart => exact ⟨[], World.ownsRow_nil _ _ _ _, by simp, Lib.hid rfl, Hbm.out⟩
          case round =>
            obtain ⟨out, hown, hf, Hgr, hbw⟩ := hrel
            have Hown := Lib.hid hown
            have Hbw := Lib.hid hbw
            obtain ⟨Ao, co, rfl, hno, hco, hro⟩ := own_rd hown
            have HO := Lib.hid (own_sli hown)
            obtain ⟨no, hnoe⟩ : ∃ no, no = out.length := ⟨_, rfl⟩
            rw [← hnoe] at Hown HO hno hf ⊢
            have Hnoe := Lib.hid hnoe
            clear hown hbw hro hnoe
            by_cases hlt : no < m
            · obtain ⟨g, rfl⟩ : ∃ g, gk = g + 1 := ⟨gk - 1, by omega⟩
              go_wp2_with fail
              obtain ⟨w7, rfl⟩ : ∃ w7, w7 = wr := ⟨_, rfl⟩
              go_loopw [15, 82] (fun q i wr => ∃ j : Nat, j ≤ m ∧ i = .int .i64 (j : Int) ∧ q = .int .i64 (pickF has wants out j) ∧ Below w7.heap.size w7 wr) (fun _ i _ => m - (intOf i).toNat)
              case atStart => exact ⟨0, Nat.zero_le _, rfl, rfl, Below.refl _ _⟩
              case round =>
                obtain ⟨j, hj, rfl, rfl, hb7⟩ := hrel
                have Hb7 := Lib.hid hb7
                have Hbw7 := Lib.hid (Hbw.out.trans (hb7.mono Hbw.out.size))
                obtain ⟨pk, hpk⟩ : ∃ pk, pk = pickF has wants out j := ⟨_, rfl⟩
                rw [← hpk]
                have Hpk := Lib.hid hpk
                have Hrg := Lib.hid (pickF_range (has := has) (wants := wants) (out := out) j)
                rw [← hpk] at Hrg
                clear hb7 hpk
                by_cases hjm : j < m
                · by_cases hp0 : pk < 0
                  rotate_left
                  · have HR := Lib.hid (show pickF has wants out (j + 1) = pk from by rw [pickF, if_neg (fun h => hp0 (by rw [Hpk.out]; exact h.1)), Hpk.out])
                    go_wp2_with fail
                    go_roundw
                    case rel => exact ⟨j + 1, by omega, by go_num, by rw [HR.out], Hb7.out⟩
                    case measure => simp [intOf]; omega
                  have HCn := Lib.hid (contains_ints wr (.slice Ao no co) wr.heap.size out (j : Int) ((HO.out.below Hb7.out).more Hb7.out.size) (by have := Hnoe.out; omega))
                  go_wp2_with fail
                  refine HCn.out.mono ?_
                  rintro e w6 ⟨rfl, rfl⟩
                  by_cases hin : (j : Int) ∈ out
                  · have HR := Lib.hid (show pickF has wants out (j + 1) = pk from by rw [pickF, if_neg (fun h => h.2.1 hin), Hpk.out])
                    rw [decide_eq_true hin]
                    clear hin HCn
                    go_wp2_with fail
                    go_roundw
                    case rel => exact ⟨j + 1, by omega, by go_num, by rw [HR.out], Hb7.out⟩
                    case measure => simp [intOf]; omega
                  obtain ⟨b', o', u', r', rfl, hbB', q1, hr', hx'⟩ := (HV2.out.below Hbw7.out).get hjm
                  obtain ⟨Ar, nr, cr, rfl, _⟩ := id hx'
                  have HFr := Lib.hid (free_any wr (.slice A m c) (.slice Ar nr cr) has r' (j : Int) (.slice Ao no co) out ((HV.out.below Hbw7.out).more Hbw7.out.size) (hx'.more Hbw7.out.size) ((HO.out.below Hb7.out).more Hb7.out.size) (by have := Hln.out; omega) HlenH.out (HlenW.out r' (List.mem_of_getElem? hr')) (by have := Hnoe.out; omega))
                  have HrD := Lib.hid (show wants.getD j [] = r' by rw [List.getD_eq_getElem?_getD, hr']; rfl)
                  have Hin := Lib.hid hin
                  have Hp0 := Lib.hid hp0
                  rw [decide_eq_false hin]
                  clear hin HCn hx' hr' hbB'
                  go_wp2_with fail
                  refine HFr.out.mono ?_
                  rintro e w6 ⟨rfl, hb6⟩
                  have Hb6 := Lib.hid (Hb7.out.trans (hb6.mono Hb7.out.size))
                  obtain ⟨fr, hfr⟩ : ∃ fr, fr = freeF has r' (j : Int) out := ⟨_, rfl⟩
                  rw [← hfr]
                  have Hfr := Lib.hid hfr
                  clear hfr hb6 HFr
                  cases fr
                  · have HR := Lib.hid (show pickF has wants out (j + 1) = pk from by rw [pickF, if_neg (fun h => by have := h.2.2; rw [HrD.out, ← Hfr.out] at this; cases this), Hpk.out])
                    go_wp2_with fail
                    go_roundw
                    case rel => exact ⟨j + 1, by omega, by go_num, by rw [HR.out], Hb6.out⟩
                    case measure => simp [intOf]; omega
                  · have HR := Lib.hid (show pickF has wants out (j + 1) = (j : Int) from by rw [pickF, if_pos ⟨by rw [← Hpk.out]; exact Hp0.out, Hin.out, by rw [HrD.out]; exact Hfr.out.symm⟩])
                    go_wp2_with fail
                    go_roundw
                    case rel => exact ⟨j + 1, by omega, by go_num, by rw [HR.out], Hb6.out⟩
                    case measure => simp [intOf]; omega
                · obtain rfl : j = m := by omega
                  by_cases hp0 : pk < 0
                  · have HP := Lib.hid (SafePost.none (w := w) (has := has) (wants := wants) (x := 11) (by
                      rw [HS3.out, ← Hgr.out, greedyF, if_pos (by rw [Hln.out, ← Hpk.out]; exact hp0)]) Hbw7.out)
                    go_wp2_with fail
                    go_ret2
                    exact HP.out
                  · have HR := Lib.hid (show greedyF has wants g (out ++ [pk]) = greedyF has wants j [] from by
                      have h := Hgr.out
                      rw [greedyF, if_neg (by rw [Hln.out, ← Hpk.out]; exact hp0), Hln.out, ← Hpk.out] at h
                      exact h)
                    have Hown6 := Lib.hid (own_below Hown.out Hb7.out (Nat.le_refl _))
                    have hlo : no + 1 ≤ maxLen := by unfold maxLen; omega
                    have Hlo := Lib.hid hlo
                    have hsz := Hbw7.out.size
                    clear hlo
                    go_wp2_with (at_builtin; refine wpList_push rfl (.tmp 107) (.tmp 109) 22 rfl w.heap.size 3 i0 (.int .i64 0) 1 8 Try.underlying22 hi hz0 hz1 hz2 rfl (by omega) _ no _ rfl Hown6.out [.int .i64 pk] rfl rfl (by simp [Value.oneCell']) Hlo.out (by omega) hsz ?_; intro v5 w5 hn5 hb5 hv5; obtain ⟨g5, c5, rfl, _⟩ := hv5; have Hn5 := Lib.hid hn5; have Hb5 := Lib.hid (Hbw7.out.trans hb5); clear hn5 hb5)
                    go_roundg g
                    case measure => omega
                    case rel =>
                      have e : (out ++ [pk]).length = no + 1 := by rw [List.length_append, ← Hnoe.out]; rfl
                      exact ⟨out ++ [pk], by rw [e, List.map_append]; exact Hn5.out, by rw [e]; omega, HR.out, Hb5.out⟩
            · have hg0 : gk = 0 := by omega
              obtain rfl : no = m := by omega
              have HP := Lib.hid (show SafePost w has wants (.returned (.tuple #[.slice Ao no co, .int .i64 0])) wr from by
                have h := Hgr.out
                rw [hg0, greedyF] at h
                have hs : safeF has wants = (0, out) := by rw [HS3.out, ← h]
                exact ⟨.slice Ao no co, by rw [hs]; rfl, by rw [hs]; show wr.ownsRow _ _ _ _ out.length _; rw [← Hnoe.out]; exact Hown.out, Hbw.out⟩)
              clear hf hg0 hlt
              go_wp2_with fail
              go_ret2
              exact HP.out
end Go.Proofs.Ytambngbkegnghaa
