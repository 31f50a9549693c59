/- gantmake.Of, gantmake.Rat. Conditions: those typed. -/
import Derived.Test.YthmgcbpmfipfiaaDoorMakeDig
namespace Go.Proofs.YthmgcbpmfipfiaaDoor
open Go.RowKit Go.Gy
set_option linter.unusedVariables false
section
variable {P : Program} {ops : Array Oper} {rest : List Oper} {o : Oper} {a : Act} {w : World} {Q : Exit → Act → World → Prop}
theorem wpList_max2 (hgd : o.guard = none) (x y : Operand) (ts : Array TypeId) (ho : o.op = .call { callee := .builtin .max, args := #[x, y], argTypes := ts }) (n m : Int) (hx : a.eval x = .int .i64 n) (hy : a.eval y = .int .i64 m) (k : Int) (hk : max n m = k)
    (h : wpList P ops Q rest (a.put o.dst (.int .i64 k)) w) : wpList P ops Q (o :: rest) a w :=
  wpList_plain hgd fun _ hK => by
    have e : (if m > n then m else n) = k := by rw [← hk]; split <;> omega
    unfold Oper.wp execOp
    simp only [ho, resolve, invoke, builtin, Sem.run_bind, Sem.run_pure, Result.andThen_ok, List.map_toArray, List.map_cons, List.map_nil, hx, hy, run_max_int2, e]
    exact hK _ _ h
end
def OfRel (w : World) (A D : Nat) (x y : Value) (wr : World) : Prop := ∃ u v : Nat, x = .int .i64 u ∧ y = .int .i64 v ∧ u ≤ A + D ∧ v ≤ D ∧ Hid (Nat.gcd u v = Nat.gcd A D) ∧ R3 wr w.heap.size false { data := #[] } { data := #[] } ∧ Below w.heap.size w wr
set_option maxRecDepth 100000 in
set_option maxHeartbeats 4000000 in
theorem makeOf_any (w : World) (n : Int) (D : Nat) (hD : 0 < D) (hD2 : D ≤ 4294967296) (hn : -1099511627776 ≤ n ∧ n ≤ 1099511627776) :
    Calls Tryd.prog 72 #[.int .i64 n, .int .i64 D] w fun e w' => e = .returned (QV (mkRat n D)) ∧ Below w.heap.size w w' := by
  obtain ⟨A, hA⟩ : ∃ A, A = n.natAbs := ⟨_, rfl⟩
  have hmx : max n (-n) = A := by omega
  have hwn : IntKind.i64.wrap (-n) = -n := by rw [IntKind.wrap_i64]; omega
  have hB : Below w.heap.size w (w.alloc (.cells #[.bool false, .string { data := #[] }, .string { data := #[] }] 27)) := (Below.refl w.heap.size w).alloc (Nat.le_refl _) _
  have kr : R3 (w.alloc (.cells #[.bool false, .string { data := #[] }, .string { data := #[] }] 27)) w.heap.size false { data := #[] } { data := #[] } := R3.new w _ _ _
  have hgp : 0 < Nat.gcd A D := Nat.gcd_pos_of_pos_right A hD
  have hAl : A ≤ 1099511627776 := by omega
  have hns : n = sgn (decide (n < 0)) A := by
    by_cases h : n < 0
    · rw [decide_eq_true h, sgn_true]; omega
    · rw [decide_eq_false h, sgn_false]; omega
  have HV := Lib.hid (show Value.agg #[.bool (decide (n < 0)), .string (natS (A / Nat.gcd A D)), .string (natS (D / Nat.gcd A D))] = QV (mkRat n D) by
    have := mk_parts (n := decide (n < 0)) (a := A) (b := D) (by omega) (fun h => decide_eq_false (by omega))
    rw [← hns] at this
    unfold QV
    rw [this.1, this.2.1, this.2.2])
  have hdv : n.tdiv (Nat.gcd A D : Nat) = sgn (decide (n < 0)) (A / Nat.gcd A D) := by
    generalize Nat.gcd A D = g at hgp
    by_cases h : n < 0
    · rw [decide_eq_true h, sgn_true, show n = -(A : Int) by omega, Int.neg_tdiv, Int.tdiv_eq_ediv_of_nonneg (by omega), Int.natCast_ediv]
    · rw [decide_eq_false h, sgn_false, show n = (A : Int) by omega, Int.tdiv_eq_ediv_of_nonneg (by omega), Int.natCast_ediv]
  have hdd : (D : Int).tdiv (Nat.gcd A D : Nat) = ((D / Nat.gcd A D : Nat) : Int) := by rw [Int.tdiv_eq_ediv_of_nonneg (by omega), Int.natCast_ediv]
  have hq1 : A / Nat.gcd A D ≤ A := Nat.div_le_self _ _
  have hq2 : D / Nat.gcd A D ≤ D := Nat.div_le_self _ _
  have hq3 : (sgn (decide (n < 0)) (A / Nat.gcd A D) < 0) ↔ n < 0 := by
    by_cases h : n < 0
    · rw [decide_eq_true h, sgn_true]
      have : 0 < A / Nat.gcd A D := Nat.div_pos (Nat.le_of_dvd (by omega) (Nat.gcd_dvd_left A D)) hgp
      omega
    · rw [decide_eq_false h, sgn_false]; generalize A / Nat.gcd A D = k; omega
  have hab : (sgn (decide (n < 0)) (A / Nat.gcd A D)).natAbs = A / Nat.gcd A D := sgn_abs _ _
  obtain ⟨G, hG⟩ : ∃ G, G = Nat.gcd A D := ⟨_, rfl⟩
  rw [← hG] at HV hgp hdv hdd hq1 hq2 hq3 hab
  obtain ⟨P, hP⟩ : ∃ P, P = A / G := ⟨_, rfl⟩
  obtain ⟨Q, hQ⟩ : ∃ Q, Q = D / G := ⟨_, rfl⟩
  obtain ⟨N, hN⟩ : ∃ N, N = sgn (decide (n < 0)) P := ⟨_, rfl⟩
  rw [← hP] at HV hdv hq1 hq3 hab
  rw [← hQ] at HV hdd hq2
  rw [← hN] at hdv hq3 hab
  have D1 := Lib.hid (fun W => digits_any W P (by omega))
  have D2 := Lib.hid (fun W => digits_any W Q (by omega))
  have hst := Lib.hid (show OfRel w A D (.int .i64 A) (.int .i64 D) (w.alloc (.cells #[.bool false, .string { data := #[] }, .string { data := #[] }] 27)) from ⟨A, D, rfl, rfl, by omega, Nat.le_refl _, Lib.hid rfl, kr, hB⟩)
  have hmx2 : max N (-N) = P := by omega
  have hwN : IntKind.i64.wrap N = N := by rw [IntKind.wrap_i64]; omega
  have hwN2 : IntKind.i64.wrap (-N) = -N := by rw [IntKind.wrap_i64]; omega
  have hwQ : IntKind.i64.wrap (Q : Int) = Q := by rw [IntKind.wrap_i64]; omega
  have HG := Lib.hid hG
  clear hns hP hQ hN hq1 hq2 hA hG hn kr hB
  go_enter Tryd.func72, Tryd.ntmps72
  go_wp2_with (refine wpList_max2 rfl (.tmp 7) (.tmp 9) _ rfl n (-n) rfl rfl A hmx ?_)
  go_loopg [5, 6] D (fun k x y wr => OfRel w A D x y wr ∧ ∃ v : Nat, y = .int .i64 v ∧ v ≤ k)
  case atStart => exact ⟨hst.out, D, rfl, Nat.le_refl _⟩
  case round =>
    obtain ⟨⟨u, v, rfl, rfl, hu, hv, HGC, kr, hB⟩, v', hv', hvk⟩ := hrel
    injection hv' with _ hv'
    have : v = v' := by omega
    subst this
    clear hv' hst hmx hwn
    by_cases h0 : v = 0
    · subst h0
      have hug : u = G := by have := HGC.out; rw [Nat.gcd_zero_right] at this; rw [this, HG.out]
      subst hug
      have hu0 : ¬ (u : Int) = 0 := by omega
      clear HGC HG hu hv hvk
      go_wp2
      go_region
      go_wp2_with (refine wpList_max2 rfl (.tmp 26) (.tmp 28) _ rfl N (-N) rfl rfl P hmx2 ?_)
      have kd := kr.drew
      have hBd := hB.drew
      generalize wr.drew = w5 at kd hBd ⊢
      clear kr hB
      refine (D1.out _).mono ?_
      rintro e w6 ⟨rfl, hb⟩
      replace kd := kd.below hb kd.lt
      replace hBd := hBd.trans (hb.mono hBd.size)
      clear hb D1
      go_wp2_with fail
      refine (D2.out _).mono ?_
      rintro e w7 ⟨rfl, hb⟩
      replace kd := kd.below hb kd.lt
      replace hBd := hBd.trans (hb.mono hBd.size)
      obtain ⟨_, _, _, f0, f1, f2⟩ := kd.facts
      have HZ := Lib.hid (kd.put (decide (n < 0)) (natS P) (natS Q))
      clear hb D2 kd
      go_wp2
      refine bodyPost_ret (results_cell_row Tryd.results72 _ _ w.heap.size 27 _ (0, 0) _ rfl HZ.out Tryd.underlying27 rfl (by kernel_rfl)) rfl ?_
      exact ⟨congrArg Ending.returned HV.out, ((hBd.setCell (by simp) _).setCell (by simp) _).setCell (by simp) _⟩
    · have h1 : (v : Int) > 0 := by omega
      have hv0 : ¬ (v : Int) = 0 := by omega
      have hm : (u : Int).tmod (v : Int) = ((u % v : Nat) : Int) := by rw [Int.tmod_eq_emod_of_nonneg (by omega), Int.natCast_emod]
      have hml : u % v < v := Nat.mod_lt _ (by omega)
      have hwm : IntKind.i64.wrap ((u % v : Nat) : Int) = ((u % v : Nat) : Int) := by rw [IntKind.wrap_i64]; omega
      have HR := Lib.hid (show ∀ j, OfRel w A D (.int .i64 v) (.int .i64 ((u % v : Nat) : Int)) (wr.drewN j) from fun j => ⟨v, u % v, rfl, rfl, by omega, by omega, Lib.hid ((gcd_step (by omega)).trans HGC.out), kr.drewN j, below_drewN hB j⟩)
      have hgk : u % v ≤ gk - 1 := by omega
      have hgk2 : gk - 1 < gk := by omega
      obtain ⟨r, hr⟩ : ∃ r, r = u % v := ⟨_, rfl⟩
      rw [← hr] at hm hml hwm HR hgk
      clear hr HGC kr hB h0 hvk hml
      go_wp2
      go_region
      go_wp2_with fail
      go_roundg (gk - 1)
      case measure => exact hgk2
      case rel => exact ⟨HR.out 1, r, rfl, hgk⟩
theorem tmod_wrap (x n : Int) (h0 : 0 < n) (hx : x.tmod n < 0) : x.tmod n + n = x % n := by
  rw [Int.tmod_eq_emod] at hx ⊢
  split at hx
  · exfalso; have := Int.emod_nonneg x (show n ≠ 0 by omega); omega
  · rename_i h2; rw [if_neg h2]; omega
theorem tmod_pos (x n : Int) (h0 : 0 < n) (hx : 0 ≤ x.tmod n) : x.tmod n = x % n := by
  rw [Int.tmod_eq_emod] at hx ⊢
  split at hx
  · rename_i h2; rw [if_pos h2]; omega
  · exfalso
    have := Int.emod_lt_of_pos x h0
    omega
theorem below_any (x n : Int) (w : World) (h0 : 0 < n) (h1 : n ≤ 4294967296) :
    Calls Tryd.prog 23 #[.int .i64 x, .int .i64 n] w fun e w' => e = .returned (.int .i64 (x % n)) ∧ w = w' := by
  have b0 : -n ≤ x.tmod n := by
    by_cases h : x.tmod n < 0
    · have := tmod_wrap x n h0 h; have := Int.emod_nonneg x (show n ≠ 0 by omega); omega
    · omega
  go_enter Tryd.func23, Tryd.ntmps23
  go_wp2
  all_goals go_ret
  · exact ⟨congrArg (fun z => Ending.returned (.int .i64 z)) (tmod_wrap x n h0 ‹_›), rfl⟩
  · exact ⟨congrArg (fun z => Ending.returned (.int .i64 z)) (tmod_pos x n h0 ‹_›), rfl⟩
/-- gantmake.Rat: a denominator, a numerator, the number -/
def denM (x : Int) : Nat := [1, 2, 3, 4, 5, 8].getD (x % 6).toNat 1
def numM (x : Int) : Int := x.tdiv 6 % (16 * (denM x : Int) + 1) - 8 * (denM x : Int)
def ratM (x : Int) : Rat := mkRat (numM x) (denM x)
set_option maxRecDepth 100000 in
set_option maxHeartbeats 4000000 in
theorem ratM_any (w : World) (x : Int) (hx : -9223372036854775808 ≤ x ∧ x ≤ 9223372036854775807) :
    Calls Tryd.prog 19 #[.int .i64 x] w fun e w' => e = .returned (QV (ratM x)) ∧ Below w.heap.size w w' := by
  obtain ⟨k, hk⟩ : ∃ k : Nat, x % 6 = k := ⟨(x % 6).toNat, by omega⟩
  have hk6 : k = 0 ∨ k = 1 ∨ k = 2 ∨ k = 3 ∨ k = 4 ∨ k = 5 := by omega
  have HB := Lib.hid (fun w => below_any x 6 w (by decide) (by decide))
  have hq0 : (x.tdiv 6).natAbs = x.natAbs / 6 := Int.natAbs_tdiv x 6
  have hq : -9223372036854775808 ≤ x.tdiv 6 ∧ x.tdiv 6 ≤ 9223372036854775807 := by omega
  have hwq : IntKind.i64.wrap (x.tdiv 6) = x.tdiv 6 := by rw [IntKind.wrap_i64]; omega
  have hm : numM x = x.tdiv 6 % (16 * (denM x : Int) + 1) - 8 * (denM x : Int) := rfl
  have hdm : denM x = [1, 2, 3, 4, 5, 8].getD k 1 := by unfold denM; rw [hk, Int.toNat_natCast]
  rcases hk6 with rfl | rfl | rfl | rfl | rfl | rfl
  · have hd : denM x = 1 := hdm
    rw [hd] at hm
    replace hk : x % 6 = 0 := by omega
    rw [hk] at HB
    have HB2 := Lib.hid (fun w => below_any (x.tdiv 6) 17 w (by decide) (by decide))
    have hr1 := Int.emod_nonneg (x.tdiv 6) (show (17 : Int) ≠ 0 by decide)
    have hr2 := Int.emod_lt_of_pos (x.tdiv 6) (show (0 : Int) < 17 by decide)
    have hm2 : x.tdiv 6 % 17 - 8 = numM x := by rw [hm]; rfl
    have hwr : IntKind.i64.wrap (numM x) = numM x := by rw [IntKind.wrap_i64]; omega
    have HO := Lib.hid (show ∀ w, Calls Tryd.prog 72 #[.int .i64 (numM x), .int .i64 1] w fun e w' => e = .returned (.agg #[.bool (qn (ratM x)), .string (qs (ratM x)), .string (qt (ratM x))]) ∧ Below w.heap.size w w' from fun w => by
      have := makeOf_any w (numM x) 1 (by decide) (by decide) (by omega)
      rw [← hd] at this
      rw [show ((1 : Int)) = ((denM x : Nat) : Int) by rw [hd]; rfl]
      exact this)
    obtain ⟨NM, hNM⟩ : ∃ z, z = numM x := ⟨_, rfl⟩
    rw [← hNM] at hm2 hwr HO
    obtain ⟨b, hb1⟩ : ∃ z, z = qn (ratM x) := ⟨_, rfl⟩
    obtain ⟨a, ha1⟩ : ∃ z, z = qs (ratM x) := ⟨_, rfl⟩
    obtain ⟨d, hd1⟩ : ∃ z, z = qt (ratM x) := ⟨_, rfl⟩
    have HV := Lib.hid (show Value.agg #[.bool b, .string a, .string d] = QV (ratM x) by rw [hb1, ha1, hd1]; rfl)
    rw [← hb1, ← ha1, ← hd1] at HO
    have hB : Below w.heap.size w ((w.alloc (.cells #[.bool false, .string { data := #[] }, .string { data := #[] }] 27)).alloc (.cells #[.int .i64 1, .int .i64 2, .int .i64 3, .int .i64 4, .int .i64 5, .int .i64 8] 3)) := ((Below.refl w.heap.size w).alloc (Nat.le_refl _) _).alloc (by simp) _
    have kr : R3 ((w.alloc (.cells #[.bool false, .string { data := #[] }, .string { data := #[] }] 27)).alloc (.cells #[.int .i64 1, .int .i64 2, .int .i64 3, .int .i64 4, .int .i64 5, .int .i64 8] 3)) w.heap.size false { data := #[] } { data := #[] } := (R3.new w _ _ _).alloc _
    clear hm hk hdm hd hr1 hr2 hNM hb1 ha1 hd1 hq hq0 hx
    go_enter Tryd.func19, Tryd.ntmps19
    go_wp2_with fail
    refine (HB.out _).mono ?_
    rintro e w1 ⟨rfl, rfl⟩
    go_wp2_with fail
    refine (HB2.out _).mono ?_
    rintro e w1 ⟨rfl, rfl⟩
    go_wp2_with fail
    generalize (w.alloc _).alloc _ = w2 at kr hB ⊢
    refine (HO.out _).mono ?_
    rintro e w3 ⟨rfl, hb⟩
    replace kr := kr.below hb kr.lt
    replace hB := hB.trans (hb.mono hB.size)
    obtain ⟨_, _, _, f0, f1, f2⟩ := kr.facts
    have HZ := Lib.hid (kr.put b a d)
    clear hb kr HB HB2 HO
    go_wp2
    refine bodyPost_ret (results_cell_row Tryd.results19 _ _ w.heap.size 27 _ (0, 0) _ rfl HZ.out Tryd.underlying27 rfl (by kernel_rfl)) rfl ?_
    exact ⟨congrArg Ending.returned HV.out, ((hB.setCell (by simp) _).setCell (by simp) _).setCell (by simp) _⟩
  · have hd : denM x = 2 := hdm
    rw [hd] at hm
    replace hk : x % 6 = 1 := by omega
    rw [hk] at HB
    have HB2 := Lib.hid (fun w => below_any (x.tdiv 6) 33 w (by decide) (by decide))
    have hr1 := Int.emod_nonneg (x.tdiv 6) (show (33 : Int) ≠ 0 by decide)
    have hr2 := Int.emod_lt_of_pos (x.tdiv 6) (show (0 : Int) < 33 by decide)
    have hm2 : x.tdiv 6 % 33 - 16 = numM x := by rw [hm]; rfl
    have hwr : IntKind.i64.wrap (numM x) = numM x := by rw [IntKind.wrap_i64]; omega
    have HO := Lib.hid (show ∀ w, Calls Tryd.prog 72 #[.int .i64 (numM x), .int .i64 2] w fun e w' => e = .returned (.agg #[.bool (qn (ratM x)), .string (qs (ratM x)), .string (qt (ratM x))]) ∧ Below w.heap.size w w' from fun w => by
      have := makeOf_any w (numM x) 2 (by decide) (by decide) (by omega)
      rw [← hd] at this
      rw [show ((2 : Int)) = ((denM x : Nat) : Int) by rw [hd]; rfl]
      exact this)
    obtain ⟨NM, hNM⟩ : ∃ z, z = numM x := ⟨_, rfl⟩
    rw [← hNM] at hm2 hwr HO
    obtain ⟨b, hb1⟩ : ∃ z, z = qn (ratM x) := ⟨_, rfl⟩
    obtain ⟨a, ha1⟩ : ∃ z, z = qs (ratM x) := ⟨_, rfl⟩
    obtain ⟨d, hd1⟩ : ∃ z, z = qt (ratM x) := ⟨_, rfl⟩
    have HV := Lib.hid (show Value.agg #[.bool b, .string a, .string d] = QV (ratM x) by rw [hb1, ha1, hd1]; rfl)
    rw [← hb1, ← ha1, ← hd1] at HO
    have hB : Below w.heap.size w ((w.alloc (.cells #[.bool false, .string { data := #[] }, .string { data := #[] }] 27)).alloc (.cells #[.int .i64 1, .int .i64 2, .int .i64 3, .int .i64 4, .int .i64 5, .int .i64 8] 3)) := ((Below.refl w.heap.size w).alloc (Nat.le_refl _) _).alloc (by simp) _
    have kr : R3 ((w.alloc (.cells #[.bool false, .string { data := #[] }, .string { data := #[] }] 27)).alloc (.cells #[.int .i64 1, .int .i64 2, .int .i64 3, .int .i64 4, .int .i64 5, .int .i64 8] 3)) w.heap.size false { data := #[] } { data := #[] } := (R3.new w _ _ _).alloc _
    clear hm hk hdm hd hr1 hr2 hNM hb1 ha1 hd1 hq hq0 hx
    go_enter Tryd.func19, Tryd.ntmps19
    go_wp2_with fail
    refine (HB.out _).mono ?_
    rintro e w1 ⟨rfl, rfl⟩
    go_wp2_with fail
    refine (HB2.out _).mono ?_
    rintro e w1 ⟨rfl, rfl⟩
    go_wp2_with fail
    generalize (w.alloc _).alloc _ = w2 at kr hB ⊢
    refine (HO.out _).mono ?_
    rintro e w3 ⟨rfl, hb⟩
    replace kr := kr.below hb kr.lt
    replace hB := hB.trans (hb.mono hB.size)
    obtain ⟨_, _, _, f0, f1, f2⟩ := kr.facts
    have HZ := Lib.hid (kr.put b a d)
    clear hb kr HB HB2 HO
    go_wp2
    refine bodyPost_ret (results_cell_row Tryd.results19 _ _ w.heap.size 27 _ (0, 0) _ rfl HZ.out Tryd.underlying27 rfl (by kernel_rfl)) rfl ?_
    exact ⟨congrArg Ending.returned HV.out, ((hB.setCell (by simp) _).setCell (by simp) _).setCell (by simp) _⟩
  · have hd : denM x = 3 := hdm
    rw [hd] at hm
    replace hk : x % 6 = 2 := by omega
    rw [hk] at HB
    have HB2 := Lib.hid (fun w => below_any (x.tdiv 6) 49 w (by decide) (by decide))
    have hr1 := Int.emod_nonneg (x.tdiv 6) (show (49 : Int) ≠ 0 by decide)
    have hr2 := Int.emod_lt_of_pos (x.tdiv 6) (show (0 : Int) < 49 by decide)
    have hm2 : x.tdiv 6 % 49 - 24 = numM x := by rw [hm]; rfl
    have hwr : IntKind.i64.wrap (numM x) = numM x := by rw [IntKind.wrap_i64]; omega
    have HO := Lib.hid (show ∀ w, Calls Tryd.prog 72 #[.int .i64 (numM x), .int .i64 3] w fun e w' => e = .returned (.agg #[.bool (qn (ratM x)), .string (qs (ratM x)), .string (qt (ratM x))]) ∧ Below w.heap.size w w' from fun w => by
      have := makeOf_any w (numM x) 3 (by decide) (by decide) (by omega)
      rw [← hd] at this
      rw [show ((3 : Int)) = ((denM x : Nat) : Int) by rw [hd]; rfl]
      exact this)
    obtain ⟨NM, hNM⟩ : ∃ z, z = numM x := ⟨_, rfl⟩
    rw [← hNM] at hm2 hwr HO
    obtain ⟨b, hb1⟩ : ∃ z, z = qn (ratM x) := ⟨_, rfl⟩
    obtain ⟨a, ha1⟩ : ∃ z, z = qs (ratM x) := ⟨_, rfl⟩
    obtain ⟨d, hd1⟩ : ∃ z, z = qt (ratM x) := ⟨_, rfl⟩
    have HV := Lib.hid (show Value.agg #[.bool b, .string a, .string d] = QV (ratM x) by rw [hb1, ha1, hd1]; rfl)
    rw [← hb1, ← ha1, ← hd1] at HO
    have hB : Below w.heap.size w ((w.alloc (.cells #[.bool false, .string { data := #[] }, .string { data := #[] }] 27)).alloc (.cells #[.int .i64 1, .int .i64 2, .int .i64 3, .int .i64 4, .int .i64 5, .int .i64 8] 3)) := ((Below.refl w.heap.size w).alloc (Nat.le_refl _) _).alloc (by simp) _
    have kr : R3 ((w.alloc (.cells #[.bool false, .string { data := #[] }, .string { data := #[] }] 27)).alloc (.cells #[.int .i64 1, .int .i64 2, .int .i64 3, .int .i64 4, .int .i64 5, .int .i64 8] 3)) w.heap.size false { data := #[] } { data := #[] } := (R3.new w _ _ _).alloc _
    clear hm hk hdm hd hr1 hr2 hNM hb1 ha1 hd1 hq hq0 hx
    go_enter Tryd.func19, Tryd.ntmps19
    go_wp2_with fail
    refine (HB.out _).mono ?_
    rintro e w1 ⟨rfl, rfl⟩
    go_wp2_with fail
    refine (HB2.out _).mono ?_
    rintro e w1 ⟨rfl, rfl⟩
    go_wp2_with fail
    generalize (w.alloc _).alloc _ = w2 at kr hB ⊢
    refine (HO.out _).mono ?_
    rintro e w3 ⟨rfl, hb⟩
    replace kr := kr.below hb kr.lt
    replace hB := hB.trans (hb.mono hB.size)
    obtain ⟨_, _, _, f0, f1, f2⟩ := kr.facts
    have HZ := Lib.hid (kr.put b a d)
    clear hb kr HB HB2 HO
    go_wp2
    refine bodyPost_ret (results_cell_row Tryd.results19 _ _ w.heap.size 27 _ (0, 0) _ rfl HZ.out Tryd.underlying27 rfl (by kernel_rfl)) rfl ?_
    exact ⟨congrArg Ending.returned HV.out, ((hB.setCell (by simp) _).setCell (by simp) _).setCell (by simp) _⟩
  · have hd : denM x = 4 := hdm
    rw [hd] at hm
    replace hk : x % 6 = 3 := by omega
    rw [hk] at HB
    have HB2 := Lib.hid (fun w => below_any (x.tdiv 6) 65 w (by decide) (by decide))
    have hr1 := Int.emod_nonneg (x.tdiv 6) (show (65 : Int) ≠ 0 by decide)
    have hr2 := Int.emod_lt_of_pos (x.tdiv 6) (show (0 : Int) < 65 by decide)
    have hm2 : x.tdiv 6 % 65 - 32 = numM x := by rw [hm]; rfl
    have hwr : IntKind.i64.wrap (numM x) = numM x := by rw [IntKind.wrap_i64]; omega
    have HO := Lib.hid (show ∀ w, Calls Tryd.prog 72 #[.int .i64 (numM x), .int .i64 4] w fun e w' => e = .returned (.agg #[.bool (qn (ratM x)), .string (qs (ratM x)), .string (qt (ratM x))]) ∧ Below w.heap.size w w' from fun w => by
      have := makeOf_any w (numM x) 4 (by decide) (by decide) (by omega)
      rw [← hd] at this
      rw [show ((4 : Int)) = ((denM x : Nat) : Int) by rw [hd]; rfl]
      exact this)
    obtain ⟨NM, hNM⟩ : ∃ z, z = numM x := ⟨_, rfl⟩
    rw [← hNM] at hm2 hwr HO
    obtain ⟨b, hb1⟩ : ∃ z, z = qn (ratM x) := ⟨_, rfl⟩
    obtain ⟨a, ha1⟩ : ∃ z, z = qs (ratM x) := ⟨_, rfl⟩
    obtain ⟨d, hd1⟩ : ∃ z, z = qt (ratM x) := ⟨_, rfl⟩
    have HV := Lib.hid (show Value.agg #[.bool b, .string a, .string d] = QV (ratM x) by rw [hb1, ha1, hd1]; rfl)
    rw [← hb1, ← ha1, ← hd1] at HO
    have hB : Below w.heap.size w ((w.alloc (.cells #[.bool false, .string { data := #[] }, .string { data := #[] }] 27)).alloc (.cells #[.int .i64 1, .int .i64 2, .int .i64 3, .int .i64 4, .int .i64 5, .int .i64 8] 3)) := ((Below.refl w.heap.size w).alloc (Nat.le_refl _) _).alloc (by simp) _
    have kr : R3 ((w.alloc (.cells #[.bool false, .string { data := #[] }, .string { data := #[] }] 27)).alloc (.cells #[.int .i64 1, .int .i64 2, .int .i64 3, .int .i64 4, .int .i64 5, .int .i64 8] 3)) w.heap.size false { data := #[] } { data := #[] } := (R3.new w _ _ _).alloc _
    clear hm hk hdm hd hr1 hr2 hNM hb1 ha1 hd1 hq hq0 hx
    go_enter Tryd.func19, Tryd.ntmps19
    go_wp2_with fail
    refine (HB.out _).mono ?_
    rintro e w1 ⟨rfl, rfl⟩
    go_wp2_with fail
    refine (HB2.out _).mono ?_
    rintro e w1 ⟨rfl, rfl⟩
    go_wp2_with fail
    generalize (w.alloc _).alloc _ = w2 at kr hB ⊢
    refine (HO.out _).mono ?_
    rintro e w3 ⟨rfl, hb⟩
    replace kr := kr.below hb kr.lt
    replace hB := hB.trans (hb.mono hB.size)
    obtain ⟨_, _, _, f0, f1, f2⟩ := kr.facts
    have HZ := Lib.hid (kr.put b a d)
    clear hb kr HB HB2 HO
    go_wp2
    refine bodyPost_ret (results_cell_row Tryd.results19 _ _ w.heap.size 27 _ (0, 0) _ rfl HZ.out Tryd.underlying27 rfl (by kernel_rfl)) rfl ?_
    exact ⟨congrArg Ending.returned HV.out, ((hB.setCell (by simp) _).setCell (by simp) _).setCell (by simp) _⟩
  · have hd : denM x = 5 := hdm
    rw [hd] at hm
    replace hk : x % 6 = 4 := by omega
    rw [hk] at HB
    have HB2 := Lib.hid (fun w => below_any (x.tdiv 6) 81 w (by decide) (by decide))
    have hr1 := Int.emod_nonneg (x.tdiv 6) (show (81 : Int) ≠ 0 by decide)
    have hr2 := Int.emod_lt_of_pos (x.tdiv 6) (show (0 : Int) < 81 by decide)
    have hm2 : x.tdiv 6 % 81 - 40 = numM x := by rw [hm]; rfl
    have hwr : IntKind.i64.wrap (numM x) = numM x := by rw [IntKind.wrap_i64]; omega
    have HO := Lib.hid (show ∀ w, Calls Tryd.prog 72 #[.int .i64 (numM x), .int .i64 5] w fun e w' => e = .returned (.agg #[.bool (qn (ratM x)), .string (qs (ratM x)), .string (qt (ratM x))]) ∧ Below w.heap.size w w' from fun w => by
      have := makeOf_any w (numM x) 5 (by decide) (by decide) (by omega)
      rw [← hd] at this
      rw [show ((5 : Int)) = ((denM x : Nat) : Int) by rw [hd]; rfl]
      exact this)
    obtain ⟨NM, hNM⟩ : ∃ z, z = numM x := ⟨_, rfl⟩
    rw [← hNM] at hm2 hwr HO
    obtain ⟨b, hb1⟩ : ∃ z, z = qn (ratM x) := ⟨_, rfl⟩
    obtain ⟨a, ha1⟩ : ∃ z, z = qs (ratM x) := ⟨_, rfl⟩
    obtain ⟨d, hd1⟩ : ∃ z, z = qt (ratM x) := ⟨_, rfl⟩
    have HV := Lib.hid (show Value.agg #[.bool b, .string a, .string d] = QV (ratM x) by rw [hb1, ha1, hd1]; rfl)
    rw [← hb1, ← ha1, ← hd1] at HO
    have hB : Below w.heap.size w ((w.alloc (.cells #[.bool false, .string { data := #[] }, .string { data := #[] }] 27)).alloc (.cells #[.int .i64 1, .int .i64 2, .int .i64 3, .int .i64 4, .int .i64 5, .int .i64 8] 3)) := ((Below.refl w.heap.size w).alloc (Nat.le_refl _) _).alloc (by simp) _
    have kr : R3 ((w.alloc (.cells #[.bool false, .string { data := #[] }, .string { data := #[] }] 27)).alloc (.cells #[.int .i64 1, .int .i64 2, .int .i64 3, .int .i64 4, .int .i64 5, .int .i64 8] 3)) w.heap.size false { data := #[] } { data := #[] } := (R3.new w _ _ _).alloc _
    clear hm hk hdm hd hr1 hr2 hNM hb1 ha1 hd1 hq hq0 hx
    go_enter Tryd.func19, Tryd.ntmps19
    go_wp2_with fail
    refine (HB.out _).mono ?_
    rintro e w1 ⟨rfl, rfl⟩
    go_wp2_with fail
    refine (HB2.out _).mono ?_
    rintro e w1 ⟨rfl, rfl⟩
    go_wp2_with fail
    generalize (w.alloc _).alloc _ = w2 at kr hB ⊢
    refine (HO.out _).mono ?_
    rintro e w3 ⟨rfl, hb⟩
    replace kr := kr.below hb kr.lt
    replace hB := hB.trans (hb.mono hB.size)
    obtain ⟨_, _, _, f0, f1, f2⟩ := kr.facts
    have HZ := Lib.hid (kr.put b a d)
    clear hb kr HB HB2 HO
    go_wp2
    refine bodyPost_ret (results_cell_row Tryd.results19 _ _ w.heap.size 27 _ (0, 0) _ rfl HZ.out Tryd.underlying27 rfl (by kernel_rfl)) rfl ?_
    exact ⟨congrArg Ending.returned HV.out, ((hB.setCell (by simp) _).setCell (by simp) _).setCell (by simp) _⟩
  · have hd : denM x = 8 := hdm
    rw [hd] at hm
    replace hk : x % 6 = 5 := by omega
    rw [hk] at HB
    have HB2 := Lib.hid (fun w => below_any (x.tdiv 6) 129 w (by decide) (by decide))
    have hr1 := Int.emod_nonneg (x.tdiv 6) (show (129 : Int) ≠ 0 by decide)
    have hr2 := Int.emod_lt_of_pos (x.tdiv 6) (show (0 : Int) < 129 by decide)
    have hm2 : x.tdiv 6 % 129 - 64 = numM x := by rw [hm]; rfl
    have hwr : IntKind.i64.wrap (numM x) = numM x := by rw [IntKind.wrap_i64]; omega
    have HO := Lib.hid (show ∀ w, Calls Tryd.prog 72 #[.int .i64 (numM x), .int .i64 8] w fun e w' => e = .returned (.agg #[.bool (qn (ratM x)), .string (qs (ratM x)), .string (qt (ratM x))]) ∧ Below w.heap.size w w' from fun w => by
      have := makeOf_any w (numM x) 8 (by decide) (by decide) (by omega)
      rw [← hd] at this
      rw [show ((8 : Int)) = ((denM x : Nat) : Int) by rw [hd]; rfl]
      exact this)
    obtain ⟨NM, hNM⟩ : ∃ z, z = numM x := ⟨_, rfl⟩
    rw [← hNM] at hm2 hwr HO
    obtain ⟨b, hb1⟩ : ∃ z, z = qn (ratM x) := ⟨_, rfl⟩
    obtain ⟨a, ha1⟩ : ∃ z, z = qs (ratM x) := ⟨_, rfl⟩
    obtain ⟨d, hd1⟩ : ∃ z, z = qt (ratM x) := ⟨_, rfl⟩
    have HV := Lib.hid (show Value.agg #[.bool b, .string a, .string d] = QV (ratM x) by rw [hb1, ha1, hd1]; rfl)
    rw [← hb1, ← ha1, ← hd1] at HO
    have hB : Below w.heap.size w ((w.alloc (.cells #[.bool false, .string { data := #[] }, .string { data := #[] }] 27)).alloc (.cells #[.int .i64 1, .int .i64 2, .int .i64 3, .int .i64 4, .int .i64 5, .int .i64 8] 3)) := ((Below.refl w.heap.size w).alloc (Nat.le_refl _) _).alloc (by simp) _
    have kr : R3 ((w.alloc (.cells #[.bool false, .string { data := #[] }, .string { data := #[] }] 27)).alloc (.cells #[.int .i64 1, .int .i64 2, .int .i64 3, .int .i64 4, .int .i64 5, .int .i64 8] 3)) w.heap.size false { data := #[] } { data := #[] } := (R3.new w _ _ _).alloc _
    clear hm hk hdm hd hr1 hr2 hNM hb1 ha1 hd1 hq hq0 hx
    go_enter Tryd.func19, Tryd.ntmps19
    go_wp2_with fail
    refine (HB.out _).mono ?_
    rintro e w1 ⟨rfl, rfl⟩
    go_wp2_with fail
    refine (HB2.out _).mono ?_
    rintro e w1 ⟨rfl, rfl⟩
    go_wp2_with fail
    generalize (w.alloc _).alloc _ = w2 at kr hB ⊢
    refine (HO.out _).mono ?_
    rintro e w3 ⟨rfl, hb⟩
    replace kr := kr.below hb kr.lt
    replace hB := hB.trans (hb.mono hB.size)
    obtain ⟨_, _, _, f0, f1, f2⟩ := kr.facts
    have HZ := Lib.hid (kr.put b a d)
    clear hb kr HB HB2 HO
    go_wp2
    refine bodyPost_ret (results_cell_row Tryd.results19 _ _ w.heap.size 27 _ (0, 0) _ rfl HZ.out Tryd.underlying27 rfl (by kernel_rfl)) rfl ?_
    exact ⟨congrArg Ending.returned HV.out, ((hB.setCell (by simp) _).setCell (by simp) _).setCell (by simp) _⟩
end Go.Proofs.YthmgcbpmfipfiaaDoor
