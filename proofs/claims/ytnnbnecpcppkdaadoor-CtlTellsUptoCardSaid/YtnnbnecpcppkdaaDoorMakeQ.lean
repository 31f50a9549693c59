/- gantmake.digits. gantmake.Of, gantmake.Rat. gantkeep5.half, feel.Check. Rows of rational numbers. The contracts of package rat once more, over triples: each result is a letter with its value, its form and its size. Conditions: those typed. -/
import Derived.Test.YtnnbnecpcppkdaaDoorRatFnA
import Derived.Test.YtnnbnecpcppkdaaDoorShelfRev
import Derived.Test.YtnnbnecpcppkdaaDoorRatFnB
namespace Go.Proofs.YtnnbnecpcppkdaaDoor
open Go.RowKit Go.Gy Go.Sort
set_option linter.unusedVariables false
theorem natL_rev {m : Nat} (h : m ≠ 0) (l : List Nat) : natL m ++ (l.map UInt8.ofNat).reverse = natL (m / 256) ++ ((l ++ [m % 256]).map UInt8.ofNat).reverse := by
  rw [natL_pos h]
  simp
/-- a row of bytes of the call's own, turned about -/
theorem rev_own {w : World} {base g cap : Nat} {e : TypeId} {l : List Nat} (h : w.ownsRow base e 1 (.slice (some ⟨g, 0, none⟩) l.length cap) l.length (l.map bvn)) (n : Nat) :
    Holds bvn w g 0 l.toArray ∧ ∃ cs, Blk (putRow bvn (Sort.ahead w n) g 0 l.reverse.toArray) g e cs ∧ cs.toList.take l.length = l.reverse.map bvn ∧ Below base w (putRow bvn (Sort.ahead w n) g 0 l.reverse.toArray) := by
  refine ⟨fun j hj => ⟨?_, by rw [Nat.zero_add]; exact h.frozenAt j⟩, ?_⟩
  · rw [Nat.zero_add, h.cellAt j (by simpa using hj)]
    rw [getElem!_pos _ j hj]
    simp at hj
    simp [hj]
  · obtain ⟨hl, ⟨hv, _⟩ | ⟨g', cap', cur, hv, hg, hh, hnc, hcm, hcs, htk⟩⟩ := h
    · cases hv
    · injection hv with hv1 _ hv3
      injection hv1 with hv1
      injection hv1 with hv1
      subst hv1 hv3
      refine ⟨putCells bvn 0 l.reverse.toArray cur, ?_, ?_, ⟨rfl, rfl, rfl, by simp [putRow, mapBlock, Sort.ahead], fun q hq => ?_⟩⟩
      · show ((w.heap.modify g (onCells (putCells bvn 0 l.reverse.toArray))))[g]? = _
        rw [Array.getElem?_modify, if_pos rfl, hh]
        rfl
      · apply List.ext_getElem?
        intro t
        rw [List.getElem?_take]
        by_cases ht : t < l.length
        · rw [if_pos ht]
          have h2 : t < cur.size := by omega
          simp only [putCells, Array.getElem?_toList, Array.getElem?_mapIdx]
          rw [Array.getElem?_eq_getElem h2]
          simp only [Option.map_some, Nat.sub_zero, Nat.zero_add]
          rw [if_pos ⟨Nat.zero_le _, by simpa using ht⟩, getElem!_pos _ t (by simpa using ht)]
          simp [ht]
        · rw [if_neg ht, List.getElem?_eq_none (by simpa using ht)]
      · show ((w.heap.modify g (onCells (putCells bvn 0 l.reverse.toArray))))[q]? = _
        rw [Array.getElem?_modify, if_neg (by omega)]
def DgRel (w : World) (N : Nat) (x v : Value) (wr : World) : Prop := ∃ (m : Nat) (l : List Nat), x = .int .i64 m ∧ m ≤ N ∧ wr.ownsRow w.heap.size 5 1 v l.length (l.map bvn) ∧ Hid (natL N = natL m ++ (l.map UInt8.ofNat).reverse) ∧ Below w.heap.size w wr
set_option maxRecDepth 100000 in
set_option maxHeartbeats 4000000 in
theorem digits_any (w : World) (N : Nat) (hN : N ≤ 9223372036854775807) :
    Calls Tryd.prog 96 #[.int .i64 N] w fun e w' => e = .returned (.string (natS N)) ∧ Below w.heap.size w w' := by
  obtain ⟨i0, hi, hz0, hz1, hz2⟩ := info_parts info_u8
  have hlen : (natL N).length ≤ 8 := (natL_len_le N 8).mpr (by omega)
  have Hst := Lib.hid (show DgRel w N (.int .i64 N) (.slice none 0 0) w from ⟨N, [], rfl, Nat.le_refl _, ⟨rfl, .inl ⟨rfl, rfl⟩⟩, Lib.hid (by simp), Below.refl _ _⟩)
  go_enter Tryd.func96, Tryd.ntmps96
  go_wp2
  go_loopg [0, 3] N (fun k x v wr => DgRel w N x v wr ∧ ∃ m : Nat, x = .int .i64 m ∧ m ≤ k)
  case atStart => exact ⟨Hst.out, N, rfl, Nat.le_refl _⟩
  case round =>
    obtain ⟨⟨m, l, rfl, hmN, hown, HL, hbw⟩, m', hm', hmk⟩ := hrel
    injection hm' with _ hm'
    have : m = m' := by omega
    subst this
    clear hm'
    have hl8 : l.length ≤ 8 := by
      have := congrArg List.length HL.out
      simp at this
      omega
    by_cases h0 : m = 0
    · subst h0
      have HL0 := Lib.hid (show natL N = (l.map UInt8.ofNat).reverse by have := HL.out; rw [natL_zero] at this; simpa using this)
      clear HL
      have hcase := hown.2
      rcases hcase with ⟨rfl, hl0⟩ | ⟨g, cap, cur, rfl, hg, hh, hnc, hcm, hcs, htk⟩
      · have hN0 := Lib.hid (show natS N = { data := #[] } by
          have h1 := HL0.out
          rw [List.eq_nil_of_length_eq_zero hl0] at h1
          rw [natL_nil.mp h1, natS_zero])
        have HR := Lib.hid (fun w => Tryd.slices_Reverse_empty (α := Nat) none 0 w)
        clear HL0 hown hl0 hlen hmN hmk Hst hl8
        go_wp2_with fail
        refine (HR.out _).mono ?_
        rintro e w' ⟨rfl, rfl⟩
        have hcv := run_convert_bytes_nil (P := Tryd.prog) (w := w') 165 5 Tryd.underlying165 Tryd.underlying5 0 0 9 Tryd.underlying9
        go_wp2
        go_ret
        exact ⟨ret_str (by rw [hN0.out]; rfl), hbw⟩
      · have HR := Lib.hid (Tryd.slices_Reverse bvn (fun _ => rfl) g 0 cap l wr (rev_own hown 0).1 (by omega))
        have hrev := Lib.hid (fun n => (rev_own hown n).2)
        have HS := Lib.hid (show strOf l.reverse = natS N by
          apply ByteArray.ext
          apply Array.toList_inj.mp
          rw [natS_list, HL0.out]
          simp [strOf])
        clear HL0 hown hlen hmN hmk Hst hl8 hg hh hnc hcm hcs htk cur
        go_wp2_with fail
        refine HR.out.mono ?_
        rintro e w' ⟨rfl, n, rfl⟩
        obtain ⟨cs, hB, hc, hb⟩ := hrev.out n
        generalize putRow bvn (Sort.ahead wr n) g 0 l.reverse.toArray = w5 at hB hb ⊢
        have hcv := conv_blk (cap := cap) (l := l.reverse) hB (by rw [List.length_reverse]; exact hc)
        rw [List.length_reverse, HS.out] at hcv
        clear hc hB HR hrev
        go_wp2
        go_ret
        exact ⟨rfl, hbw.trans hb⟩
    · have h1 : (m : Int) > 0 := by omega
      have hzr := hbw.size
      have Hown := Lib.hid hown
      have hc : ((m : Int) % 256) = ((m % 256 : Nat) : Int) := by omega
      have HN := Lib.hid (show ∀ v' w', w'.ownsRow w.heap.size 5 1 v' (l.length + 1) (l.map bvn ++ [.int .u8 ((m : Int) % 256)]) → Below w.heap.size wr w' → DgRel w N (.int .i64 ((m : Int) / 256)) v' w' ∧ ∃ m' : Nat, Value.int .i64 ((m : Int) / 256) = .int .i64 m' ∧ m' ≤ gk - 1 from fun v' w' ho hb => by
        have hq : ((m : Int) / 256) = ((m / 256 : Nat) : Int) := by omega
        rw [hq]
        refine ⟨⟨m / 256, l ++ [m % 256], rfl, Nat.le_trans (Nat.div_le_self _ _) hmN, ?_, Lib.hid (HL.out.trans (natL_rev h0 l)), hbw.trans hb⟩, m / 256, rfl, by omega⟩
        rw [hc] at ho
        rw [List.length_append, List.map_append]
        exact ho)
      have hwd : IntKind.i64.wrap ((m : Int) / 256) = (m : Int) / 256 := by rw [IntKind.wrap_i64]; omega
      have hwc : IntKind.u8.wrap ((m : Int) % 256) = (m : Int) % 256 := by rw [IntKind.wrap_u8]; omega
      have hgk : gk - 1 < gk := by omega
      clear hc h0 hmk hmN HL hown hbw Hst
      go_wp2_with (at_builtin; refine wpList_push rfl (.tmp 8) (.tmp 12) 165 rfl w.heap.size 5 i0 (.int .u8 0) 1 1 Tryd.underlying165 hi hz0 hz1 hz2 rfl (by omega) _ l.length _ rfl Hown.out [_] rfl rfl (by simp [Value.oneCell']) (by unfold maxLen; omega) (by omega) hzr ?_; intro v6 w6 hn6 hb6 _)
      go_roundg (gk - 1)
      case measure => exact hgk
      case rel => exact HN.out _ _ hn6 hb6
end Go.Proofs.YtnnbnecpcppkdaaDoor
namespace Go.Proofs.YtnnbnecpcppkdaaDoor
open Go.RowKit Go.Gy
set_option linter.unusedVariables false
section
variable {P : Program} {ops : Array Oper} {rest : List Oper} {o : Oper} {a : Act} {w : World} {Q : Exit → Act → World → Prop}
theorem wpList_max2 (hgd : o.guard = none) (x y : Operand) (ts : Array TypeId) (ho : o.op = .call { callee := .builtin .max, args := #[x, y], argTypes := ts }) (n m : Int) (hx : a.eval x = .int .i64 n) (hy : a.eval y = .int .i64 m) (k : Int) (hk : max n m = k)
    (h : wpList P ops Q rest (a.put o.dst (.int .i64 k)) w) : wpList P ops Q (o :: rest) a w :=
  wpList_plain hgd fun _ hK => by
    have e : (if m > n then m else n) = k := by rw [← hk]; split <;> omega
    unfold Oper.wp execOp
    simp only [ho, resolve, invoke, builtin, Sem.run_bind, Sem.run_pure, Result.andThen_ok, List.map_toArray, List.map_cons, List.map_nil, hx, hy, run_max_int2, e]
    exact hK _ _ h
end
def OfRel (w : World) (A D : Nat) (x y : Value) (wr : World) : Prop := ∃ u v : Nat, x = .int .i64 u ∧ y = .int .i64 v ∧ u ≤ A + D ∧ v ≤ D ∧ Hid (Nat.gcd u v = Nat.gcd A D) ∧ R3 wr w.heap.size false { data := #[] } { data := #[] } ∧ Below w.heap.size w wr
set_option maxRecDepth 100000 in
set_option maxHeartbeats 4000000 in
theorem makeOf_any (w : World) (n : Int) (D : Nat) (hD : 0 < D) (hD2 : D ≤ 4294967296) (hn : -1099511627776 ≤ n ∧ n ≤ 1099511627776) :
    Calls Tryd.prog 62 #[.int .i64 n, .int .i64 D] w fun e w' => e = .returned (QV (mkRat n D)) ∧ Below w.heap.size w w' := by
  obtain ⟨A, hA⟩ : ∃ A, A = n.natAbs := ⟨_, rfl⟩
  have hmx : max n (-n) = A := by omega
  have hwn : IntKind.i64.wrap (-n) = -n := by rw [IntKind.wrap_i64]; omega
  have hB : Below w.heap.size w (w.alloc (.cells #[.bool false, .string { data := #[] }, .string { data := #[] }] 25)) := (Below.refl w.heap.size w).alloc (Nat.le_refl _) _
  have kr : R3 (w.alloc (.cells #[.bool false, .string { data := #[] }, .string { data := #[] }] 25)) w.heap.size false { data := #[] } { data := #[] } := R3.new w _ _ _
  have hgp : 0 < Nat.gcd A D := Nat.gcd_pos_of_pos_right A hD
  have hAl : A ≤ 1099511627776 := by omega
  have hns : n = sgn (decide (n < 0)) A := by
    by_cases h : n < 0
    · rw [decide_eq_true h, sgn_true]; omega
    · rw [decide_eq_false h, sgn_false]; omega
  have HV := Lib.hid (show Value.agg #[.bool (decide (n < 0)), .string (natS (A / Nat.gcd A D)), .string (natS (D / Nat.gcd A D))] = QV (mkRat n D) by
    have := mk_parts (n := decide (n < 0)) (a := A) (b := D) (by omega) (fun h => decide_eq_false (by omega))
    rw [← hns] at this
    unfold QV
    rw [this.1, this.2.1, this.2.2])
  have hdv : n.tdiv (Nat.gcd A D : Nat) = sgn (decide (n < 0)) (A / Nat.gcd A D) := by
    generalize Nat.gcd A D = g at hgp
    by_cases h : n < 0
    · rw [decide_eq_true h, sgn_true, show n = -(A : Int) by omega, Int.neg_tdiv, Int.tdiv_eq_ediv_of_nonneg (by omega), Int.natCast_ediv]
    · rw [decide_eq_false h, sgn_false, show n = (A : Int) by omega, Int.tdiv_eq_ediv_of_nonneg (by omega), Int.natCast_ediv]
  have hdd : (D : Int).tdiv (Nat.gcd A D : Nat) = ((D / Nat.gcd A D : Nat) : Int) := by rw [Int.tdiv_eq_ediv_of_nonneg (by omega), Int.natCast_ediv]
  have hq1 : A / Nat.gcd A D ≤ A := Nat.div_le_self _ _
  have hq2 : D / Nat.gcd A D ≤ D := Nat.div_le_self _ _
  have hq3 : (sgn (decide (n < 0)) (A / Nat.gcd A D) < 0) ↔ n < 0 := by
    by_cases h : n < 0
    · rw [decide_eq_true h, sgn_true]
      have : 0 < A / Nat.gcd A D := Nat.div_pos (Nat.le_of_dvd (by omega) (Nat.gcd_dvd_left A D)) hgp
      omega
    · rw [decide_eq_false h, sgn_false]; generalize A / Nat.gcd A D = k; omega
  have hab : (sgn (decide (n < 0)) (A / Nat.gcd A D)).natAbs = A / Nat.gcd A D := sgn_abs _ _
  obtain ⟨G, hG⟩ : ∃ G, G = Nat.gcd A D := ⟨_, rfl⟩
  rw [← hG] at HV hgp hdv hdd hq1 hq2 hq3 hab
  obtain ⟨P, hP⟩ : ∃ P, P = A / G := ⟨_, rfl⟩
  obtain ⟨Q, hQ⟩ : ∃ Q, Q = D / G := ⟨_, rfl⟩
  obtain ⟨N, hN⟩ : ∃ N, N = sgn (decide (n < 0)) P := ⟨_, rfl⟩
  rw [← hP] at HV hdv hq1 hq3 hab
  rw [← hQ] at HV hdd hq2
  rw [← hN] at hdv hq3 hab
  have D1 := Lib.hid (fun W => digits_any W P (by omega))
  have D2 := Lib.hid (fun W => digits_any W Q (by omega))
  have hst := Lib.hid (show OfRel w A D (.int .i64 A) (.int .i64 D) (w.alloc (.cells #[.bool false, .string { data := #[] }, .string { data := #[] }] 25)) from ⟨A, D, rfl, rfl, by omega, Nat.le_refl _, Lib.hid rfl, kr, hB⟩)
  have hmx2 : max N (-N) = P := by omega
  have hwN : IntKind.i64.wrap N = N := by rw [IntKind.wrap_i64]; omega
  have hwN2 : IntKind.i64.wrap (-N) = -N := by rw [IntKind.wrap_i64]; omega
  have hwQ : IntKind.i64.wrap (Q : Int) = Q := by rw [IntKind.wrap_i64]; omega
  have HG := Lib.hid hG
  clear hns hP hQ hN hq1 hq2 hA hG hn kr hB
  go_enter Tryd.func62, Tryd.ntmps62
  go_wp2_with (refine wpList_max2 rfl (.tmp 7) (.tmp 9) _ rfl n (-n) rfl rfl A hmx ?_)
  go_loopg [5, 6] D (fun k x y wr => OfRel w A D x y wr ∧ ∃ v : Nat, y = .int .i64 v ∧ v ≤ k)
  case atStart => exact ⟨hst.out, D, rfl, Nat.le_refl _⟩
  case round =>
    obtain ⟨⟨u, v, rfl, rfl, hu, hv, HGC, kr, hB⟩, v', hv', hvk⟩ := hrel
    injection hv' with _ hv'
    have : v = v' := by omega
    subst this
    clear hv' hst hmx hwn
    by_cases h0 : v = 0
    · subst h0
      have hug : u = G := by have := HGC.out; rw [Nat.gcd_zero_right] at this; rw [this, HG.out]
      subst hug
      have hu0 : ¬ (u : Int) = 0 := by omega
      clear HGC HG hu hv hvk
      go_wp2
      go_region
      go_wp2_with (refine wpList_max2 rfl (.tmp 26) (.tmp 28) _ rfl N (-N) rfl rfl P hmx2 ?_)
      have kd := kr.drew
      have hBd := hB.drew
      generalize wr.drew = w5 at kd hBd ⊢
      clear kr hB
      refine (D1.out _).mono ?_
      rintro e w6 ⟨rfl, hb⟩
      replace kd := kd.below hb kd.lt
      replace hBd := hBd.trans (hb.mono hBd.size)
      clear hb D1
      go_wp2_with fail
      refine (D2.out _).mono ?_
      rintro e w7 ⟨rfl, hb⟩
      replace kd := kd.below hb kd.lt
      replace hBd := hBd.trans (hb.mono hBd.size)
      obtain ⟨_, _, _, f0, f1, f2⟩ := kd.facts
      have HZ := Lib.hid (kd.put (decide (n < 0)) (natS P) (natS Q))
      clear hb D2 kd
      go_wp2
      refine bodyPost_ret (results_cell_row Tryd.results62 _ _ w.heap.size 25 _ (0, 0) _ rfl HZ.out Tryd.underlying25 rfl (by kernel_rfl)) rfl ?_
      exact ⟨congrArg Ending.returned HV.out, ((hBd.setCell (by simp) _).setCell (by simp) _).setCell (by simp) _⟩
    · have h1 : (v : Int) > 0 := by omega
      have hv0 : ¬ (v : Int) = 0 := by omega
      have hm : (u : Int).tmod (v : Int) = ((u % v : Nat) : Int) := by rw [Int.tmod_eq_emod_of_nonneg (by omega), Int.natCast_emod]
      have hml : u % v < v := Nat.mod_lt _ (by omega)
      have hwm : IntKind.i64.wrap ((u % v : Nat) : Int) = ((u % v : Nat) : Int) := by rw [IntKind.wrap_i64]; omega
      have HR := Lib.hid (show ∀ j, OfRel w A D (.int .i64 v) (.int .i64 ((u % v : Nat) : Int)) (wr.drewN j) from fun j => ⟨v, u % v, rfl, rfl, by omega, by omega, Lib.hid ((gcd_step (by omega)).trans HGC.out), kr.drewN j, below_drewN hB j⟩)
      have hgk : u % v ≤ gk - 1 := by omega
      have hgk2 : gk - 1 < gk := by omega
      obtain ⟨r, hr⟩ : ∃ r, r = u % v := ⟨_, rfl⟩
      rw [← hr] at hm hml hwm HR hgk
      clear hr HGC kr hB h0 hvk hml
      go_wp2
      go_region
      go_wp2_with fail
      go_roundg (gk - 1)
      case measure => exact hgk2
      case rel => exact ⟨HR.out 1, r, rfl, hgk⟩
theorem tmod_wrap (x n : Int) (h0 : 0 < n) (hx : x.tmod n < 0) : x.tmod n + n = x % n := by
  rw [Int.tmod_eq_emod] at hx ⊢
  split at hx
  · exfalso; have := Int.emod_nonneg x (show n ≠ 0 by omega); omega
  · rename_i h2; rw [if_neg h2]; omega
theorem tmod_pos (x n : Int) (h0 : 0 < n) (hx : 0 ≤ x.tmod n) : x.tmod n = x % n := by
  rw [Int.tmod_eq_emod] at hx ⊢
  split at hx
  · rename_i h2; rw [if_pos h2]; omega
  · exfalso
    have := Int.emod_lt_of_pos x h0
    omega
theorem below_any (x n : Int) (w : World) (h0 : 0 < n) (h1 : n ≤ 4294967296) :
    Calls Tryd.prog 23 #[.int .i64 x, .int .i64 n] w fun e w' => e = .returned (.int .i64 (x % n)) ∧ w = w' := by
  have b0 : -n ≤ x.tmod n := by
    by_cases h : x.tmod n < 0
    · have := tmod_wrap x n h0 h; have := Int.emod_nonneg x (show n ≠ 0 by omega); omega
    · omega
  go_enter Tryd.func23, Tryd.ntmps23
  go_wp2
  all_goals go_ret
  · exact ⟨congrArg (fun z => Ending.returned (.int .i64 z)) (tmod_wrap x n h0 ‹_›), rfl⟩
  · exact ⟨congrArg (fun z => Ending.returned (.int .i64 z)) (tmod_pos x n h0 ‹_›), rfl⟩
/-- gantmake.Rat: a denominator, a numerator, the number -/
def denM (x : Int) : Nat := [1, 2, 3, 4, 5, 8].getD (x % 6).toNat 1
def numM (x : Int) : Int := x.tdiv 6 % (16 * (denM x : Int) + 1) - 8 * (denM x : Int)
def ratM (x : Int) : Rat := mkRat (numM x) (denM x)
set_option maxRecDepth 100000 in
set_option maxHeartbeats 4000000 in
theorem ratM_any (w : World) (x : Int) (hx : -9223372036854775808 ≤ x ∧ x ≤ 9223372036854775807) :
    Calls Tryd.prog 16 #[.int .i64 x] w fun e w' => e = .returned (QV (ratM x)) ∧ Below w.heap.size w w' := by
  obtain ⟨k, hk⟩ : ∃ k : Nat, x % 6 = k := ⟨(x % 6).toNat, by omega⟩
  have hk6 : k = 0 ∨ k = 1 ∨ k = 2 ∨ k = 3 ∨ k = 4 ∨ k = 5 := by omega
  have HB := Lib.hid (fun w => below_any x 6 w (by decide) (by decide))
  have hq0 : (x.tdiv 6).natAbs = x.natAbs / 6 := Int.natAbs_tdiv x 6
  have hq : -9223372036854775808 ≤ x.tdiv 6 ∧ x.tdiv 6 ≤ 9223372036854775807 := by omega
  have hwq : IntKind.i64.wrap (x.tdiv 6) = x.tdiv 6 := by rw [IntKind.wrap_i64]; omega
  have hm : numM x = x.tdiv 6 % (16 * (denM x : Int) + 1) - 8 * (denM x : Int) := rfl
  have hdm : denM x = [1, 2, 3, 4, 5, 8].getD k 1 := by unfold denM; rw [hk, Int.toNat_natCast]
  rcases hk6 with rfl | rfl | rfl | rfl | rfl | rfl
  · have hd : denM x = 1 := hdm
    rw [hd] at hm
    replace hk : x % 6 = 0 := by omega
    rw [hk] at HB
    have HB2 := Lib.hid (fun w => below_any (x.tdiv 6) 17 w (by decide) (by decide))
    have hr1 := Int.emod_nonneg (x.tdiv 6) (show (17 : Int) ≠ 0 by decide)
    have hr2 := Int.emod_lt_of_pos (x.tdiv 6) (show (0 : Int) < 17 by decide)
    have hm2 : x.tdiv 6 % 17 - 8 = numM x := by rw [hm]; rfl
    have hwr : IntKind.i64.wrap (numM x) = numM x := by rw [IntKind.wrap_i64]; omega
    have HO := Lib.hid (show ∀ w, Calls Tryd.prog 62 #[.int .i64 (numM x), .int .i64 1] w fun e w' => e = .returned (.agg #[.bool (qn (ratM x)), .string (qs (ratM x)), .string (qt (ratM x))]) ∧ Below w.heap.size w w' from fun w => by
      have := makeOf_any w (numM x) 1 (by decide) (by decide) (by omega)
      rw [← hd] at this
      rw [show ((1 : Int)) = ((denM x : Nat) : Int) by rw [hd]; rfl]
      exact this)
    obtain ⟨NM, hNM⟩ : ∃ z, z = numM x := ⟨_, rfl⟩
    rw [← hNM] at hm2 hwr HO
    obtain ⟨b, hb1⟩ : ∃ z, z = qn (ratM x) := ⟨_, rfl⟩
    obtain ⟨a, ha1⟩ : ∃ z, z = qs (ratM x) := ⟨_, rfl⟩
    obtain ⟨d, hd1⟩ : ∃ z, z = qt (ratM x) := ⟨_, rfl⟩
    have HV := Lib.hid (show Value.agg #[.bool b, .string a, .string d] = QV (ratM x) by rw [hb1, ha1, hd1]; rfl)
    rw [← hb1, ← ha1, ← hd1] at HO
    have hB : Below w.heap.size w ((w.alloc (.cells #[.bool false, .string { data := #[] }, .string { data := #[] }] 25)).alloc (.cells #[.int .i64 1, .int .i64 2, .int .i64 3, .int .i64 4, .int .i64 5, .int .i64 8] 3)) := ((Below.refl w.heap.size w).alloc (Nat.le_refl _) _).alloc (by simp) _
    have kr : R3 ((w.alloc (.cells #[.bool false, .string { data := #[] }, .string { data := #[] }] 25)).alloc (.cells #[.int .i64 1, .int .i64 2, .int .i64 3, .int .i64 4, .int .i64 5, .int .i64 8] 3)) w.heap.size false { data := #[] } { data := #[] } := (R3.new w _ _ _).alloc _
    clear hm hk hdm hd hr1 hr2 hNM hb1 ha1 hd1 hq hq0 hx
    go_enter Tryd.func16, Tryd.ntmps16
    go_wp2_with fail
    refine (HB.out _).mono ?_
    rintro e w1 ⟨rfl, rfl⟩
    go_wp2_with fail
    refine (HB2.out _).mono ?_
    rintro e w1 ⟨rfl, rfl⟩
    go_wp2_with fail
    generalize (w.alloc _).alloc _ = w2 at kr hB ⊢
    refine (HO.out _).mono ?_
    rintro e w3 ⟨rfl, hb⟩
    replace kr := kr.below hb kr.lt
    replace hB := hB.trans (hb.mono hB.size)
    obtain ⟨_, _, _, f0, f1, f2⟩ := kr.facts
    have HZ := Lib.hid (kr.put b a d)
    clear hb kr HB HB2 HO
    go_wp2
    refine bodyPost_ret (results_cell_row Tryd.results16 _ _ w.heap.size 25 _ (0, 0) _ rfl HZ.out Tryd.underlying25 rfl (by kernel_rfl)) rfl ?_
    exact ⟨congrArg Ending.returned HV.out, ((hB.setCell (by simp) _).setCell (by simp) _).setCell (by simp) _⟩
  · have hd : denM x = 2 := hdm
    rw [hd] at hm
    replace hk : x % 6 = 1 := by omega
    rw [hk] at HB
    have HB2 := Lib.hid (fun w => below_any (x.tdiv 6) 33 w (by decide) (by decide))
    have hr1 := Int.emod_nonneg (x.tdiv 6) (show (33 : Int) ≠ 0 by decide)
    have hr2 := Int.emod_lt_of_pos (x.tdiv 6) (show (0 : Int) < 33 by decide)
    have hm2 : x.tdiv 6 % 33 - 16 = numM x := by rw [hm]; rfl
    have hwr : IntKind.i64.wrap (numM x) = numM x := by rw [IntKind.wrap_i64]; omega
    have HO := Lib.hid (show ∀ w, Calls Tryd.prog 62 #[.int .i64 (numM x), .int .i64 2] w fun e w' => e = .returned (.agg #[.bool (qn (ratM x)), .string (qs (ratM x)), .string (qt (ratM x))]) ∧ Below w.heap.size w w' from fun w => by
      have := makeOf_any w (numM x) 2 (by decide) (by decide) (by omega)
      rw [← hd] at this
      rw [show ((2 : Int)) = ((denM x : Nat) : Int) by rw [hd]; rfl]
      exact this)
    obtain ⟨NM, hNM⟩ : ∃ z, z = numM x := ⟨_, rfl⟩
    rw [← hNM] at hm2 hwr HO
    obtain ⟨b, hb1⟩ : ∃ z, z = qn (ratM x) := ⟨_, rfl⟩
    obtain ⟨a, ha1⟩ : ∃ z, z = qs (ratM x) := ⟨_, rfl⟩
    obtain ⟨d, hd1⟩ : ∃ z, z = qt (ratM x) := ⟨_, rfl⟩
    have HV := Lib.hid (show Value.agg #[.bool b, .string a, .string d] = QV (ratM x) by rw [hb1, ha1, hd1]; rfl)
    rw [← hb1, ← ha1, ← hd1] at HO
    have hB : Below w.heap.size w ((w.alloc (.cells #[.bool false, .string { data := #[] }, .string { data := #[] }] 25)).alloc (.cells #[.int .i64 1, .int .i64 2, .int .i64 3, .int .i64 4, .int .i64 5, .int .i64 8] 3)) := ((Below.refl w.heap.size w).alloc (Nat.le_refl _) _).alloc (by simp) _
    have kr : R3 ((w.alloc (.cells #[.bool false, .string { data := #[] }, .string { data := #[] }] 25)).alloc (.cells #[.int .i64 1, .int .i64 2, .int .i64 3, .int .i64 4, .int .i64 5, .int .i64 8] 3)) w.heap.size false { data := #[] } { data := #[] } := (R3.new w _ _ _).alloc _
    clear hm hk hdm hd hr1 hr2 hNM hb1 ha1 hd1 hq hq0 hx
    go_enter Tryd.func16, Tryd.ntmps16
    go_wp2_with fail
    refine (HB.out _).mono ?_
    rintro e w1 ⟨rfl, rfl⟩
    go_wp2_with fail
    refine (HB2.out _).mono ?_
    rintro e w1 ⟨rfl, rfl⟩
    go_wp2_with fail
    generalize (w.alloc _).alloc _ = w2 at kr hB ⊢
    refine (HO.out _).mono ?_
    rintro e w3 ⟨rfl, hb⟩
    replace kr := kr.below hb kr.lt
    replace hB := hB.trans (hb.mono hB.size)
    obtain ⟨_, _, _, f0, f1, f2⟩ := kr.facts
    have HZ := Lib.hid (kr.put b a d)
    clear hb kr HB HB2 HO
    go_wp2
    refine bodyPost_ret (results_cell_row Tryd.results16 _ _ w.heap.size 25 _ (0, 0) _ rfl HZ.out Tryd.underlying25 rfl (by kernel_rfl)) rfl ?_
    exact ⟨congrArg Ending.returned HV.out, ((hB.setCell (by simp) _).setCell (by simp) _).setCell (by simp) _⟩
  · have hd : denM x = 3 := hdm
    rw [hd] at hm
    replace hk : x % 6 = 2 := by omega
    rw [hk] at HB
    have HB2 := Lib.hid (fun w => below_any (x.tdiv 6) 49 w (by decide) (by decide))
    have hr1 := Int.emod_nonneg (x.tdiv 6) (show (49 : Int) ≠ 0 by decide)
    have hr2 := Int.emod_lt_of_pos (x.tdiv 6) (show (0 : Int) < 49 by decide)
    have hm2 : x.tdiv 6 % 49 - 24 = numM x := by rw [hm]; rfl
    have hwr : IntKind.i64.wrap (numM x) = numM x := by rw [IntKind.wrap_i64]; omega
    have HO := Lib.hid (show ∀ w, Calls Tryd.prog 62 #[.int .i64 (numM x), .int .i64 3] w fun e w' => e = .returned (.agg #[.bool (qn (ratM x)), .string (qs (ratM x)), .string (qt (ratM x))]) ∧ Below w.heap.size w w' from fun w => by
      have := makeOf_any w (numM x) 3 (by decide) (by decide) (by omega)
      rw [← hd] at this
      rw [show ((3 : Int)) = ((denM x : Nat) : Int) by rw [hd]; rfl]
      exact this)
    obtain ⟨NM, hNM⟩ : ∃ z, z = numM x := ⟨_, rfl⟩
    rw [← hNM] at hm2 hwr HO
    obtain ⟨b, hb1⟩ : ∃ z, z = qn (ratM x) := ⟨_, rfl⟩
    obtain ⟨a, ha1⟩ : ∃ z, z = qs (ratM x) := ⟨_, rfl⟩
    obtain ⟨d, hd1⟩ : ∃ z, z = qt (ratM x) := ⟨_, rfl⟩
    have HV := Lib.hid (show Value.agg #[.bool b, .string a, .string d] = QV (ratM x) by rw [hb1, ha1, hd1]; rfl)
    rw [← hb1, ← ha1, ← hd1] at HO
    have hB : Below w.heap.size w ((w.alloc (.cells #[.bool false, .string { data := #[] }, .string { data := #[] }] 25)).alloc (.cells #[.int .i64 1, .int .i64 2, .int .i64 3, .int .i64 4, .int .i64 5, .int .i64 8] 3)) := ((Below.refl w.heap.size w).alloc (Nat.le_refl _) _).alloc (by simp) _
    have kr : R3 ((w.alloc (.cells #[.bool false, .string { data := #[] }, .string { data := #[] }] 25)).alloc (.cells #[.int .i64 1, .int .i64 2, .int .i64 3, .int .i64 4, .int .i64 5, .int .i64 8] 3)) w.heap.size false { data := #[] } { data := #[] } := (R3.new w _ _ _).alloc _
    clear hm hk hdm hd hr1 hr2 hNM hb1 ha1 hd1 hq hq0 hx
    go_enter Tryd.func16, Tryd.ntmps16
    go_wp2_with fail
    refine (HB.out _).mono ?_
    rintro e w1 ⟨rfl, rfl⟩
    go_wp2_with fail
    refine (HB2.out _).mono ?_
    rintro e w1 ⟨rfl, rfl⟩
    go_wp2_with fail
    generalize (w.alloc _).alloc _ = w2 at kr hB ⊢
    refine (HO.out _).mono ?_
    rintro e w3 ⟨rfl, hb⟩
    replace kr := kr.below hb kr.lt
    replace hB := hB.trans (hb.mono hB.size)
    obtain ⟨_, _, _, f0, f1, f2⟩ := kr.facts
    have HZ := Lib.hid (kr.put b a d)
    clear hb kr HB HB2 HO
    go_wp2
    refine bodyPost_ret (results_cell_row Tryd.results16 _ _ w.heap.size 25 _ (0, 0) _ rfl HZ.out Tryd.underlying25 rfl (by kernel_rfl)) rfl ?_
    exact ⟨congrArg Ending.returned HV.out, ((hB.setCell (by simp) _).setCell (by simp) _).setCell (by simp) _⟩
  · have hd : denM x = 4 := hdm
    rw [hd] at hm
    replace hk : x % 6 = 3 := by omega
    rw [hk] at HB
    have HB2 := Lib.hid (fun w => below_any (x.tdiv 6) 65 w (by decide) (by decide))
    have hr1 := Int.emod_nonneg (x.tdiv 6) (show (65 : Int) ≠ 0 by decide)
    have hr2 := Int.emod_lt_of_pos (x.tdiv 6) (show (0 : Int) < 65 by decide)
    have hm2 : x.tdiv 6 % 65 - 32 = numM x := by rw [hm]; rfl
    have hwr : IntKind.i64.wrap (numM x) = numM x := by rw [IntKind.wrap_i64]; omega
    have HO := Lib.hid (show ∀ w, Calls Tryd.prog 62 #[.int .i64 (numM x), .int .i64 4] w fun e w' => e = .returned (.agg #[.bool (qn (ratM x)), .string (qs (ratM x)), .string (qt (ratM x))]) ∧ Below w.heap.size w w' from fun w => by
      have := makeOf_any w (numM x) 4 (by decide) (by decide) (by omega)
      rw [← hd] at this
      rw [show ((4 : Int)) = ((denM x : Nat) : Int) by rw [hd]; rfl]
      exact this)
    obtain ⟨NM, hNM⟩ : ∃ z, z = numM x := ⟨_, rfl⟩
    rw [← hNM] at hm2 hwr HO
    obtain ⟨b, hb1⟩ : ∃ z, z = qn (ratM x) := ⟨_, rfl⟩
    obtain ⟨a, ha1⟩ : ∃ z, z = qs (ratM x) := ⟨_, rfl⟩
    obtain ⟨d, hd1⟩ : ∃ z, z = qt (ratM x) := ⟨_, rfl⟩
    have HV := Lib.hid (show Value.agg #[.bool b, .string a, .string d] = QV (ratM x) by rw [hb1, ha1, hd1]; rfl)
    rw [← hb1, ← ha1, ← hd1] at HO
    have hB : Below w.heap.size w ((w.alloc (.cells #[.bool false, .string { data := #[] }, .string { data := #[] }] 25)).alloc (.cells #[.int .i64 1, .int .i64 2, .int .i64 3, .int .i64 4, .int .i64 5, .int .i64 8] 3)) := ((Below.refl w.heap.size w).alloc (Nat.le_refl _) _).alloc (by simp) _
    have kr : R3 ((w.alloc (.cells #[.bool false, .string { data := #[] }, .string { data := #[] }] 25)).alloc (.cells #[.int .i64 1, .int .i64 2, .int .i64 3, .int .i64 4, .int .i64 5, .int .i64 8] 3)) w.heap.size false { data := #[] } { data := #[] } := (R3.new w _ _ _).alloc _
    clear hm hk hdm hd hr1 hr2 hNM hb1 ha1 hd1 hq hq0 hx
    go_enter Tryd.func16, Tryd.ntmps16
    go_wp2_with fail
    refine (HB.out _).mono ?_
    rintro e w1 ⟨rfl, rfl⟩
    go_wp2_with fail
    refine (HB2.out _).mono ?_
    rintro e w1 ⟨rfl, rfl⟩
    go_wp2_with fail
    generalize (w.alloc _).alloc _ = w2 at kr hB ⊢
    refine (HO.out _).mono ?_
    rintro e w3 ⟨rfl, hb⟩
    replace kr := kr.below hb kr.lt
    replace hB := hB.trans (hb.mono hB.size)
    obtain ⟨_, _, _, f0, f1, f2⟩ := kr.facts
    have HZ := Lib.hid (kr.put b a d)
    clear hb kr HB HB2 HO
    go_wp2
    refine bodyPost_ret (results_cell_row Tryd.results16 _ _ w.heap.size 25 _ (0, 0) _ rfl HZ.out Tryd.underlying25 rfl (by kernel_rfl)) rfl ?_
    exact ⟨congrArg Ending.returned HV.out, ((hB.setCell (by simp) _).setCell (by simp) _).setCell (by simp) _⟩
  · have hd : denM x = 5 := hdm
    rw [hd] at hm
    replace hk : x % 6 = 4 := by omega
    rw [hk] at HB
    have HB2 := Lib.hid (fun w => below_any (x.tdiv 6) 81 w (by decide) (by decide))
    have hr1 := Int.emod_nonneg (x.tdiv 6) (show (81 : Int) ≠ 0 by decide)
    have hr2 := Int.emod_lt_of_pos (x.tdiv 6) (show (0 : Int) < 81 by decide)
    have hm2 : x.tdiv 6 % 81 - 40 = numM x := by rw [hm]; rfl
    have hwr : IntKind.i64.wrap (numM x) = numM x := by rw [IntKind.wrap_i64]; omega
    have HO := Lib.hid (show ∀ w, Calls Tryd.prog 62 #[.int .i64 (numM x), .int .i64 5] w fun e w' => e = .returned (.agg #[.bool (qn (ratM x)), .string (qs (ratM x)), .string (qt (ratM x))]) ∧ Below w.heap.size w w' from fun w => by
      have := makeOf_any w (numM x) 5 (by decide) (by decide) (by omega)
      rw [← hd] at this
      rw [show ((5 : Int)) = ((denM x : Nat) : Int) by rw [hd]; rfl]
      exact this)
    obtain ⟨NM, hNM⟩ : ∃ z, z = numM x := ⟨_, rfl⟩
    rw [← hNM] at hm2 hwr HO
    obtain ⟨b, hb1⟩ : ∃ z, z = qn (ratM x) := ⟨_, rfl⟩
    obtain ⟨a, ha1⟩ : ∃ z, z = qs (ratM x) := ⟨_, rfl⟩
    obtain ⟨d, hd1⟩ : ∃ z, z = qt (ratM x) := ⟨_, rfl⟩
    have HV := Lib.hid (show Value.agg #[.bool b, .string a, .string d] = QV (ratM x) by rw [hb1, ha1, hd1]; rfl)
    rw [← hb1, ← ha1, ← hd1] at HO
    have hB : Below w.heap.size w ((w.alloc (.cells #[.bool false, .string { data := #[] }, .string { data := #[] }] 25)).alloc (.cells #[.int .i64 1, .int .i64 2, .int .i64 3, .int .i64 4, .int .i64 5, .int .i64 8] 3)) := ((Below.refl w.heap.size w).alloc (Nat.le_refl _) _).alloc (by simp) _
    have kr : R3 ((w.alloc (.cells #[.bool false, .string { data := #[] }, .string { data := #[] }] 25)).alloc (.cells #[.int .i64 1, .int .i64 2, .int .i64 3, .int .i64 4, .int .i64 5, .int .i64 8] 3)) w.heap.size false { data := #[] } { data := #[] } := (R3.new w _ _ _).alloc _
    clear hm hk hdm hd hr1 hr2 hNM hb1 ha1 hd1 hq hq0 hx
    go_enter Tryd.func16, Tryd.ntmps16
    go_wp2_with fail
    refine (HB.out _).mono ?_
    rintro e w1 ⟨rfl, rfl⟩
    go_wp2_with fail
    refine (HB2.out _).mono ?_
    rintro e w1 ⟨rfl, rfl⟩
    go_wp2_with fail
    generalize (w.alloc _).alloc _ = w2 at kr hB ⊢
    refine (HO.out _).mono ?_
    rintro e w3 ⟨rfl, hb⟩
    replace kr := kr.below hb kr.lt
    replace hB := hB.trans (hb.mono hB.size)
    obtain ⟨_, _, _, f0, f1, f2⟩ := kr.facts
    have HZ := Lib.hid (kr.put b a d)
    clear hb kr HB HB2 HO
    go_wp2
    refine bodyPost_ret (results_cell_row Tryd.results16 _ _ w.heap.size 25 _ (0, 0) _ rfl HZ.out Tryd.underlying25 rfl (by kernel_rfl)) rfl ?_
    exact ⟨congrArg Ending.returned HV.out, ((hB.setCell (by simp) _).setCell (by simp) _).setCell (by simp) _⟩
  · have hd : denM x = 8 := hdm
    rw [hd] at hm
    replace hk : x % 6 = 5 := by omega
    rw [hk] at HB
    have HB2 := Lib.hid (fun w => below_any (x.tdiv 6) 129 w (by decide) (by decide))
    have hr1 := Int.emod_nonneg (x.tdiv 6) (show (129 : Int) ≠ 0 by decide)
    have hr2 := Int.emod_lt_of_pos (x.tdiv 6) (show (0 : Int) < 129 by decide)
    have hm2 : x.tdiv 6 % 129 - 64 = numM x := by rw [hm]; rfl
    have hwr : IntKind.i64.wrap (numM x) = numM x := by rw [IntKind.wrap_i64]; omega
    have HO := Lib.hid (show ∀ w, Calls Tryd.prog 62 #[.int .i64 (numM x), .int .i64 8] w fun e w' => e = .returned (.agg #[.bool (qn (ratM x)), .string (qs (ratM x)), .string (qt (ratM x))]) ∧ Below w.heap.size w w' from fun w => by
      have := makeOf_any w (numM x) 8 (by decide) (by decide) (by omega)
      rw [← hd] at this
      rw [show ((8 : Int)) = ((denM x : Nat) : Int) by rw [hd]; rfl]
      exact this)
    obtain ⟨NM, hNM⟩ : ∃ z, z = numM x := ⟨_, rfl⟩
    rw [← hNM] at hm2 hwr HO
    obtain ⟨b, hb1⟩ : ∃ z, z = qn (ratM x) := ⟨_, rfl⟩
    obtain ⟨a, ha1⟩ : ∃ z, z = qs (ratM x) := ⟨_, rfl⟩
    obtain ⟨d, hd1⟩ : ∃ z, z = qt (ratM x) := ⟨_, rfl⟩
    have HV := Lib.hid (show Value.agg #[.bool b, .string a, .string d] = QV (ratM x) by rw [hb1, ha1, hd1]; rfl)
    rw [← hb1, ← ha1, ← hd1] at HO
    have hB : Below w.heap.size w ((w.alloc (.cells #[.bool false, .string { data := #[] }, .string { data := #[] }] 25)).alloc (.cells #[.int .i64 1, .int .i64 2, .int .i64 3, .int .i64 4, .int .i64 5, .int .i64 8] 3)) := ((Below.refl w.heap.size w).alloc (Nat.le_refl _) _).alloc (by simp) _
    have kr : R3 ((w.alloc (.cells #[.bool false, .string { data := #[] }, .string { data := #[] }] 25)).alloc (.cells #[.int .i64 1, .int .i64 2, .int .i64 3, .int .i64 4, .int .i64 5, .int .i64 8] 3)) w.heap.size false { data := #[] } { data := #[] } := (R3.new w _ _ _).alloc _
    clear hm hk hdm hd hr1 hr2 hNM hb1 ha1 hd1 hq hq0 hx
    go_enter Tryd.func16, Tryd.ntmps16
    go_wp2_with fail
    refine (HB.out _).mono ?_
    rintro e w1 ⟨rfl, rfl⟩
    go_wp2_with fail
    refine (HB2.out _).mono ?_
    rintro e w1 ⟨rfl, rfl⟩
    go_wp2_with fail
    generalize (w.alloc _).alloc _ = w2 at kr hB ⊢
    refine (HO.out _).mono ?_
    rintro e w3 ⟨rfl, hb⟩
    replace kr := kr.below hb kr.lt
    replace hB := hB.trans (hb.mono hB.size)
    obtain ⟨_, _, _, f0, f1, f2⟩ := kr.facts
    have HZ := Lib.hid (kr.put b a d)
    clear hb kr HB HB2 HO
    go_wp2
    refine bodyPost_ret (results_cell_row Tryd.results16 _ _ w.heap.size 25 _ (0, 0) _ rfl HZ.out Tryd.underlying25 rfl (by kernel_rfl)) rfl ?_
    exact ⟨congrArg Ending.returned HV.out, ((hB.setCell (by simp) _).setCell (by simp) _).setCell (by simp) _⟩
end Go.Proofs.YtnnbnecpcppkdaaDoor
namespace Go.Proofs.YtnnbnecpcppkdaaDoor
open Go.RowKit Go.Gy
set_option linter.unusedVariables false
theorem divV_ne {a b : Rat} (h : b ≠ 0) : divV a b = QV (a / b) := if_neg h
theorem divE_ne {b : Rat} (h : b ≠ 0) : divE b = 0 := if_neg h
def halfQ : Rat := 1 / 2
set_option maxRecDepth 100000 in
set_option maxHeartbeats 4000000 in
theorem half_any (w : World) (hT : TabW w) : Calls Tryd.prog 63 #[] w fun e w' => e = .returned (QV halfQ) ∧ Below w.heap.size w w' := by
  have HM := Lib.hid (fun W hW => makeq_any W 1 2 (by decide) (by decide) (TabW.below (w' := W) hT hW))
  have h2 : ((2 : Int) : Rat) ≠ 0 := by decide
  have h1 : ((1 : Int) : Rat) / ((2 : Int) : Rat) = halfQ := rfl
  rw [divV_ne h2, divE_ne h2, h1] at HM
  unfold QV at HM
  have HV := Lib.hid (show Value.agg #[.bool (qn halfQ), .string (qs halfQ), .string (qt halfQ)] = QV halfQ from rfl)
  obtain ⟨b, hb1⟩ : ∃ z, z = qn halfQ := ⟨_, rfl⟩
  obtain ⟨a, ha1⟩ : ∃ z, z = qs halfQ := ⟨_, rfl⟩
  obtain ⟨d, hd1⟩ : ∃ z, z = qt halfQ := ⟨_, rfl⟩
  rw [← hb1, ← ha1, ← hd1] at HM HV
  have hB : Below w.heap.size w (w.alloc (.cells #[.bool false, .string { data := #[] }, .string { data := #[] }] 25)) := (Below.refl w.heap.size w).alloc (Nat.le_refl _) _
  have kr : R3 (w.alloc (.cells #[.bool false, .string { data := #[] }, .string { data := #[] }] 25)) w.heap.size false { data := #[] } { data := #[] } := R3.new w _ _ _
  clear h1 h2 hb1 ha1 hd1 hT
  go_enter Tryd.func63, Tryd.ntmps63
  go_wp2_with fail
  generalize w.alloc _ = w1 at kr hB ⊢
  refine (HM.out _ hB).mono ?_
  rintro e w2 ⟨rfl, hb⟩
  replace kr := kr.below hb kr.lt
  replace hB := hB.trans (hb.mono hB.size)
  have hz := kr.lt
  have hzn : ¬ w.heap.size = w2.heap.size := by omega
  obtain ⟨c0, c1, c2, f0, f1, f2⟩ := kr.facts
  have HZ := Lib.hid ((kr.put b a d).alloc (.cells #[.bool b, .string a, .string d] 25))
  have hsz := hB.size
  clear hb HM
  go_wp2
  refine bodyPost_ret (results_cell_row Tryd.results63 _ _ w.heap.size 25 _ (0, 0) _ rfl HZ.out Tryd.underlying25 rfl (by kernel_rfl)) rfl ?_
  exact ⟨congrArg Ending.returned HV.out, (((hB.setCell (by simp) _).setCell (by simp) _).setCell (by simp) _).alloc (by simp; omega) _⟩
theorem signQ_pos (q : Rat) : ¬ signQ q ≤ 0 ↔ 0 < q := by
  unfold signQ
  by_cases h0 : q = 0
  · rw [if_pos h0]; subst h0; exact ⟨fun h => absurd (by decide) h, fun h => by grind⟩
  · rw [if_neg h0]
    by_cases h1 : q < 0
    · rw [if_pos h1]; exact ⟨fun h => absurd (by decide) h, fun h => by grind⟩
    · rw [if_neg h1]; exact ⟨fun _ => by grind, fun _ => by decide⟩
/-- feel.Check's errno -/
def ruleE (l j : Rat) : Int := if 0 < l ∧ 0 < j then 0 else 1
set_option maxRecDepth 100000 in
set_option maxHeartbeats 4000000 in
theorem check_any (w : World) (n1 : Bool) (s1 t1 : ByteArray) (n2 : Bool) (s2 t2 : ByteArray) (q1 q2 : Rat) (hq1 : fitQ n1 s1 t1 = q1) (hq2 : fitQ n2 s2 t2 = q2) (hs1 : s1.size ≤ 1099511627776) (ht1 : t1.size ≤ 1099511627776) (hs2 : s2.size ≤ 1099511627776) (ht2 : t2.size ≤ 1099511627776) (hT : TabW w) :
    Calls Tryd.prog 103 #[.agg #[.bool n1, .string s1, .string t1, .bool n2, .string s2, .string t2]] w fun e w' => e = .returned (.int .i64 (ruleE q1 q2)) ∧ Below w.heap.size w w' := by
  have HTW := Lib.hid (fun W hW => TabW.below (w' := W) hT hW)
  have S1 := Lib.hid (fun W hW => signq_any W n1 s1 t1 q1 hq1 (by omega) (by omega) (HTW.out W hW))
  have S2 := Lib.hid (fun W hW => signq_any W n2 s2 t2 q2 hq2 (by omega) (by omega) (HTW.out W hW))
  have p1 := signQ_pos q1
  have p2 := signQ_pos q2
  obtain ⟨g1, hg1⟩ : ∃ g, g = signQ q1 := ⟨_, rfl⟩
  obtain ⟨g2, hg2⟩ : ∃ g, g = signQ q2 := ⟨_, rfl⟩
  rw [← hg1] at S1 p1
  rw [← hg2] at S2 p2
  have hB : Below w.heap.size w (w.alloc (.cells #[.bool n1, .string s1, .string t1, .bool n2, .string s2, .string t2] 108)) := (Below.refl w.heap.size w).alloc (Nat.le_refl _) _
  have kb : Blk (w.alloc (.cells #[.bool n1, .string s1, .string t1, .bool n2, .string s2, .string t2] 108)) w.heap.size 108 #[.bool n1, .string s1, .string t1, .bool n2, .string s2, .string t2] := Blk.new w _ _
  by_cases h1 : g1 ≤ 0
  · have HP := Lib.hid (show (1 : Int) = ruleE q1 q2 from (if_neg (fun h => p1.mpr h.1 h1)).symm)
    clear hg1 hg2 p1 p2 hq1 hq2 hs1 ht1 hs2 ht2 hT
    go_enter Tryd.func103, Tryd.ntmps103
    go_wp2_with fail
    generalize w.alloc _ = w1 at kb hB ⊢
    refine (S1.out _ hB).mono ?_
    rintro e w2 ⟨rfl, hb⟩
    replace hB := hB.trans (hb.mono hB.size)
    go_wp2
    go_ret
    exact ⟨congrArg (fun x => Ending.returned (.int .i64 x)) HP.out, hB⟩
  · by_cases h2 : g2 ≤ 0
    · have HP := Lib.hid (show (1 : Int) = ruleE q1 q2 from (if_neg (fun h => p2.mpr h.2 h2)).symm)
      clear hg1 hg2 p1 p2 hq1 hq2 hs1 ht1 hs2 ht2 hT
      go_enter Tryd.func103, Tryd.ntmps103
      go_wp2_with fail
      generalize w.alloc _ = w1 at kb hB ⊢
      refine (S1.out _ hB).mono ?_
      rintro e w2 ⟨rfl, hb⟩
      replace kb := kb.below hb kb.lt
      replace hB := hB.trans (hb.mono hB.size)
      have c3 := kb.cell 3 _ rfl
      have c4 := kb.cell 4 _ rfl
      have c5 := kb.cell 5 _ rfl
      clear hb
      go_wp2_with fail
      refine (S2.out _ hB).mono ?_
      rintro e w3 ⟨rfl, hb⟩
      replace hB := hB.trans (hb.mono hB.size)
      go_wp2
      go_ret
      exact ⟨congrArg (fun x => Ending.returned (.int .i64 x)) HP.out, hB⟩
    · have HP := Lib.hid (show (0 : Int) = ruleE q1 q2 from (if_pos ⟨p1.mp h1, p2.mp h2⟩).symm)
      clear hg1 hg2 p1 p2 hq1 hq2 hs1 ht1 hs2 ht2 hT
      go_enter Tryd.func103, Tryd.ntmps103
      go_wp2_with fail
      generalize w.alloc _ = w1 at kb hB ⊢
      refine (S1.out _ hB).mono ?_
      rintro e w2 ⟨rfl, hb⟩
      replace kb := kb.below hb kb.lt
      replace hB := hB.trans (hb.mono hB.size)
      have c3 := kb.cell 3 _ rfl
      have c4 := kb.cell 4 _ rfl
      have c5 := kb.cell 5 _ rfl
      clear hb
      go_wp2_with fail
      refine (S2.out _ hB).mono ?_
      rintro e w3 ⟨rfl, hb⟩
      replace hB := hB.trans (hb.mono hB.size)
      go_wp2
      go_ret
      exact ⟨congrArg (fun x => Ending.returned (.int .i64 x)) HP.out, hB⟩
end Go.Proofs.YtnnbnecpcppkdaaDoor
namespace Go.Proofs.YtnnbnecpcppkdaaDoor
open Go.RowKit Go.Gy
set_option linter.unusedVariables false
/-- the three parts of an api.Rat -/
structure Q3 where
  neg : Bool
  num : ByteArray
  den : ByteArray
def Q3.q (x : Q3) : Rat := fitQ x.neg x.num x.den
def Q3.ok (x : Q3) : Prop := x.num.size ≤ 274877906944 ∧ x.den.size ≤ 274877906944
def encQ (x : Q3) : List Value := [.bool x.neg, .string x.num, .string x.den]
theorem encQ_len (x : Q3) : (encQ x).length = 3 := rfl
def toQ3 (q : Rat) : Q3 := ⟨qn q, qs q, qt q⟩
theorem toQ3_q (q : Rat) : (toQ3 q).q = q := fit_parts q
theorem toQ3_ok {q : Rat} (h : qz q ≤ 274877906944) : (toQ3 q).ok := ⟨Nat.le_trans (qs_size q) h, Nat.le_trans (qt_size q) h⟩
theorem flatQ_length (l : List Q3) : (l.flatMap encQ).length = l.length * 3 := by
  induction l with
  | nil => rfl
  | cons x l ih => rw [List.flatMap_cons, List.length_append, ih, encQ_len, List.length_cons]; omega
/-- a slice of rational numbers, read below block B -/
def SlQ (w : World) (B : Nat) (v : Value) (r : List Q3) : Prop := ∃ A n c, v = .slice A n c ∧ r.length = n ∧ n ≤ c ∧ (A = none → c = 0) ∧ Rd w B 3 A n (r.flatMap encQ)
theorem SlQ.below {w w' : World} {B : Nat} {v : Value} {r : List Q3} (h : SlQ w B v r) (hb : Below B w w') : SlQ w' B v r := by
  obtain ⟨A, n, c, h1, h2, h3, h4, h5⟩ := h
  exact ⟨A, n, c, h1, h2, h3, h4, h5.below hb⟩
theorem SlQ.more {w : World} {B B' : Nat} {v : Value} {r : List Q3} (h : SlQ w B v r) (hB : B ≤ B') : SlQ w B' v r := by
  obtain ⟨A, n, c, h1, h2, h3, h4, h5⟩ := h
  exact ⟨A, n, c, h1, h2, h3, h4, h5.more hB⟩
theorem SlQ.own {w : World} {base n : Nat} {v : Value} {r : List Q3} (h : w.ownsRow base 25 3 v n (r.flatMap encQ)) : SlQ w w.heap.size v r := by
  have hl : r.length = n := by
    have := h.1
    rw [flatQ_length] at this
    omega
  obtain ⟨A, c, rfl, h1, _, h2⟩ := own_rd h
  exact ⟨A, n, c, rfl, hl, h1, fun hA => (own_none h hA).2, h2⟩
/-- element k: its three cells -/
theorem Rd.quot {w : World} {B n k : Nat} {A : Option Addr} {r : List Q3} (h : Rd w B 3 A n (r.flatMap encQ)) {x : Q3} (hx : r[k]? = some x) : ∃ b o, A = some ⟨b, o, none⟩ ∧ b < B ∧ w.cell? ⟨b, o + k * 3, none⟩ = some (.bool x.neg) ∧ w.cell? ⟨b, o + k * 3 + 1, none⟩ = some (.string x.num) ∧ w.cell? ⟨b, o + k * 3 + 2, none⟩ = some (.string x.den) := by
  have hk : k < r.length := (List.getElem?_eq_some_iff.1 hx).1
  have hn : 0 < n := by have := h.1; rw [flatQ_length] at this; omega
  obtain ⟨b, o, hA, hb, hc⟩ := h.2 hn
  have key : ∀ (r : List Q3) (k : Nat) (x : Q3), r[k]? = some x → ∀ j : Nat, j < 3 → (r.flatMap encQ)[k * 3 + j]? = (encQ x)[j]? := by
    intro r
    induction r with
    | nil => intro k x h; simp at h
    | cons y r ih =>
      intro k x h j hj
      rw [List.flatMap_cons]
      cases k with
      | zero =>
        simp only [List.getElem?_cons_zero, Option.some.injEq] at h
        subst h
        rw [Nat.zero_mul, Nat.zero_add, List.getElem?_append_left (by rw [encQ_len]; exact hj)]
      | succ k =>
        rw [List.getElem?_cons_succ] at h
        rw [List.getElem?_append_right (by rw [encQ_len]; omega), encQ_len, show (k + 1) * 3 + j - 3 = k * 3 + j by omega]
        exact ih k x h j hj
  exact ⟨b, o, hA, hb, hc _ _ (key r k x hx 0 (by decide)), by rw [Nat.add_assoc]; exact hc _ _ (key r k x hx 1 (by decide)), by rw [Nat.add_assoc]; exact hc _ _ (key r k x hx 2 (by decide))⟩
end Go.Proofs.YtnnbnecpcppkdaaDoor
namespace Go.Proofs.YtnnbnecpcppkdaaDoor
open Go.RowKit Go.Gy
set_option linter.unusedVariables false
/-- at most N bytes in each part -/
def Q3.le (x : Q3) (N : Nat) : Prop := x.num.size ≤ N ∧ x.den.size ≤ N
/-- in lowest terms -/
def Q3.can (x : Q3) : Prop := x = toQ3 x.q
theorem Q3.le.more {x : Q3} {N M : Nat} (h : x.le N) (hM : N ≤ M) : x.le M := ⟨Nat.le_trans h.1 hM, Nat.le_trans h.2 hM⟩
theorem Q3.le.qz {x : Q3} {N : Nat} (h : x.le N) (h1 : 1 ≤ N) : qz x.q ≤ N := by
  have h2 := qz_fit x.neg x.num x.den
  obtain ⟨h3, h4⟩ := h
  unfold Q3.q
  omega
theorem toQ3_can (q : Rat) : (toQ3 q).can := by unfold Q3.can; rw [toQ3_q]
theorem toQ3_le {q : Rat} {N : Nat} (h : qz q ≤ N) : (toQ3 q).le N := ⟨Nat.le_trans (qs_size q) h, Nat.le_trans (qt_size q) h⟩
theorem Q3.can.eq {x y : Q3} (hx : x.can) (hy : y.can) (h : x.q = y.q) : x = y := by rw [hx, hy, h]
theorem Q3.can.iff {x y : Q3} (hx : x.can) (hy : y.can) : x = y ↔ x.q = y.q := ⟨fun h => by rw [h], hx.eq hy⟩
theorem Q3.can.qv {x : Q3} (hx : x.can) : QV x.q = .agg #[.bool x.neg, .string x.num, .string x.den] := by
  have h : x = toQ3 x.q := hx
  have h1 : x.neg = qn x.q := congrArg Q3.neg h
  have h2 : x.num = qs x.q := congrArg Q3.num h
  have h3 : x.den = qt x.q := congrArg Q3.den h
  unfold QV
  rw [← h1, ← h2, ← h3]
/-- a number as a triple -/
theorem tri (q : Rat) (N : Nat) (h : qz q ≤ N) : ∃ z : Q3, z.q = q ∧ z.can ∧ z.le N := ⟨toQ3 q, toQ3_q q, toQ3_can q, toQ3_le h⟩
theorem tabs (w : World) (hT : TabW w) {W : World} (hW : Below w.heap.size w W) : TabW W := TabW.below hT hW
theorem addR (w : World) (hT : TabW w) (x y : Q3) {N M : Nat} (hx : x.le N) (hy : y.le M) (hN : 1 ≤ N ∧ N ≤ 1099511627776 ∧ 1 ≤ M ∧ M ≤ 1099511627776 := by omega) :
    ∃ z : Q3, z.q = x.q + y.q ∧ z.can ∧ z.le (N + M + 1) ∧ Hid (∀ W, Below w.heap.size w W → Calls Tryd.prog 43 #[.agg #[.bool x.neg, .string x.num, .string x.den], .agg #[.bool y.neg, .string y.num, .string y.den]] W fun e w' => e = .returned (.agg #[.bool z.neg, .string z.num, .string z.den]) ∧ Below W.heap.size W w') := by
  have hqx := hx.qz hN.1
  have hqy := hy.qz hN.2.2.1
  obtain ⟨z, h1, h2, h3⟩ := tri (x.q + y.q) (N + M + 1) (Nat.le_trans (qz_add _ _) (by omega))
  refine ⟨z, h1, h2, h3, Lib.hid (fun W hW => ?_)⟩
  have h := addq_any W x.neg x.num x.den y.neg y.num y.den x.q y.q rfl rfl (by have := hx.1; omega) (by have := hx.2; omega) (by have := hy.1; omega) (by have := hy.2; omega) (tabs w hT hW)
  rw [← h1, h2.qv] at h
  exact h
theorem subR (w : World) (hT : TabW w) (x y : Q3) {N M : Nat} (hx : x.le N) (hy : y.le M) (hN : 1 ≤ N ∧ N ≤ 1099511627776 ∧ 1 ≤ M ∧ M ≤ 1099511627776 := by omega) :
    ∃ z : Q3, z.q = x.q - y.q ∧ z.can ∧ z.le (N + M + 1) ∧ Hid (∀ W, Below w.heap.size w W → Calls Tryd.prog 49 #[.agg #[.bool x.neg, .string x.num, .string x.den], .agg #[.bool y.neg, .string y.num, .string y.den]] W fun e w' => e = .returned (.agg #[.bool z.neg, .string z.num, .string z.den]) ∧ Below W.heap.size W w') := by
  have hqx := hx.qz hN.1
  have hqy := hy.qz hN.2.2.1
  obtain ⟨z, h1, h2, h3⟩ := tri (x.q - y.q) (N + M + 1) (by rw [Rat.sub_eq_add_neg]; exact Nat.le_trans (qz_add _ _) (by rw [qz_neg]; omega))
  refine ⟨z, h1, h2, h3, Lib.hid (fun W hW => ?_)⟩
  have h := subq_any W x.neg x.num x.den y.neg y.num y.den x.q y.q rfl rfl (by have := hx.1; omega) (by have := hx.2; omega) (by have := hy.1; omega) (by have := hy.2; omega) (tabs w hT hW)
  rw [← h1, h2.qv] at h
  exact h
theorem mulR (w : World) (hT : TabW w) (x y : Q3) {N M : Nat} (hx : x.le N) (hy : y.le M) (hN : 1 ≤ N ∧ N ≤ 1099511627776 ∧ 1 ≤ M ∧ M ≤ 1099511627776 := by omega) :
    ∃ z : Q3, z.q = x.q * y.q ∧ z.can ∧ z.le (N + M) ∧ Hid (∀ W, Below w.heap.size w W → Calls Tryd.prog 41 #[.agg #[.bool x.neg, .string x.num, .string x.den], .agg #[.bool y.neg, .string y.num, .string y.den]] W fun e w' => e = .returned (.agg #[.bool z.neg, .string z.num, .string z.den]) ∧ Below W.heap.size W w') := by
  have hqx := hx.qz hN.1
  have hqy := hy.qz hN.2.2.1
  obtain ⟨z, h1, h2, h3⟩ := tri (x.q * y.q) (N + M) (Nat.le_trans (qz_mul _ _) (by omega))
  refine ⟨z, h1, h2, h3, Lib.hid (fun W hW => ?_)⟩
  have h := mulq_any W x.neg x.num x.den y.neg y.num y.den x.q y.q rfl rfl (by have := hx.1; omega) (by have := hx.2; omega) (by have := hy.1; omega) (by have := hy.2; omega) (tabs w hT hW)
  rw [← h1, h2.qv] at h
  exact h
theorem divR (w : World) (hT : TabW w) (x y : Q3) {N M : Nat} (hx : x.le N) (hy : y.le M) (h0 : y.q ≠ 0) (hN : 1 ≤ N ∧ N ≤ 1099511627776 ∧ 1 ≤ M ∧ M ≤ 1099511627776 := by omega) :
    ∃ z : Q3, z.q = x.q / y.q ∧ z.can ∧ z.le (N + M) ∧ Hid (∀ W, Below w.heap.size w W → Calls Tryd.prog 65 #[.agg #[.bool x.neg, .string x.num, .string x.den], .agg #[.bool y.neg, .string y.num, .string y.den]] W fun e w' => e = .returned (.tuple #[.agg #[.bool z.neg, .string z.num, .string z.den], .int .i64 0]) ∧ Below W.heap.size W w') := by
  have hqx := hx.qz hN.1
  have hqy := hy.qz hN.2.2.1
  obtain ⟨z, h1, h2, h3⟩ := tri (x.q / y.q) (N + M) (Nat.le_trans (qz_div _ _) (by omega))
  refine ⟨z, h1, h2, h3, Lib.hid (fun W hW => ?_)⟩
  have h := divq_any W x.neg x.num x.den y.neg y.num y.den x.q y.q rfl rfl (by have := hx.1; omega) (by have := hx.2; omega) (by have := hy.1; omega) (by have := hy.2; omega) (tabs w hT hW)
  rw [show divV x.q y.q = QV (x.q / y.q) from if_neg h0, show divE y.q = 0 from if_neg h0, ← h1, h2.qv] at h
  exact h
theorem negR (w : World) (hT : TabW w) (x : Q3) {N : Nat} (hx : x.le N) (hN : 1 ≤ N ∧ N ≤ 8796093022208 := by omega) :
    ∃ z : Q3, z.q = -x.q ∧ z.can ∧ z.le N ∧ Hid (∀ W, Below w.heap.size w W → Calls Tryd.prog 18 #[.agg #[.bool x.neg, .string x.num, .string x.den]] W fun e w' => e = .returned (.agg #[.bool z.neg, .string z.num, .string z.den]) ∧ Below W.heap.size W w') := by
  have hqx := hx.qz hN.1
  obtain ⟨z, h1, h2, h3⟩ := tri (-x.q) N (by rw [qz_neg]; omega)
  refine ⟨z, h1, h2, h3, Lib.hid (fun W hW => ?_)⟩
  have h := negq_any W x.neg x.num x.den x.q rfl (by have := hx.1; omega) (by have := hx.2; omega) (tabs w hT hW)
  rw [← h1, h2.qv] at h
  exact h
theorem absR (w : World) (hT : TabW w) (x : Q3) {N : Nat} (hx : x.le N) (hN : 1 ≤ N ∧ N ≤ 8796093022208 := by omega) :
    ∃ z : Q3, z.q = absQ x.q ∧ z.can ∧ z.le N ∧ Hid (∀ W, Below w.heap.size w W → Calls Tryd.prog 46 #[.agg #[.bool x.neg, .string x.num, .string x.den]] W fun e w' => e = .returned (.agg #[.bool z.neg, .string z.num, .string z.den]) ∧ Below W.heap.size W w') := by
  have hqx := hx.qz hN.1
  obtain ⟨z, h1, h2, h3⟩ := tri (absQ x.q) N (by unfold absQ; split; (rw [qz_neg]; omega); omega)
  refine ⟨z, h1, h2, h3, Lib.hid (fun W hW => ?_)⟩
  have h := absq_any W x.neg x.num x.den x.q rfl (by have := hx.1; omega) (by have := hx.2; omega) (tabs w hT hW)
  rw [← h1, h2.qv] at h
  exact h
theorem minR (w : World) (hT : TabW w) (x y : Q3) {N M : Nat} (hx : x.le N) (hy : y.le M) (hN : 1 ≤ N ∧ N ≤ 1099511627776 ∧ 1 ≤ M ∧ M ≤ 1099511627776 := by omega) :
    ∃ z : Q3, z.q = minQ x.q y.q ∧ z.can ∧ z.le (max N M) ∧ Hid (∀ W, Below w.heap.size w W → Calls Tryd.prog 25 #[.agg #[.bool x.neg, .string x.num, .string x.den], .agg #[.bool y.neg, .string y.num, .string y.den]] W fun e w' => e = .returned (.agg #[.bool z.neg, .string z.num, .string z.den]) ∧ Below W.heap.size W w') := by
  have hqx := hx.qz hN.1
  have hqy := hy.qz hN.2.2.1
  obtain ⟨z, h1, h2, h3⟩ := tri (minQ x.q y.q) (max N M) (by unfold minQ; split <;> omega)
  refine ⟨z, h1, h2, h3, Lib.hid (fun W hW => ?_)⟩
  have h := minq_any W x.neg x.num x.den y.neg y.num y.den x.q y.q rfl rfl (by have := hx.1; omega) (by have := hx.2; omega) (by have := hy.1; omega) (by have := hy.2; omega) (tabs w hT hW)
  rw [← h1, h2.qv] at h
  exact h
theorem maxR (w : World) (hT : TabW w) (x y : Q3) {N M : Nat} (hx : x.le N) (hy : y.le M) (hN : 1 ≤ N ∧ N ≤ 1099511627776 ∧ 1 ≤ M ∧ M ≤ 1099511627776 := by omega) :
    ∃ z : Q3, z.q = maxQ x.q y.q ∧ z.can ∧ z.le (max N M) ∧ Hid (∀ W, Below w.heap.size w W → Calls Tryd.prog 26 #[.agg #[.bool x.neg, .string x.num, .string x.den], .agg #[.bool y.neg, .string y.num, .string y.den]] W fun e w' => e = .returned (.agg #[.bool z.neg, .string z.num, .string z.den]) ∧ Below W.heap.size W w') := by
  have hqx := hx.qz hN.1
  have hqy := hy.qz hN.2.2.1
  obtain ⟨z, h1, h2, h3⟩ := tri (maxQ x.q y.q) (max N M) (by unfold maxQ; split <;> omega)
  refine ⟨z, h1, h2, h3, Lib.hid (fun W hW => ?_)⟩
  have h := maxq_any W x.neg x.num x.den y.neg y.num y.den x.q y.q rfl rfl (by have := hx.1; omega) (by have := hx.2; omega) (by have := hy.1; omega) (by have := hy.2; omega) (tabs w hT hW)
  rw [← h1, h2.qv] at h
  exact h
theorem cmpR (w : World) (hT : TabW w) (x y : Q3) {N M : Nat} (hx : x.le N) (hy : y.le M) (hN : N ≤ 1099511627776 ∧ M ≤ 1099511627776 := by omega) :
    ∃ c : Int, (-1 ≤ c ∧ c ≤ 1) ∧ (0 < c ↔ y.q < x.q) ∧ (c < 0 ↔ x.q < y.q) ∧ Hid (∀ W, Below w.heap.size w W → Calls Tryd.prog 27 #[.agg #[.bool x.neg, .string x.num, .string x.den], .agg #[.bool y.neg, .string y.num, .string y.den]] W fun e w' => e = .returned (.int .i64 c) ∧ Below W.heap.size W w') := by
  refine ⟨cmpQ x.q y.q, cmpQ_range _ _, ?_, ?_, Lib.hid (fun W hW => ?_)⟩
  · have := cmpQ_le x.q y.q
    constructor
    · intro h; exact Decidable.by_contra fun h2 => by have := this.mpr h2; omega
    · intro h; exact Decidable.by_contra fun h2 => this.mp (by omega) h
  · have := cmpQ_ge x.q y.q
    constructor
    · intro h; exact Decidable.by_contra fun h2 => by have := this.mpr h2; omega
    · intro h; exact Decidable.by_contra fun h2 => this.mp (by omega) h
  · exact cmpq_any W x.neg x.num x.den y.neg y.num y.den x.q y.q rfl rfl (by have := hx.1; omega) (by have := hx.2; omega) (by have := hy.1; omega) (by have := hy.2; omega) (tabs w hT hW)
theorem signR (w : World) (hT : TabW w) (x : Q3) {N : Nat} (hx : x.le N) (hN : N ≤ 8796093022208 := by omega) :
    ∃ c : Int, (-1 ≤ c ∧ c ≤ 1) ∧ (0 < c ↔ 0 < x.q) ∧ (c < 0 ↔ x.q < 0) ∧ Hid (∀ W, Below w.heap.size w W → Calls Tryd.prog 33 #[.agg #[.bool x.neg, .string x.num, .string x.den]] W fun e w' => e = .returned (.int .i64 c) ∧ Below W.heap.size W w') := by
  refine ⟨signQ x.q, ?_, ?_, ?_, Lib.hid (fun W hW => ?_)⟩
  · unfold signQ; split
    · omega
    · split <;> omega
  · rw [← signQ_pos]; omega
  · unfold signQ
    split
    · rename_i h; rw [h]; exact ⟨fun h => absurd h (by decide), fun h => absurd h (by decide)⟩
    · split
      · rename_i h; exact ⟨fun _ => h, fun _ => by decide⟩
      · rename_i h; exact ⟨fun h => absurd h (by decide), fun h2 => absurd h2 h⟩
  · exact signq_any W x.neg x.num x.den x.q rfl (by have := hx.1; omega) (by have := hx.2; omega) (tabs w hT hW)
theorem ofR (w : World) (hT : TabW w) (n : Int) (hn : -9223372036854775808 ≤ n ∧ n ≤ 9223372036854775807 := by omega) :
    ∃ z : Q3, z.q = (n : Rat) ∧ z.can ∧ z.le 8 ∧ Hid (∀ W, Below w.heap.size w W → Calls Tryd.prog 42 #[.int .i64 n] W fun e w' => e = .returned (.agg #[.bool z.neg, .string z.num, .string z.den]) ∧ Below W.heap.size W w') := by
  obtain ⟨z, h1, h2, h3⟩ := tri (n : Rat) 8 (qz_int n hn)
  refine ⟨z, h1, h2, h3, Lib.hid (fun W hW => ?_)⟩
  have h := ofint_any W n hn (tabs w hT hW)
  rw [← h1, h2.qv] at h
  exact h
theorem makeR (w : World) (hT : TabW w) (m n : Int) (h0 : (n : Rat) ≠ 0) (hm : -9223372036854775808 ≤ m ∧ m ≤ 9223372036854775807 := by omega) (hn : -9223372036854775808 ≤ n ∧ n ≤ 9223372036854775807 := by omega) :
    ∃ z : Q3, z.q = (m : Rat) / (n : Rat) ∧ z.can ∧ z.le 16 ∧ Hid (∀ W, Below w.heap.size w W → Calls Tryd.prog 73 #[.int .i64 m, .int .i64 n] W fun e w' => e = .returned (.tuple #[.agg #[.bool z.neg, .string z.num, .string z.den], .int .i64 0]) ∧ Below W.heap.size W w') := by
  obtain ⟨z, h1, h2, h3⟩ := tri ((m : Rat) / (n : Rat)) 16 (Nat.le_trans (qz_div _ _) (by have := qz_int m hm; have := qz_int n hn; omega))
  refine ⟨z, h1, h2, h3, Lib.hid (fun W hW => ?_)⟩
  have h := makeq_any W m n hm hn (tabs w hT hW)
  rw [show divV (m : Rat) (n : Rat) = QV ((m : Rat) / (n : Rat)) from if_neg h0, show divE (n : Rat) = 0 from if_neg h0, ← h1, h2.qv] at h
  exact h
theorem floorR (w : World) (hT : TabW w) (x : Q3) {N : Nat} (hx : x.le N) (hN : N ≤ 1099511627776 := by omega) :
    ∃ f e : Int, f = floorN x.q ∧ e = floorE x.q ∧ Hid (∀ W, Below w.heap.size w W → Calls Tryd.prog 66 #[.agg #[.bool x.neg, .string x.num, .string x.den]] W fun r w' => r = .returned (.tuple #[.int .i64 f, .int .i64 e]) ∧ Below W.heap.size W w') :=
  ⟨_, _, rfl, rfl, Lib.hid fun W hW => floorq_any W x.neg x.num x.den x.q rfl (by have := hx.1; omega) (by have := hx.2; omega) (tabs w hT hW)⟩
theorem halfR (w : World) (hT : TabW w) : ∃ z : Q3, z.q = 1 / 2 ∧ z.can ∧ z.le 16 ∧ Hid (∀ W, Below w.heap.size w W → Calls Tryd.prog 63 #[] W fun e w' => e = .returned (.agg #[.bool z.neg, .string z.num, .string z.den]) ∧ Below W.heap.size W w') := by
  have hz : qz (((1 : Int) : Rat) / ((2 : Int) : Rat)) ≤ 16 := Nat.le_trans (qz_div _ _) (by have := qz_int 1 (by decide); have := qz_int 2 (by decide); omega)
  obtain ⟨z, h1, h2, h3⟩ := tri (1 / 2) 16 hz
  refine ⟨z, h1, h2, h3, Lib.hid (fun W hW => ?_)⟩
  have h := half_any W (tabs w hT hW)
  rw [show halfQ = 1 / 2 from rfl, ← h1, h2.qv] at h
  exact h
theorem ratM_small (x : Int) : qz (ratM x) ≤ 1 := by
  unfold ratM
  obtain ⟨k, hk⟩ : ∃ k : Nat, x % 6 = k := ⟨(x % 6).toNat, by omega⟩
  have h6 : k < 6 := by omega
  have hd : denM x ≤ 8 ∧ 1 ≤ denM x := by
    unfold denM
    rw [hk, Int.toNat_natCast]
    rcases k with _ | _ | _ | _ | _ | _ | k
    all_goals first | exact ⟨by decide, by decide⟩ | omega
  have hn : (numM x).natAbs ≤ 64 := by
    unfold numM
    obtain ⟨d, hd'⟩ : ∃ d, d = denM x := ⟨_, rfl⟩
    rw [← hd'] at hd ⊢
    have h1 := Int.emod_nonneg (x.tdiv 6) (b := 16 * (d : Int) + 1) (by omega)
    have h2 := Int.emod_lt_of_pos (x.tdiv 6) (b := 16 * (d : Int) + 1) (by omega)
    omega
  refine Nat.le_trans (qz_mk _ _) ?_
  have h1 := (natL_len_le (numM x).natAbs 1).mpr (by omega)
  have h2 := (natL_len_le (denM x) 1).mpr (by omega)
  omega
theorem ratMR (w : World) (x : Int) (hx : -9223372036854775808 ≤ x ∧ x ≤ 9223372036854775807 := by omega) :
    ∃ z : Q3, z.q = ratM x ∧ z.can ∧ z.le 1 ∧ Hid (∀ W, Calls Tryd.prog 16 #[.int .i64 x] W fun e w' => e = .returned (.agg #[.bool z.neg, .string z.num, .string z.den]) ∧ Below W.heap.size W w') := by
  obtain ⟨z, h1, h2, h3⟩ := tri (ratM x) 1 (ratM_small x)
  refine ⟨z, h1, h2, h3, Lib.hid (fun W => ?_)⟩
  have h := ratM_any W x hx
  rw [← h1, h2.qv] at h
  exact h
end Go.Proofs.YtnnbnecpcppkdaaDoor
