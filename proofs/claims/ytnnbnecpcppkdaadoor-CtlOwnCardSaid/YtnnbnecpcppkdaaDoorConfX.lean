/- gantmake.fraction. gantmake.conf, gantmake.Conf. gantmake.Conf. Conditions: those typed. -/
import Derived.Test.YtnnbnecpcppkdaaDoorMakeQ
import Derived.Test.YtnnbnecpcppkdaaDoorSeqIn
import Derived.Lib.ConvBytes
import Derived.Test.YtnnbnecpcppkdaaDoorArmMk
namespace Go.Proofs.YtnnbnecpcppkdaaDoor
open Go.RowKit Go.Gy
set_option linter.unusedVariables false
theorem conv_str (w : World) (s : ByteArray) : ∃ (cap : Nat) (w' : World), (convert 9 165 (.string s)).run Tryd.prog w = .ok (.slice (some ⟨w.heap.size, 0, none⟩) s.size cap) w' ∧ Below w.heap.size w w' ∧ w'.heap.size = w.heap.size + 1 ∧
    ∀ (j : Nat) (h : j < s.size), w'.cell? ⟨w.heap.size, j, none⟩ = some (.int .u8 (s[j].toNat : Int)) := by
  refine ⟨_, _, Lib.run_convert_string_bytes w 9 165 5 s Tryd.underlying9 Tryd.underlying165 Tryd.underlying5, ⟨rfl, rfl, rfl, by rw [Lib.bytesWorld_size]; omega, fun k hk => Lib.bytesWorld_at_old w _ s k hk⟩, Lib.bytesWorld_size _ _ _, fun j h => ?_⟩
  rw [Lib.bytesWorld_cell w _ s j h]
  congr 2
  have h2 : j < s.data.toList.length := by simpa using h
  rw [List.getD_eq_getElem?_getD, List.getElem?_eq_getElem h2]
  simp
  rfl
set_option maxRecDepth 100000 in
set_option maxHeartbeats 4000000 in
theorem fraction_any (w : World) (x : Q3) (hc : x.can) (hl : x.le 7) :
    Calls Tryd.prog 114 #[.agg #[.bool x.neg, .string x.num, .string x.den]] w fun r w' => r = .returned (.tuple #[.int .i64 x.q.num, .int .i64 x.q.den]) ∧ Below w.heap.size w w' := by
  have hs1 : x.num.size ≤ 7 := hl.1
  have hs2 : x.den.size ≤ 7 := hl.2
  obtain ⟨P, hP⟩ : ∃ P, P = x.q.num := ⟨_, rfl⟩
  obtain ⟨D, hD⟩ : ∃ D, D = x.q.den := ⟨_, rfl⟩
  have hD0 : 1 ≤ D := by rw [hD]; exact x.q.den_pos
  have hn : sval x.num = P.natAbs := by rw [hc, hP]; exact sval_natS _
  have hd : sval x.den = D := by rw [hc, hD]; exact sval_natS _
  have hg : x.neg = decide (P < 0) := by rw [hc, hP]; rfl
  have hnb : sval x.num < 256 ^ 7 := by
    have := bval_lt x.num.data.toList
    exact Nat.lt_of_lt_of_le this (Nat.pow_le_pow_right (by omega) (by simpa using hs1))
  have hdb : sval x.den < 256 ^ 7 := by
    have := bval_lt x.den.data.toList
    exact Nat.lt_of_lt_of_le this (Nat.pow_le_pow_right (by omega) (by simpa using hs2))
  rw [← hP, ← hD]
  obtain ⟨xn, xs, xt⟩ := x
  replace hn : sval xs = P.natAbs := hn
  replace hd : sval xt = D := hd
  replace hg : xn = decide (P < 0) := hg
  replace hs1 : xs.size ≤ 7 := hs1
  replace hs2 : xt.size ≤ 7 := hs2
  replace hnb : P.natAbs < 72057594037927936 := by rw [← hn]; exact hnb
  replace hdb : D < 72057594037927936 := by rw [← hd]; exact hdb
  have HN := Lib.hid hn
  have HD := Lib.hid hd
  have HG := Lib.hid hg
  clear hn hd hg hP hD hl hc
  have hI := (In.start w).alloc 25 #[.bool xn, .string xs, .string xt]
  go_enter Tryd.func114, Tryd.ntmps114
  go_upto_region 2 with (fail)
  generalize World.alloc _ _ = W1 at hI ⊢
  have fx := hI.facts
  simp only [factsOf, cellsOf, Nat.zero_add, Nat.reduceAdd] at fx
  obtain ⟨cap, W2, hcv, hb2, hz2, hc2⟩ := conv_str W1 xs
  have HC2 := Lib.hid hc2
  replace hI := hI.call hb2
  have hgl : W1.heap.size < W2.heap.size := by omega
  clear hb2 hz2 hc2
  go_wp2_with fail
  generalize W1.heap.size = g2 at HC2 hgl ⊢
  clear hcv fx
  go_loop [4, 14] (fun n i => ∃ k m : Nat, k ≤ xs.size ∧ i = .int .i64 k ∧ n = .int .i64 m ∧ Hid (m = bval (xs.data.toList.take k))) (fun _ i => xs.size - (intOf i).toNat)
  case atStart => exact ⟨0, 0, Nat.zero_le _, rfl, rfl, Lib.hid rfl⟩
  case round =>
    obtain ⟨k, m, hk, rfl, rfl, Hm⟩ := hrel
    by_cases hlt : k < xs.size
    · have hm : m < 281474976710656 := by
        rw [Hm.out]
        have h1 := bval_lt (xs.data.toList.take k)
        rw [List.length_take] at h1
        exact Nat.lt_of_lt_of_le h1 (Nat.le_trans (Nat.pow_le_pow_right (by omega) (show min k xs.data.toList.length ≤ 6 by omega)) (by decide))
      have hx := xs[k].toNat_lt
      have hcell := HC2.out k hlt
      have hki : (k : Int) < (xs.size : Int) := by omega
      have hki2 : 0 ≤ (k : Int) ∧ (k : Int) < (xs.size : Int) := by omega
      have hw1 : IntKind.i64.wrap (256 * (m : Int)) = 256 * (m : Int) := by rw [IntKind.wrap_i64]; omega
      have hw2 : IntKind.i64.wrap (256 * (m : Int) + (xs[k].toNat : Int)) = 256 * (m : Int) + (xs[k].toNat : Int) := by rw [IntKind.wrap_i64]; omega
      have hw3 : IntKind.i64.wrap (xs[k].toNat : Int) = (xs[k].toNat : Int) := by rw [IntKind.wrap_i64]; omega
      have hwk : IntKind.i64.wrap ((k : Int) + 1) = (k : Int) + 1 := by rw [IntKind.wrap_i64]; omega
      have Hs := Lib.hid (show 256 * m + xs[k].toNat = bval (xs.data.toList.take (k + 1)) by rw [take_snoc xs k hlt, bval_snoc, Hm.out])
      go_wp2
      go_round
      case rel => exact ⟨k + 1, 256 * m + xs[k].toNat, by omega, by simp, by simp, Hs⟩
      case measure => simp [intOf]; omega
    · obtain rfl : k = xs.size := by omega
      have hm2 : m = P.natAbs := by
        rw [Hm.out, List.take_of_length_le (by simp)]
        exact HN.out
      subst hm2
      have hki : ¬ (xs.size : Int) < (xs.size : Int) := by omega
      have fx := hI.facts
      simp only [factsOf, cellsOf, Nat.zero_add, Nat.reduceAdd] at fx
      obtain ⟨cap3, W3, hcv3, hb3, hz3, hc3⟩ := conv_str W2 xt
      have HC3 := Lib.hid hc3
      have HI3 := Lib.hid (hI.call hb3)
      have hgl3 : W2.heap.size < W3.heap.size := by omega
      clear hb3 hz3 hc3
      go_wp2_with fail
      generalize W2.heap.size = g3 at HC3 hgl3 hgl ⊢
      clear hcv3 fx hI HC2
      go_loop [5, 28] (fun n i => ∃ k m : Nat, k ≤ xt.size ∧ i = .int .i64 k ∧ n = .int .i64 m ∧ Hid (m = bval (xt.data.toList.take k))) (fun _ i => xt.size - (intOf i).toNat)
      case atStart => exact ⟨0, 0, Nat.zero_le _, rfl, rfl, Lib.hid rfl⟩
      case round =>
        obtain ⟨k, m, hk, rfl, rfl, Hm⟩ := hrel
        by_cases hlt : k < xt.size
        · have hm : m < 281474976710656 := by
            rw [Hm.out]
            have h1 := bval_lt (xt.data.toList.take k)
            rw [List.length_take] at h1
            exact Nat.lt_of_lt_of_le h1 (Nat.le_trans (Nat.pow_le_pow_right (by omega) (show min k xt.data.toList.length ≤ 6 by omega)) (by decide))
          have hx := xt[k].toNat_lt
          have hcell := HC3.out k hlt
          have hki : (k : Int) < (xt.size : Int) := by omega
          have hki2 : 0 ≤ (k : Int) ∧ (k : Int) < (xt.size : Int) := by omega
          have hw1 : IntKind.i64.wrap (256 * (m : Int)) = 256 * (m : Int) := by rw [IntKind.wrap_i64]; omega
          have hw2 : IntKind.i64.wrap (256 * (m : Int) + (xt[k].toNat : Int)) = 256 * (m : Int) + (xt[k].toNat : Int) := by rw [IntKind.wrap_i64]; omega
          have hw3 : IntKind.i64.wrap (xt[k].toNat : Int) = (xt[k].toNat : Int) := by rw [IntKind.wrap_i64]; omega
          have hwk : IntKind.i64.wrap ((k : Int) + 1) = (k : Int) + 1 := by rw [IntKind.wrap_i64]; omega
          have Hs := Lib.hid (show 256 * m + xt[k].toNat = bval (xt.data.toList.take (k + 1)) by rw [take_snoc xt k hlt, bval_snoc, Hm.out])
          go_wp2
          go_round
          case rel => exact ⟨k + 1, 256 * m + xt[k].toNat, by omega, by simp, by simp, Hs⟩
          case measure => simp [intOf]; omega
        · obtain rfl : k = xt.size := by omega
          have hm2 : m = D := by
            rw [Hm.out, List.take_of_length_le (by simp)]
            exact HD.out
          subst hm2
          have hki : ¬ (xt.size : Int) < (xt.size : Int) := by omega
          have hI := HI3.out
          have fx := hI.facts
          simp only [factsOf, cellsOf, Nat.zero_add, Nat.reduceAdd] at fx
          have hmx : max (m : Int) 1 = (m : Int) := by omega
          cases xn
          · have HPe := Lib.hid (show P = (P.natAbs : Int) from by
              have := of_decide_eq_false HG.out.symm
              omega)
            generalize P.natAbs = Q at HPe hnb ⊢
            clear HG HN HC3 HI3
            go_wp2
            refine bodyPost_ret (results_tmp2 rfl _ _ _) rfl ?_
            rw [HPe.out]
            exact ⟨rfl, hI.bel⟩
          · have HPe := Lib.hid (show P = -(P.natAbs : Int) from by
              have := of_decide_eq_true HG.out.symm
              omega)
            generalize P.natAbs = Q at HPe hnb ⊢
            have hwn : IntKind.i64.wrap (-(Q : Int)) = -(Q : Int) := by rw [IntKind.wrap_i64]; omega
            clear HG HN HC3 HI3
            go_wp2
            refine bodyPost_ret (results_tmp2 rfl _ _ _) rfl ?_
            rw [HPe.out]
            exact ⟨rfl, hI.bel⟩
end Go.Proofs.YtnnbnecpcppkdaaDoor
namespace Go.Proofs.YtnnbnecpcppkdaaDoor
open Go.RowKit Go.Gy
set_option linter.unusedVariables false
/-- InS, and an own row v that starts at lo or above -/
structure InO (w0 : World) (B b lo : Nat) (et : TypeId) (size : Nat) (v : Value) (n : Nat) (xs : List Value) (ls : List (Nat × TypeId × Array Value)) (W : World) : Prop extends InS w0 B b ls W where
  own : W.ownsRow lo et size v n xs
  lo1 : lo ≤ W.heap.size
  lob : b < lo
  oa : ∀ x ∈ ls, v.ownBlock ≠ some x.1
section
variable {w0 W W' : World} {B b lo size n : Nat} {et : TypeId} {v : Value} {xs : List Value} {ls : List (Nat × TypeId × Array Value)}
theorem InO.call (hB : B ≤ b) (h : InO w0 B b lo et size v n xs ls W) (hb : Below W.heap.size W W') : InO w0 B b lo et size v n xs ls W' :=
  ⟨h.toInS.callS hB hb, own_below h.own hb (Nat.le_refl _), Nat.le_trans h.lo1 hb.size, h.lob, h.oa⟩
theorem InO.next (hw : w0.heap.size ≤ b) (h : InO w0 B b lo et size v n xs ls W) (hs : StrAt W' B b) (hg : W.grownBy W' (some b)) : InO w0 B b lo et size v n xs ls W' :=
  ⟨h.toInS.nextS hw hs hg, own_nextA h.own h.lob hg, by have := h.lo1; obtain ⟨_, _, _, g4, _⟩ := hg; omega, h.lob, h.oa⟩
theorem InO.alloc (hB : B ≤ b) (h : InO w0 B b lo et size v n xs ls W) (t : TypeId) (cs : Array Value) : InO w0 B b lo et size v n xs ((W.heap.size, t, cs) :: ls) (W.alloc (.cells cs t)) :=
  ⟨h.toInS.allocS hB t cs, h.own.alloc _, by have := h.lo1; rw [World.size_alloc]; omega, h.lob, fun x hx => by
    rcases List.mem_cons.1 hx with rfl | hx
    · intro e
      have := (h.own.lt _ e).2
      simp only at this; omega
    · exact h.oa x hx⟩
theorem InO.tail {x : Nat × TypeId × Array Value} (h : InO w0 B b lo et size v n xs (x :: ls) W) : InO w0 B b lo et size v n xs ls W :=
  ⟨⟨h.toIn.tail, h.st, fun y hy => h.off y (List.mem_cons_of_mem _ hy)⟩, h.own, h.lo1, h.lob, fun y hy => h.oa y (List.mem_cons_of_mem _ hy)⟩
theorem InO.push {v' : Value} {n' : Nat} {xs' : List Value} (hB : B ≤ b) (h : InO w0 B b lo et size v n xs ls W) (hlt : ∀ x ∈ ls, x.1 < lo) (hw : w0.heap.size ≤ lo)
    (hn : W'.ownsRow lo et size v' n' xs') (hb : Below lo W W') : InO w0 B b lo et size v' n' xs' ls W' :=
  ⟨⟨h.toIn.callB hb hw hlt, h.st.belowL hb h.lob (by have := h.lob; omega), h.off⟩, hn, Nat.le_trans h.lo1 hb.size, h.lob, fun x hx e => by
    have h1 := (hn.lt _ e).1
    have h2 := hlt x hx
    omega⟩
end
theorem low_parts (a : Int) (h : 0 ≤ a ∧ a ≤ 5) : (-6 ≤ (mkRat (-1 - a) 3).num ∧ (mkRat (-1 - a) 3).num ≤ -1) ∧ ((mkRat (-1 - a) 3).den = 1 ∨ (mkRat (-1 - a) 3).den = 3) ∧ mkRat (-1 - a) 3 < 0 := by
  have h6 : a = 0 ∨ a = 1 ∨ a = 2 ∨ a = 3 ∨ a = 4 ∨ a = 5 := by omega
  rcases h6 with rfl | rfl | rfl | rfl | rfl | rfl <;> decide +kernel
theorem high_parts (a : Int) (h : 0 ≤ a ∧ a ≤ 5) : (1 ≤ (mkRat (1 + a) 3).num ∧ (mkRat (1 + a) 3).num ≤ 6) ∧ ((mkRat (1 + a) 3).den = 1 ∨ (mkRat (1 + a) 3).den = 3) ∧ 0 < mkRat (1 + a) 3 := by
  have h6 : a = 0 ∨ a = 1 ∨ a = 2 ∨ a = 3 ∨ a = 4 ∨ a = 5 := by omega
  rcases h6 with rfl | rfl | rfl | rfl | rfl | rfl <;> decide +kernel
theorem mk_mul (n : Int) (d : Nat) (h : 0 < d) : mkRat n d * ((d : Int) : Rat) = (n : Rat) := by
  rw [Rat.mkRat_eq_div]
  refine Rat.div_mul_cancel ?_
  have h1 : ((0 : Int) : Rat) < ((d : Int) : Rat) := Rat.intCast_lt_intCast.mpr (by omega)
  have h2 : (((d : Nat) : Int) : Rat) = ((d : Nat) : Rat) := rfl
  have h3 : ((0 : Int) : Rat) = 0 := rfl
  rw [← h2]
  grind
/-- what conf reckons lies between the limits -/
theorem conf_between {L H : Rat} {n m k : Int} {d e D : Nat} (hL : L.num = n) (hd : L.den = d) (hH : H.num = m) (he : H.den = e) (hLH : L ≤ H) (hk : 0 ≤ k ∧ k ≤ 8) (hD : D = 8 * d * e) :
    L ≤ mkRat (8 * n * e + (m * d - n * e) * k) D ∧ mkRat (8 * n * e + (m * d - n * e) * k) D ≤ H := by
  have hd0 : 0 < d := by rw [← hd]; exact L.den_pos
  have he0 : 0 < e := by rw [← he]; exact H.den_pos
  have hD0 : 0 < D := by
    rw [hD]
    exact Nat.mul_pos (Nat.mul_pos (by decide) hd0) he0
  have e1 := mk_mul L.num L.den L.den_pos
  rw [Rat.mkRat_self, hL, hd] at e1
  have e2 := mk_mul H.num H.den H.den_pos
  rw [Rat.mkRat_self, hH, he] at e2
  have e3 := mk_mul (8 * n * e + (m * d - n * e) * k) D hD0
  obtain ⟨X, hX⟩ : ∃ X, X = mkRat (8 * n * e + (m * d - n * e) * k) D := ⟨_, rfl⟩
  rw [← hX] at e3 ⊢
  have hDc : ((D : Int) : Rat) = 8 * ((d : Int) : Rat) * ((e : Int) : Rat) := by
    rw [hD, show ((8 * d * e : Nat) : Int) = 8 * (d : Int) * (e : Int) by simp, Rat.intCast_mul, Rat.intCast_mul]
    rfl
  rw [hDc, Rat.intCast_add, Rat.intCast_mul, Rat.intCast_mul, Rat.intCast_mul, Rat.intCast_sub, Rat.intCast_mul, Rat.intCast_mul, ← e1, ← e2, show ((8 : Int) : Rat) = 8 from rfl] at e3
  have p1 : (0 : Rat) < ((d : Int) : Rat) := by
    have h1 : ((0 : Int) : Rat) < ((d : Int) : Rat) := Rat.intCast_lt_intCast.mpr (by omega)
    exact h1
  have p2 : (0 : Rat) < ((e : Int) : Rat) := by
    have h1 : ((0 : Int) : Rat) < ((e : Int) : Rat) := Rat.intCast_lt_intCast.mpr (by omega)
    exact h1
  have p3 := Rat.mul_pos p1 p2
  have e4 : (8 * X) * (((d : Int) : Rat) * ((e : Int) : Rat)) = (8 * L + (H - L) * (k : Rat)) * (((d : Int) : Rat) * ((e : Int) : Rat)) := by grind
  have e5 : 8 * X = 8 * L + (H - L) * (k : Rat) := by
    have g1 : 8 * X ≤ 8 * L + (H - L) * (k : Rat) := Rat.le_of_mul_le_mul_right (by rw [e4]; exact Rat.le_refl) p3
    have g2 : 8 * L + (H - L) * (k : Rat) ≤ 8 * X := Rat.le_of_mul_le_mul_right (by rw [e4]; exact Rat.le_refl) p3
    grind
  have h9 : k = 0 ∨ k = 1 ∨ k = 2 ∨ k = 3 ∨ k = 4 ∨ k = 5 ∨ k = 6 ∨ k = 7 ∨ k = 8 := by omega
  rcases h9 with rfl | rfl | rfl | rfl | rfl | rfl | rfl | rfl | rfl
  · rw [show ((0 : Int) : Rat) = 0 from rfl] at e5; grind
  · rw [show ((1 : Int) : Rat) = 1 from rfl] at e5; grind
  · rw [show ((2 : Int) : Rat) = 2 from rfl] at e5; grind
  · rw [show ((3 : Int) : Rat) = 3 from rfl] at e5; grind
  · rw [show ((4 : Int) : Rat) = 4 from rfl] at e5; grind
  · rw [show ((5 : Int) : Rat) = 5 from rfl] at e5; grind
  · rw [show ((6 : Int) : Rat) = 6 from rfl] at e5; grind
  · rw [show ((7 : Int) : Rat) = 7 from rfl] at e5; grind
  · rw [show ((8 : Int) : Rat) = 8 from rfl] at e5; grind
/-- a joint value within the limits of a link -/
def QIn (k : Lk) (q : Q3) : Prop := q.can ∧ q.le 1 ∧ k.low.q ≤ q.q ∧ q.q ≤ k.high.q
/-- the first n joint values are within limits -/
def QsIn (L : List (Lk × List P2)) (qs : List Q3) : Prop := qs.length ≤ L.length ∧ ∀ (j : Nat) (q : Q3) (x : Lk × List P2), qs[j]? = some q → L[j]? = some x → QIn x.1 q
theorem QsIn.snoc {L : List (Lk × List P2)} {qs : List Q3} {q : Q3} {x : Lk × List P2} (h : QsIn L qs) (hx : L[qs.length]? = some x) (hq : QIn x.1 q) : QsIn L (qs ++ [q]) := by
  refine ⟨by have := (List.getElem?_eq_some_iff.1 hx).1; simp; omega, fun j p y h1 h2 => ?_⟩
  rcases Nat.lt_or_ge j qs.length with hj | hj
  · rw [List.getElem?_append_left hj] at h1
    exact h.2 j p y h1 h2
  · rw [List.getElem?_append_right hj] at h1
    have hj0 : j - qs.length = 0 := by
      have := (List.getElem?_eq_some_iff.1 h1).1
      simp at this
      omega
    rw [hj0] at h1
    simp at h1
    subst h1
    rw [show j = qs.length by omega, hx] at h2
    cases h2
    exact hq
def ConfPost (w0 w : World) (B b : Nat) (L : List (Lk × List P2)) (e : Ending) (w' : World) : Prop := ∃ (v : Value) (qs : List Q3) (lo : Nat), e = .returned v ∧ qs.length = L.length ∧ QsIn L qs ∧ w.heap.size ≤ lo ∧ InO w0 B b lo 25 3 v qs.length (qs.flatMap encQ) [] w'
def CfRel (w0 : World) (B b lo : Nat) (ls : List (Nat × TypeId × Array Value)) (L : List (Lk × List P2)) (v i : Value) (wr : World) : Prop :=
  ∃ qs : List Q3, i = .int .i64 qs.length ∧ QsIn L qs ∧ InO w0 B b lo 25 3 v qs.length (qs.flatMap encQ) ls wr
set_option maxRecDepth 100000 in
theorem info_rat : (Tryd.prog.info? 25).map (fun i => (i.zero, i.size, i.bytes)) = some (some (.agg #[.bool false, .string { data := #[] }, .string { data := #[] }]), 3, 40) := by kernel_rfl
set_option maxRecDepth 100000 in
set_option maxHeartbeats 8000000 in
theorem conf_any (w0 w : World) (B b : Nat) (a : Ar) (hG : GenAr a) (hA : a.At w0 w0.heap.size) (h0 : InS w0 B b [] w) (hB : B ≤ b) (hw : w0.heap.size ≤ b) :
    Calls Tryd.prog 77 #[a.val, .pointer (some ⟨b, 0, none⟩)] w (ConfPost w0 w B b a.L) := by
  obtain ⟨nm, ⟨px, py⟩, hf, t, v, L⟩ := a
  obtain ⟨hsl, hshp⟩ := hA
  obtain ⟨A, n, c, hv, hln, hnc, hA0, hrd⟩ := hsl
  obtain rfl : v = .slice A n c := hv
  obtain rfl : L.length = n := (Ar.ks_len _).symm.trans hln
  have hL3 : L.length ≤ 3 := hG.len.2
  have HRD := Lib.hid hrd
  have HSH := Lib.hid (show ∀ x ∈ L, SlP w0 w0.heap.size x.1.shape x.2 from hshp)
  have HGL := Lib.hid (show ∀ x ∈ L, GenLk x.1 x.2 from hG.lk)
  have HKS := Lib.hid (show ∀ i : Nat, (L.map (·.1))[i]? = (L[i]?).map (·.1) from fun i => List.getElem?_map)
  change Calls Tryd.prog 77 #[.agg #[.string nm, .bool px.neg, .string px.num, .string px.den, .bool py.neg, .string py.num, .string py.den, .bool hf, .bool t.neg, .string t.num, .string t.den, .slice A L.length c], .pointer (some ⟨b, 0, none⟩)] w (ConfPost w0 w B b L)
  have hL := h0.allocS hB 37 #[.string nm, .bool px.neg, .string px.num, .string px.den, .bool py.neg, .string py.num, .string py.den, .bool hf, .bool t.neg, .string t.num, .string t.den, .slice A L.length c]
  have hbl := h0.st.lt
  have hw0 := h0.toIn.bel.size
  obtain ⟨g, hg⟩ : ∃ g, g = w.heap.size := ⟨_, rfl⟩
  obtain ⟨i0, hi0, hi1⟩ := Option.map_eq_some_iff.1 info_rat
  injection hi1 with hz0 hi1
  injection hi1 with hz1 hz2
  clear hrd hshp hln hG h0
  go_enter Tryd.func77, Tryd.ntmps77
  go_upto_region 1 with (fail)
  rw [← hg] at hL ⊢
  have hgb : b < g + 1 := by omega
  have hgs : w0.heap.size ≤ g + 1 := by omega
  have hOO : InO w0 B b (g + 1) 25 3 (.slice none 0 0) 0 [] [(g, 37, #[.string nm, .bool px.neg, .string px.num, .string px.den, .bool py.neg, .string py.num, .string py.den, .bool hf, .bool t.neg, .string t.num, .string t.den, .slice A L.length c])] (w.alloc (.cells #[.string nm, .bool px.neg, .string px.num, .string px.den, .bool py.neg, .string py.num, .string py.den, .bool hf, .bool t.neg, .string t.num, .string t.den, .slice A L.length c] 37)) := ⟨hL, ⟨rfl, .inl ⟨rfl, rfl⟩⟩, by rw [World.size_alloc, hg]; exact Nat.le_refl _, hgb, fun x _ e => by cases e⟩
  have hst := Lib.hid (show CfRel w0 B b (g + 1) [(g, 37, #[.string nm, .bool px.neg, .string px.num, .string px.den, .bool py.neg, .string py.num, .string py.den, .bool hf, .bool t.neg, .string t.num, .string t.den, .slice A L.length c])] L (.slice none 0 0) (.int .i64 0) _ from ⟨[], rfl, ⟨Nat.zero_le _, fun j q x h => by simp at h⟩, hOO⟩)
  have HG := Lib.hid hg
  generalize World.alloc _ _ = W1 at hL hOO hst ⊢
  have hT := hL.toIn
  have fx := hT.facts
  simp only [factsOf, cellsOf, Nat.zero_add, Nat.reduceAdd] at fx
  clear hL hOO hT hg
  go_wp2_with fail
  clear fx
  go_loopw [5, 16] (fun v i wr => CfRel w0 B b (g + 1) [(g, 37, #[.string nm, .bool px.neg, .string px.num, .string px.den, .bool py.neg, .string py.num, .string py.den, .bool hf, .bool t.neg, .string t.num, .string t.den, .slice A L.length c])] L v i wr) (fun _ i _ => L.length - (intOf i).toNat)
  case atStart => exact hst.out
  case round =>
    clear hst
    obtain ⟨qs, rfl, hq, hL⟩ := hrel
    by_cases hin : qs.length < L.length
    · have hi1 : (qs.length : Int) < (L.length : Int) := by omega
      have hi2 : 0 ≤ (qs.length : Int) ∧ (qs.length : Int) < (L.length : Int) := by omega
      obtain ⟨⟨⟨klen, klow, khigh, kspeed, kbrake, kshape⟩, pts⟩, ha⟩ : ∃ x, L[qs.length]? = some x := ⟨_, List.getElem?_eq_getElem hin⟩
      obtain ⟨A5, n5, c5, hk5, _⟩ := HSH.out _ (List.mem_of_getElem? ha)
      obtain rfl : kshape = .slice A5 n5 c5 := hk5
      obtain ⟨b9, o, rfl, hbB, hlc⟩ := Rd.lnk HRD.out (i := qs.length) (k := ⟨klen, klow, khigh, kspeed, kbrake, .slice A5 n5 c5⟩) (by
        show (L.map (·.1))[qs.length]? = _
        rw [HKS.out, ha]; rfl)
      have hlc := hlc.below hL.toIn.bel hbB
      have hbn : b9 < wr.heap.size := Nat.lt_of_lt_of_le hbB hL.toIn.bel.size
      obtain ⟨f0, f1, f2, f3, f4, f5, f6, f7, f8, f9, f10, f11, f12, f13, f14, f15⟩ := hlc
      obtain ⟨_, ga, ge, _, _, _, _, ha6, he6, _, _, ⟨_, hlq, hhq, _, _⟩, ⟨_, clo, chi, _, _⟩, ⟨_, llo, lhi, _, _⟩, _⟩ := HGL.out _ (List.mem_of_getElem? ha)
      have hlq : klow.q = mkRat (-1 - ga) 3 := hlq
      have hhq : khigh.q = mkRat (1 + ge) 3 := hhq
      have pl := low_parts ga ha6
      have ph := high_parts ge he6
      rw [← hlq] at pl
      rw [← hhq] at ph
      have FL := Lib.hid (fun W => fraction_any W klow clo (Q3.le.more llo (by decide)))
      have FH := Lib.hid (fun W => fraction_any W khigh chi (Q3.le.more lhi (by decide)))
      obtain ⟨n1, hn1⟩ : ∃ n, klow.q.num = n := ⟨_, rfl⟩
      obtain ⟨m1, hm1⟩ : ∃ n, khigh.q.num = n := ⟨_, rfl⟩
      obtain ⟨d1, hd1⟩ : ∃ n, klow.q.den = n := ⟨_, rfl⟩
      obtain ⟨e1', he1⟩ : ∃ n, khigh.q.den = n := ⟨_, rfl⟩
      have HB := Lib.hid (fun (k : Int) (hk : 0 ≤ k ∧ k ≤ 8) (D : Nat) (hD : D = 8 * d1 * e1') => conf_between hn1 hd1 hm1 he1 (by grind) hk hD)
      rw [hn1, hd1] at FL
      rw [hm1, he1] at FH
      rw [hn1, hd1] at pl
      rw [hm1, he1] at ph
      have hm := List.mem_of_getElem? ha
      have HA := Lib.hid ha
      have HQ := Lib.hid hq
      have HBB := Lib.hid (show n1 * (e1' : Int) ≤ -1 ∧ -18 ≤ n1 * (e1' : Int) ∧ 1 ≤ m1 * (d1 : Int) ∧ m1 * (d1 : Int) ≤ 18 from by
        obtain ⟨p1, p2, _⟩ := pl
        obtain ⟨r1, r2, _⟩ := ph
        rcases p2 with rfl | rfl <;> rcases r2 with rfl | rfl <;> simp <;> omega)
      have hd13 : 1 ≤ d1 ∧ d1 ≤ 3 := by omega
      have he13 : 1 ≤ e1' ∧ e1' ≤ 3 := by omega
      have hde : 1 ≤ d1 * e1' ∧ d1 * e1' ≤ 9 := by
        obtain ⟨_, p2, _⟩ := pl
        obtain ⟨_, r2, _⟩ := ph
        rcases p2 with rfl | rfl <;> rcases r2 with rfl | rfl <;> decide
      have hn16 := pl.1
      have hm16 := ph.1
      have hlt9 : ∀ x ∈ ([(g, 37, #[.string nm, .bool px.neg, .string px.num, .string px.den, .bool py.neg, .string py.num, .string py.den, .bool hf, .bool t.neg, .string t.num, .string t.den, .slice (some ⟨b9, o, none⟩) L.length c])] : List (Nat × TypeId × Array Value)), x.1 < g + 1 := fun x hx => by
        rcases List.mem_cons.1 hx with rfl | hx
        · exact Nat.lt_succ_self _
        · cases hx
      replace hL := hL.alloc hB 28 #[.bool klen.neg, .string klen.num, .string klen.den, .bool klow.neg, .string klow.num, .string klow.den, .bool khigh.neg, .string khigh.num, .string khigh.den, .bool kspeed.neg, .string kspeed.num, .string kspeed.den, .bool kbrake.neg, .string kbrake.num, .string kbrake.den, .slice A5 n5 c5]
      clear hq pl ph ha hm hlq hhq clo chi llo lhi ha6 he6 hn1 hm1 hd1 he1
      obtain ⟨g7, hg7⟩ : ∃ g, g = wr.heap.size := ⟨_, rfl⟩
      go_upto_region 5 with (fail)
      clear f0 f1 f2 f3 f4 f5 f6 f7 f8 f9 f10 f11 f12 f13 f14 f15 hbn hbB
      rw [← hg7] at hL ⊢
      generalize World.alloc _ _ = W2 at hL ⊢
      clear hg7
      have hT := hL.toIn.take (a := [_])
      have fx := hT.facts
      simp only [factsOf, cellsOf, Nat.zero_add, Nat.reduceAdd] at fx
      clear hT
      go_wp2_with fail
      refine (FL.out _).mono ?_
      rintro e wn ⟨rfl, hb⟩
      replace hL := hL.call hB hb
      clear hb fx
      have hT := hL.toIn.take (a := [_])
      have fx := hT.facts
      simp only [factsOf, cellsOf, Nat.zero_add, Nat.reduceAdd] at fx
      clear hT
      go_wp2_with fail
      refine (FH.out _).mono ?_
      rintro e wn ⟨rfl, hb⟩
      replace hL := hL.call hB hb
      clear hb fx
      go_wp2_with fail
      refine (next_any _ B b 9 hL.st hB (by omega) (by omega)).mono ?_
      rintro e wn ⟨k, rfl, k0, k1, hst2, hg, hse⟩
      clear hse
      replace hL := hL.next hw hst2 hg
      clear hst2 hg
      have HBK := Lib.hid (HB.out k (by omega))
      obtain ⟨p1, hp1⟩ : ∃ x, n1 * (e1' : Int) = x := ⟨_, rfl⟩
      obtain ⟨p2, hp2⟩ : ∃ x, m1 * (d1 : Int) = x := ⟨_, rfl⟩
      have hbb := HBB.out
      rw [hp1, hp2] at hbb
      have hTk : 0 ≤ (p2 - p1) * k ∧ (p2 - p1) * k ≤ 288 := by
        have h9 : k = 0 ∨ k = 1 ∨ k = 2 ∨ k = 3 ∨ k = 4 ∨ k = 5 ∨ k = 6 ∨ k = 7 ∨ k = 8 := by omega
        rcases h9 with rfl | rfl | rfl | rfl | rfl | rfl | rfl | rfl | rfl <;> omega
      have hNb : -144 ≤ 8 * p1 + (p2 - p1) * k ∧ 8 * p1 + (p2 - p1) * k ≤ 144 := by
        have h9 : k = 0 ∨ k = 1 ∨ k = 2 ∨ k = 3 ∨ k = 4 ∨ k = 5 ∨ k = 6 ∨ k = 7 ∨ k = 8 := by omega
        rcases h9 with rfl | rfl | rfl | rfl | rfl | rfl | rfl | rfl | rfl <;> omega
      have h8p : 8 * n1 * (e1' : Int) = 8 * p1 := by rw [← hp1, Int.mul_assoc]
      obtain ⟨T, hT0⟩ : ∃ T, (p2 - p1) * k = T := ⟨_, rfl⟩
      rw [hT0] at hTk hNb
      obtain ⟨D, hDD⟩ : ∃ D : Nat, D = 8 * d1 * e1' := ⟨_, rfl⟩
      have hDi : 8 * (d1 : Int) * (e1' : Int) = (D : Int) := by rw [hDD]; simp
      have hDb : 1 ≤ D ∧ D ≤ 72 := by rw [hDD, Nat.mul_assoc]; omega
      obtain ⟨z, qz, cz, lz, OF⟩ := of_link (8 * p1 + T) D (by omega) (by omega) (by omega)
      replace OF := Lib.hid OF
      have HZ := Lib.hid (show QIn ⟨klen, klow, khigh, kspeed, kbrake, .slice A5 n5 c5⟩ z from by
        have h1 := HBK.out D hDD
        rw [h8p, hp1, hp2, hT0, ← qz] at h1
        exact ⟨cz, lz, h1⟩)
      have w1 : IntKind.i64.wrap (8 * n1) = 8 * n1 := by rw [IntKind.wrap_i64]; omega
      have w2 : IntKind.i64.wrap (8 * n1 * (e1' : Int)) = 8 * p1 := by rw [h8p, IntKind.wrap_i64]; omega
      have w3 : IntKind.i64.wrap (m1 * (d1 : Int)) = p2 := by rw [hp2, IntKind.wrap_i64]; omega
      have w4 : IntKind.i64.wrap (n1 * (e1' : Int)) = p1 := by rw [hp1, IntKind.wrap_i64]; omega
      have w5 : IntKind.i64.wrap (p2 - p1) = p2 - p1 := by rw [IntKind.wrap_i64]; omega
      have w6 : IntKind.i64.wrap ((p2 - p1) * k) = T := by rw [hT0, IntKind.wrap_i64]; omega
      have w7 : IntKind.i64.wrap (8 * p1 + T) = 8 * p1 + T := by rw [IntKind.wrap_i64]; omega
      have w8 : IntKind.i64.wrap (8 * (d1 : Int)) = 8 * (d1 : Int) := by rw [IntKind.wrap_i64]; omega
      have w9 : IntKind.i64.wrap (8 * (d1 : Int) * (e1' : Int)) = (D : Int) := by rw [hDi, IntKind.wrap_i64]; omega
      have wk : IntKind.i64.wrap ((qs.length : Int) + 1) = (qs.length : Int) + 1 := by rw [IntKind.wrap_i64]; omega
      clear hTk hNb h8p hp1 hp2 hT0 hDD hDi hDb qz cz lz HBB HBK HB hbb hde hd13 he13 hn16 hm16
      go_wp2_with fail
      refine (OF.out _).mono ?_
      rintro e wn ⟨rfl, hb⟩
      replace hL := (hL.call hB hb).tail
      clear hb OF w1 w2 w3 w4 w5 w6 w7 w8 w9
      have hbase : g + 1 ≤ wn.heap.size := hL.lo1
      have Ho := Lib.hid hL.own
      have hmx : qs.length + 1 ≤ 3 := by omega
      have HPU := Lib.hid (fun v6 w6 h1 h2 => hL.push (v' := v6) (W' := w6) (n' := (qs ++ [z]).length) (xs' := (qs ++ [z]).flatMap encQ) hB hlt9 hgs h1 h2)
      clear hL
      go_wp2_with (at_builtin; refine wpList_push rfl (.tmp 34) (.tmp 54) 48 rfl (g + 1) 25 i0 (.agg #[.bool false, .string { data := #[] }, .string { data := #[] }]) 3 40 Tryd.underlying48 hi0 hz0 hz1 hz2 rfl (by omega) _ qs.length _ rfl Ho.out [.bool z.neg, .string z.num, .string z.den] rfl rfl (by simp [Value.oneCell']) (by unfold maxLen; omega) (by omega) hbase ?_; intro v6 w6 hn6 hb6 _)
      have HX := Lib.hid (HPU.out v6 w6 (by simpa [encQ] using hn6) hb6)
      clear hn6 hb6
      go_roundw
      case rel => exact ⟨qs ++ [z], by simp, QsIn.snoc HQ.out HA.out HZ.out, HX.out⟩
      case measure => simp [intOf]; omega
    · have hle : qs.length = L.length := by have := hq.1; omega
      have hi1 : ¬ (qs.length : Int) < (L.length : Int) := by omega
      have HX := Lib.hid (show ConfPost w0 w B b L (.returned _) wr from ⟨_, qs, g + 1, rfl, hle, hq, by rw [← HG.out]; omega, hL.tail⟩)
      clear hL hq hle
      go_wp2
      go_ret
      exact HX.out
end Go.Proofs.YtnnbnecpcppkdaaDoor
namespace Go.Proofs.YtnnbnecpcppkdaaDoor
open Go.RowKit Go.Gy
set_option linter.unusedVariables false
def ConfMk (w : World) (L : List (Lk × List P2)) (e : Ending) (w' : World) : Prop := ∃ (v : Value) (qs : List Q3) (lo : Nat), e = .returned v ∧ qs.length = L.length ∧ QsIn L qs ∧ w.heap.size ≤ lo ∧ w'.ownsRow lo 25 3 v qs.length (qs.flatMap encQ) ∧ Below w.heap.size w w'
set_option maxRecDepth 100000 in
set_option maxHeartbeats 4000000 in
theorem confMake (w : World) (a : Ar) (hG : GenAr a) (hA : a.At w w.heap.size) (v : Value) (l : List Int) (hv : SlI w w.heap.size v l) (hl : l.length ≤ 140737488355328) :
    Calls Tryd.prog 39 #[a.val, v] w (ConfMk w a.L) := by
  obtain ⟨A, m, c, rfl, hvr⟩ := id hv
  clear hvr
  have HG := Lib.hid hG
  have HA := Lib.hid hA
  obtain ⟨ar, har⟩ : ∃ ar, ar = a := ⟨_, rfl⟩
  rw [← har] at HG HA ⊢
  obtain ⟨nm, ⟨px, py⟩, hf, t, va, L⟩ := a
  obtain ⟨⟨A9, n9, c9, hva, _⟩, _⟩ := hA
  obtain rfl : va = .slice A9 n9 c9 := hva
  have hval : ar.val = .agg #[.string nm, .bool px.neg, .string px.num, .string px.den, .bool py.neg, .string py.num, .string py.den, .bool hf, .bool t.neg, .string t.num, .string t.den, .slice A9 n9 c9] := by rw [har]; rfl
  have HV := Lib.hid hval
  rw [hval]
  have hI := (In.start w).alloc 37 #[.string nm, .bool px.neg, .string px.num, .string px.den, .bool py.neg, .string py.num, .string py.den, .bool hf, .bool t.neg, .string t.num, .string t.den, .slice A9 n9 c9]
  have hsz := Lib.hid (World.size_alloc w (.cells #[.string nm, .bool px.neg, .string px.num, .string px.den, .bool py.neg, .string py.num, .string py.den, .bool hf, .bool t.neg, .string t.num, .string t.den, .slice A9 n9 c9] 37))
  clear har hval hG
  go_enter Tryd.func39, Tryd.ntmps39
  go_upto_region 1 with (fail)
  generalize World.alloc _ _ = w1 at hI hsz ⊢
  have hb1 : Below w1.heap.size w1 (w1.alloc (.cells #[.slice A m c] 103)) := (Below.refl _ _).alloc (Nat.le_refl _) _
  have hbe := hI.bel
  have hst : StrAt (w1.alloc (.cells #[.slice A m c] 103)) w.heap.size w1.heap.size := ⟨_, l, Blk.new _ _ _, hv.below (hbe.trans (hb1.mono hbe.size)), hl⟩
  have h0 : InS w w.heap.size w1.heap.size [] (w1.alloc (.cells #[.slice A m c] 103)) := ⟨⟨hbe.trans (hb1.mono hbe.size), by simp, by simp, by simp⟩, hst, by simp⟩
  have HP := Lib.hid (conf_any w _ w.heap.size w1.heap.size ar HG.out HA.out h0 hbe.size hbe.size)
  rw [HV.out] at HP
  have hT := hI
  have fx := hT.facts
  simp only [factsOf, cellsOf, Nat.zero_add, Nat.reduceAdd] at fx
  have hss := Lib.hid (Nat.le_trans hbe.size hb1.size)
  clear hv hl hst h0 hb1 hbe hT HV HG HA
  go_wp2_with fail
  refine HP.out.mono ?_
  rintro e wn ⟨v', qs, lo, rfl, hq, hqs, hlo, hO⟩
  have HX := Lib.hid (show ConfMk w ar.L (.returned v') wn from ⟨v', qs, lo, rfl, hq, hqs, Nat.le_trans hss.out hlo, hO.own, hO.toIn.bel⟩)
  clear hq hqs hlo hO fx HP
  go_wp2
  go_ret
  exact HX.out
end Go.Proofs.YtnnbnecpcppkdaaDoor
