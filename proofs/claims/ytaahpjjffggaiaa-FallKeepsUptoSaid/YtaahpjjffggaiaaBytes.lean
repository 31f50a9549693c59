/- Slices of bytes: slices.Grow, Concat, Equal, Clone at bytes. Conditions: those typed. -/
import Derived.Test.YtaahpjjffggaiaaSum
import Derived.Lib.AppendZerosOnto
import Derived.Lib.SliceRun
namespace Go.Proofs.Ytaahpjjffggaiaa
open Go.RowKit Go.Gy
set_option linter.unusedVariables false

/-- The value v reads as the bytes r, below block B. -/
def SlB (w : World) (B : Nat) (v : Value) (r : List Nat) : Prop := ∃ A n c, v = .slice A n c ∧ r.length = n ∧ n ≤ c ∧ (A = none → c = 0) ∧ Rd w B 1 A n (r.map bv)
theorem SlB.below {w w' : World} {B : Nat} {v : Value} {r : List Nat} (h : SlB w B v r) (hb : Below B w w') : SlB w' B v r := by
  obtain ⟨A, n, c, h1, h2, h3, h4, h5⟩ := h
  exact ⟨A, n, c, h1, h2, h3, h4, h5.below hb⟩
theorem SlB.more {w : World} {B B' : Nat} {v : Value} {r : List Nat} (h : SlB w B v r) (hB : B ≤ B') : SlB w B' v r := by
  obtain ⟨A, n, c, h1, h2, h3, h4, h5⟩ := h
  exact ⟨A, n, c, h1, h2, h3, h4, h5.more hB⟩
theorem SlB.own {w : World} {base n : Nat} {v : Value} {r : List Nat} (h : w.ownsRow base 5 1 v n (r.map bv)) : SlB w w.heap.size v r := by
  have hl := h.1
  obtain ⟨A, c, rfl, h1, _, h2⟩ := own_rd h
  exact ⟨A, n, c, rfl, by simpa using hl, h1, fun hA => (own_none h hA).2, h2⟩
/-- several -/
def SlsB (w : World) (B : Nat) (vs : List Value) (rs : List (List Nat)) : Prop := vs.length = rs.length ∧ ∀ (i : Nat) (v : Value) (r : List Nat), vs[i]? = some v → rs[i]? = some r → SlB w B v r
theorem SlsB.below {w w' : World} {B : Nat} {vs : List Value} {rs : List (List Nat)} (h : SlsB w B vs rs) (hb : Below B w w') : SlsB w' B vs rs := ⟨h.1, fun i v r h1 h2 => (h.2 i v r h1 h2).below hb⟩
theorem SlsB.more {w : World} {B B' : Nat} {vs : List Value} {rs : List (List Nat)} (h : SlsB w B vs rs) (hB : B ≤ B') : SlsB w B' vs rs := ⟨h.1, fun i v r h1 h2 => (h.2 i v r h1 h2).more hB⟩

theorem SlsB.nil (w : World) (B : Nat) : SlsB w B [] [] := ⟨rfl, fun i v r h => by simp at h⟩
theorem SlsB.cons {w : World} {B : Nat} {v : Value} {r : List Nat} {vs : List Value} {rs : List (List Nat)} (h : SlB w B v r) (hs : SlsB w B vs rs) : SlsB w B (v :: vs) (r :: rs) := by
  refine ⟨by simp [hs.1], fun i v' r' h1 h2 => ?_⟩
  cases i with
  | zero => simp at h1 h2; subst h1 h2; exact h
  | succ i => exact hs.2 i v' r' (by simpa using h1) (by simpa using h2)
theorem bv_one (r : List Nat) : ∀ u ∈ r.map bv, u.oneCell' = true := by
  intro u hu
  obtain ⟨x, _, rfl⟩ := List.mem_map.1 hu
  rfl
theorem info_byte : (Try.prog.info? 5).map (fun i => (i.zero, i.size, i.bytes)) = some (some (.int .u8 0), 1, 1) := by kernel_rfl

set_option maxRecDepth 100000 in
set_option maxHeartbeats 1000000 in
theorem grow_bytes (w : World) (n : Nat) (hn : n ≤ 140737488355328) :
    Calls Try.prog 57 #[.slice none 0 0, .int .i64 n] w fun e w' => ∃ v, e = .returned v ∧ w'.ownsRow w.heap.size 5 1 v 0 [] ∧ Below w.heap.size w w' := by
  obtain ⟨i0, hi, hz0, hz1, hz2⟩ := info_parts info_byte
  by_cases h0 : n = 0
  · subst h0
    go_enter Try.func57, Try.ntmps57
    go_wp2
    go_ret
    exact ⟨_, rfl, World.ownsRow_nil _ _ _ _, Below.refl _ _⟩
  · have hrz : ∀ ty, (Builtin.append_ #[33, 3] ty #[.slice none 0 0, .int .i64 n]).run Try.prog w =
        .ok (.slice (some ⟨w.heap.size, 0, none⟩) n (grownCap w n 0 5)) (w.drew.alloc (.cells (([] : List Value).toArray ++ Builtin.zeroCells (Value.int .u8 0).cells n ++ Builtin.zeroCells (Value.int .u8 0).cells (grownCap w n 0 5 - n)) 5)) := fun ty => by
      have h := Lib.run_append_grow_zeros w 33 3 ty 5 i0 (.int .u8 0) .i64 .i64 Try.underlying33 Try.underlying3 hi hz0 none 0 0 [] (run_firstCells_none w.drew i0.size 0 0 0) n (by omega) (by omega) (by omega) (by omega)
        (by rw [hz2]; omega) (by rw [hz2]; have := growslice_fits (need := 0 + n) (old := 0) (bytes := 1) (by omega) (by omega); exact this)
      simpa using h
    have hGn : n ≤ grownCap w n 0 5 := grownCap_ge w _ _ _
    have hG63 : grownCap w n 0 5 ≤ maxLen := grownCap_le_maxLen w n 0 5 (by unfold maxLen; omega)
    obtain ⟨G, hG⟩ : ∃ G, G = grownCap w n 0 5 := ⟨_, rfl⟩
    rw [← hG] at hrz hGn hG63
    clear hG
    have hn0 : (0 : Int) < (n : Int) := by omega
    have hG2 : G ≤ 9223372036854775807 := by unfold maxLen at hG63; omega
    go_enter Try.func57, Try.ntmps57
    go_wp2_with (at_builtin; refine Lib.wpList_append_run _ rfl _ _ _ _ rfl _ _ rfl rfl _ _ (hrz _) ?_)
    go_ret
    refine ⟨_, rfl, ?_, ?_⟩
    · refine World.ownsRow_made (e := 5) (size := 1) w.drew _ G (Nat.le_refl _) hG63 ?_
      simp [size_zeroCells]; omega
    · exact (Below.refl _ w).drew.alloc (Nat.le_refl _) _

/-- the bytes of the first k -/
def joined (rs : List (List Nat)) (k : Nat) : List Nat := (rs.take k).flatten
theorem joined_snoc (rs : List (List Nat)) (k : Nat) (r : List Nat) (h : rs[k]? = some r) : joined rs (k + 1) = joined rs k ++ r := by
  unfold joined; rw [List.take_add_one, h]; simp
theorem joined_le (rs : List (List Nat)) (k : Nat) : (joined rs k).length ≤ rs.flatten.length := by
  unfold joined
  have : rs = rs.take k ++ rs.drop k := (List.take_append_drop k rs).symm
  conv => rhs; rw [this]
  rw [List.flatten_append, List.length_append]; exact Nat.le_add_right _ _

set_option maxRecDepth 100000 in
set_option maxHeartbeats 2000000 in
theorem concat_bytes (w : World) (A : Option Addr) (m c : Nat) (vs : List Value) (rs : List (List Nat)) (hm : vs.length = m) (hm1 : m ≤ 70368744177664) (hr : Rd w w.heap.size 1 A m vs) (hs : SlsB w w.heap.size vs rs) (hb : rs.flatten.length ≤ 70368744177664) :
    Calls Try.prog 21 #[.slice A m c] w fun e w' => ∃ v, e = .returned v ∧ w'.ownsRow w.heap.size 5 1 v rs.flatten.length (rs.flatten.map bv) ∧ Below w.heap.size w w' := by
  obtain ⟨i0, hi, hz0, hz1, hz2⟩ := info_parts info_byte
  have Hs := Lib.hid hs
  have Hm := Lib.hid hm
  have Hrm := Lib.hid (show rs.length = m from hs.1.symm.trans hm)
  clear hs hm
  go_enter Try.func21, Try.ntmps21
  go_wp2
  go_loop [3, 11] (fun q i => ∃ k jl : Nat, k ≤ m ∧ i = .int .i64 k ∧ q = .int .i64 jl ∧ jl = (joined rs k).length) (fun _ i => m - (intOf i).toNat)
  case atStart => exact ⟨0, 0, Nat.zero_le _, rfl, rfl, rfl⟩
  case round =>
    obtain ⟨k, jl, hk, rfl, rfl, hj⟩ := hrel
    have hjl : jl ≤ 70368744177664 := by rw [hj]; exact Nat.le_trans (joined_le rs k) hb
    have Hj := Lib.hid hj
    clear hj
    by_cases hlt : k < m
    · obtain ⟨b, o, u, rfl, hbb, hu, hc⟩ := hr.at_ hlt
      have hrk : rs[k]? = some (rs[k]'(by have := Hrm.out; omega)) := List.getElem?_eq_getElem _
      obtain ⟨A', n', c', rfl, h1, h2, h3, h4⟩ := Hs.out.2 k u _ hu hrk
      have hsum : (joined rs (k + 1)).length = jl + n' := by rw [joined_snoc rs k _ hrk, List.length_append, h1, Hj.out]
      have hb1 : jl + n' ≤ 70368744177664 := by rw [← hsum]; exact Nat.le_trans (joined_le rs (k + 1)) hb
      have HS := Lib.hid hsum
      clear hsum h4 hu hrk h1
      go_wp2
      go_round
      case rel => exact ⟨k + 1, jl + n', by omega, by go_num, by go_num, HS.out.symm⟩
      case measure => simp [intOf]; omega
    · obtain rfl : k = m := by omega
      have e : jl = rs.flatten.length := by rw [Hj.out]; unfold joined; rw [List.take_of_length_le (by rw [Hrm.out]; omega)]
      have He := Lib.hid e
      clear e
      go_wp2_with fail
      refine (grow_bytes _ jl (by omega)).mono ?_
      rintro e w1 ⟨v1, rfl, hown1, hb1⟩
      obtain ⟨A1, c1, rfl, _, _, _⟩ := own_rd hown1
      have hr1 := hr.below hb1
      have Hs1 := Lib.hid (Hs.out.below hb1)
      have hz := hb1.size
      go_wp2
      go_loopw [6, 27] (fun v i wr => ∃ k' jl' : Nat, k' ≤ k ∧ i = .int .i64 k' ∧ jl' = (joined rs k').length ∧ wr.ownsRow w.heap.size 5 1 v jl' ((joined rs k').map bv) ∧ Below w.heap.size w wr) (fun _ i _ => k - (intOf i).toNat)
      case atStart => exact ⟨0, 0, Nat.zero_le _, rfl, rfl, hown1, hb1⟩
      case round =>
        obtain ⟨k', jl', hk', rfl, hj', hown, hbw⟩ := hrel
        have hjl' : jl' ≤ 70368744177664 := by rw [hj']; exact Nat.le_trans (joined_le rs k') hb
        have Hj' := Lib.hid hj'
        clear hj'
        have hzr := hbw.size
        by_cases hlt' : k' < k
        · obtain ⟨b, o, u, rfl, hbb, hu, hc⟩ := (hr.below hbw).at_ hlt'
          have hrk : rs[k']? = some (rs[k']'(by have := Hrm.out; omega)) := List.getElem?_eq_getElem _
          obtain ⟨A', n', c', rfl, h1, h2, h3, h4⟩ := (Hs.out.below hbw).2 k' u _ hu hrk
          have hsum : (joined rs (k' + 1)).length = jl' + n' := by rw [joined_snoc rs k' _ hrk, List.length_append, h1, Hj'.out]
          have hbd : jl' + n' ≤ 70368744177664 := by rw [← hsum]; exact Nat.le_trans (joined_le rs (k' + 1)) hb
          have HS := Lib.hid hsum
          have HJ := Lib.hid (joined_snoc rs k' _ hrk)
          clear hsum hu hrk h1
          go_wp2_with (at_builtin; refine wpList_extend rfl (.tmp 31) (.tmp 32) 33 rfl w.heap.size 5 i0 (.int .u8 0) 1 1 Try.underlying33 hi hz0 hz1 hz2 rfl (by omega) _ _ _ rfl hown A' n' c' w.heap.size _ rfl h3 h4 (bv_one _) (by unfold maxLen; omega) (by omega) hzr ?_; intro v2 w2 hown2 hb2; obtain ⟨A2, c2, rfl, _, _, _⟩ := own_rd hown2)
          go_roundw
          case rel => exact ⟨k' + 1, jl' + n', by omega, by go_num, HS.out.symm, by rw [HJ.out, List.map_append]; exact hown2, hbw.trans hb2⟩
          case measure => simp [intOf]; omega
        · obtain rfl : k' = k := by omega
          obtain ⟨A2, c2, rfl, _, _, _⟩ := own_rd hown
          go_wp2
          go_ret
          have e : joined rs k' = rs.flatten := by unfold joined; rw [List.take_of_length_le (by rw [Hrm.out]; omega)]
          rw [e, Hj'.out, e] at hown
          rw [e] at Hj'
          rw [Hj'.out]
          exact ⟨_, rfl, hown, hbw⟩

set_option maxRecDepth 100000 in
set_option maxHeartbeats 2000000 in
theorem equal_bytes (w : World) (v v' : Value) (B : Nat) (xs ys : List Nat) (hx : SlB w B v xs) (hy : SlB w B v' ys) (hbx : xs.length ≤ 140737488355328) (hby : ys.length ≤ 140737488355328) :
    Calls Try.prog 27 #[v, v'] w fun e w' => e = .returned (.bool (decide (xs = ys))) ∧ ∃ q, w' = w.drewN q := by
  obtain ⟨A, n, c, rfl, hxl, _, _, hr⟩ := hx
  obtain ⟨A', m, c', rfl, hyl, _, _, hs⟩ := hy
  rw [hxl] at hbx
  rw [hyl] at hby
  by_cases hnm : n = m
  · subst hnm
    have HX := Lib.hid hxl
    have HY := Lib.hid hyl
    clear hxl hyl hby
    go_enter Try.func27, Try.ntmps27
    go_wp2
    go_loopw [13] (fun i wr => ∃ k q : Nat, k ≤ n ∧ i = .int .i64 k ∧ Hid (xs.take k = ys.take k) ∧ wr = w.drewN q) (fun i _ => n - (intOf i).toNat)
    case atStart => exact ⟨0, 0, Nat.zero_le _, rfl, rfl, rfl⟩
    case round =>
      obtain ⟨k, q, hk, rfl, Hag, rfl⟩ := hrel
      by_cases hlt : k < n
      · obtain ⟨b, o, x, rfl, hb, hf, c0⟩ := bv_at hr hlt
        obtain ⟨b', o', y, rfl, hb', hf', d0⟩ := bv_at hs hlt
        have Hf := Lib.hid hf
        have Hf' := Lib.hid hf'
        clear hf hf'
        have hlt' : (k : Int) < (n : Int) := by omega
        by_cases he : x = y
        · subst he
          go_wp2
          go_quiet (fail)
          go_wp2
          go_roundw
          case rel => exact ⟨k + 1, _, by omega, by go_num, by have := Hag.out; show xs.take (k + 1) = ys.take (k + 1); rw [List.take_add_one, List.take_add_one, this, Hf.out, Hf'.out], rfl⟩
          case measure => simp [intOf]; omega
        · have hneq : ((x : Int) != (y : Int)) = true := by simp; omega
          go_wp2
          go_quiet (fail)
          go_wp2
          go_ret
          refine ⟨ret_bool ?_, q + nq, by rw [World.drewN_drewN]⟩
          symm
          rw [decide_eq_false_iff_not]
          intro e
          subst e
          rw [Hf.out] at Hf'
          have := Hf'.out
          simp at this
          exact he this
      · obtain rfl : k = n := by omega
        go_wp2
        go_ret
        refine ⟨ret_bool ?_, _, rfl⟩
        symm
        rw [decide_eq_true_iff]
        have := Hag.out
        rwa [List.take_of_length_le (by rw [HX.out]; omega), List.take_of_length_le (by rw [HY.out]; omega)] at this
  · have hb : ((n : Int) == (m : Int)) = false := by simp; omega
    have hd : decide (xs = ys) = false := by
      rw [decide_eq_false_iff_not]; intro e; subst e; exact hnm (hxl.symm.trans hyl)
    rw [hd]
    clear hxl hyl hr hs hd
    go_enter Try.func27, Try.ntmps27
    go_wp2
    go_ret
    exact ⟨rfl, 0, rfl⟩

set_option maxRecDepth 100000 in
set_option maxHeartbeats 1000000 in
theorem clone_bytes (w : World) (v : Value) (xs : List Nat) (hx : SlB w w.heap.size v xs) (hb : xs.length ≤ 70368744177664) :
    Calls Try.prog 19 #[v] w fun e w' => ∃ v', e = .returned v' ∧ w'.ownsRow w.heap.size 5 1 v' xs.length (xs.map bv) ∧ Below w.heap.size w w' := by
  obtain ⟨i0, hi, hz0, hz1, hz2⟩ := info_parts info_byte
  obtain ⟨A, n, c, rfl, hxl, hnc, hA, hr⟩ := hx
  rw [hxl] at hb ⊢
  clear hxl
  have he := fun w => Lib.run_eql_slice_nil (P := Try.prog) w 33 5 A n c 0 0 Try.underlying33
  cases A with
  | none =>
    have hc := hA rfl
    subst hc
    obtain rfl : n = 0 := by omega
    have hx0 : xs = [] := List.eq_nil_of_length_eq_zero (by simpa using hr.1)
    subst hx0
    clear hr hA hnc
    go_enter Try.func19, Try.ntmps19
    go_wp2
    go_ret
    exact ⟨_, rfl, World.ownsRow_nil _ _ _ _, Below.refl _ _⟩
  | some ad =>
    clear hA
    go_enter Try.func19, Try.ntmps19
    go_wp2_with (at_builtin; refine wpList_extend rfl (.tmp 5) (.tmp 6) 33 rfl w.heap.size 5 i0 (.int .u8 0) 1 1 Try.underlying33 hi hz0 hz1 hz2 rfl (by omega) _ _ _ rfl (World.ownsRow_lit w #[] 0 (Nat.le_refl _) (by omega) rfl) (some ad) n c w.heap.size (xs.map bv) rfl (fun h => by cases h) (hr.alloc (Nat.le_refl _) _) (bv_one xs) (by unfold maxLen; omega) (by omega) (by simp) ?_; intro v1 w1 hown1 hb1)
    obtain ⟨A1, c1, rfl, _, _, _⟩ := own_rd hown1
    go_wp2
    go_ret
    exact ⟨_, rfl, by simpa using hown1, ((Below.refl _ _).alloc (Nat.le_refl _) _).trans hb1⟩

/-- a number's four bytes, two bytes, the most significant one first -/
def be4 (n : Nat) : List Nat := [n / 16777216 % 256, n / 65536 % 256, n / 256 % 256, n % 256]
def be2 (n : Nat) : List Nat := [n / 256 % 256, n % 256]
theorem be4_lt (n : Nat) : ∀ x ∈ be4 n, x < 256 := by intro x hx; simp [be4] at hx; omega
theorem be2_lt (n : Nat) : ∀ x ∈ be2 n, x < 256 := by intro x hx; simp [be2] at hx; omega

theorem four_any (w : World) (x : Nat) (hx : x < 4294967296) :
    Calls Try.prog 76 #[.int .u32 x] w fun e w' => ∃ v', e = .returned v' ∧ w'.ownsRow w.heap.size 5 1 v' 4 ((be4 x).map bv) ∧ Below w.heap.size w w' := by
  have ho := World.ownsRow_lit (e := 5) (size := 1) (base := w.heap.size) w #[.int .u8 ((x : Int) / 16777216), .int .u8 ((x : Int) / 65536 % 256), .int .u8 ((x : Int) / 256 % 256), .int .u8 ((x : Int) % 256)] 4 (Nat.le_refl _) (by decide) rfl
  have hl : (#[Value.int .u8 ((x : Int) / 16777216), .int .u8 ((x : Int) / 65536 % 256), .int .u8 ((x : Int) / 256 % 256), .int .u8 ((x : Int) % 256)] : Array Value).toList = (be4 x).map bv := by
    simp [be4, bv]; omega
  rw [hl] at ho
  clear hl
  have HO := Lib.hid ho
  clear ho
  go_enter Try.func76, Try.ntmps76
  go_wp2
  go_ret
  exact ⟨_, rfl, HO.out, (Below.refl _ _).alloc (Nat.le_refl _) _⟩
theorem mfour_any (w : World) (x : Nat) (hx : x < 4294967296) :
    Calls Try.prog 53 #[.int .u32 x] w fun e w' => ∃ v', e = .returned v' ∧ w'.ownsRow w.heap.size 5 1 v' 4 ((be4 x).map bv) ∧ Below w.heap.size w w' := by
  have ho := World.ownsRow_lit (e := 5) (size := 1) (base := w.heap.size) w #[.int .u8 ((x : Int) / 16777216), .int .u8 ((x : Int) / 65536 % 256), .int .u8 ((x : Int) / 256 % 256), .int .u8 ((x : Int) % 256)] 4 (Nat.le_refl _) (by decide) rfl
  have hl : (#[Value.int .u8 ((x : Int) / 16777216), .int .u8 ((x : Int) / 65536 % 256), .int .u8 ((x : Int) / 256 % 256), .int .u8 ((x : Int) % 256)] : Array Value).toList = (be4 x).map bv := by
    simp [be4, bv]; omega
  rw [hl] at ho
  clear hl
  have HO := Lib.hid ho
  clear ho
  go_enter Try.func53, Try.ntmps53
  go_wp2
  go_ret
  exact ⟨_, rfl, HO.out, (Below.refl _ _).alloc (Nat.le_refl _) _⟩
end Go.Proofs.Ytaahpjjffggaiaa
