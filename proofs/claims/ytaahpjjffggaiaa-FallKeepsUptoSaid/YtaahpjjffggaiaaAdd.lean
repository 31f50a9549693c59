/- log.Add, log.Read, log.Whole. Conditions: those typed. -/
import Derived.Test.YtaahpjjffggaiaaScan
import Derived.Test.YtaahpjjffggaiaaAddPlain
namespace Go.Proofs.Ytaahpjjffggaiaa
open Go.RowKit Go.Gy
set_option linter.unusedVariables false

def AddPost (w : World) (b r : List Nat) (e : Ending) (w' : World) : Prop := ∃ v' n, e = .returned (.tuple #[v', .int .i64 (addE b r : Nat)]) ∧ w'.ownsRow w.heap.size 5 1 v' n ((addB b r).map bv) ∧ Below w.heap.size w w'
theorem AddPost.bad {w w' : World} {b r : List Nat} {x : Int} (h : addE b r ≠ 0) (hx : x = (addE b r : Nat)) (hb : Below w.heap.size w w') : AddPost w b r (.returned (.tuple #[.slice none 0 0, .int .i64 x])) w' := by
  refine ⟨_, 0, by rw [hx], ?_, hb⟩
  unfold addB
  rw [if_neg h]
  exact World.ownsRow_nil _ _ _ _

theorem AddPost.good {w w' : World} {b r : List Nat} {v' : Value} {n : Nat} {xs : List Value} (h : addE b r = 0) (hx : xs = (b.take (scanL b).2.1 ++ (be2 r.length ++ (r ++ be4 (rsum (scanL b).2.2 r)))).map bv) (ho : w'.ownsRow w.heap.size 5 1 v' n xs) (hb : Below w.heap.size w w') : AddPost w b r (.returned (.tuple #[v', .int .i64 0])) w' := by
  refine ⟨_, n, by rw [h]; rfl, ?_, hb⟩
  unfold addB
  rw [if_pos h, ← hx]
  exact ho
theorem scanL_last {b : List Nat} (h8 : ∀ x ∈ b, x < 256) : (scanL b).2.2 < 4294967296 := by
  obtain ⟨_, _, _, h4, h5⟩ := scanL_spec h8
  rw [h4]
  have : ∀ (rs : List (List Nat)) (l : Nat), l < 4294967296 → (∀ r ∈ rs, ∀ x ∈ r, x < 256) → lastF l rs < 4294967296 := by
    intro rs
    induction rs with
    | nil => intro l hl _; exact hl
    | cons r rs ih => intro l hl h; exact ih (rsum l r) (rsum_lt l r (h r (by simp))) fun q hq => h q (by simp [hq])
  exact this _ 0 (by omega) fun r hr => (h5 r hr).2

set_option maxRecDepth 100000 in
set_option maxHeartbeats 4000000 in
theorem add_any (w : World) (v v2 : Value) (b r : List Nat) (hv : SlB w w.heap.size v b) (hv2 : SlB w w.heap.size v2 r) (hn : b.length ≤ 1048576) (h8 : ∀ x ∈ b, x < 256) (hr8 : ∀ x ∈ r, x < 256) :
    Calls Try.prog 50 #[v, v2] w (AddPost w b r) := by
  have Hscan := Lib.hid (scan_any w v b hv hn h8)
  obtain ⟨A, n, c, rfl, hbl, hnc, hA, hr⟩ := hv
  obtain ⟨A2, m, c2, rfl, hrl, hmc, hA2, hr2⟩ := hv2
  obtain ⟨i0, hi, hz0, hz1, hz2⟩ := info_parts info_byte
  have Hbl := Lib.hid hbl
  have Hrl := Lib.hid hrl
  have H8 := Lib.hid h8
  have Hr8 := Lib.hid hr8
  have HA := Lib.hid hA
  have HA2 := Lib.hid hA2
  rw [hbl] at hn
  obtain ⟨s1, s2, hs2, hs3, hs4⟩ := scanL_spec h8
  obtain ⟨s, hs⟩ : ∃ s, s = (scanL b).2.1 := ⟨_, rfl⟩
  obtain ⟨l, hl⟩ : ∃ l, l = (scanL b).2.2 := ⟨_, rfl⟩
  have hsn : s ≤ n := by rw [hs, ← hbl]; exact s2
  have Hs := Lib.hid hs
  have Hl := Lib.hid hl
  clear hbl hrl h8 hr8 hA hA2 s1 s2 hs2 hs3 hs4 hs hl
  by_cases hbig : 2000 < m
  · have hbig' : (2000 : Int) < (m : Int) := by omega
    have He := Lib.hid (show addE b r = 2 by unfold addE; rw [if_pos (by rw [Hrl.out]; exact hbig)])
    go_enter Try.func50, Try.ntmps50
    go_wp2
    go_ret2
    exact AddPost.bad (by rw [He.out]; decide) (by rw [He.out]; rfl) (Below.refl _ _)
  · have hbig' : ¬ (2000 : Int) < (m : Int) := by omega
    go_enter Try.func50, Try.ntmps50
    go_wp2_with fail
    refine Hscan.out.mono ?_
    rintro e w1 ⟨v1, vs, rfl, hown1, hob1, hb1⟩
    rw [← Hs.out, ← Hl.out]
    have hz1' : w.heap.size ≤ w1.heap.size := hb1.size
    clear hown1 hob1 Hscan
    have hr1 := hr.below hb1
    have hr21 := hr2.below hb1
    clear hr hr2
    by_cases hfull : 100000 < s + 6 + m
    · have hfull' : (100000 : Int) < (s : Int) + 6 + (m : Int) := by omega
      have He := Lib.hid (show addE b r = 6 by unfold addE; rw [if_neg (by rw [Hrl.out]; exact hbig), if_pos (by rw [← Hs.out, Hrl.out]; exact hfull)])
      go_wp2_with fail
      go_ret2
      exact AddPost.bad (by rw [He.out]; decide) (by rw [He.out]; rfl) hb1
    · have hfull' : ¬ (100000 : Int) < (s : Int) + 6 + (m : Int) := by omega
      have He := Lib.hid (show addE b r = 0 by unfold addE; rw [if_neg (by rw [Hrl.out]; exact hbig), if_neg (by rw [← Hs.out, Hrl.out]; exact hfull)])
      have hsrc := hr1.take (k := s) hsn
      rw [← List.map_take, Nat.mul_one] at hsrc
      have He2 := Lib.hid (show (be2 m).map bv = [.int .u8 ((m : Int) / 256), .int .u8 ((m : Int) % 256)] by simp [be2, bv]; omega)
      have hl32 : l < 4294967296 := by rw [Hl.out]; exact scanL_last H8.out
      have hrs := rsum_lt l r Hr8.out
      have hA' := HA.out
      clear HA hr1
      have hcases : A = none ∧ n = 0 ∧ c = 0 ∧ s = 0 ∨ (∃ ad, A = some ad ∧ n = 0 ∧ c = 0 ∧ s = 0) ∨ ∃ ad, A = some ad ∧ ¬ c = 0 := by
        cases A with
        | some ad =>
          by_cases hc : c = 0
          · exact .inr (.inl ⟨ad, rfl, by omega, hc, by omega⟩)
          · exact .inr (.inr ⟨ad, rfl, hc⟩)
        | none =>
          have hc := hA' rfl
          exact .inl ⟨rfl, by omega, hc, by omega⟩
      have HS := Lib.hid hsrc
      clear hsrc hA'
      rcases hcases with ⟨rfl, rfl, rfl, rfl⟩ | ⟨ad, rfl, rfl, rfl, rfl⟩ | ⟨ad, rfl, hc0⟩
      all_goals
        go_wp2_with (first
          | (at_builtin; refine wpList_extend rfl (.tmp 25) (.tmp 28) 33 rfl w1.heap.size 5 i0 (.int .u8 0) 1 1 Try.underlying33 hi hz0 hz1 hz2 rfl (by omega) _ _ _ rfl (World.ownsRow_lit w1 #[] 0 (Nat.le_refl _) (by omega) rfl) _ _ _ w.heap.size _ rfl (by simp) (HS.out.alloc hz1' _) (bv_one _) (by unfold maxLen; omega) (by omega) (by simp) ?_; intro v3 w3 hn3 hb3; simp only [Nat.zero_add, List.nil_append] at hn3; obtain ⟨A3, c3, rfl, _, _, _⟩ := own_rd hn3; have hq3 : Below w1.heap.size w1 w3 := ((Below.refl _ _).alloc (Nat.le_refl _) _).trans hb3)
          | (at_builtin; refine wpList_extend rfl (.tmp 30) (.tmp 38) 33 rfl w1.heap.size 5 i0 (.int .u8 0) 1 1 Try.underlying33 hi hz0 hz1 hz2 rfl (by omega) _ _ _ rfl (hn3.alloc _) _ _ _ (w3.heap.size + 1) ((be2 m).map bv) rfl (by simp) (by rw [He2.out]; exact Rd.lit w3 5 [_, _] 1 2 rfl) (bv_one _) (by unfold maxLen; omega) (by omega) (by simp; exact Nat.le_succ_of_le (Nat.le_trans (by simp) hb3.size)) ?_; intro v4 w4 hn4 hb4; obtain ⟨A4, c4, rfl, _, _, _⟩ := own_rd hn4; have hq4 : Below w1.heap.size w1 w4 := (hq3.alloc hq3.size _).trans hb4)
          | (at_builtin; refine wpList_extend rfl (.tmp 40) (.tmp 41) 33 rfl w1.heap.size 5 i0 (.int .u8 0) 1 1 Try.underlying33 hi hz0 hz1 hz2 rfl (by omega) _ _ _ rfl hn4 A2 m c2 w.heap.size _ rfl HA2.out (hr21.below (hq4.mono hz1')) (bv_one _) (by unfold maxLen; omega) (by omega) hq4.size ?_; intro v5 w5 hn5 hb5; obtain ⟨A5, c5, rfl, _, _, _⟩ := own_rd hn5; have hq5 : Below w1.heap.size w1 w5 := hq4.trans hb5))
        refine (lsum_any _ l _ r hl32 (⟨A2, m, c2, rfl, Hrl.out, hmc, HA2.out, (hr21.below (hq5.mono hz1')).more (Nat.le_trans hz1' hq5.size)⟩) (by rw [Hrl.out]; omega) Hr8.out).mono ?_
        rintro e w6 ⟨rfl, hb6⟩
        have hn6 := own_below hn5 hb6 (Nat.le_refl _)
        have hq6 := hq5.trans (hb6.mono hq5.size)
        clear hb6 hn5
        go_wp2_with fail
        refine (four_any _ (rsum l r) hrs).mono ?_
        rintro e w7 ⟨v7, rfl, ho7, hb7⟩
        obtain ⟨A7, c7, rfl, _, _, hr7⟩ := own_rd ho7
        have hn7 := own_below hn6 hb7 (Nat.le_refl _)
        have hq7 := hq6.trans (hb7.mono hq6.size)
        have hA7 := fun h => (own_none ho7 h).2
        clear hb7 hn6 ho7
        go_wp2_with (at_builtin; refine wpList_extend rfl (.tmp 43) (.tmp 47) 33 rfl w1.heap.size 5 i0 (.int .u8 0) 1 1 Try.underlying33 hi hz0 hz1 hz2 rfl (by omega) _ _ _ rfl hn7 A7 4 c7 _ _ rfl hA7 hr7 (bv_one _) (by unfold maxLen; omega) (by omega) hq7.size ?_; intro v8 w8 hn8 hb8)
        go_ret2
        exact AddPost.good He.out (by rw [← Hs.out, ← Hl.out, Hrl.out]; simp) (own_mono hn8 hz1') (hb1.trans ((hq7.trans hb8).mono hz1'))

/-- what Read leaves -/
def ReadPost (w : World) (b : List Nat) (e : Ending) (w' : World) : Prop := ∃ (v' : Value) (vs : List Value), e = .returned (.tuple #[v', .int .i64 ((scanL b).2.1 : Nat)]) ∧ w'.ownsRow w.heap.size 33 1 v' vs.length vs ∧ OwnB w' w.heap.size vs (scanL b).1 ∧ Below w.heap.size w w'
set_option maxRecDepth 100000 in
set_option maxHeartbeats 4000000 in
theorem read_any (w : World) (v : Value) (b : List Nat) (hv : SlB w w.heap.size v b) (hn : b.length ≤ 1048576) (h8 : ∀ x ∈ b, x < 256) :
    Calls Try.prog 65 #[v] w (ReadPost w b) := by
  have Hscan := Lib.hid (scan_any w v b hv hn h8)
  clear hv hn h8
  go_enter Try.func65, Try.ntmps65
  go_wp2_with fail
  refine Hscan.out.mono ?_
  rintro e w1 ⟨v1, vs, rfl, hown1, hob1, hb1⟩
  clear Hscan
  have HO := Lib.hid hown1
  have HB := Lib.hid hob1
  clear hown1 hob1
  obtain ⟨s, hs⟩ : ∃ s, s = (scanL b).2.1 := ⟨_, rfl⟩
  obtain ⟨l, hl⟩ : ∃ l, l = (scanL b).2.2 := ⟨_, rfl⟩
  have Hs := Lib.hid hs
  rw [← hs, ← hl]
  clear hs hl
  go_wp2
  go_ret2
  refine ⟨_, vs, ?_, HO.out, HB.out, hb1⟩
  rw [← Hs.out]
  rfl
end Go.Proofs.Ytaahpjjffggaiaa
