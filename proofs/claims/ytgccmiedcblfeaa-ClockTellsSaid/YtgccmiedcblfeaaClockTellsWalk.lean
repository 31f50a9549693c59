/- ClockTells' walk: it returns true. Conditions: the reach of the slices. -/
import Derived.Test.YtgccmiedcblfeaaTellsA
namespace Go.Proofs.Ytgccmiedcblfeaa.clockTells
open Go.RowKit Go.Gy
set_option linter.unusedVariables false

/-- The first index from k on of a reading that no other is later than. -/
def bestFrom (l : List Int) (k : Nat) : Int := match (l.drop k).findIdx? (okAt l) with
  | some j => (k + j : Nat)
  | none => -1
theorem best_end (l : List Int) : bestFrom l l.length = -1 := by simp [bestFrom]
theorem best_hit (l : List Int) (k : Nat) (a : Int) (h : l[k]? = some a) (hk : okAt l a = true) : bestFrom l k = k := by
  unfold bestFrom
  obtain ⟨hlt, he⟩ := List.getElem?_eq_some_iff.1 h
  rw [List.drop_eq_getElem_cons hlt, List.findIdx?_cons, he, hk]; rfl
theorem best_miss (l : List Int) (k : Nat) (a : Int) (h : l[k]? = some a) (hk : okAt l a = false) : bestFrom l k = bestFrom l (k + 1) := by
  unfold bestFrom
  obtain ⟨hlt, he⟩ := List.getElem?_eq_some_iff.1 h
  rw [List.drop_eq_getElem_cons hlt, List.findIdx?_cons, he, hk]
  cases (List.drop (k + 1) l).findIdx? (okAt l) with
  | none => rfl
  | some j => simp; omega
theorem best_zero (l : List Int) : bestFrom l 0 = latest l := by
  unfold bestFrom latest
  rw [List.drop_zero]
  cases l.findIdx? (okAt l) with
  | none => rfl
  | some j => simp
theorem best_ge (l : List Int) (k : Nat) : -1 ≤ bestFrom l k := by unfold bestFrom; split <;> omega
theorem not_any (l : List Int) (a : Int) : (!(l.any fun x => decide (0 < diff x a))) = okAt l a := by
  unfold okAt
  rw [List.not_any_eq_all_not]
  congr 1
  funext x
  by_cases h : 0 < diff x a <;> simp [h] <;> omega

theorem wrap_half {d : Int} (h0 : -2147483648 ≤ d) (h1 : d < 2147483648) : wrap32 (d.tdiv 2) = d.tdiv 2 := by
  have h : d.tdiv 2 = d / 2 ∨ d.tdiv 2 = d / 2 + 1 := by
    rw [Int.tdiv_eq_ediv]
    split
    · exact .inl (by omega)
    · exact .inr (by simp)
  unfold wrap32
  rcases h with h | h <;> rw [h] <;> omega
set_option maxRecDepth 100000 in
set_option maxHeartbeats 2000000 in
theorem walk (a0 a1 a2 a3 a4 : Int) (v5 v6 : Value) (w : World) (w0 : (Lit.int .u32 a0).wf = true) (w1 : (Lit.int .u32 a1).wf = true) (w2 : (Lit.int .i64 a2).wf = true) (w3 : (Lit.int .i64 a3).wf = true) (w4 : (Lit.int .i64 a4).wf = true)
    {b5 b6 : Nat} (f5 : SlArg encF wfF 3 24 w v5 b5) (f6 : SlArg (encI .u32) (wfI .u32) 1 4 w v6 b6) :
    Calls Try.prog 6 #[.int .u32 a0, .int .u32 a1, .int .i64 a2, .int .i64 a3, .int .i64 a4, v5, v6] w fun e w' => e = .returned (.bool true) ∧ Below w.heap.size w w' := by
  obtain ⟨A, n, c, fs, rfl, hl, hnc, hcm, hre, _, _, hr, _⟩ := f5
  obtain ⟨A', n', c', l, rfl, hl', hnc', hcm', hre', _, _, hr', hwf⟩ := f6
  rw [flat_int] at hr'
  have hn : n ≤ 35184372088832 := by simp only [reachBytes] at hre; omega
  have hn' : n' ≤ 35184372088832 := by simp only [reachBytes] at hre'; omega
  obtain ⟨s0, s1⟩ := wf_u32 w0
  obtain ⟨t0, t1⟩ := wf_u32 w1
  obtain ⟨u0, u1⟩ := wf_i64 w2
  obtain ⟨x0, x1⟩ := wf_i64 w3
  have Hl := Lib.hid hl
  have Hl' := Lib.hid hl'
  have Hwf := Lib.hid hwf
  clear hl hl' hwf w0 w1 w2 w3 w4 hnc hnc' hcm hcm' hre hre'
  have d1 : (diff 5 3 != 2) = false := by decide
  have d2 : (diff 0 4294967295 != 1) = false := by decide
  have d3 : ((a0 + a2) % 4294967296 != wrap64 (a0 + a2) % 4294967296) = false := by
    have : (a0 + a2) % 4294967296 = wrap64 (a0 + a2) % 4294967296 := by unfold wrap64; omega
    rw [← this]; simp
  go_enter Try.func6, Try.ntmps6
  go_wp2_with (first
    | (go_at_call 10; refine (diff_any _ _ _).mono ?_; rintro e w' ⟨rfl, rfl⟩)
    | (go_at_call 9; refine (after_any _ _ _).mono ?_; rintro e w' ⟨rfl, rfl⟩)
    | (go_at_call 16; refine (later_any _ _ _ s0 s1 t0 t1).mono ?_; rintro e w' ⟨rfl, rfl⟩))
  have hlb : ∀ wr, Below (w.heap.size + 1) (w.alloc (.cells #[.slice A' n' c'] 30)) wr → wr.cell? ⟨w.heap.size, 0, none⟩ = some (.slice A' n' c') := fun wr hb => by
    rw [hb.cell (p := ⟨w.heap.size, 0, none⟩) (by simp)]
    exact (Blk.new w 30 #[.slice A' n' c']).cell 0 _ rfl
  have Hlb := Lib.hid hlb
  clear hlb d3
  go_loopw [15, 51] (fun q i wr => ∃ k : Nat, k ≤ n ∧ i = .int .i64 k ∧ q = .int .i64 (lostTo fs k a4 a2) ∧ Below (w.heap.size + 1) (w.alloc (.cells #[.slice A' n' c'] 30)) wr) (fun _ i _ => n - (intOf i).toNat)
  case atStart => exact ⟨0, Nat.zero_le _, rfl, rfl, Below.refl _ _⟩
  case round =>
    obtain ⟨k, hk, rfl, rfl, hb⟩ := hrel
    have hle := lostTo_le fs k a4 a2
    have hsz := hb.size
    simp only [World.size_alloc] at hsz
    have hbw : Below w.heap.size w wr := ((Below.refl _ w).alloc (Nat.le_refl _) _).trans (hb.mono (by omega))
    by_cases hlt : k < n
    · obtain ⟨b, o, f, rfl, hbb, hf, hc⟩ := (hr.below hbw).elem encF_len Hl.out hlt
      obtain ⟨t, kd, m⟩ := f
      have c0 : wr.cell? ⟨b, o + k * 3, none⟩ = _ := hc 0 _ rfl
      have c1 := hc 1 _ rfl
      have c2 := hc 2 _ rfl
      clear hc
      have Hh := Lib.hid (lostTo_hit fs k a4 a2 _ hf)
      have Hm := Lib.hid (lostTo_miss fs k a4 a2 _ hf)
      clear hf
      have HB := Lib.hid hb
      clear hb hbw
      by_cases k5 : kd = 5
      · subst k5
        by_cases km : m = a4
        · subst km
          by_cases k0 : 0 ≤ t
          · by_cases k1 : t ≤ a2
            · go_wp2
              go_roundw
              case rel => exact ⟨k + 1, by omega, by go_num, by rw [Hh.out (by simp [drifts, k0, k1])]; go_num, (HB.out.alloc hsz _)⟩
              case measure => simp [intOf]; omega
            · go_wp2
              go_roundw
              case rel => exact ⟨k + 1, by omega, by go_num, by rw [Hm.out (by simp [drifts, k1])], (HB.out.alloc hsz _)⟩
              case measure => simp [intOf]; omega
          · go_wp2
            go_roundw
            case rel => exact ⟨k + 1, by omega, by go_num, by rw [Hm.out (by simp [drifts]; omega)], (HB.out.alloc hsz _)⟩
            case measure => simp [intOf]; omega
        · have kb : (m == a4) = false := by simpa using km
          go_wp2
          go_roundw
          case rel => exact ⟨k + 1, by omega, by go_num, by rw [Hm.out (by simp [drifts, km])], (HB.out.alloc hsz _)⟩
          case measure => simp [intOf]; omega
      · have kb : (kd == 5) = false := by simpa using k5
        go_wp2
        go_roundw
        case rel => exact ⟨k + 1, by omega, by go_num, by rw [Hm.out (by simp [drifts, k5])], (HB.out.alloc hsz _)⟩
        case measure => simp [intOf]; omega
    · obtain rfl : k = n := by omega
      have e : lostTo fs k a4 a2 = lost fs a4 a2 := by rw [← Hl.out]; simp [lostTo, lost]
      rw [e]
      rw [e] at hle
      clear e
      obtain ⟨q, hq⟩ : ∃ q, q = lost fs a4 a2 := ⟨_, rfl⟩
      rw [← hq] at hle ⊢
      have Hq := Lib.hid hq
      clear hq
      have HB := Lib.hid hb
      clear hb
      by_cases hneg : a2 < 0
      all_goals
        go_wp2_with fail
        refine (show_any _ _ _ _ _ _ _ fs Hl.out (by omega) ((hr.below hbw).more hbw.size) (by omega) (by omega)).mono ?_
        rintro e w2 ⟨rfl, hb2⟩
        rw [← Hq.out]
        go_wp2_with fail
        have HB2 := Lib.hid (HB.out.trans (hb2.mono (by omega)))
        have hsz2 : w.heap.size + 1 ≤ w2.heap.size := by have := hb2.size; omega
        clear hb2 hbw
        refine (before_any _ _ _ _).mono ?_
        rintro e w' ⟨rfl, rfl⟩
        by_cases hbad : 0 ≤ a3 ∧ a3 ≤ 1048576
        · obtain ⟨g0, g1⟩ := hbad
          rw [if_pos ⟨g0, g1⟩]
          go_wp2_with fail
          refine (range_any _ _ _).mono ?_
          rintro e w' ⟨rfl, rfl⟩
          rw [if_pos ⟨g0, g1⟩]
          have hcl := Hlb.out _ HB2.out
          go_wp2_with fail
          have hbest := Lib.hid (best_end l)
          go_loopg [23, 24] n' (fun g b p wr => ∃ bi : Nat, g ≤ n' ∧ p = .pointer (some ⟨bi, 0, none⟩) ∧ w.heap.size < bi ∧ Blk wr bi 3 #[.int .i64 ((g : Int) - 1)] ∧ b = .int .i64 (bestFrom l g) ∧ Below (w.heap.size + 1) (w.alloc (.cells #[.slice A' n' c'] 30)) wr)
          case atStart => exact ⟨w2.heap.size, Nat.le_refl _, rfl, by omega, Blk.new _ _ _, by rw [← Hl'.out, hbest.out], HB2.out.alloc hsz2 _⟩
          case round =>
            obtain ⟨bi, hg, rfl, hbi, hblk, rfl, hb3⟩ := hrel
            have hcl3 := Hlb.out _ hb3
            have hsz3 := hb3.size
            simp only [World.size_alloc] at hsz3
            have hr3 := (hr'.below (((Below.refl _ w).alloc (Nat.le_refl _) _).trans (hb3.mono (by omega))))
            have hbge := best_ge l gk
            rcases Nat.eq_zero_or_pos gk with h0 | h0
            · subst h0
              have hci : wr.cell? ⟨bi, 0, none⟩ = some (.int .i64 (-1)) := hblk.cell 0 _ rfl
              have HB3 := Lib.hid hb3
              clear hb3 hblk
              have hlb := best_zero l
              have heq : (latest l == bestFrom l 0) = true := by rw [hlb]; simp
              clear hlb
              obtain ⟨m1, m2⟩ := diff_le a1 a0
              go_wp2_with (first
                | (go_at_call 16; refine (later_any _ _ _ t0 t1 s0 s1).mono ?_; rintro e w' ⟨rfl, rfl⟩)
                | (go_at_call 12; refine (latest_any _ A' n' c' l _ Hl'.out hn' hr3).mono ?_; rintro e w' ⟨rfl, rfl⟩)
                | (go_at_call 11; refine (middle_any _ _ _).mono ?_; rintro e w' ⟨rfl, rfl⟩))
              go_ret
              refine ⟨ret_bool ?_, ((Below.refl _ w).alloc (Nat.le_refl _) _).trans (HB3.out.mono (by omega))⟩
              show ((a0 + (diff a1 a0).tdiv 2) % 4294967296 == (a0 + wrap32 ((diff a1 a0).tdiv 2)) % 4294967296) = true
              rw [show wrap32 ((diff a1 a0).tdiv 2) = (diff a1 a0).tdiv 2 from wrap_half m1 m2]
              simp
            · obtain ⟨j, rfl⟩ : ∃ j, gk = j + 1 := ⟨gk - 1, by omega⟩
              have hci : wr.cell? ⟨bi, 0, none⟩ = some (.int .i64 j) := by
                have := hblk.cell 0 _ rfl
                rw [show ((j + 1 : Nat) : Int) - 1 = j from by omega] at this
                exact this
              obtain ⟨b, o, a, hA, hbb, ha, hca⟩ := hr3.one (show j < n' by omega)
              have hcf := contf_any wr #[.pointer (some ⟨w.heap.size, 0, none⟩), .pointer (some ⟨bi, 0, none⟩)] (fun x => decide (0 < diff x a)) A' n' c' l _ Hl'.out hr3 hn' (fun x hx =>
                closure_any wr x a w.heap.size bi A' n' c' j l hcl3 hci _ hr3 hn' (by omega) ha (wf_u32 (Hwf.out x hx)) (wf_u32 (Hwf.out a (List.mem_of_getElem? ha))))
              have HC := Lib.hid hcf
              have Hhit := Lib.hid (best_hit l j a ha)
              have Hmiss := Lib.hid (best_miss l j a ha)
              have Hnot := Lib.hid (not_any l a)
              have HB3 := Lib.hid hb3
              clear hcf hb3 hblk hca hA ha
              go_wp2_with fail
              refine HC.out.mono ?_
              rintro e w' ⟨rfl, rfl⟩
              obtain ⟨z, hz⟩ : ∃ z, z = (l.any fun x => decide (0 < diff x a)) := ⟨_, rfl⟩
              rw [← hz]
              have hnz : (!z) = okAt l a := by rw [hz]; exact Hnot.out
              have Hz := Lib.hid hnz
              clear hz hnz
              cases z
              · go_wp2
                go_roundg j
                case measure => omega
                case rel => exact ⟨wr.heap.size, by omega, rfl, by omega, Blk.new _ _ _, by rw [Hhit.out (by rw [← Hz.out]; rfl)], HB3.out.alloc hsz3 _⟩
              · go_wp2
                go_roundg j
                case measure => omega
                case rel => exact ⟨wr.heap.size, by omega, rfl, by omega, Blk.new _ _ _, by rw [Hmiss.out (by rw [← Hz.out]; rfl)], HB3.out.alloc hsz3 _⟩
        · rw [if_neg hbad]
          go_wp2_with fail
          refine (range_any _ _ _).mono ?_
          rintro e w' ⟨rfl, rfl⟩
          rw [if_neg hbad]
          by_cases g0 : a3 < 0
          · go_wp2_with fail
            go_ret
            exact ⟨rfl, ((Below.refl _ w).alloc (Nat.le_refl _) _).trans (HB2.out.mono (by omega))⟩
          · have g1 : 1048576 < a3 := by omega
            go_wp2_with fail
            go_ret
            exact ⟨rfl, ((Below.refl _ w).alloc (Nat.le_refl _) _).trans (HB2.out.mono (by omega))⟩
end Go.Proofs.Ytgccmiedcblfeaa.clockTells
