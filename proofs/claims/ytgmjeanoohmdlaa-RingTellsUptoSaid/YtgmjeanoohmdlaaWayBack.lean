/- gantlaw5.wayBack, gantlaw5.ringOf. Conditions: those typed. -/
import Derived.Test.YtgmjeanoohmdlaaLawSteps
import Derived.Test.YtgmjeanoohmdlaaRingToys
namespace Go.Proofs.Ytgmjeanoohmdlaa
open Go.RowKit Go.Gy
set_option linter.unusedVariables false
theorem hit_way {rs : List (List Int)} (hg : GoodG rs) {a d s : Nat} (hsd : s ≤ d) {x : Int} {k : Nat} (hx : x = (k : Int)) (hk : k < rs.length) : hitD (farK rs a d) s x = true ↔ Way rs a s k ∧ ∀ d', d' < s → ¬ Way rs a d' k := by
  obtain ⟨z, hz⟩ := farK_at (a := a) (List.getElem?_eq_getElem hk) d
  subst hx
  simp only [hitD, Int.toNat_natCast, getD_of hz, decide_eq_true_eq]
  rcases farK_ok hg a d _ _ hz with ⟨h3, h4⟩ | ⟨e, h3, h4, h5, h6⟩
  · constructor
    · intro h; omega
    · intro h; exact absurd h.1 (h4 _ (by omega))
  · constructor
    · intro h
      have : e = s := by omega
      subst this; exact ⟨h5, h6⟩
    · rintro ⟨h7, h8⟩
      rcases Nat.lt_trichotomy e s with h9 | h9 | h9
      · exact absurd h5 (h8 _ h9)
      · omega
      · exact absurd h7 (h6 _ h9)
theorem hit_sv {rs : List (List Int)} (hg : GoodG rs) {a d s : Nat} (hsd : s ≤ d) (hdn : d ≤ rs.length) (h64 : rs.length ≤ 64) {k : Nat} (hk : k < rs.length) {X : Int} (h : SV rs a k X) : hitD (farK rs a d) s (k : Int) = true ↔ X = (s : Int) := by
  rw [hit_way hg hsd rfl hk]
  rcases h with ⟨e, h1, h2, h3, h4⟩ | ⟨h1, h2⟩
  · constructor
    · rintro ⟨h5, h6⟩
      rcases Nat.lt_trichotomy e s with h9 | h9 | h9
      · exact absurd h3 (h6 _ h9)
      · omega
      · exact absurd h5 (h4 _ h9)
    · intro h5
      have : e = s := by omega
      subst this; exact ⟨h3, h4⟩
  · constructor
    · rintro ⟨h5, _⟩; exact absurd h5 (h2 s (by omega))
    · intro h5; omega
def BestRelW (w0 : World) (P : Int → Bool) (r : List Int) (b i : Value) (wr : World) : Prop := ∃ (j : Nat) (x : Int), j ≤ r.length ∧ i = .int .i64 (j : Int) ∧ b = .int .i64 x ∧ x = bestL P (r.take j) ∧ Below w0.heap.size w0 wr
/-- a way that is going on: its row, its last node -/
def WB (base : Nat) (rs : List (List Int)) (a d : Nat) (g : Nat) (y : Value) (wr : World) : Prop := ∃ (c k : Nat) (pre : List Int), g = c ∧ k < rs.length ∧ c + 1 ≤ d ∧ pre.length + c = d ∧ pre[0]? = some (a : Int) ∧ pre[pre.length - 1]? = some (k : Int) ∧ Way rs a (c + 1) k ∧ (∀ d', d' < c + 1 → ¬ Way rs a d' k) ∧ pre ++ wayK rs (farK rs a d) c k = (a : Int) :: wayK rs (farK rs a d) (d - 1) a ∧ wr.ownsRow base 3 1 y pre.length (pre.map iv)
def WBRel (w : World) (base : Nat) (rs : List (List Int)) (a d : Nat) (g : Nat) (y : Value) (wr : World) : Prop := WB base rs a d g y wr ∧ Below base w wr
def WBPost (w : World) (base : Nat) (l : List Int) (e : Ending) (w' : World) : Prop := ∃ v', e = .returned v' ∧ w'.ownsRow base 3 1 v' l.length (l.map iv) ∧ Below base w w'
set_option maxRecDepth 100000 in
set_option maxHeartbeats 4000000 in
theorem wayback_yes (w : World) (base : Nat) (v y : Value) (rs : List (List Int)) (hv : RowsI w base v rs) (hbase : base ≤ w.heap.size) (hg : GoodG rs) (a d : Nat) (ha : a < rs.length) (hd1 : 1 ≤ d) (hdn : d ≤ rs.length) (hw : Way rs a d a) (hmin : ∀ d', d' < d → ¬ Way rs a d' a)
    (hy : w.ownsRow base 3 1 y 1 [iv a]) :
    Calls Try.prog 25 #[v, y, .int .i64 (d : Int)] w (WBPost w base ((a : Int) :: wayK rs (farK rs a d) (d - 1) a)) := by
  obtain ⟨A, n, c, vs, rfl, hN, hnc, hA, hr, hs⟩ := id hv
  have hn64 := hg.len
  have Hv := Lib.hid hv
  have HN := Lib.hid hN
  have Hs := Lib.hid hs
  have Hg := Lib.hid hg
  have Hst := Lib.hid (show WBRel w base rs a d (d - 1) y w from ⟨⟨d - 1, a, [(a : Int)], rfl, ha, by omega, by simp; omega, rfl, rfl, by rw [show d - 1 + 1 = d by omega]; exact hw, by rw [show d - 1 + 1 = d by omega]; exact hmin, rfl, hy⟩, Below.refl _ _⟩)
  rw [hN] at hn64 ha hdn
  have han : (a : Int) < (n : Int) := by omega
  obtain ⟨j0, hji, hy0, hy1, hy2⟩ := info_parts info_int
  obtain ⟨Ay, cy, rfl, _, _, _⟩ := own_rd hy
  clear hv hN hs hg hw hmin hy hA
  go_enter Try.func25, Try.ntmps25
  go_wp2_with fail
  go_loopg [1] (d - 1) (fun g y wr => WBRel w base rs a d g y wr)
  case atStart => exact Hst.out
  case round =>
    obtain ⟨w0, rfl⟩ : ∃ w0, w0 = wr := ⟨_, rfl⟩
    obtain ⟨⟨c', k, pre, hgc, hkn, hcd, hpl, hp0, hpk, hwk, hmk, hfull, hown⟩, hb⟩ := hrel
    rw [HN.out] at hkn
    have hzr := hb.size
    have hb0 : base ≤ w0.heap.size := Nat.le_trans hbase hzr
    obtain ⟨ln, hln⟩ : ∃ ln, ln = pre.length := ⟨_, rfl⟩
    rw [← hln] at hown hpl hpk
    have hln1 : 1 ≤ ln := by omega
    obtain ⟨gy, cy2, rfl, hcy, hgb, hgl⟩ := own_shape hown (by omega)
    have hc0 := hown.cellAt 0 (by omega)
    have hck := hown.cellAt (ln - 1) (by omega)
    rw [List.getElem?_map, hp0] at hc0
    rw [List.getElem?_map, hpk] at hck
    simp only [Option.map_some] at hc0 hck
    have Hown := Lib.hid hown
    have Hln := Lib.hid hln
    have Hp0 := Lib.hid hp0
    have Hfull := Lib.hid hfull
    have Hwk := Lib.hid hwk
    have Hmk := Lib.hid hmk
    have Hgc := Lib.hid hgc
    have hln64 : ln ≤ 64 := by omega
    have q1 : ((ln : Int) - 1).toNat = ln - 1 := by omega
    have q2 : (ln : Int) - 1 < (ln : Int) := by omega
    have q3 : (0 : Int) ≤ (ln : Int) - 1 := by omega
    have q4 : (k : Int) < (n : Int) := by omega
    obtain ⟨b, o, u, rfl, hbB, hu, hcr⟩ := (hr.below hb).at_ hkn
    have hrk : rs[k]? = some (rs[k]'(by have := HN.out; omega)) := List.getElem?_eq_getElem _
    obtain ⟨r, hr0⟩ : ∃ r, r = rs[k]'(by have := HN.out; omega) := ⟨_, rfl⟩
    rw [← hr0] at hrk
    have hsr := Hs.out.2 k u r hu hrk
    obtain ⟨Ar, mr, cr, rfl, hmr, _, _, hrr⟩ := id hsr
    have hmrb : mr ≤ 1000000000 := by rw [← hmr]; exact Hg.out.row (List.mem_of_getElem? hrk)
    have Hrk := Lib.hid hrk
    have Hmr := Lib.hid hmr
    have Hsr := Lib.hid hsr
    clear hown hp0 hpk hfull hwk hmk hgc hu hr0 hrk hmr hsr hln
    by_cases hcz : c' = 0
    · have hld : ln = d := by omega
      have q5 : ¬ (ln : Int) < (d : Int) := by omega
      have hed : Ed rs k a := by
        have h1 := Hwk.out
        rw [hcz] at h1
        generalize hq : 0 + 1 = q at h1
        cases h1 with
        | one h => exact h
        | more _ h => have := h.pos; omega
      have HC := Lib.hid (fun n => (contains_yes (w0.drewN n) (.slice Ar mr cr) _ r (a : Int) (Hsr.out.below (below_drewN hb n)) (by rw [Hmr.out]; omega) (edMem hed Hrk.out)).mono fun _ _ ⟨he, hw⟩ => (⟨he, hw.symm⟩ : _ ∧ _))
      have HP := Lib.hid (fun q => show WBPost w base ((a : Int) :: wayK rs (farK rs a d) (d - 1) a) (.returned (.slice (some ⟨gy, 0, none⟩) ln cy2)) (w0.drewN q) from ⟨_, rfl, by
        have h1 := Hfull.out
        rw [hcz] at h1
        simp only [wayK, List.append_nil] at h1
        rw [← h1, ← Hln.out]; exact Hown.out, below_drewN hb q⟩)
      have q6 : IntKind.i64.wrap ((ln : Int) - 1) = (ln : Int) - 1 := IntWalk.i64_in _ (by omega)
      have q7 : ((k : Int)).toNat = k := by omega
      have q8 : (0 : Int) ≤ (k : Int) := by omega
      clear hcz hld hed hpl
      go_wp2_with fail
      go_quiet ((go_at_call 10; exact Calls.quiet_of_same (HC.out _)))
      clear q6 q7 q8
      go_wp2_with fail
      go_ret
      exact HP.out _
    · obtain ⟨c2, rfl⟩ : ∃ c2, c' = c2 + 1 := ⟨c' - 1, by omega⟩
      obtain ⟨k2, hbest, hk2, hed, hw2, hm2⟩ := step_ok Hg.out Hwk.out Hmk.out hcd
      have hgd : rs.getD k [] = r := by rw [List.getD_eq_getElem?_getD, Hrk.out]; rfl
      rw [hgd] at hbest
      have q5 : (ln : Int) < (d : Int) := by omega
      have qs : (d : Int) - (ln : Int) = ((c2 + 1 : Nat) : Int) := by omega
      have Hqs := Lib.hid qs
      have Hbest := Lib.hid hbest
      have Hed := Lib.hid hed
      have Hw2 := Lib.hid hw2
      have Hm2 := Lib.hid hm2
      have Hgd := Lib.hid hgd
      have Hpl := Lib.hid hpl
      rw [HN.out] at hk2
      have hd64 : d ≤ 64 := by omega
      have HS := Lib.hid (fun (wx : World) (hbx : Below w0.heap.size w0 wx) (kx : Nat) (hkx : kx < rs.length) => law_steps wx _ kx a rs ((Hv.out.below (hb.trans (hbx.mono hb0))).more (Nat.le_trans hb0 hbx.size)) Hg.out hkx (by have := HN.out; omega))
      clear hbest hed hw2 hm2 hgd qs hcz hpl
      go_wp2_with fail
      go_loopw [7, 24] (fun b i wr => BestRelW w0 (hitD (farK rs a d) (c2 + 1)) r b i wr) (fun _ i _ => mr - (intOf i).toNat)
      case atStart => exact ⟨0, -1, Nat.zero_le _, rfl, rfl, rfl, Below.refl _ _⟩
      case round =>
        obtain ⟨wx, rfl⟩ : ∃ wx, wx = wr := ⟨_, rfl⟩
        obtain ⟨j, x, hj, rfl, rfl, hx, hbx⟩ := hrel
        rw [Hmr.out] at hj
        have Hx := Lib.hid hx
        have hzx := hbx.size
        have hc0x := (hbx.cell (p := ⟨gy, 0, none⟩) hgl).trans hc0
        clear hx
        by_cases hjl : j < mr
        · have hjl' : (j : Int) < (mr : Int) := by omega
          obtain ⟨bz, oz, z, rfl, hbz, hz, hcz⟩ := (hrr.below (hb.trans (hbx.mono hb0))).one hjl
          have hzb := Hg.out.ok r (List.mem_of_getElem? Hrk.out) z (List.mem_of_getElem? hz)
          obtain ⟨kz, hkz⟩ : ∃ kz : Nat, (kz : Int) = z := ⟨z.toNat, by omega⟩
          subst hkz
          have hkzn : kz < rs.length := by omega
          have hnx := Lib.hid (show bestL (hitD (farK rs a d) (c2 + 1)) (r.take (j + 1)) = bestS (hitD (farK rs a d) (c2 + 1)) x (kz : Int) by
            rw [List.take_add_one, hz]; simp only [Option.toList_some]; rw [bestL_snoc, ← Hx.out])
          have HSx := Lib.hid (HS.out wx hbx kz hkzn)
          clear hz hzb
          by_cases hcond : x < 0 ∨ (kz : Int) < x
          · have key : ∀ (w6 : World) (X : Int), SV rs a kz X → Below wx.heap.size wx w6 → BestRelW w0 (hitD (farK rs a d) (c2 + 1)) r (.int .i64 (if X = (d : Int) - (ln : Int) then (kz : Int) else x)) (.int .i64 ((j : Int) + 1)) w6 := fun w6 X hX hb6 => by
              refine ⟨j + 1, _, by rw [Hmr.out]; omega, by go_num, rfl, ?_, hbx.trans (hb6.mono hzx)⟩
              rw [hnx.out, bestS, Hqs.out]
              have h1 := hit_sv Hg.out (a := a) (d := d) (s := c2 + 1) (by omega) (by rw [HN.out]; exact hdn) (by rw [HN.out]; exact hn64) hkzn hX
              by_cases h2 : X = ((c2 + 1 : Nat) : Int)
              · rw [if_pos h2, if_pos]
                rw [Bool.and_eq_true]
                exact ⟨h1.2 h2, by rw [Bool.or_eq_true, decide_eq_true_eq, decide_eq_true_eq]; exact hcond⟩
              · rw [if_neg h2, if_neg]
                rw [Bool.and_eq_true]
                exact fun h3 => h2 (h1.1 h3.1)
            have Key := Lib.hid key
            clear key
            by_cases hx0 : x < 0
            · clear hcond
              go_wp2_with fail
              refine HSx.out.mono ?_
              rintro e w6 ⟨X, rfl, hX, hb6⟩
              have HK := Lib.hid (Key.out w6 X hX hb6)
              clear HSx Key hX hb6
              by_cases hXq : X = (d : Int) - (ln : Int)
              · rw [if_pos hXq] at HK
                subst hXq
                go_wp2_with fail
                go_roundw
                case rel => exact HK.out
                case measure => simp [intOf]; omega
              · rw [if_neg hXq] at HK
                have e2 : (X == (d : Int) - (ln : Int)) = false := by simp; omega
                go_wp2_with fail
                go_roundw
                case rel => exact HK.out
                case measure => simp [intOf]; omega
            · have hkx : (kz : Int) < x := by omega
              clear hcond
              go_wp2_with fail
              refine HSx.out.mono ?_
              rintro e w6 ⟨X, rfl, hX, hb6⟩
              have HK := Lib.hid (Key.out w6 X hX hb6)
              clear HSx Key hX hb6
              by_cases hXq : X = (d : Int) - (ln : Int)
              · rw [if_pos hXq] at HK
                subst hXq
                go_wp2_with fail
                go_roundw
                case rel => exact HK.out
                case measure => simp [intOf]; omega
              · rw [if_neg hXq] at HK
                have e2 : (X == (d : Int) - (ln : Int)) = false := by simp; omega
                go_wp2_with fail
                go_roundw
                case rel => exact HK.out
                case measure => simp [intOf]; omega
          · have hx0 : ¬ x < 0 := by omega
            have hkx : ¬ (kz : Int) < x := by omega
            have HK := Lib.hid (show BestRelW w0 (hitD (farK rs a d) (c2 + 1)) r (.int .i64 x) (.int .i64 ((j : Int) + 1)) wx from ⟨j + 1, x, by rw [Hmr.out]; omega, by go_num, rfl, by
              rw [hnx.out, bestS, if_neg]
              rw [Bool.and_eq_true, Bool.or_eq_true, decide_eq_true_eq, decide_eq_true_eq]
              exact fun h => hcond h.2, hbx⟩)
            clear hcond HSx
            go_wp2_with fail
            go_roundw
            case rel => exact HK.out
            case measure => simp [intOf]; omega
        · obtain rfl : j = mr := by omega
          have hx2 := Hx.out
          rw [List.take_of_length_le (by rw [Hmr.out]; omega), Hbest.out] at hx2
          subst hx2
          have hlm : ln + 1 ≤ maxLen := by unfold maxLen; omega
          have Hownx := Lib.hid (own_below Hown.out hbx (Nat.le_refl _))
          have hbx0 : base ≤ wx.heap.size := Nat.le_trans hb0 hzx
          have hk20 : ¬ (k2 : Int) < 0 := by omega
          clear Hx
          go_wp2_with (at_builtin; refine wpList_push rfl (.tmp 52) (.tmp 54) 22 rfl base 3 j0 (.int .i64 0) 1 8 Try.underlying22 hji hy0 hy1 hy2 rfl (by omega) _ ln _ rfl Hownx.out [_] rfl rfl (by simp [Value.oneCell']) hlm (by omega) hbx0 ?_; intro v6 w6 hn6 hb6 _)
          have Hnew := Lib.hid (show WBRel w base rs a d c2 v6 w6 from ⟨⟨c2, k2, pre ++ [(k2 : Int)], rfl, by rw [HN.out]; exact hk2, by omega, by rw [List.length_append]; have := Hpl.out; have := Hln.out; simp; omega, by rw [List.getElem?_append_left (by have := Hln.out; omega)]; exact Hp0.out, by simp, Hw2.out, Hm2.out, by
            rw [← Hfull.out]
            simp only [wayK, Int.toNat_natCast, Hgd.out, Hbest.out, List.append_assoc, List.singleton_append], by
            rw [List.length_append, List.map_append, ← Hln.out]; exact hn6⟩, hb.trans ((hbx.mono hb0).trans hb6)⟩)
          clear hn6 hb6
          go_roundg c2
          case measure => have := Hgc.out; omega
          case rel => exact Hnew.out
set_option maxRecDepth 100000 in
set_option maxHeartbeats 4000000 in
theorem wayback_no (w : World) (base : Nat) (v y : Value) (rs : List (List Int)) (hv : RowsI w base v rs) (hbase : base ≤ w.heap.size) (hg : GoodG rs) (a d s : Nat) (ha : a < rs.length) (hs1 : 1 ≤ s) (hsd : s < d) (hdn : d ≤ rs.length) (hmin : ∀ d', d' < d → ¬ Way rs a d' a)
    (hy : w.ownsRow base 3 1 y 1 [iv a]) :
    Calls Try.prog 25 #[v, y, .int .i64 (s : Int)] w (fun e w' => e = .returned (.slice none 0 0) ∧ Below base w w') := by
  obtain ⟨A, n, c, vs, rfl, hN, hnc, hA, hr, hs⟩ := id hv
  have hn64 := hg.len
  have Hv := Lib.hid hv
  have HN := Lib.hid hN
  have Hs := Lib.hid hs
  have Hg := Lib.hid hg
  have Hmin := Lib.hid hmin
  rw [hN] at hn64 ha hdn
  have han : (a : Int) < (n : Int) := by omega
  obtain ⟨gy, cy, rfl, hcy, hgb, hgl⟩ := own_shape hy (by omega)
  have hc0 := hy.cellAt 0 (by omega)
  simp only [List.getElem?_cons_zero] at hc0
  obtain ⟨b, o, u, rfl, hbB, hu, hcr⟩ := hr.at_ ha
  have hrk : rs[a]? = some (rs[a]'(by have := HN.out; omega)) := List.getElem?_eq_getElem _
  obtain ⟨r, hr0⟩ : ∃ r, r = rs[a]'(by have := HN.out; omega) := ⟨_, rfl⟩
  rw [← hr0] at hrk
  have hsr := Hs.out.2 a u r hu hrk
  obtain ⟨Ar, mr, cr, rfl, hmr, _, _, hrr⟩ := id hsr
  have hmrb : mr ≤ 1000000000 := by rw [← hmr]; exact Hg.out.row (List.mem_of_getElem? hrk)
  have Hrk := Lib.hid hrk
  have Hmr := Lib.hid hmr
  have Hsr := Lib.hid hsr
  have Hbl := Lib.hid (Below.refl base w)
  clear hv hN hs hg hmin hy hA hu hr0 hrk hmr hsr
  go_enter Try.func25, Try.ntmps25
  go_wp2_with fail
  go_loopw [1] (fun y wr => y = .slice (some ⟨gy, 0, none⟩) 1 cy ∧ w = wr) (fun _ _ => 0)
  case atStart => exact ⟨rfl, rfl⟩
  case round =>
    obtain ⟨rfl, rfl⟩ := hrel
    by_cases hs2 : s = 1
    · subst hs2
      have hno : (a : Int) ∉ r := fun h => Hmin.out 1 hsd (.one ⟨r, Hrk.out, h⟩)
      have HC := Lib.hid (fun n => (contains_no (w.drewN n) (.slice Ar mr cr) _ r (a : Int) (Hsr.out.below (below_drewN Hbl.out n)) (by rw [Hmr.out]; omega) hno).mono fun _ _ ⟨he, hw⟩ => (⟨he, hw.symm⟩ : _ ∧ _))
      have q7 : ((a : Int)).toNat = a := by omega
      have q8 : (0 : Int) ≤ (a : Int) := by omega
      clear hno
      go_wp2_with fail
      go_quiet ((go_at_call 10; exact Calls.quiet_of_same (HC.out _)))
      clear q7 q8
      go_wp2_with fail
      go_ret
      exact ⟨rfl, below_drewN Hbl.out _⟩
    · have q5 : (1 : Int) < (s : Int) := by omega
      have hs64 : s ≤ 64 := by omega
      have HS := Lib.hid (fun (wx : World) (hbx : Below w.heap.size w wx) (kx : Nat) (hkx : kx < rs.length) => law_steps wx _ kx a rs ((Hv.out.below (hbx.mono hbase)).more (Nat.le_trans hbase hbx.size)) Hg.out hkx (by have := HN.out; omega))
      have hs2' : 2 ≤ s := by omega
      clear hs2
      go_wp2_with fail
      go_loopw [7, 24] (fun b i wr => ∃ j : Nat, j ≤ mr ∧ i = .int .i64 (j : Int) ∧ b = .int .i64 (-1) ∧ Below w.heap.size w wr) (fun _ i _ => mr - (intOf i).toNat)
      case atStart => exact ⟨0, Nat.zero_le _, rfl, rfl, Below.refl _ _⟩
      case round =>
        obtain ⟨wx, rfl⟩ : ∃ wx, wx = wr := ⟨_, rfl⟩
        obtain ⟨j, hj, rfl, rfl, hbx⟩ := hrel
        have hzx := hbx.size
        have hc0x := (hbx.cell (p := ⟨gy, 0, none⟩) hgl).trans hc0
        by_cases hjl : j < mr
        · have hjl' : (j : Int) < (mr : Int) := by omega
          obtain ⟨bz, oz, z, rfl, hbz, hz, hcz⟩ := (hrr.below (hbx.mono hbase)).one hjl
          have hzb := Hg.out.ok r (List.mem_of_getElem? Hrk.out) z (List.mem_of_getElem? hz)
          obtain ⟨kz, hkz⟩ : ∃ kz : Nat, (kz : Int) = z := ⟨z.toNat, by omega⟩
          subst hkz
          have hkzn : kz < rs.length := by omega
          have hed : Ed rs a kz := ⟨r, Hrk.out, List.mem_of_getElem? hz⟩
          have HSx := Lib.hid (HS.out wx hbx kz hkzn)
          have Hed := Lib.hid hed
          clear hz hzb hed
          go_wp2_with fail
          refine HSx.out.mono ?_
          rintro e w6 ⟨X, rfl, hX, hb6⟩
          have hXs : X ≠ (s : Int) - 1 := by
            intro h
            have h1 := hit_sv Hg.out (a := a) (d := s - 1) (s := s - 1) (Nat.le_refl _) (by have := HN.out; omega) (by rw [HN.out]; exact hn64) hkzn hX
            have h2 := (hit_way Hg.out (a := a) (d := s - 1) (Nat.le_refl _) rfl hkzn).1 (h1.2 (by omega))
            have h3 := Way.more Hed.out h2.1
            rw [show s - 1 + 1 = s by omega] at h3
            exact Hmin.out s hsd h3
          have e2 : (X == (s : Int) - 1) = false := by simpa using hXs
          have hbw6 := Lib.hid (hbx.trans (hb6.mono hzx))
          clear HSx hX hb6
          go_wp2_with fail
          go_roundw
          case rel => exact ⟨j + 1, by omega, by go_num, rfl, hbw6.out⟩
          case measure => simp [intOf]; omega
        · obtain rfl : j = mr := by omega
          go_wp2_with fail
          go_ret
          exact ⟨rfl, hbx.mono hbase⟩
def RingRel (w : World) (d : Nat) (i : Value) (wr : World) : Prop := ∃ q : Nat, 1 ≤ q ∧ q ≤ d ∧ i = .int .i64 (q : Int) ∧ Below w.heap.size w wr
set_option maxRecDepth 100000 in
set_option maxHeartbeats 2000000 in
theorem ringof_any (w : World) (v : Value) (rs : List (List Int)) (hv : RowsI w w.heap.size v rs) (hg : GoodG rs) (a d : Nat) (ha : a < rs.length) (hd1 : 1 ≤ d) (hdn : d ≤ rs.length) (hw : Way rs a d a) (hmin : ∀ d', d' < d → ¬ Way rs a d' a) :
    Calls Try.prog 18 #[v, .int .i64 (a : Int)] w (OwnL w ((a : Int) :: wayK rs (farK rs a d) (d - 1) a)) := by
  have hY := fun (wx : World) (hbx : Below w.heap.size w wx) (y : Value) (hy : wx.ownsRow w.heap.size 3 1 y 1 [iv a]) => wayback_yes wx w.heap.size v y rs (hv.below hbx) hbx.size hg a d ha hd1 hdn hw hmin hy
  have hNo := fun (wx : World) (hbx : Below w.heap.size w wx) (y : Value) (s : Nat) (hs1 : 1 ≤ s) (hsd : s < d) (hy : wx.ownsRow w.heap.size 3 1 y 1 [iv a]) => wayback_no wx w.heap.size v y rs (hv.below hbx) hbx.size hg a d s ha hs1 hsd hdn hmin hy
  have HY := Lib.hid hY
  have HNo := Lib.hid hNo
  have hn64 := hg.len
  obtain ⟨A, n, c, vs, rfl, hN, _, _, _, _⟩ := hv
  rw [hN] at hdn hn64
  have hne := fun (W : World) (A' : Option Addr) (n' c' : Nat) => run_neq_slice_nil_any (P := Try.prog) W 22 3 A' n' c' 0 0 Try.underlying22
  have Hl := Lib.hid (wayK_len rs (farK rs a d) (d - 1) (a : Int))
  clear hY hNo hg hw hmin hN ha
  go_enter Try.func18, Try.ntmps18
  go_wp2_with fail
  go_loopw [5] (fun i wr => RingRel w d i wr) (fun i _ => d - (intOf i).toNat)
  case atStart => exact ⟨1, Nat.le_refl _, hd1, rfl, Below.refl _ _⟩
  case round =>
    obtain ⟨wx, rfl⟩ : ∃ wx, wx = wr := ⟨_, rfl⟩
    obtain ⟨q, hq1, hqd, rfl, hbx⟩ := hrel
    have hqn : (q : Int) ≤ (n : Int) := by omega
    have hown : (wx.alloc (.cells #[.int .i64 (a : Int)] 3)).ownsRow w.heap.size 3 1 (.slice (some ⟨wx.heap.size, 0, none⟩) 1 1) 1 [iv a] := World.ownsRow_lit (e := 3) (size := 1) (base := w.heap.size) wx #[.int .i64 (a : Int)] 1 hbx.size (by decide) rfl
    have hba : Below w.heap.size w (wx.alloc (.cells #[.int .i64 (a : Int)] 3)) := hbx.alloc hbx.size _
    have Hown := Lib.hid hown
    have Hba := Lib.hid hba
    clear hown hba
    by_cases hqe : q < d
    · have HC := Lib.hid (HNo.out _ Hba.out _ q hq1 hqe Hown.out)
      go_wp2_with fail
      refine HC.out.mono ?_
      rintro e w6 ⟨rfl, hb6⟩
      have hb := Lib.hid (Hba.out.trans hb6)
      clear HC hb6
      go_wp2_with fail
      go_roundw
      case rel => exact ⟨q + 1, by omega, by omega, by go_num, hb.out⟩
      case measure => simp [intOf]; omega
    · obtain rfl : q = d := by omega
      have HC := Lib.hid (HY.out _ Hba.out _ Hown.out)
      go_wp2_with fail
      refine HC.out.mono ?_
      rintro e w6 ⟨v6, rfl, hn6, hb6⟩
      obtain ⟨l, hl⟩ : ∃ l, l = (a : Int) :: wayK rs (farK rs a q) (q - 1) a := ⟨_, rfl⟩
      rw [← hl] at hn6
      have hll : 0 < l.length := by rw [hl]; simp
      obtain ⟨ll, hll2⟩ : ∃ ll, ll = l.length := ⟨_, rfl⟩
      rw [← hll2] at hn6 hll
      obtain ⟨g6, c6, rfl, _, _, _⟩ := own_shape hn6 hll
      have HP := Lib.hid (show OwnL w ((a : Int) :: wayK rs (farK rs a q) (q - 1) a) (.returned (.slice (some ⟨g6, 0, none⟩) ll c6)) w6 from by rw [← hl]; exact ⟨_, rfl, by rw [← hll2]; exact hn6, Hba.out.trans hb6⟩)
      clear hn6 hb6 HC hl hll2
      go_wp2_with fail
      go_ret
      exact HP.out
end Go.Proofs.Ytgmjeanoohmdlaa
