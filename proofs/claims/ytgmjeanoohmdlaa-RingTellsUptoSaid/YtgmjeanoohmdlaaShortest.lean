/- ring.shortest. Conditions: those typed. -/
import Derived.Test.YtgmjeanoohmdlaaRepeat
import Derived.Test.YtgmjeanoohmdlaaRingPlain
namespace Go.Proofs.Ytgmjeanoohmdlaa
open Go.RowKit Go.Gy
set_option linter.unusedVariables false
/-- the numbers, the first k of them already those of the next round -/
def midL (rs : List (List Int)) (a m k : Nat) : List Int := (farK rs a (m + 1)).take k ++ (farK rs a m).drop k
theorem midL_len {rs : List (List Int)} {a m k : Nat} (hk : k ≤ rs.length) : (midL rs a m k).length = rs.length := by
  simp [midL, farK_len]; omega
theorem midL_at {rs : List (List Int)} {a m k : Nat} (hk : k < rs.length) : (midL rs a m k)[k]? = (farK rs a m)[k]? := by
  unfold midL
  rw [List.getElem?_append_right (by simp [farK_len]; omega), List.length_take, farK_len, Nat.min_eq_left (by omega), Nat.sub_self, List.getElem?_drop, Nat.add_zero]
theorem midL_next {rs : List (List Int)} {a m k : Nat} {r : List Int} {x : Int} (hr : rs[k]? = some r) (hx : (farK rs a m)[k]? = some x) : (midL rs a m k).set k (farAt (farK rs a m) a (m + 1) r x) = midL rs a m (k + 1) := by
  have hk := (List.getElem?_eq_some_iff.1 hr).1
  have hn : (farK rs a (m + 1))[k]? = some (farAt (farK rs a m) a (m + 1) r x) := by simp only [farK, List.getElem?_zipWith, hr, hx]
  unfold midL
  rw [List.set_append_right _ _ (by simp [farK_len]; omega), List.length_take, farK_len, Nat.min_eq_left (by omega), Nat.sub_self]
  have hd : (farK rs a m).drop k = x :: (farK rs a m).drop (k + 1) := by
    obtain ⟨h1, h2⟩ := List.getElem?_eq_some_iff.1 hx
    rw [List.drop_eq_getElem_cons h1, h2]
  rw [hd, List.set_cons_zero, List.take_add_one, hn]
  simp
theorem midL_zero (rs : List (List Int)) (a m : Nat) : midL rs a m 0 = farK rs a m := by simp [midL]
theorem midL_full (rs : List (List Int)) (a m : Nat) : midL rs a m rs.length = farK rs a (m + 1) := by
  unfold midL
  rw [List.take_of_length_le (by rw [farK_len]; omega), List.drop_of_length_le (by rw [farK_len]; omega), List.append_nil]
theorem farAt_snoc (far : List Int) (a m : Nat) (r : List Int) (z x : Int) : farAt far a m (r ++ [z]) x = if decide (x < 0) && (r.any (hit far a m) || hit far a m z) then (m : Int) else x := by
  simp [farAt, List.any_append]
theorem farAt_miss {far : List Int} {a m : Nat} {r : List Int} {z x : Int} (h : x < 0 → hit far a m z = false) : farAt far a m (r ++ [z]) x = farAt far a m r x := by
  rw [farAt_snoc, farAt]
  by_cases hx : x < 0
  · rw [h hx, Bool.or_false]
  · simp [hx]
theorem farAt_hit {far : List Int} {a m : Nat} {r : List Int} {z x : Int} (hx : x < 0) (h : hit far a m z = true) : farAt far a m (r ++ [z]) x = (m : Int) := by
  rw [farAt_snoc, h]; simp [hx]
theorem map_set (l : List Int) (k : Nat) (x : Int) : (l.map iv).set k (iv x) = (l.set k x).map iv := by rw [List.map_set]
/-- a row of integers of the call's own -/
def OwnI (w : World) (base : Nat) (v : Value) (l : List Int) : Prop := w.ownsRow base 3 1 v l.length (l.map iv)
def FarRel (w : World) (rs : List (List Int)) (a d : Nat) (g : Nat) (f i : Value) (wr : World) : Prop := ∃ m q : Nat, i = .int .i64 (q : Int) ∧ q = m + 1 ∧ m + g = d ∧ SlI wr wr.heap.size f (farK rs a m) ∧ Below w.heap.size w wr
def NowRel (w0 : World) (rs : List (List Int)) (a m : Nat) (now : Value) (i : Value) (wr : World) : Prop := ∃ k : Nat, k ≤ rs.length ∧ i = .int .i64 (k : Int) ∧ wr.ownsRow w0.heap.size 3 1 now rs.length ((midL rs a m k).map iv) ∧ Below w0.heap.size w0 wr
def CellRel (w0 : World) (rs : List (List Int)) (a m k : Nat) (r : List Int) (x : Int) (now : Value) (i : Value) (wr : World) : Prop := ∃ j : Nat, j ≤ r.length ∧ i = .int .i64 (j : Int) ∧ wr.ownsRow w0.heap.size 3 1 now rs.length (((midL rs a m k).set k (farAt (farK rs a m) a (m + 1) (r.take j) x)).map iv) ∧ Below w0.heap.size w0 wr
def ShortPost (w : World) (rs : List (List Int)) (a d : Nat) (e : Ending) (w' : World) : Prop := ∃ v' l, e = .returned v' ∧ l = (a : Int) :: wayK rs (farK rs a d) (d - 1) a ∧ w'.ownsRow w.heap.size 3 1 v' l.length (l.map iv) ∧ Below w.heap.size w w'
def OutRel (w : World) (rs : List (List Int)) (a d : Nat) (g : Nat) (o i l : Value) (wr : World) : Prop := ∃ (c k q : Nat) (pre : List Int), g = c ∧ i = .int .i64 (k : Int) ∧ l = .int .i64 (q : Int) ∧ q = c + 1 ∧ k < rs.length ∧ c + 1 ≤ d ∧ pre.length + c = d ∧ Way rs a (c + 1) k ∧ (∀ d', d' < c + 1 → ¬ Way rs a d' k) ∧ pre ++ wayK rs (farK rs a d) c k = (a : Int) :: wayK rs (farK rs a d) (d - 1) a ∧ wr.ownsRow w.heap.size 3 1 o pre.length (pre.map iv) ∧ Below w.heap.size w wr
set_option maxRecDepth 100000 in
set_option maxHeartbeats 4000000 in
theorem shortest_any (w : World) (v : Value) (rs : List (List Int)) (hv : RowsI w w.heap.size v rs) (hg : GoodG rs) (a d : Nat) (ha : a < rs.length) (hd1 : 1 ≤ d) (hdn : d ≤ rs.length) (hw : Way rs a d a) (hmin : ∀ d', d' < d → ¬ Way rs a d' a) :
    Calls Try.prog 19 #[v, .int .i64 (a : Int)] w (ShortPost w rs a d) := by
  obtain ⟨A, n, c, vs, rfl, hN, h1, h2, hr, hs⟩ := id hv
  have hn64 := hg.len
  have Hv := Lib.hid hv
  have HN := Lib.hid hN
  have Hg := Lib.hid hg
  have Hw := Lib.hid hw
  have Hmin := Lib.hid hmin
  have Hs := Lib.hid hs
  rw [hN] at hn64 hdn
  have han : a < n := by omega
  have hrep : ∀ W : World, w.heap.size < W.heap.size → W.cell? ⟨w.heap.size, 0, none⟩ = some (iv (-1)) → Calls Try.prog 26 #[.slice (some ⟨w.heap.size, 0, none⟩) 1 1, .int .i64 (n : Int)] W (RepPost W n) := fun W hW hc => repeat_one W w.heap.size n hc hW hn64 (by omega)
  have Hrep := Lib.hid (hrep (w.alloc (.cells #[iv (-1)] 3)) (by simp) (by rw [cell_of_row _ _ 0 _ _ _ (heap_alloc_new _ _)]; rfl))
  obtain ⟨j0, hji, hy0, hy1, hy2⟩ := info_parts info_int
  clear hv hN hg hw hmin h1 h2 hrep hs
  go_enter Try.func19, Try.ntmps19
  go_wp2_with fail
  refine Hrep.out.mono ?_
  rintro e w1 ⟨rfl, hB1, hb1⟩
  have hbw1 : Below w.heap.size w w1 := ((Below.refl _ _).alloc (Nat.le_refl _) _).trans (hb1.mono (by simp))
  have hsz0 : ∀ X, (w.alloc X).heap.size = w.heap.size + 1 := fun X => by simp
  have Hst := Lib.hid (show FarRel w rs a d d (.slice (some ⟨w.heap.size + 1, 0, none⟩) n n) (.int .i64 1) w1 from ⟨0, 1, rfl, rfl, by omega, ⟨_, _, _, rfl, by rw [farK_len]; exact HN.out, Nat.le_refl _, (fun h => by cases h), by
    rw [hsz0] at hB1
    refine ⟨by simp [farK, HN.out], fun _ => ⟨_, 0, rfl, hB1.lt, fun j u hu => ?_⟩⟩
    rw [Nat.zero_add]
    refine hB1.cell j u ?_
    simp only [farK, HN.out] at hu
    rw [List.getElem?_toArray]; exact hu⟩, hbw1⟩)
  clear Hrep hB1 hb1 hbw1 hsz0
  go_wp2_with fail
  go_loopg [5, 6] d (fun g f i wr => FarRel w rs a d g f i wr)
  case atStart => exact Hst.out
  case round =>
    obtain ⟨w0, rfl⟩ : ∃ w0, w0 = wr := ⟨_, rfl⟩
    obtain ⟨m, q, rfl, hqm, hmg, hf, hb⟩ := hrel
    have hzr := hb.size
    have hfa := farK_from Hg.out (by rw [HN.out]; exact han) Hw.out Hmin.out m
    obtain ⟨Af, nf, cf, rfl, hfl, hfc, hfA, hfr⟩ := id hf
    rw [farK_len, HN.out] at hfl
    subst hfl
    obtain ⟨bf, of, y, rfl, hbf, hy, hcf⟩ := hfr.one han
    rw [hfa] at hy
    have Hf := Lib.hid hf
    have Hqm := Lib.hid hqm
    clear hf hqm hfa hfA
    by_cases hmd : m < d
    · have hq64 : q ≤ 64 := by have := Hqm.out; omega
      have hq1 : 1 ≤ q := by have := Hqm.out; omega
      rw [if_neg (by omega)] at hy
      obtain rfl : (-1 : Int) = y := by simpa using hy
      clear hy
      have HC := Lib.hid (clone_ints w0 _ _ Hf.out (by rw [farK_len, HN.out]; omega))
      rw [farK_len, HN.out] at HC
      go_wp2_with fail
      refine HC.out.mono ?_
      rintro e w2 ⟨v2, rfl, hown2, hb2⟩
      obtain ⟨g2, c2, rfl, hc2n, hg2, hg2l⟩ := own_shape hown2 (by omega)
      have Hst2 := Lib.hid (show NowRel w0 rs a m (.slice (some ⟨g2, 0, none⟩) n c2) (.int .i64 0) w2 from ⟨0, Nat.zero_le _, rfl, by rw [midL_zero, HN.out]; exact hown2, hb2⟩)
      clear HC hown2 hb2
      go_wp2_with fail
      go_loopw [33] (fun i wx => NowRel w0 rs a m (.slice (some ⟨g2, 0, none⟩) n c2) i wx) (fun i _ => n - (intOf i).toNat)
      case atStart => exact Hst2.out
      case round =>
        obtain ⟨wx, rfl⟩ : ∃ wx, wx = wr := ⟨_, rfl⟩
        obtain ⟨k, hk, rfl, hown, hbx⟩ := hrel
        rw [HN.out] at hk hown
        have Hown := Lib.hid hown
        have hzx := hbx.size
        clear hown
        by_cases hlt : k < n
        · have hlt' : (k : Int) < (n : Int) := by omega
          have hbwx := hb.trans (hbx.mono hzr)
          obtain ⟨b, o, u, rfl, hbB, hu, hc⟩ := (hr.below hbwx).at_ hlt
          have hrk : rs[k]? = some (rs[k]'(by have := HN.out; omega)) := List.getElem?_eq_getElem _
          obtain ⟨r, hr0⟩ : ∃ r, r = rs[k]'(by have := HN.out; omega) := ⟨_, rfl⟩
          rw [← hr0] at hrk
          obtain ⟨Ar, mr, cr, rfl, hmr, _, _, hrr⟩ := Hs.out.2 k u r hu hrk
          obtain ⟨x, hx⟩ := farK_at (a := a) hrk m
          obtain ⟨b', o', x', he, hbf', hx', hcx⟩ := (hfr.below hbx).one hlt
          injection he with he
          injection he with he1 he2
          subst he1 he2
          rw [hx] at hx'
          obtain rfl : x = x' := by simpa using hx'
          have hpos := Hg.out.ok r (List.mem_of_getElem? hrk)
          have hmrb : mr ≤ 1000000000 := by rw [← hmr]; exact Hg.out.row (List.mem_of_getElem? hrk)
          have Hpos := Lib.hid hpos
          have Hrk := Lib.hid hrk
          have Hx := Lib.hid hx
          have Hmr := Lib.hid hmr
          have Hst3 := Lib.hid (show CellRel w0 rs a m k r x (.slice (some ⟨g2, 0, none⟩) n c2) (.int .i64 0) wx from ⟨0, Nat.zero_le _, rfl, by
            have : (midL rs a m k).set k (farAt (farK rs a m) a (m + 1) (r.take 0) x) = midL rs a m k := by
              simp only [farAt, List.take_zero, List.any_nil, Bool.and_false, Bool.false_eq_true, if_false]
              have h1 := midL_at (rs := rs) (a := a) (m := m) (show k < rs.length by rw [HN.out]; exact hlt)
              rw [hx] at h1
              obtain ⟨h2, h3⟩ := List.getElem?_eq_some_iff.1 h1
              rw [← h3]; exact List.set_getElem_self h2
            rw [this, HN.out]; exact Hown.out, hbx⟩)
          clear hu hr0 hrk hx hx' hpos hmr
          go_wp2_with fail
          go_loopw [40] (fun i wy => CellRel w0 rs a m k r x (.slice (some ⟨g2, 0, none⟩) n c2) i wy) (fun i _ => mr - (intOf i).toNat)
          case atStart => exact Hst3.out
          case round =>
            obtain ⟨wy, rfl⟩ : ∃ wy, wy = wr := ⟨_, rfl⟩
            obtain ⟨jj, hjj, rfl, hown, hby⟩ := hrel
            rw [HN.out] at hown
            rw [Hmr.out] at hjj
            have hky : k < ((midL rs a m k).set k (farAt (farK rs a m) a (m + 1) (r.take jj) x)).length := by rw [List.length_set, midL_len (by rw [HN.out]; exact hk), HN.out]; exact hlt
            have hcn := hown.cellAt k (by omega)
            rw [List.getElem?_map, List.getElem?_set_self (by simpa using hky)] at hcn
            have hfz := hown.frozenAt k
            have Hown3 := Lib.hid hown
            have hzy := hby.size
            clear hown hky
            by_cases hjl : jj < mr
            · have hjl' : (jj : Int) < (mr : Int) := by omega
              obtain ⟨bz, oz, z, rfl, hbz, hz, hcz⟩ := (hrr.below (hb.trans (hby.mono hzr))).one hjl
              have hzb := Hpos.out z (List.mem_of_getElem? hz)
              obtain ⟨kz, hkz⟩ : ∃ kz : Nat, (kz : Int) = z := ⟨z.toNat, by omega⟩
              subst hkz
              have hkzn : kz < n := by rw [HN.out] at hzb; omega
              obtain ⟨y, hy⟩ := farK_at (a := a) (List.getElem?_eq_getElem (show kz < rs.length by rw [HN.out]; exact hkzn)) m
              obtain ⟨bq, oq, y', heq, _, hy', hcy⟩ := (hfr.below hby).one hkzn
              injection heq with heq
              injection heq with he1 he2
              subst he1 he2
              rw [hy] at hy'
              obtain rfl : y = y' := by simpa using hy'
              obtain ⟨bk, ok, xk, hek, _, hxk, hcxk⟩ := (hfr.below hby).one hlt
              injection hek with hek
              injection hek with he1 he2
              subst he1 he2
              rw [Hx.out] at hxk
              obtain rfl : x = xk := by simpa using hxk
              have htk : r.take (jj + 1) = r.take jj ++ [(kz : Int)] := by rw [List.take_add_one, hz]; rfl
              have hhit : hit (farK rs a m) a (m + 1) (kz : Int) = ((decide (m + 1 = 1) && decide ((kz : Int) = (a : Int))) || (decide (1 < m + 1) && decide (y = ((m + 1 : Nat) : Int) - 1))) := by
                simp only [hit, Int.toNat_natCast, getD_of hy]
              have Htk := Lib.hid htk
              have Hhit := Lib.hid hhit
              have HNM := Lib.hid (show ∀ w', (farAt (farK rs a m) a (m + 1) (r.take jj ++ [(kz : Int)]) x = farAt (farK rs a m) a (m + 1) (r.take jj) x) → w' = wy → CellRel w0 rs a m k r x (.slice (some ⟨g2, 0, none⟩) n c2) (.int .i64 ((jj : Int) + 1)) w' from fun w' h1 h2 => by
                subst h2
                exact ⟨jj + 1, by rw [Hmr.out]; omega, by go_num, by rw [Htk.out, h1, HN.out]; exact Hown3.out, hby⟩)
              have HHT := Lib.hid (show (farAt (farK rs a m) a (m + 1) (r.take jj ++ [(kz : Int)]) x = (q : Int)) → CellRel w0 rs a m k r x (.slice (some ⟨g2, 0, none⟩) n c2) (.int .i64 ((jj : Int) + 1)) (wy.setCell ⟨g2, k, none⟩ (.int .i64 (q : Int))) from fun h1 => by
                refine ⟨jj + 1, by rw [Hmr.out]; omega, by go_num, ?_, hby.setCell hg2 _⟩
                rw [Htk.out, h1, HN.out]
                have h2 := Hown3.out.stored k (iv (q : Int))
                rw [map_set, List.set_set] at h2
                exact h2.1)
              clear hz hy hy' hxk htk hhit hzb
              by_cases hxn : x < 0
              · by_cases hq1' : q = 1
                · have hm0 : m = 0 := by have := Hqm.out; omega
                  by_cases hza : kz = a
                  · have Hz := Lib.hid (HHT.out (by rw [farAt_hit hxn (by rw [Hhit.out]; simp [hm0, hza]), Hqm.out]))
                    have e1 : ((q : Int) == 1) = true := by simp [hq1']
                    have e2 : ((kz : Int) == (a : Int)) = true := by simp [hza]
                    clear HHT HNM hq1' hza hm0
                    go_wp2_with fail
                    go_roundw
                    case rel => exact Hz.out
                    case measure => simp [intOf]; omega
                  · have Hz := Lib.hid (HNM.out wy (farAt_miss fun _ => by rw [Hhit.out]; simp [hm0]; omega) rfl)
                    have e1 : ((q : Int) == 1) = true := by simp [hq1']
                    have e2 : ((kz : Int) == (a : Int)) = false := by simp; omega
                    have e3 : ¬ (1 : Int) < (q : Int) := by omega
                    have e4 : ¬ (kz : Int) = (a : Int) := by omega
                    clear HHT HNM hq1' hza hm0
                    go_wp2_with fail
                    go_roundw
                    case rel => exact Hz.out
                    case measure => simp [intOf]; omega
                · have hm1 : 1 < m + 1 := by have := Hqm.out; omega
                  have e1 : ((q : Int) == 1) = false := by simp; omega
                  have e3 : (1 : Int) < (q : Int) := by omega
                  have e5 : ¬ (q : Int) = 1 := by omega
                  by_cases hyq : y = (q : Int) - 1
                  · have Hz := Lib.hid (HHT.out (by rw [farAt_hit hxn (by rw [Hhit.out]; simp only [Bool.or_eq_true, Bool.and_eq_true, decide_eq_true_eq]; right; have := Hqm.out; omega), Hqm.out]))
                    subst hyq
                    clear HHT HNM hq1' hm1
                    go_wp2_with fail
                    go_roundw
                    case rel => exact Hz.out
                    case measure => simp [intOf]; omega
                  · have Hz := Lib.hid (HNM.out wy (farAt_miss fun _ => by rw [Hhit.out]; simp only [Bool.or_eq_false_iff, Bool.and_eq_false_iff, decide_eq_false_iff_not]; have := Hqm.out; omega) rfl)
                    have e2 : (y == (q : Int) - 1) = false := by simp; omega
                    clear HHT HNM hq1' hm1
                    go_wp2_with fail
                    go_roundw
                    case rel => exact Hz.out
                    case measure => simp [intOf]; omega
              · have Hz := Lib.hid (HNM.out wy (farAt_miss fun h => absurd h hxn) rfl)
                clear HHT HNM
                go_wp2_with fail
                go_roundw
                case rel => exact Hz.out
                case measure => simp [intOf]; omega
            · obtain rfl : jj = mr := by omega
              have Hnx := Lib.hid (show NowRel w0 rs a m (.slice (some ⟨g2, 0, none⟩) n c2) (.int .i64 ((k : Int) + 1)) wy from ⟨k + 1, by rw [HN.out]; omega, by go_num, by
                have h1 := Hown3.out
                rw [List.take_of_length_le (by rw [Hmr.out]; omega), midL_next Hrk.out Hx.out] at h1
                rw [HN.out]; exact h1, hby⟩)
              go_wp2_with fail
              go_roundw
              case rel => exact Hnx.out
              case measure => simp [intOf]; omega
        · obtain rfl : k = n := by omega
          have HF := Lib.hid (show FarRel w rs a d (gk - 1) (.slice (some ⟨g2, 0, none⟩) k c2) (.int .i64 ((q : Int) + 1)) wx from ⟨m + 1, q + 1, by go_num, by have := Hqm.out; omega, by omega, by
            have h1 := Hown.out
            have h2 := midL_full rs a m
            rw [HN.out] at h2
            rw [h2] at h1
            exact SlI.own h1, hb.trans (hbx.mono hzr)⟩)
          go_wp2_with fail
          go_roundg (gk - 1)
          case measure => omega
          case rel => exact HF.out
    · obtain rfl : m = d := by omega
      rw [if_pos (Nat.le_refl _)] at hy
      obtain rfl : (m : Int) = y := by simpa using hy
      have hm64 : m ≤ 64 := by omega
      have hnd : ¬ (m : Int) < 0 := by omega
      have hcfd : ∀ X, (w0.alloc X).cell? ⟨bf, of + a, none⟩ = some (.int .i64 (m : Int)) := fun X => (World.cell?_alloc_lt w0 X ⟨bf, of + a, none⟩ hbf).trans hcf
      clear hy hmg hmd
      go_wp2_with fail
      go_quiet (fail)
      have Hst4 := Lib.hid (show OutRel w0 rs a m (m - 1) (.slice (some ⟨w0.heap.size, 0, none⟩) 1 1) (.int .i64 (a : Int)) (.int .i64 (m : Int)) ((w0.alloc (.cells #[.int .i64 (a : Int)] 3)).drewN nq) from by
        have h1 : m - 1 + 1 = m := by omega
        refine ⟨m - 1, a, m, [(a : Int)], rfl, rfl, rfl, by omega, by rw [HN.out]; exact han, by omega, by simp; omega, by rw [h1]; exact Hw.out, by rw [h1]; exact Hmin.out, rfl, ?_, ?_⟩
        · have h2 := World.ownsRow_lit (e := 3) (size := 1) (base := w0.heap.size) w0 #[.int .i64 (a : Int)] 1 (Nat.le_refl _) (by decide) rfl
          exact h2
        · exact below_drewN ((Below.refl _ _).alloc (Nat.le_refl _) _) _)
      go_wp2_with fail
      go_loopg [12, 13, 14] (m - 1) (fun g o i l wr => OutRel w0 rs a m g o i l wr)
      case atStart => exact Hst4.out
      case round =>
        obtain ⟨wq, rfl⟩ : ∃ wq, wq = wr := ⟨_, rfl⟩
        obtain ⟨c', k, q, pre, hgc, rfl, rfl, hqc, hkn, hcd, hpl, hwk, hmk, hfull, hown, hbq⟩ := hrel
        rw [HN.out] at hkn
        obtain ⟨ln, hln⟩ : ∃ ln, ln = pre.length := ⟨_, rfl⟩
        rw [← hln] at hown hpl
        obtain ⟨Ao, co, rfl, _, _, _⟩ := own_rd hown
        have hbwq := hb.trans (hbq.mono hzr)
        have Hown := Lib.hid hown
        have Hln := Lib.hid hln
        have hzq := hbq.size
        clear hown hln
        by_cases hc0 : c' = 0
        · subst hc0
          have hq1 : ¬ (1 : Int) < (q : Int) := by omega
          have HP := Lib.hid (show ShortPost w rs a m (.returned (.slice Ao ln co)) wq from ⟨_, _, rfl, rfl, by
            rw [← hfull]; simp only [wayK, List.append_nil, ← Hln.out]; exact own_mono Hown.out hzr, hbwq⟩)
          clear hfull hwk hmk hqc hgc hpl
          go_wp2_with fail
          go_ret
          exact HP.out
        · obtain ⟨c, rfl⟩ : ∃ c, c' = c + 1 := ⟨c' - 1, by omega⟩
          obtain ⟨k2, hbest, hk2, hed, hw2, hm2⟩ := step_ok Hg.out hwk hmk hcd
          have hq1 : (1 : Int) < (q : Int) := by omega
          have hqq : (q : Int) - 1 = ((c + 1 : Nat) : Int) := by omega
          obtain ⟨b, o, u, rfl, hbB, hu, hc⟩ := (hr.below hbwq).at_ hkn
          have hrk : rs[k]? = some (rs[k]'(by have := HN.out; omega)) := List.getElem?_eq_getElem _
          obtain ⟨r, hr0⟩ : ∃ r, r = rs[k]'(by have := HN.out; omega) := ⟨_, rfl⟩
          rw [← hr0] at hrk
          obtain ⟨Ar, mr, cr, rfl, hmr, _, _, hrr⟩ := Hs.out.2 k u r hu hrk
          have hmrb : mr ≤ 1000000000 := by rw [← hmr]; exact Hg.out.row (List.mem_of_getElem? hrk)
          have hgd : rs.getD k [] = r := by rw [List.getD_eq_getElem?_getD, hrk]; rfl
          rw [hgd] at hbest
          have Hgd := Lib.hid hgd
          have Hpos := Lib.hid (Hg.out.ok r (List.mem_of_getElem? hrk))
          have Hmr := Lib.hid hmr
          have Hbest := Lib.hid hbest
          have Hed := Lib.hid hed
          have Hw2 := Lib.hid hw2
          have Hm2 := Lib.hid hm2
          have Hfull := Lib.hid hfull
          have Hqq := Lib.hid hqq
          have Hqc := Lib.hid hqc
          have Hgc := Lib.hid hgc
          have Hpl := Lib.hid hpl
          have hq64 : q ≤ 64 := by omega
          have hln64 : ln ≤ 64 := by omega
          rw [HN.out] at hk2
          clear hu hr0 hrk hmr hgd hbest hed hw2 hm2 hfull hqq hwk hmk hqc hgc hpl hc0
          go_wp2_with fail
          go_loop [15, 94] (fun b i => ∃ (j : Nat) (x : Int), j ≤ mr ∧ i = .int .i64 (j : Int) ∧ b = .int .i64 x ∧ Hid (x = bestL (hitD (farK rs a m) (c + 1)) (r.take j))) (fun _ i => mr - (intOf i).toNat)
          case atStart => exact ⟨0, -1, Nat.zero_le _, rfl, rfl, Lib.hid rfl⟩
          case round =>
            obtain ⟨j, x, hj, rfl, rfl, hx⟩ := hrel
            by_cases hjl : j < mr
            · have hjl' : (j : Int) < (mr : Int) := by omega
              obtain ⟨bz, oz, z, rfl, hbz, hz, hcz⟩ := (hrr.below hbwq).one hjl
              have hzb := Hpos.out z (List.mem_of_getElem? hz)
              obtain ⟨kz, hkz⟩ : ∃ kz : Nat, (kz : Int) = z := ⟨z.toNat, by omega⟩
              subst hkz
              have hkzn : kz < n := by rw [HN.out] at hzb; omega
              obtain ⟨y, hy⟩ := farK_at (a := a) (List.getElem?_eq_getElem (show kz < rs.length by rw [HN.out]; exact hkzn)) m
              obtain ⟨bq, oq, y', heq, _, hy', hcy⟩ := (hfr.below hbq).one hkzn
              injection heq with heq
              injection heq with he1 he2
              subst he1 he2
              rw [hy] at hy'
              obtain rfl : y = y' := by simpa using hy'
              have hP : hitD (farK rs a m) (c + 1) (kz : Int) = decide (y = (q : Int) - 1) := by
                simp only [hitD, Int.toNat_natCast, getD_of hy, Hqq.out]
              have hnx := Lib.hid (show bestL (hitD (farK rs a m) (c + 1)) (r.take (j + 1)) = bestS (hitD (farK rs a m) (c + 1)) x (kz : Int) by
                rw [List.take_add_one, hz]; simp only [Option.toList_some]; rw [bestL_snoc, ← hx.out])
              have HP := Lib.hid hP
              clear hz hy hy' hP hzb
              by_cases hyq : y = (q : Int) - 1
              · by_cases hx0 : x < 0
                · have Hz := Lib.hid (show (kz : Int) = bestL (hitD (farK rs a m) (c + 1)) (r.take (j + 1)) by rw [hnx.out, bestS, HP.out]; simp [hyq, hx0])
                  subst hyq
                  go_wp2_with fail
                  go_round
                  case rel => exact ⟨j + 1, _, by omega, by go_num, rfl, Hz⟩
                  case measure => simp [intOf]; omega
                · by_cases hlx : (kz : Int) < x
                  · have Hz := Lib.hid (show (kz : Int) = bestL (hitD (farK rs a m) (c + 1)) (r.take (j + 1)) by rw [hnx.out, bestS, HP.out]; simp [hyq, hlx])
                    subst hyq
                    go_wp2_with fail
                    go_round
                    case rel => exact ⟨j + 1, _, by omega, by go_num, rfl, Hz⟩
                    case measure => simp [intOf]; omega
                  · have Hz := Lib.hid (show x = bestL (hitD (farK rs a m) (c + 1)) (r.take (j + 1)) by rw [hnx.out, bestS, HP.out]; simp [hyq]; omega)
                    subst hyq
                    go_wp2_with fail
                    go_round
                    case rel => exact ⟨j + 1, _, by omega, by go_num, rfl, Hz⟩
                    case measure => simp [intOf]; omega
              · have Hz := Lib.hid (show x = bestL (hitD (farK rs a m) (c + 1)) (r.take (j + 1)) by rw [hnx.out, bestS, HP.out]; simp [hyq])
                have e2 : (y == (q : Int) - 1) = false := by simp; omega
                go_wp2_with fail
                go_round
                case rel => exact ⟨j + 1, _, by omega, by go_num, rfl, Hz⟩
                case measure => simp [intOf]; omega
            · obtain rfl : j = mr := by omega
              have hx2 := hx.out
              rw [List.take_of_length_le (by rw [Hmr.out]; omega), Hbest.out] at hx2
              subst hx2
              have hlm : ln + 1 ≤ maxLen := by unfold maxLen; omega
              clear hx
              go_wp2_with (at_builtin; refine wpList_push rfl (.tmp 116) (.tmp 118) 22 rfl w0.heap.size 3 j0 (.int .i64 0) 1 8 Try.underlying22 hji hy0 hy1 hy2 rfl (by omega) _ ln _ rfl Hown.out [_] rfl rfl (by simp [Value.oneCell']) hlm (by omega) hzq ?_; intro v6 w6 hn6 hb6 _)
              have Hnew := Lib.hid (show OutRel w0 rs a m c v6 (.int .i64 (k2 : Int)) (.int .i64 ((q : Int) - 1)) w6 from ⟨c, k2, q - 1, pre ++ [(k2 : Int)], rfl, rfl, by rw [show ((q - 1 : Nat) : Int) = (q : Int) - 1 by omega], by have := Hqc.out; omega, by rw [HN.out]; exact hk2, by omega, by rw [List.length_append]; have := Hpl.out; have := Hln.out; simp; omega, Hw2.out, Hm2.out, by
                rw [← Hfull.out]
                simp only [wayK, Int.toNat_natCast, Hgd.out, Hbest.out, List.append_assoc, List.singleton_append], by
                rw [List.length_append, List.map_append, ← Hln.out]; exact hn6, hbq.trans hb6⟩)
              clear hn6 hb6
              go_roundg c
              case measure => have := Hgc.out; omega
              case rel => exact Hnew.out
end Go.Proofs.Ytgmjeanoohmdlaa
