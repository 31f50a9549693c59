/- gantlaw5.least. Conditions: those typed. -/
import Derived.Test.YtambngbkegnghaaLeastPlain
import Derived.Test.YtambngbkegnghaaSetOf
import Derived.Deep.RegionHeld3
namespace Go.Proofs.Ytambngbkegnghaa
open Go.RowKit Go.Gy Go.Maps
set_option linter.unusedVariables false
def LeastPost (w : World) (r : Option (List Int)) (e : Ending) (w' : World) : Prop :=
  (r = none ∧ e = .returned (.slice none 0 0) ∧ Below w.heap.size w w') ∨ ∃ l b o n c, r = some l ∧ e = .returned (.slice (some ⟨b, o, none⟩) n c) ∧ SlI w' w'.heap.size (.slice (some ⟨b, o, none⟩) n c) l ∧ Below w.heap.size w w'
def leastUp (has wants : List (List Cell)) (f : Nat) (done : List Int) (k : Nat) : Option (List Int) := (List.range k).findSome? fun (i : Nat) => if (i : Int) ∉ done ∧ freeF has (wants.getD i []) i done = true then leastF has wants f (done ++ [(i : Int)]) else none
theorem leastUp_succ (has wants : List (List Cell)) (f : Nat) (done : List Int) (k : Nat) (h : leastUp has wants f done k = none) : leastUp has wants f done (k + 1) = if (k : Int) ∉ done ∧ freeF has (wants.getD k []) k done = true then leastF has wants f (done ++ [(k : Int)]) else none := by
  unfold leastUp at h ⊢
  rw [List.range_succ, List.findSome?_append, h, Option.none_or, List.findSome?_cons, List.findSome?_nil]
  split <;> (rename_i h2; exact h2.symm)
theorem leastUp_some {has wants : List (List Cell)} {f : Nat} {done l : List Int} {k n : Nat} (hk : k ≤ n) (h : leastUp has wants f done k = some l) : leastUp has wants f done n = some l := by
  obtain ⟨m, rfl⟩ : ∃ m, n = k + m := ⟨n - k, by omega⟩
  unfold leastUp at h ⊢
  rw [List.range_add, List.findSome?_append, h]; rfl
def okF (has : List (List Cell)) (want : List Cell) (arm : Int) (done : List Int) (j : Nat) : Bool := (List.range j).all (freeAt has want arm done)
theorem okF_succ (has : List (List Cell)) (want : List Cell) (arm : Int) (done : List Int) (j : Nat) : okF has want arm done (j + 1) = (okF has want arm done j && freeAt has want arm done j) := by
  unfold okF
  rw [List.range_succ, List.all_append]; simp
theorem cellsF_wf {l : List Cell} (h : cellsF l = 0) : ∀ c ∈ l, WfC c := fun c hc => onC_wf (((cellsF_sorted l).1 h).2.1 c hc)
set_option maxRecDepth 100000 in
set_option maxHeartbeats 8000000 in
theorem least_any (has wants : List (List Cell)) (hn4 : has.length ≤ 4) (hlen : wants.length = has.length) (hH : ∀ r ∈ has, cellsF r = 0) (hW : ∀ r ∈ wants, cellsF r = 0) :
    ∀ (f : Nat) (w : World) (v v2 d : Value) (done : List Int), RowsC w w.heap.size v has → RowsC w w.heap.size v2 wants → SlI w w.heap.size d done → done.length + f = has.length → 0 < has.length →
    Calls Try.prog 34 #[v, v2, d] w (LeastPost w (leastF has wants f done)) := by
  intro f
  induction f with
  | zero =>
    intro w v v2 d done hv hv2 hd hf h0
    obtain ⟨A, n, c, vs, rfl, hln, _⟩ := id hv
    obtain ⟨A', n', c', vs', rfl, hln', _⟩ := id hv2
    obtain ⟨Ad, nd, cd, rfl, hld, _, _, hrd⟩ := id hd
    obtain ⟨bd, od, hAd, _⟩ := hrd.2 (by omega)
    subst hAd
    obtain rfl : nd = n := by omega
    have HP := Lib.hid (show LeastPost w (leastF has wants 0 done) (.returned (.slice (some ⟨bd, od, none⟩) nd cd)) w from .inr ⟨done, _, _, _, _, rfl, rfl, hd, Below.refl _ _⟩)
    clear hv hv2 hd hln hln' hld hrd hf h0
    go_enter Try.func34, Try.ntmps34
    go_wp2_with fail
    go_ret
    exact HP.out
  | succ f ih =>
    intro w v v2 d done hv hv2 hd hf h0
    obtain ⟨A, n, c, vs, rfl, hln, _⟩ := id hv
    obtain ⟨A', n', c', vs', rfl, hln', _⟩ := id hv2
    obtain ⟨Ad, nd, cd, rfl, hld, _⟩ := id hd
    obtain rfl : n' = n := by omega
    obtain ⟨i0, hi, hz0, hz1, hz2⟩ := info_parts info_int
    have HIH := Lib.hid ih
    have HV := Lib.hid hv
    have HV2 := Lib.hid hv2
    have HD := Lib.hid hd
    have Hln := Lib.hid hln
    have Hln' := Lib.hid hln'
    have Hld := Lib.hid hld
    have Hf := Lib.hid hf
    have HHc := Lib.hid hH
    have HWc := Lib.hid hW
    have hn4' : n' ≤ 4 := by omega
    have hnd : nd < n' := by omega
    have hne : ¬ (nd : Int) = (n' : Int) := by omega
    have hneb : ((nd : Int) == (n' : Int)) = false := by simpa using hne
    have HL := Lib.hid (show leastF has wants (f + 1) done = leastUp has wants f done n' from by rw [leastF, hln]; rfl)
    clear hv hv2 hd hln hln' hld hf ih hH hW h0
    go_enter Try.func34, Try.ntmps34
    go_wp2_with fail
    go_loopw [19] (fun i wr => ∃ k : Nat, k ≤ n' ∧ i = .int .i64 (k : Int) ∧ Hid (leastUp has wants f done k = none) ∧ Below w.heap.size w wr) (fun i _ => n' - (intOf i).toNat)
    case atStart => exact ⟨0, Nat.zero_le _, rfl, Lib.hid rfl, Below.refl _ _⟩
    case round =>
      obtain ⟨k, hk, rfl, Hno, hb⟩ := hrel
      have Hb := Lib.hid hb
      clear hb
      by_cases hkn : k < n'
      · have HCn := Lib.hid (fun (w9 : World) (h9 : Below wr.heap.size wr w9) (x : Int) => contains_ints w9 (.slice Ad nd cd) w9.heap.size done x (((HD.out.below Hb.out).more Hb.out.size).below h9 |>.more h9.size) (by have := Hld.out; omega))
        have HC0 := Lib.hid (HCn.out wr (Below.refl _ _) (k : Int))
        have Hup := Lib.hid (leastUp_succ has wants f done k Hno.out)
        go_wp2_with fail
        refine HC0.out.mono ?_
        rintro e w3 ⟨rfl, rfl⟩
        by_cases hin : (k : Int) ∈ done
        · have HR := Lib.hid (show leastUp has wants f done (k + 1) = none from by rw [Hup.out, if_neg (fun h => h.1 hin)])
          rw [decide_eq_true hin]
          clear hin HC0
          go_wp2_with fail
          go_roundw
          case rel => exact ⟨k + 1, by omega, by go_num, Lib.hid HR.out, Hb.out⟩
          case measure => simp [intOf]; omega
        have Hin := Lib.hid hin
        rw [decide_eq_false hin]
        obtain ⟨bF, oF, y, rw', rfl, hbF, q1, hrw, hy⟩ := (HV2.out.below Hb.out).get hkn
        obtain ⟨Ay, ny, cy, rfl, _⟩ := id hy
        have HrW := Lib.hid (show wants.getD k [] = rw' by rw [List.getD_eq_getElem?_getD, hrw]; rfl)
        have HcW := Lib.hid (HWc.out rw' (List.mem_of_getElem? hrw))
        have Hy := Lib.hid (hy.more Hb.out.size)
        have HbF := Lib.hid (Nat.lt_of_lt_of_le hbF Hb.out.size)
        have Hq1 := Lib.hid q1
        have Hkn := Lib.hid hkn
        clear hin HC0 hy hrw hbF q1
        go_wp2_with fail
        obtain ⟨w0, rfl⟩ : ∃ w0, w0 = wr := ⟨_, rfl⟩
        go_loopw [8, 27] (fun q j wr => ∃ j' : Nat, j' ≤ n' ∧ j = .int .i64 (j' : Int) ∧ q = .bool (okF has rw' (k : Int) done j') ∧ Below w0.heap.size w0 wr) (fun _ j _ => n' - (intOf j).toNat)
        case atStart => exact ⟨0, Nat.zero_le _, rfl, rfl, Below.refl _ _⟩
        case round =>
          obtain ⟨j, hj, rfl, rfl, hbj⟩ := hrel
          have Hbj := Lib.hid hbj
          have Hbw := Lib.hid (Hb.out.trans (hbj.mono Hb.out.size))
          obtain ⟨ok, hok⟩ : ∃ ok, ok = okF has rw' (k : Int) done j := ⟨_, rfl⟩
          rw [← hok]
          have Hsu := Lib.hid (okF_succ has rw' (k : Int) done j)
          rw [← hok] at Hsu
          have Hok := Lib.hid hok
          clear hbj hok
          by_cases hjn : j < n'
          · cases ok
            · have HR := Lib.hid (show okF has rw' (k : Int) done (j + 1) = false from by rw [Hsu.out]; rfl)
              go_wp2_with fail
              go_quiet (fail)
              go_wp2_with fail
              go_roundw
              case rel => exact ⟨j + 1, by omega, by go_num, by rw [HR.out], below_drewN Hbj.out _⟩
              case measure => simp [intOf]; omega
            have hfa : freeAt has rw' (k : Int) done j = (decide ((j : Int) = (k : Int)) || (decide ((j : Int) ∈ done) || !meets (has.getD j []) rw')) := rfl
            have Hfa := Lib.hid hfa
            clear hfa
            by_cases hjk : j = k
            · have hjb : ((j : Int) == (k : Int)) = true := by simpa using (show (j : Int) = (k : Int) by omega)
              have HR := Lib.hid (show okF has rw' (k : Int) done (j + 1) = true from by rw [Hsu.out, Hfa.out, decide_eq_true (by omega)]; rfl)
              clear hjk
              go_wp2_with fail
              go_quiet (fail)
              go_wp2_with fail
              go_roundw
              case rel => exact ⟨j + 1, by omega, by go_num, by rw [HR.out], below_drewN Hbj.out _⟩
              case measure => simp [intOf]; omega
            have hjn2 : ¬ (j : Int) = (k : Int) := by omega
            have hjb : ((j : Int) == (k : Int)) = false := by simpa using hjn2
            have HCj := Lib.hid (fun n => (HCn.out (wr.drewN n) (below_drewN Hbj.out n) (j : Int)).mono fun _ _ ⟨he, hw⟩ => (⟨he, hw.symm⟩ : _ ∧ _))
            have HCd := Lib.hid (HCn.out wr.drew (Hbj.out.drew) (j : Int))
            by_cases hin : (j : Int) ∈ done
            · have HR := Lib.hid (show okF has rw' (k : Int) done (j + 1) = true from by rw [Hsu.out, Hfa.out, decide_eq_true hin]; simp)
              rw [decide_eq_true hin] at HCj
              clear hin hjk
              go_wp2_with fail
              go_quiet ((go_at_call 24; exact Calls.quiet_of_same (HCj.out _)))
              go_wp2_with fail
              go_roundw
              case rel => exact ⟨j + 1, by omega, by go_num, by rw [HR.out], below_drewN Hbj.out _⟩
              case measure => simp [intOf]; omega
            · obtain ⟨bE, oE, x, r, rfl, hbE, q0, hr, hx⟩ := (HV.out.below Hbw.out).get hjn
              obtain ⟨Ax, nx, cx, rfl, _⟩ := id hx
              have hrD : has.getD j [] = r := by rw [List.getD_eq_getElem?_getD, hr]; rfl
              have HR := Lib.hid (show okF has rw' (k : Int) done (j + 1) = !meets r rw' from by rw [Hsu.out, Hfa.out, decide_eq_false hjn2, decide_eq_false hin, hrD]; simp)
              have hcx := HHc.out r (List.mem_of_getElem? hr)
              have hbEw : bE < wr.heap.size := Nat.lt_of_lt_of_le hbE Hbw.out.size
              have hbFw : bF < wr.heap.size := Nat.lt_of_lt_of_le HbF.out Hbj.out.size
              have hw0 : w0.heap.size ≤ wr.heap.size := Hbj.out.size
              have q1 : wr.cell? ⟨bF, oF + k, none⟩ = some (.slice Ay ny cy) := (Hbj.out.cell (p := ⟨bF, oF + k, none⟩) HbF.out).trans Hq1.out
              have HbD := Lib.hid ((Below.refl wr.heap.size wr).drew)
              have HSk := Lib.hid (show ∀ w', Below wr.heap.size wr w' → w'.cell? ⟨bE, oE + j, none⟩ = some (.slice Ax nx cx) ∧ w'.cell? ⟨bF, oF + k, none⟩ = some (.slice Ay ny cy) ∧ Below wr.heap.size wr w' from fun w' hb => ⟨(hb.cell (p := ⟨bE, oE + j, none⟩) hbEw).trans q0, (hb.cell (p := ⟨bF, oF + k, none⟩) hbFw).trans q1, hb⟩)
              have HSH := Lib.hid (fun (w' : World) (hb : Below wr.heap.size wr w') => setof_any w' (.slice Ax nx cx) r (((hx.more Hbw.out.size).below hb).more hb.size) (cellsF_wf hcx) (by have := cellsF_len hcx; omega))
              have HSW := Lib.hid (fun (w' : World) (hb : Below wr.heap.size wr w') => setof_any w' (.slice Ay ny cy) rw' ((((Hy.out.below Hbj.out).more Hbj.out.size).below hb).more hb.size) (cellsF_wf HcW.out) (by have := cellsF_len HcW.out; omega))
              have Hwf := Lib.hid (cellsF_wf hcx)
              have s1 : (0 : Int) ≤ (k : Int) := by omega
              have s2 : (k : Int) < (n' : Int) := by have := Hkn.out; omega
              have s3 : k < n' := Hkn.out
              rw [decide_eq_false hin] at HCd
              clear hin hx hr hbE hrD hcx hjk
              go_wp2_with fail
              go_region_held3 (fun w' => w'.cell? ⟨bE, oE + j, none⟩ = some (.slice Ax nx cx) ∧ w'.cell? ⟨bF, oF + k, none⟩ = some (.slice Ay ny cy) ∧ Below wr.heap.size wr w') (with_reducible (first | exact HSk.out _ hbT | exact HSk.out _ hbW | exact HSk.out _ hbH | exact HSk.out _ HbD.out))
                (first
                  | (go_at_call 24; refine HCd.out.mono ?_; rintro e w7 ⟨rfl, rfl⟩)
                  | (go_at_call 32; refine (HSW.out _ hbH).mono ?_; rintro e wW ⟨bW, rfl, _, hsW, hlW⟩; have hbW : Below wr.heap.size wr wW := hbH.trans (hlW.mono hbH.size); have hS1 := hsH.below hlW hsH.lt; have hS2 := hsW)
                  | (go_at_call 32; refine (HSH.out _ HbD.out).mono ?_; rintro e wH ⟨bH, rfl, _, hsH, hlH⟩; have hbH : Below wr.heap.size wr wH := HbD.out.trans hlH)
                  | (go_at_call 33; refine (touches_any wW bH r.length bW rw'.length r rw' hS1 hS2 Hwf.out).mono ?_; rintro e wT ⟨rfl, hlT⟩; have hbT : Below wr.heap.size wr wT := hbW.trans (hlT.mono hbW.size)))
              go_wp2_with fail
              go_roundw
              case rel => exact ⟨j + 1, by omega, by go_num, by rw [HR.out], Hbj.out.trans (hbT.mono hw0)⟩
              case measure => simp [intOf]; omega
          · obtain rfl : j = n' := by omega
            have Hfree := Lib.hid (show freeF has (wants.getD k []) (k : Int) done = ok from by rw [Hok.out, HrW.out]; unfold freeF okF; rw [Hln.out])
            cases ok
            · have HR := Lib.hid (show leastUp has wants f done (k + 1) = none from by rw [Hup.out, if_neg (fun h => by rw [Hfree.out] at h; exact absurd h.2 (by decide))])
              go_wp2_with fail
              go_roundw
              case rel => exact ⟨k + 1, Hkn.out, by go_num, Lib.hid HR.out, Hbw.out⟩
              case measure => have := Hkn.out; simp [intOf]; omega
            · have hcl := clone_ints wr (.slice Ad nd cd) done ((HD.out.below Hbw.out).more Hbw.out.size) (by have := Hld.out; omega)
              rw [Hld.out] at hcl
              have HCl := Lib.hid hcl
              have Hup2 := Lib.hid (show leastUp has wants f done (k + 1) = leastF has wants f (done ++ [(k : Int)]) from by rw [Hup.out, if_pos ⟨Hin.out, Hfree.out⟩])
              clear hcl
              go_wp2_with fail
              refine HCl.out.mono ?_
              rintro e w5 ⟨v5, rfl, hown5, hb5⟩
              have Hb5 := Lib.hid (Hbw.out.trans (hb5.mono Hbw.out.size))
              have Hown5 := Lib.hid (own_mono hown5 Hbw.out.size)
              have hsz5 := Hb5.out.size
              have hlo : nd + 1 ≤ maxLen := by unfold maxLen; omega
              have Hlo := Lib.hid hlo
              obtain ⟨A5, c5, rfl, _⟩ := own_rd hown5
              clear hown5 hb5 hlo HCl
              have HRec := Lib.hid (fun (w6 : World) (v6 : Value) (h1 : w6.ownsRow w.heap.size 3 1 v6 (nd + 1) (done.map iv ++ [.int .i64 (k : Int)])) (h2 : Below w.heap.size w w6) => HIH.out w6 _ _ v6 (done ++ [(k : Int)]) ((HV.out.below h2).more h2.size) ((HV2.out.below h2).more h2.size) (by
                have e : (done ++ [(k : Int)]).length = nd + 1 := by rw [List.length_append, Hld.out]; rfl
                refine own_sli (base := w.heap.size) ?_
                rw [e, List.map_append]; exact h1) (by rw [List.length_append]; have := Hf.out; simp; omega) (by rw [Hln.out]; have := Hkn.out; omega))
              go_wp2_with (at_builtin; refine wpList_push rfl (.tmp 60) (.tmp 62) 22 rfl w.heap.size 3 i0 (.int .i64 0) 1 8 Try.underlying22 hi hz0 hz1 hz2 rfl (by omega) _ nd _ rfl Hown5.out [.int .i64 (k : Int)] rfl rfl (by simp [Value.oneCell']) Hlo.out (by omega) hsz5 ?_; intro v6 w6 hn6 hb6 hv6; have HRc := Lib.hid (HRec.out w6 v6 hn6 (Hb5.out.trans hb6)); have Hb6 := Lib.hid (Hb5.out.trans hb6); obtain ⟨g6, c6, rfl, _⟩ := hv6; clear hn6 hb6)
              refine HRc.out.mono ?_
              intro e w7 hp
              rcases hp with ⟨h1, rfl, hb7⟩ | ⟨lo, b7, o7, n7, c7, h1, rfl, hs7, hb7⟩
              · have HR := Lib.hid (show leastUp has wants f done (k + 1) = none from by rw [Hup2.out]; exact h1)
                have Hb7 := Lib.hid (Hb6.out.trans (hb7.mono Hb6.out.size))
                clear h1 hb7 HRc
                go_wp2_with fail
                go_roundw
                case rel => exact ⟨k + 1, Hkn.out, by go_num, Lib.hid HR.out, Hb7.out⟩
                case measure => have := Hkn.out; simp [intOf]; omega
              · have HP := Lib.hid (show LeastPost w (leastF has wants (f + 1) done) (.returned (.slice (some ⟨b7, o7, none⟩) n7 c7)) w7 from .inr ⟨lo, _, _, _, _, by rw [HL.out]; exact leastUp_some (k := k + 1) Hkn.out (by rw [Hup2.out]; exact h1), rfl, hs7, Hb6.out.trans (hb7.mono Hb6.out.size)⟩)
                clear h1 hs7 hb7 HRc
                go_wp2_with fail
                go_ret
                exact HP.out
      · obtain rfl : k = n' := by omega
        have HP := Lib.hid (show LeastPost w (leastF has wants (f + 1) done) (.returned (.slice none 0 0)) wr from .inl ⟨by rw [HL.out]; exact Hno.out, rfl, Hb.out⟩)
        go_wp2_with fail
        go_ret
        exact HP.out
end Go.Proofs.Ytambngbkegnghaa
