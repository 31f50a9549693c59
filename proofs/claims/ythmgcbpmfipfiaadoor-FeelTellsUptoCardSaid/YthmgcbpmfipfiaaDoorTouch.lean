/- feel.Touch. Conditions: those typed. -/
import Derived.Test.YthmgcbpmfipfiaaDoorTouchPlain
import Derived.Test.YthmgcbpmfipfiaaDoorFeelS
namespace Go.Proofs.YthmgcbpmfipfiaaDoor
open Go.RowKit Go.Gy
set_option linter.unusedVariables false
theorem info_bool : (Tryd.prog.info? 4).map (fun i => (i.zero, i.size, i.bytes)) = some (some (.bool false), 1, 1) := by kernel_rfl
theorem own_more {w : World} {base base' : Nat} {e : TypeId} {size n : Nat} {v : Value} {xs : List Value} (h : w.ownsRow base' e size v n xs) (hb : base ≤ base') : w.ownsRow base e size v n xs := by
  obtain ⟨h1, h2 | ⟨g, cap, cur, h2, h3, h4⟩⟩ := h
  · exact ⟨h1, .inl h2⟩
  · exact ⟨h1, .inr ⟨g, cap, cur, h2, Nat.le_trans hb h3, h4⟩⟩
def bv (b : Bool) : Value := .bool b
def ToRel (w : World) (lo hi : Q3) (h : Int) (L : List Rat) (n : Nat) (v on many i : Value) (wr : World) : Prop :=
  ∃ k : Nat, k ≤ n ∧ i = .int .i64 k ∧ on = .bool (stT lo.q hi.q h L k).1 ∧ many = .int .i64 (stT lo.q hi.q h L k).2 ∧ wr.ownsRow (w.heap.size + 2) 4 1 v k ((outT lo.q hi.q h L k).map bv) ∧
    In w [(w.heap.size + 1, 27, #[.bool hi.neg, .string hi.num, .string hi.den]), (w.heap.size, 27, #[.bool lo.neg, .string lo.num, .string lo.den])] wr
set_option maxRecDepth 100000 in
set_option maxHeartbeats 8000000 in
theorem touch_ok (w : World) (v : Value) (l : List Q3) (lo hi : Q3) (h : Int) (hv : SlQ w w.heap.size v l) (hl : ∀ x ∈ l, x.ok) (hlo : lo.ok) (hhi : hi.ok) (h1 : 1 ≤ h) (hle : lo.q ≤ hi.q) (hn : l.length ≤ 1000) (hT : TabW w) :
    Calls Tryd.prog 24 #[v, .agg #[.bool lo.neg, .string lo.num, .string lo.den], .agg #[.bool hi.neg, .string hi.num, .string hi.den], .int .i64 h] w fun e w' => ∃ v', e = .returned (.tuple #[v', .int .i64 0]) ∧ w'.ownsRow w.heap.size 4 1 v' l.length ((outT lo.q hi.q h (l.map Q3.q) l.length).map bv) ∧ Below w.heap.size w w' := by
  have HT := Lib.hid hT
  obtain ⟨i0, hi0, hz0, hz1, hz2⟩ := info_parts info_bool
  obtain ⟨A, n, c, rfl, hln, hnc, hA, hrd⟩ := hv
  subst hln
  obtain ⟨c0, _, p0, _, C0⟩ := cmpR w hT lo hi (hlo : lo.le 274877906944) (hhi : hi.le 274877906944)
  have g0 : ¬ c0 > 0 := fun hc => absurd (p0.mp hc) (by grind)
  have g1 : ¬ h < 1 := by omega
  have g1' : decide (h < 1) = false := by simpa using g1
  have hI := ((In.start w).alloc 27 #[.bool lo.neg, .string lo.num, .string lo.den]).alloc 27 #[.bool hi.neg, .string hi.num, .string hi.den]
  rw [World.size_alloc] at hI
  have HM := Lib.hid (show ∀ j, (l.map Q3.q)[j]? = (l[j]?).map Q3.q from fun j => List.getElem?_map)
  obtain ⟨L, hL⟩ : ∃ L, L = l.map Q3.q := ⟨_, rfl⟩
  rw [← hL] at HM ⊢
  have HR := Lib.hid (stT_range lo.q hi.q h1 L)
  have hni : ¬ (l.length : Int) > 1000 := by omega
  have HRD := Lib.hid hrd
  clear p0 hL hrd hT
  go_enter Tryd.func24, Tryd.ntmps24
  go_wp2_with fail
  refine (C0.out _ hI.bel).mono ?_
  rintro e wn ⟨rfl, hb⟩
  replace hI := hI.call hb
  clear hb
  have hst := Lib.hid (show ToRel w lo hi h L l.length (.slice none 0 0) (.bool false) (.int .i64 0) (.int .i64 0) wn from ⟨0, Nat.zero_le _, rfl, rfl, rfl, ⟨rfl, .inl ⟨rfl, rfl⟩⟩, hI⟩)
  go_wp2_with fail
  go_loopw [10, 11, 12, 29] (fun v on many i wr => ToRel w lo hi h L l.length v on many i wr) (fun _ _ _ i _ => l.length - (intOf i).toNat)
  case atStart => exact hst.out
  case round =>
    clear hst hI
    obtain ⟨k, hk, rfl, rfl, rfl, hown, hJ⟩ := hrel
    by_cases hkn : k < l.length
    · have hki : (k : Int) < (l.length : Int) := by omega
      have hki2 : 0 ≤ (k : Int) ∧ (k : Int) < (l.length : Int) := by omega
      obtain ⟨x, hx⟩ : ∃ x, l[k]? = some x := ⟨_, List.getElem?_eq_getElem hkn⟩
      obtain ⟨b, o, rfl, hbB, e0, e1, e2⟩ := Rd.quot HRD.out hx
      have hxo : x.le 274877906944 := hl x (List.mem_of_getElem? hx)
      have hsx : L[k]? = some x.q := by rw [HM.out, hx]; rfl
      have HS := Lib.hid (stT_succ (lo := lo.q) (hi := hi.q) (hold := h) hsx)
      obtain ⟨r1, r2, r3⟩ := HR.out k
      obtain ⟨on, many, hsk⟩ : ∃ on many, stT lo.q hi.q h L k = (on, many) := ⟨_, _, rfl⟩
      rw [hsk] at HS r1 r2 r3 ⊢
      simp only at r1 r2 r3
      have d0 := (hJ.old (o := o + k * 3) hbB).trans e0
      have d1 := (hJ.old (o := o + k * 3 + 1) hbB).trans e1
      have d2 := (hJ.old (o := o + k * 3 + 2) hbB).trans e2
      have hbn : b < wr.heap.size := Nat.lt_of_lt_of_le hbB hJ.bel.size
      obtain ⟨f, qf, _, lf, A1⟩ := absR w HT.out x hxo
      obtain ⟨ca, _, _, pa, CA⟩ := cmpR w HT.out f lo lf (hlo : lo.le 274877906944)
      obtain ⟨cb, _, pb, _, CB⟩ := cmpR w HT.out f hi lf (hhi : hi.le 274877906944)
      rw [qf] at pa pb
      clear e0 e1 e2 hx hsx
      have hR := (In.start wr).alloc 27 #[.bool x.neg, .string x.num, .string x.den]
      replace A1 := up A1 hJ.bel
      replace CA := up CA hJ.bel
      replace CB := up CB hJ.bel
      have hl0 : w.heap.size < wr.heap.size := hJ.lt (k := 1) rfl
      have hl1 : w.heap.size + 1 < wr.heap.size := hJ.lt (k := 0) rfl
      go_wp2_with fail
      generalize World.alloc _ _ = W1 at hR ⊢
      refine (A1.out _ hR.bel).mono ?_
      rintro e W2 ⟨rfl, hb⟩
      replace hR := (hR.call hb).alloc 27 #[.bool f.neg, .string f.num, .string f.den]
      obtain ⟨gf, hgf⟩ : ∃ gf, gf = W2.heap.size := ⟨_, rfl⟩
      clear hb A1
      have Hown := Lib.hid hown
      have HJ := Lib.hid hJ
      have hf2 : gf ≠ wr.heap.size := by
        have := hR.apart
        rw [← hgf] at this
        simpa using this
      have fx := hR.facts
      simp only [factsOf, cellsOf, Nat.zero_add, Nat.reduceAdd] at fx
      have o0 := (hR.old (c := w.heap.size) (o := 0) hl0).trans (hJ.cell (k := 1) (i := 0) rfl rfl)
      have o1 := (hR.old (c := w.heap.size) (o := 1) hl0).trans (hJ.cell (k := 1) (i := 1) rfl rfl)
      have o2 := (hR.old (c := w.heap.size) (o := 2) hl0).trans (hJ.cell (k := 1) (i := 2) rfl rfl)
      have o3 := (hR.old (c := w.heap.size + 1) (o := 0) hl1).trans (hJ.cell (k := 0) (i := 0) rfl rfl)
      have o4 := (hR.old (c := w.heap.size + 1) (o := 1) hl1).trans (hJ.cell (k := 0) (i := 1) rfl rfl)
      have o5 := (hR.old (c := w.heap.size + 1) (o := 2) hl1).trans (hJ.cell (k := 0) (i := 2) rfl rfl)
      rw [← hgf] at hR fx
      clear hown hJ
      go_upto_region 11 with (fail)
      rw [← hgf]
      generalize World.alloc _ _ = W3 at hR fx o0 o1 o2 o3 o4 o5 ⊢
      clear hgf
      go_cut [51] (fun q wx => q = .bool (hitT lo.q hi.q on x.q) ∧ In wr [(gf, 27, #[.bool f.neg, .string f.num, .string f.den]), (wr.heap.size, 27, #[.bool x.neg, .string x.num, .string x.den])] wx)
      case first =>
        cases on with
        | true =>
          have hv : (Value.bool (decide (ca < 0))) = .bool (hitT lo.q hi.q true x.q) := by unfold hitT; rw [if_pos rfl, decide_eq_decide.mpr pa]
          have HV := Lib.hid hv
          clear hv pa pb
          by_cases hca : ca < 0
          all_goals
            go_wp2_with fail
            refine (CA.out _ hR.bel).mono ?_
            rintro e W4 ⟨rfl, hb⟩
            clear fx o0 o1 o2 o3 o4 o5
            go_wp2_with fail
            go_meet
            exact ⟨by rw [← HV.out]; try simp [hca], hR.call hb⟩
        | false =>
          have hv : (Value.bool (decide (cb > 0))) = .bool (hitT lo.q hi.q false x.q) := by unfold hitT; rw [if_neg (by decide), decide_eq_decide.mpr (show cb > 0 ↔ _ from pb)]
          have HV := Lib.hid hv
          clear hv pa pb
          go_wp2_with fail
          refine (CB.out _ hR.bel).mono ?_
          rintro e W4 ⟨rfl, hb⟩
          clear fx o0 o1 o2 o3 o4 o5
          go_wp2_with fail
          go_meet
          exact ⟨HV.out, hR.call hb⟩
      case rest =>
        obtain ⟨rfl, hQ⟩ := hcut
        clear hR fx o0 o1 o2 o3 o4 o5 pa pb CA CB
        have HN := Lib.hid (show ∀ v' w', w'.ownsRow (w.heap.size + 2) 4 1 v' (k + 1) ((outT lo.q hi.q h L k).map bv ++ [.bool (stepT lo.q hi.q h (on, many) x.q).1]) → Below (w.heap.size + 2) wc w' → ToRel w lo hi h L l.length v' (.bool (stepT lo.q hi.q h (on, many) x.q).1) (.int .i64 (stepT lo.q hi.q h (on, many) x.q).2) (.int .i64 ((k : Int) + 1)) w' from fun v' w' ho hb => by
          refine ⟨k + 1, hkn, by simp, by rw [HS.out], by rw [HS.out], by rw [outT_succ, HS.out, List.map_append]; exact ho, ?_⟩
          refine (HJ.out.call hQ.bel).callB hb (by omega) (fun y hy => ?_)
          rcases List.mem_cons.1 hy with rfl | hy
          · simp only; omega
          · rcases List.mem_cons.1 hy with rfl | hy
            · simp only; omega
            · cases hy)
        have Ho := Lib.hid (own_below Hown.out hQ.bel (Nat.le_refl _))
        have hcs := hQ.bel.size
        have hbase : w.heap.size + 2 ≤ wc.heap.size := by omega
        have hw1 : IntKind.i64.wrap ((k : Int) + 1) = (k : Int) + 1 := by rw [IntKind.wrap_i64]; omega
        have hm1 : 0 ≤ many + 1 ∧ many + 1 ≤ 1001 := by omega
        clear HS Hown hsk hl0 hl1
        obtain ⟨ht, hht⟩ : ∃ ht, ht = hitT lo.q hi.q on x.q := ⟨_, rfl⟩
        rw [← hht]
        cases ht with
        | false =>
          rw [stepT_miss (s := (on, many)) hht.symm] at HN
          clear hht
          go_wp2_with (at_builtin; refine wpList_push rfl (.tmp 59) (.tmp 61) 39 rfl (w.heap.size + 2) 4 i0 (.bool false) 1 1 Tryd.underlying39 hi0 hz0 hz1 hz2 rfl (by omega) _ k _ rfl Ho.out [.bool on] rfl rfl (by simp [Value.oneCell']) (by unfold maxLen; omega) (by omega) hbase ?_; intro v6 w6 hn6 hb6 _)
          have hrel := HN.out _ _ hn6 hb6
          clear hn6 hb6 HN Ho
          go_roundw
          case rel => exact hrel
          case measure => simp [intOf]; omega
        | true =>
          by_cases hm : many + 1 = h
          · rw [stepT_flip (s := (on, many)) hht.symm hm] at HN
            clear hht
            go_wp2_with (at_builtin; refine wpList_push rfl (.tmp 59) (.tmp 61) 39 rfl (w.heap.size + 2) 4 i0 (.bool false) 1 1 Tryd.underlying39 hi0 hz0 hz1 hz2 rfl (by omega) _ k _ rfl Ho.out [.bool (!on)] rfl rfl (by simp [Value.oneCell']) (by unfold maxLen; omega) (by omega) hbase ?_; intro v6 w6 hn6 hb6 _)
            have hrel := HN.out _ _ hn6 hb6
            clear hn6 hb6 HN Ho
            go_roundw
            case rel => exact hrel
            case measure => simp [intOf]; omega
          · rw [stepT_hit (s := (on, many)) hht.symm hm] at HN
            clear hht
            go_wp2_with (at_builtin; refine wpList_push rfl (.tmp 59) (.tmp 61) 39 rfl (w.heap.size + 2) 4 i0 (.bool false) 1 1 Tryd.underlying39 hi0 hz0 hz1 hz2 rfl (by omega) _ k _ rfl Ho.out [.bool on] rfl rfl (by simp [Value.oneCell']) (by unfold maxLen; omega) (by omega) hbase ?_; intro v6 w6 hn6 hb6 _)
            have hrel := HN.out _ _ hn6 hb6
            clear hn6 hb6 HN Ho
            go_roundw
            case rel => exact hrel
            case measure => simp [intOf]; omega
    · obtain rfl : k = l.length := by omega
      have hki : ¬ (l.length : Int) < (l.length : Int) := by omega
      have Ho := Lib.hid hown
      have hfin := hJ.bel
      clear hown hJ
      go_wp2
      refine bodyPost_ret (results_tmp2 rfl _ _ _) rfl ?_
      exact ⟨_, rfl, own_more Ho.out (by omega), hfin⟩
end Go.Proofs.YthmgcbpmfipfiaaDoor
