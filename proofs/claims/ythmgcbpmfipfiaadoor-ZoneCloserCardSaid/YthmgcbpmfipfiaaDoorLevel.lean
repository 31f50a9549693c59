/- zone.Level. Conditions: those typed. -/
import Derived.Test.YthmgcbpmfipfiaaDoorPolyB
namespace Go.Proofs.YthmgcbpmfipfiaaDoor
open Go.RowKit Go.Gy
set_option linter.unusedVariables false
/-- a slice of slices of points -/
def SlPs (w : World) (B : Nat) (v : Value) (L : List (List P2)) : Prop := ∃ (A : Option Addr) (n c : Nat) (vs : List Value), v = .slice A n c ∧ vs.length = n ∧ L.length = n ∧ Rd w B 1 A n vs ∧ ∀ (k : Nat) (v' : Value) (l : List P2), vs[k]? = some v' → L[k]? = some l → SlP w B v' l
theorem SlPs.below {w w' : World} {B : Nat} {v : Value} {L : List (List P2)} (h : SlPs w B v L) (hb : Below B w w') : SlPs w' B v L := by
  obtain ⟨A, n, c, vs, h1, h2, h3, h4, h5⟩ := h
  exact ⟨A, n, c, vs, h1, h2, h3, h4.below hb, fun k v' l a b => (h5 k v' l a b).below hb⟩
theorem SlPs.more {w : World} {B B' : Nat} {v : Value} {L : List (List P2)} (h : SlPs w B v L) (hB : B ≤ B') : SlPs w B' v L := by
  obtain ⟨A, n, c, vs, h1, h2, h3, h4, h5⟩ := h
  exact ⟨A, n, c, vs, h1, h2, h3, h4.more hB, fun k v' l a b => (h5 k v' l a b).more hB⟩
/-- a person reaches the box of points in t ticks -/
def TB (p q x : Rat) (t : Int) (l : List P2) : Prop := ∀ y, BoxIs l y → tchB p q (farV x t) y = true
theorem BoxIs.same {l : List P2} {y y' : B4} (h : BoxIs l y) (h' : BoxIs l y') : (y.a.q, y.b.q, y.c.q, y.d.q) = (y'.a.q, y'.b.q, y'.c.q, y'.d.q) := by
  cases l with
  | nil =>
    obtain ⟨h1, h2, h3, h4⟩ := h
    obtain ⟨g1, g2, g3, g4⟩ := h'
    rw [h1, h2, h3, h4, g1, g2, g3, g4]
  | cons a t => exact Eq.trans (show _ = boxQ a t from h) (Eq.symm (show _ = boxQ a t from h'))
theorem tch_same {p q f : Rat} {y y' : B4} (h : (y.a.q, y.b.q, y.c.q, y.d.q) = (y'.a.q, y'.b.q, y'.c.q, y'.d.q)) : tchB p q f y = tchB p q f y' := by
  injection h with h1 h
  injection h with h2 h
  injection h with h3 h4
  unfold tchB validB
  rw [h1, h2, h3, h4]
theorem TB_iff {p q x : Rat} {t : Int} {l : List P2} {y : B4} (hy : BoxIs l y) : TB p q x t l ↔ tchB p q (farV x t) y = true :=
  ⟨fun h => h y hy, fun h y' hy' => by rw [tch_same (hy'.same hy)]; exact h⟩
/-- the first fault of polygons -/
def FE (L : List (List P2)) (e : Int) : Prop := (e = 0 ∧ ∀ l ∈ L, CheckIs l 8 0) ∨ (e ≠ 0 ∧ ∃ (k : Nat) (l : List P2), L[k]? = some l ∧ CheckIs l 8 e ∧ ∀ (j : Nat) (l' : List P2), j < k → L[j]? = some l' → CheckIs l' 8 0)
def LevelIs (p q x : Rat) (near slow : Int) (L : List (List P2)) (n e : Int) : Prop :=
  ((near < 0 ∨ slow < near ∨ 2000 < slow) ∧ n = 0 ∧ e = 1) ∨
  (¬ (near < 0 ∨ slow < near ∨ 2000 < slow) ∧ n = 0 ∧ e ≠ 0 ∧ FE L e) ∨
  (¬ (near < 0 ∨ slow < near ∨ 2000 < slow) ∧ e = 0 ∧ FE L 0 ∧ ((n = 2 ∧ ∃ l ∈ L, TB p q x near l) ∨ (n = 1 ∧ (∀ l ∈ L, ¬ TB p q x near l) ∧ ∃ l ∈ L, TB p q x slow l) ∨ (n = 0 ∧ (∀ l ∈ L, ¬ TB p q x near l) ∧ ∀ l ∈ L, ¬ TB p q x slow l)))
def Lv1 (w : World) (ls : List (Nat × TypeId × Array Value)) (L : List (List P2)) (v : Value) (wr : World) : Prop := ∃ i : Nat, i ≤ L.length ∧ v = .int .i64 i ∧ (∀ (j : Nat) (l : List P2), j < i → L[j]? = some l → CheckIs l 8 0) ∧ In w ls wr
def Lv2 (w : World) (ls : List (Nat × TypeId × Array Value)) (p q x : Rat) (near slow : Int) (L : List (List P2)) (o v : Value) (wr : World) : Prop := ∃ (i : Nat) (c : Int), i ≤ L.length ∧ v = .int .i64 i ∧ o = .int .i64 c ∧ (∀ (j : Nat) (l : List P2), j < i → L[j]? = some l → ¬ TB p q x near l) ∧
  ((c = 1 ∧ ∃ l ∈ L, TB p q x slow l) ∨ (c = 0 ∧ ∀ (j : Nat) (l : List P2), j < i → L[j]? = some l → ¬ TB p q x slow l)) ∧ In w ls wr
set_option maxRecDepth 100000 in
set_option maxHeartbeats 8000000 in
theorem level_any (w : World) (hT : TabW w) (p q x : Q3) (near slow : Int) (v : Value) (L : List (List P2)) {N : Nat} (hp : p.le N) (hq : q.le N) (hx : x.le N) (hv : SlPs w w.heap.size v L) (hL : ∀ l ∈ L, ∀ z ∈ l, z.le N) (hLL : ∀ l ∈ L, l.length ≤ 4611686018427387904) (hLn : L.length ≤ 4611686018427387904) (hN : 8 ≤ N ∧ N ≤ 33554432) :
    Calls Tryd.prog 51 #[.agg #[.bool p.neg, .string p.num, .string p.den, .bool q.neg, .string q.num, .string q.den], .agg #[.bool x.neg, .string x.num, .string x.den], .int .i64 near, .int .i64 slow, v] w fun r w' => ∃ n e : Int, r = .returned (.tuple #[.int .i64 n, .int .i64 e]) ∧ LevelIs p.q q.q x.q near slow L n e ∧ Below w.heap.size w w' := by
  have HT := Lib.hid hT
  obtain ⟨A, n, c, vs, rfl, hvn, hLn2, hrd, hrow⟩ := hv
  subst hvn
  have HRD := Lib.hid hrd
  have HROW := Lib.hid hrow
  have hI := ((In.start w).alloc 58 #[.bool p.neg, .string p.num, .string p.den, .bool q.neg, .string q.num, .string q.den]).alloc 27 #[.bool x.neg, .string x.num, .string x.den]
  rw [World.size_alloc] at hI
  obtain ⟨ls, hls⟩ : ∃ ls : List (Nat × TypeId × Array Value), ls = [(w.heap.size + 1, 27, #[.bool x.neg, .string x.num, .string x.den]), (w.heap.size, 58, #[.bool p.neg, .string p.num, .string p.den, .bool q.neg, .string q.num, .string q.den])] := ⟨_, rfl⟩
  have Hls := Lib.hid hls
  clear hrd hrow hT hls
  by_cases hbad : near < 0 ∨ slow < near ∨ 2000 < slow
  · have HX := Lib.hid (show LevelIs p.q q.q x.q near slow L 0 1 from .inl ⟨hbad, rfl, rfl⟩)
    have hways : near < 0 ∨ (¬ near < 0 ∧ slow < near) ∨ (¬ near < 0 ∧ ¬ slow < near ∧ slow > 2000) := by omega
    clear hbad
    go_enter Tryd.func51, Tryd.ntmps51
    go_upto_region 1 with (fail)
    generalize World.alloc _ _ = W1 at hI ⊢
    rcases hways with h1 | ⟨h1, h2⟩ | ⟨h1, h2, h3⟩
    all_goals
      go_wp2
      refine bodyPost_ret (results_tmp2 rfl _ _ _) rfl ?_
      exact ⟨0, 1, rfl, HX.out, hI.bel⟩
  · have h1 : ¬ near < 0 := by omega
    have h2 : ¬ slow < near := by omega
    have h3 : ¬ slow > 2000 := by omega
    have hst := Lib.hid (show ∀ W, In w ls W → Lv1 w ls L (.int .i64 0) W from fun W hW => ⟨0, Nat.zero_le _, rfl, fun j l hj => absurd hj (Nat.not_lt_zero j), hW⟩)
    have HBAD := Lib.hid hbad
    clear hbad
    go_enter Tryd.func51, Tryd.ntmps51
    go_upto_region 1 with (fail)
    generalize World.alloc _ _ = W1 at hI ⊢
    have hst1 := Lib.hid (hst.out W1 (by rw [Hls.out]; exact hI))
    clear hI hst
    go_wp2_with fail
    go_loopw [32] (fun v wr => Lv1 w ls L v wr) (fun v _ => L.length - (intOf v).toNat)
    case atStart => exact hst1.out
    case round =>
      clear hst1
      obtain ⟨i, hi, rfl, hok, hI⟩ := hrel
      by_cases hin : i < vs.length
      · have hi1 : (i : Int) < (vs.length : Int) := by omega
        have hi2 : 0 ≤ (i : Int) ∧ (i : Int) < (vs.length : Int) := by omega
        have hwi : IntKind.i64.wrap ((i : Int) + 1) = (i : Int) + 1 := by rw [IntKind.wrap_i64]; omega
        obtain ⟨b, o, u, rfl, hbB, hu, hcu⟩ := HRD.out.at_ hin
        obtain ⟨l, hl⟩ : ∃ l, L[i]? = some l := ⟨_, List.getElem?_eq_getElem (by omega)⟩
        have hml := List.mem_of_getElem? hl
        have hsl := HROW.out i u l hu hl
        obtain ⟨e, he, CK⟩ := checkR w HT.out u l hsl (Nat.le_refl _) (hL l hml) (by omega)
        have d0 := (hI.bel.cell (p := ⟨b, o + i, none⟩) hbB).trans hcu
        have hbn : b < wr.heap.size := Nat.lt_of_lt_of_le hbB hI.bel.size
        have HOK := Lib.hid hok
        have HE := Lib.hid he
        have HLI := Lib.hid hl
        clear hok he hl hml hsl hu hcu
        by_cases he0 : e = 0
        · subst he0
          have HN := Lib.hid (show ∀ W, In w ls W → Lv1 w ls L (.int .i64 ((i : Int) + 1)) W from fun W hW => ⟨i + 1, by omega, by simp, fun j l' hj hl' => by
            rcases Nat.lt_succ_iff_lt_or_eq.mp hj with h | rfl
            · exact HOK.out j l' h hl'
            · rw [HLI.out] at hl'; cases hl'; exact HE.out, hW⟩)
          go_wp2_with fail
          refine (CK.out _ hI.bel).mono ?_
          rintro e wn ⟨rfl, hb⟩
          replace hI := hI.call hb
          clear hb
          have hrel := HN.out _ hI
          clear d0 hI
          go_wp2_with fail
          go_roundw
          case rel => exact hrel
          case measure => simp [intOf]; omega
        · have he1 : (e == 0) = false := by simpa using he0
          have he2 : (e != 0) = true := by simpa using he0
          have HX := Lib.hid (show LevelIs p.q q.q x.q near slow L 0 e from .inr (.inl ⟨HBAD.out, rfl, he0, .inr ⟨he0, i, l, HLI.out, HE.out, HOK.out⟩⟩))
          go_wp2_with fail
          refine (CK.out _ hI.bel).mono ?_
          rintro e wn ⟨rfl, hb⟩
          replace hI := hI.call hb
          clear hb
          clear d0
          go_wp2
          refine bodyPost_ret (results_tmp2 rfl _ _ _) rfl ?_
          exact ⟨0, e, rfl, HX.out, hI.bel⟩
      · obtain rfl : i = vs.length := by omega
        have hi1 : ¬ (vs.length : Int) < (vs.length : Int) := by omega
        have HFE := Lib.hid (show FE L 0 from .inl ⟨rfl, fun l hl => by
          obtain ⟨j, hj, rfl⟩ := List.getElem_of_mem hl
          exact hok j _ (by omega) (List.getElem?_eq_getElem hj)⟩)
        have hst2 := Lib.hid (show Lv2 w ls p.q q.q x.q near slow L (.int .i64 0) (.int .i64 0) wr from ⟨0, 0, Nat.zero_le _, rfl, rfl, fun j l hj => absurd hj (Nat.not_lt_zero j), .inr ⟨rfl, fun j l hj => absurd hj (Nat.not_lt_zero j)⟩, hI⟩)
        clear hok hI
        go_wp2_with fail
        go_loopw [15, 44] (fun o v wr => Lv2 w ls p.q q.q x.q near slow L o v wr) (fun _ v _ => L.length - (intOf v).toNat)
        case atStart => exact hst2.out
        case round =>
          clear hst2
          obtain ⟨i, cc, hi, rfl, rfl, hno, hc, hI⟩ := hrel
          by_cases hin : i < vs.length
          · have hi1 : (i : Int) < (vs.length : Int) := by omega
            have hi2 : 0 ≤ (i : Int) ∧ (i : Int) < (vs.length : Int) := by omega
            have hwi : IntKind.i64.wrap ((i : Int) + 1) = (i : Int) + 1 := by rw [IntKind.wrap_i64]; omega
            obtain ⟨b, o, u, rfl, hbB, hu, hcu⟩ := HRD.out.at_ hin
            obtain ⟨l, hl⟩ : ∃ l, L[i]? = some l := ⟨_, List.getElem?_eq_getElem (by omega)⟩
            have hml := List.mem_of_getElem? hl
            have hsl := HROW.out i u l hu hl
            have HBX := Lib.hid (fun W (hW : Below w.heap.size w W) => box_at W (tabs w HT.out hW) u l ((hsl.below hW).more hW.size) (hL l hml) (by omega) (hLL l hml))
            have d0 := (hI.bel.cell (p := ⟨b, o + i, none⟩) hbB).trans hcu
            have hbn : b < wr.heap.size := Nat.lt_of_lt_of_le hbB hI.bel.size
            have HNO := Lib.hid hno
            have HC := Lib.hid hc
            have HLI := Lib.hid hl
            have HML := Lib.hid hml
            clear hno hc hl hml hsl hu hcu
            rw [Hls.out] at hI
            go_wp2_with fail
            refine (HBX.out _ hI.bel).mono ?_
            rintro r wn ⟨y, rfl, hy, hyc, hyl, hb⟩
            replace hI := hI.call hb
            clear hb d0 hbn
            have T1 := touchR w HT.out p q x y hp hq hx ⟨hyl.1.more (by omega), hyl.2.1.more (by omega), hyl.2.2.1.more (by omega), hyl.2.2.2.more (by omega)⟩ near (by omega) (by omega)
            have T2 := touchR w HT.out p q x y hp hq hx ⟨hyl.1.more (by omega), hyl.2.1.more (by omega), hyl.2.2.1.more (by omega), hyl.2.2.2.more (by omega)⟩ slow (by omega) (by omega)
            have HT1 := Lib.hid (TB_iff (p := p.q) (q := q.q) (x := x.q) (t := near) hy)
            have HT2 := Lib.hid (TB_iff (p := p.q) (q := q.q) (x := x.q) (t := slow) hy)
            obtain ⟨b1, hb1⟩ : ∃ b1, b1 = tchB p.q q.q (farV x.q near) y := ⟨_, rfl⟩
            obtain ⟨b2, hb2⟩ : ∃ b2, b2 = tchB p.q q.q (farV x.q slow) y := ⟨_, rfl⟩
            rw [← hb1] at T1 HT1
            rw [← hb2] at T2 HT2
            clear hb1 hb2 hy hyc hyl HBX
            replace hI := hI.alloc 64 #[.bool y.a.neg, .string y.a.num, .string y.a.den, .bool y.b.neg, .string y.b.num, .string y.b.den, .bool y.c.neg, .string y.c.num, .string y.c.den, .bool y.d.neg, .string y.d.num, .string y.d.den]
            obtain ⟨g, hg⟩ : ∃ g, g = wn.heap.size := ⟨_, rfl⟩
            go_upto_region 15 with (fail)
            rw [← hg] at hI ⊢
            generalize World.alloc _ _ = W2 at hI ⊢
            clear hg
            have fx := hI.facts
            simp only [factsOf, cellsOf, Nat.zero_add, Nat.reduceAdd] at fx
            cases b1 with
            | true =>
              have HX := Lib.hid (show LevelIs p.q q.q x.q near slow L 2 0 from .inr (.inr ⟨HBAD.out, rfl, HFE.out, .inl ⟨rfl, l, HML.out, HT1.out.mpr rfl⟩⟩))
              go_wp2_with fail
              refine (T1.out _ hI.bel).mono ?_
              rintro e wn ⟨rfl, hb⟩
              replace hI := hI.call hb
              clear hb
              clear fx
              go_wp2
              refine bodyPost_ret (results_tmp2 rfl _ _ _) rfl ?_
              exact ⟨2, 0, rfl, HX.out, hI.bel⟩
            | false =>
              have HNN := Lib.hid (show ∀ j l', j < i + 1 → L[j]? = some l' → ¬ TB p.q q.q x.q near l' from fun j l' hj hl' => by
                rcases Nat.lt_succ_iff_lt_or_eq.mp hj with h | rfl
                · exact HNO.out j l' h hl'
                · rw [HLI.out] at hl'; cases hl'; exact fun h => absurd (HT1.out.mp h) (by decide))
              go_wp2_with fail
              refine (T1.out _ hI.bel).mono ?_
              rintro e wn ⟨rfl, hb⟩
              replace hI := hI.call hb
              clear hb
              clear fx
              have fx := hI.facts
              simp only [factsOf, cellsOf, Nat.zero_add, Nat.reduceAdd] at fx
              cases b2 with
              | true =>
                have HN := Lib.hid (show ∀ W, In w ls W → Lv2 w ls p.q q.q x.q near slow L (.int .i64 1) (.int .i64 ((i : Int) + 1)) W from fun W hW => ⟨i + 1, 1, by omega, by simp, rfl, HNN.out, .inl ⟨rfl, l, HML.out, HT2.out.mpr rfl⟩, hW⟩)
                go_wp2_with fail
                refine (T2.out _ hI.bel).mono ?_
                rintro e wn ⟨rfl, hb⟩
                replace hI := hI.call hb
                clear hb
                have hrel := HN.out wn (by rw [Hls.out]; exact hI.tail)
                clear fx hI
                go_wp2_with fail
                go_roundw
                case rel => exact hrel
                case measure => simp [intOf]; omega
              | false =>
                have HN := Lib.hid (show ∀ W, In w ls W → Lv2 w ls p.q q.q x.q near slow L (.int .i64 cc) (.int .i64 ((i : Int) + 1)) W from fun W hW => ⟨i + 1, cc, by omega, by simp, rfl, HNN.out, by
                  rcases HC.out with h | ⟨h, h'⟩
                  · exact .inl h
                  · refine .inr ⟨h, fun j l' hj hl' => ?_⟩
                    rcases Nat.lt_succ_iff_lt_or_eq.mp hj with h1 | rfl
                    · exact h' j l' h1 hl'
                    · rw [HLI.out] at hl'; cases hl'; exact fun h => absurd (HT2.out.mp h) (by decide), hW⟩)
                go_wp2_with fail
                refine (T2.out _ hI.bel).mono ?_
                rintro e wn ⟨rfl, hb⟩
                replace hI := hI.call hb
                clear hb
                have hrel := HN.out wn (by rw [Hls.out]; exact hI.tail)
                clear fx hI
                go_wp2_with fail
                go_roundw
                case rel => exact hrel
                case measure => simp [intOf]; omega
          · obtain rfl : i = vs.length := by omega
            have hi1 : ¬ (vs.length : Int) < (vs.length : Int) := by omega
            have hall : ∀ l ∈ L, ¬ TB p.q q.q x.q near l := fun l hl => by
              obtain ⟨j, hj, rfl⟩ := List.getElem_of_mem hl
              exact hno j _ (by omega) (List.getElem?_eq_getElem hj)
            have HX := Lib.hid (show LevelIs p.q q.q x.q near slow L cc 0 from .inr (.inr ⟨HBAD.out, rfl, HFE.out, by
              rcases hc with ⟨rfl, h⟩ | ⟨rfl, h⟩
              · exact .inr (.inl ⟨rfl, hall, h⟩)
              · exact .inr (.inr ⟨rfl, hall, fun l hl => by
                  obtain ⟨j, hj, rfl⟩ := List.getElem_of_mem hl
                  exact h j _ (by omega) (List.getElem?_eq_getElem hj)⟩)⟩))
            have hbel := hI.bel
            clear hno hc hall hI
            go_wp2
            refine bodyPost_ret (results_tmp2 rfl _ _ _) rfl ?_
            exact ⟨cc, 0, rfl, HX.out, hbel⟩
end Go.Proofs.YthmgcbpmfipfiaaDoor
