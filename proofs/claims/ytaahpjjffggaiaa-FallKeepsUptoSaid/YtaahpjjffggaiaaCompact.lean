/- slices.Compact at cells, on a row of the call's own. Conditions: those typed. -/
import Derived.Test.YtaahpjjffggaiaaCompactPlain
import Derived.Test.YtaahpjjffggaiaaCells
import Derived.Test.YtaahpjjffggaiaaClear
namespace Go.Proofs.Ytaahpjjffggaiaa
open Go.RowKit Go.Gy
set_option linter.unusedVariables false
def CptPost (base : Nat) (l : List Cell) (w : World) (e : Ending) (w' : World) : Prop := ∃ A n c, e = .returned (.slice A n c) ∧ (cpt l).length = n ∧ w'.ownsRow base 24 2 (.slice A n c) n ((cpt l).flatMap encC) ∧ Below base w w'
theorem flat_set2 : ∀ (xs : List Cell) (k : Nat) (a b : Int), k < xs.length → ((xs.flatMap encC).set (k * 2) (.int .i64 a)).set (k * 2 + 1) (.int .i64 b) = (xs.set k (a, b)).flatMap encC
  | [], _, _, _, h => by simp at h
  | c :: xs, 0, a, b, h => by rfl
  | c :: xs, k + 1, a, b, h => by
    have := flat_set2 xs k a b (by simpa using h)
    simp only [List.flatMap_cons, List.set_cons_succ, ← this]
    rw [show (k + 1) * 2 + 1 = k * 2 + 1 + 1 + 1 by omega, show (k + 1) * 2 = k * 2 + 1 + 1 by omega]
    rfl
theorem zero_cell (w : World) : (zeroValue 24).run Try.prog w = .ok (.agg #[.int .i64 0, .int .i64 0]) w := by
  have hz : (Try.t24).zero = some (.agg #[.int .i64 0, .int .i64 0]) := by kernel_rfl
  simp [zeroValue, hz]
theorem encC_oneZ : ∀ v ∈ (Value.agg #[.int .i64 0, .int .i64 0]).cells, v.oneCell' = true := by decide
theorem flat_takeC : ∀ (xs : List Cell) (k : Nat), (xs.flatMap encC).take (k * 2) = (xs.take k).flatMap encC
  | [], k => by simp
  | c :: xs, 0 => by simp
  | c :: xs, k + 1 => by
    have := flat_takeC xs k
    simp only [List.flatMap_cons, List.take_succ_cons, ← this]
    rw [show (k + 1) * 2 = k * 2 + 1 + 1 by omega]
    rfl
theorem below_drewN {B : Nat} {a w : World} (h : Below B a w) (n : Nat) : Below B a (w.drewN n) := ⟨h.os, h.tape, h.output, h.size, h.block⟩
theorem cpt_short {l : List Cell} (h : l.length < 2) : cpt l = l := by
  match l, h with
  | [], _ => rfl
  | [c], _ => simp [cpt, cptG]
set_option maxRecDepth 100000 in
set_option maxHeartbeats 4000000 in
theorem compact_cells (w : World) (base n cap : Nat) (A : Option Addr) (l : List Cell) (hn : l.length = n) (hb : n ≤ 100000) (hbase : base ≤ w.heap.size)
    (ho : w.ownsRow base 24 2 (.slice A n cap) n (l.flatMap encC)) :
    Calls Try.prog 88 #[.slice A n cap] w (CptPost base l w) := by
  by_cases h2 : n < 2
  · have HP := Lib.hid (show CptPost base l w (.returned (.slice A n cap)) w from ⟨A, n, cap, rfl, by rw [cpt_short (by omega)]; exact hn, by rw [cpt_short (by omega)]; exact ho, Below.refl _ _⟩)
    clear ho hn
    go_enter Try.func88, Try.ntmps88
    go_wp2
    go_ret
    exact HP.out
  · obtain ⟨g, cap', he, hc, hg, hgl⟩ := own_shape ho (by omega)
    injection he with e1 e2 e3
    subst e1 e3
    have Hn := Lib.hid hn
    have Ho := Lib.hid ho
    have hgd := guard_cell
    clear ho hn
    go_enter Try.func88, Try.ntmps88
    go_wp2
    go_loopw [3] (fun i wr => ∃ k d : Nat, 1 ≤ k ∧ k ≤ n ∧ i = .int .i64 (k : Int) ∧ Hid (cpt (l.take k) = l.take k) ∧ wr = w.drewN d) (fun i _ => n - (intOf i).toNat)
    case atStart => exact ⟨1, 0, Nat.le_refl _, by omega, rfl, Lib.hid (cpt_short (by rw [List.length_take]; omega)), rfl⟩
    case round =>
      obtain ⟨k, d, hk1, hk, rfl, Hc, rfl⟩ := hrel
      by_cases hlt : k < n
      · obtain ⟨⟨x, y⟩, hx⟩ : ∃ z, l[k]? = some z := ⟨_, List.getElem?_eq_getElem (by have := Hn.out; omega)⟩
        obtain ⟨⟨p, q⟩, hp⟩ : ∃ z, l[k - 1]? = some z := ⟨_, List.getElem?_eq_getElem (by have := Hn.out; omega)⟩
        have c0 : w.cell? ⟨g, k * 2, none⟩ = some (.int .i64 x) := (Ho.out.cellAt (k * 2) (by omega)).trans (flat_get (enc := encC) l encC_len k _ hx 0 _ rfl)
        have c1 : w.cell? ⟨g, k * 2 + 1, none⟩ = some (.int .i64 y) := (Ho.out.cellAt (k * 2 + 1) (by omega)).trans (flat_get (enc := encC) l encC_len k _ hx 1 _ rfl)
        have d0 : w.cell? ⟨g, (k - 1) * 2, none⟩ = some (.int .i64 p) := (Ho.out.cellAt ((k - 1) * 2) (by omega)).trans (flat_get (enc := encC) l encC_len (k - 1) _ hp 0 _ rfl)
        have d1 : w.cell? ⟨g, (k - 1) * 2 + 1, none⟩ = some (.int .i64 q) := (Ho.out.cellAt ((k - 1) * 2 + 1) (by omega)).trans (flat_get (enc := encC) l encC_len (k - 1) _ hp 1 _ rfl)
        have HT := Lib.hid (cpt_take l k (by omega) _ _ hp hx)
        have Hx := Lib.hid hx
        clear hx hp
        obtain ⟨k', rfl⟩ : ∃ k', k = k' + 1 := ⟨k - 1, by omega⟩
        rw [Nat.add_sub_cancel] at d0 d1
        by_cases he : x = p ∧ y = q
        · obtain ⟨rfl, rfl⟩ := he
          have hneq := fun (w : World) => eql_cell w x y x y
          simp only [beq_self_eq_true, Bool.and_self] at hneq
          go_wp2
          go_quiet (fail)
          go_wp2
          have h0 : cpt (l.take (k' + 1 + 1)) = l.take (k' + 1) := by rw [HT.out]; simpa using Hc.out
          go_loopw [3, 5] (fun i j wr => ∃ (kk j2 : Nat) (ds : List Cell), i = .int .i64 (kk : Int) ∧ j = .int .i64 ((j2 + 1 : Nat) : Int) ∧ j2 + 1 ≤ n - (k' + 1) ∧ kk ≤ k' + 1 + j2 ∧ k' + 1 ≤ kk ∧ ds.length = n ∧ Hid (∀ i, kk ≤ i → ds[i]? = l[i]?) ∧ Hid (ds.take kk = cpt (l.take (k' + 1 + (j2 + 1)))) ∧ Hid (wr.ownsRow base 24 2 (.slice (some ⟨g, 0, none⟩) n cap) n (ds.flatMap encC)) ∧ Hid (Below base w wr)) (fun _ j _ => n - (intOf j).toNat)
          case atStart => exact ⟨k' + 1, 0, l, rfl, rfl, by omega, by omega, by omega, Hn.out, Lib.hid (fun _ _ => rfl), Lib.hid h0.symm, Lib.hid (by exact Ho.out), Lib.hid (by exact below_drewN (Below.refl _ _) _)⟩
          case round =>
            obtain ⟨kk, j2, ds, rfl, rfl, hj2, hkk, hkk2, hdl, HD, HC2, HO2, HB2⟩ := hrel
            by_cases hlt2 : j2 + 1 < n - (k' + 1)
            · obtain ⟨⟨p, q⟩, hp⟩ : ∃ z, l[k' + 1 + j2]? = some z := ⟨_, List.getElem?_eq_getElem (by have := Hn.out; omega)⟩
              obtain ⟨⟨a, b⟩, ha⟩ : ∃ z, l[k' + 1 + (j2 + 1)]? = some z := ⟨_, List.getElem?_eq_getElem (by have := Hn.out; omega)⟩
              have e0 : wr.cell? ⟨g, (k' + 1) * 2 + j2 * 2, none⟩ = some (.int .i64 p) := by
                rw [show (k' + 1) * 2 + j2 * 2 = (k' + 1 + j2) * 2 by omega]
                exact (HO2.out.cellAt _ (by omega)).trans (flat_get (enc := encC) ds encC_len (k' + 1 + j2) (p, q) ((HD.out _ (by omega)).trans hp) 0 _ rfl)
              have e1 : wr.cell? ⟨g, (k' + 1) * 2 + j2 * 2 + 1, none⟩ = some (.int .i64 q) := by
                rw [show (k' + 1) * 2 + j2 * 2 + 1 = (k' + 1 + j2) * 2 + 1 by omega]
                exact (HO2.out.cellAt _ (by omega)).trans (flat_get (enc := encC) ds encC_len (k' + 1 + j2) (p, q) ((HD.out _ (by omega)).trans hp) 1 _ rfl)
              have f0 : wr.cell? ⟨g, (k' + 1) * 2 + (j2 + 1) * 2, none⟩ = some (.int .i64 a) := by
                rw [show (k' + 1) * 2 + (j2 + 1) * 2 = (k' + 1 + (j2 + 1)) * 2 by omega]
                exact (HO2.out.cellAt _ (by omega)).trans (flat_get (enc := encC) ds encC_len (k' + 1 + (j2 + 1)) (a, b) ((HD.out _ (by omega)).trans ha) 0 _ rfl)
              have f1 : wr.cell? ⟨g, (k' + 1) * 2 + (j2 + 1) * 2 + 1, none⟩ = some (.int .i64 b) := by
                rw [show (k' + 1) * 2 + (j2 + 1) * 2 + 1 = (k' + 1 + (j2 + 1)) * 2 + 1 by omega]
                exact (HO2.out.cellAt _ (by omega)).trans (flat_get (enc := encC) ds encC_len (k' + 1 + (j2 + 1)) (a, b) ((HD.out _ (by omega)).trans ha) 1 _ rfl)
              have HT2 := Lib.hid (cpt_take l (k' + 1 + (j2 + 1)) (by omega) _ _ (by rw [show k' + 1 + (j2 + 1) - 1 = k' + 1 + j2 by omega]; exact hp) ha)
              have Ha := Lib.hid ha
              have z0 := HO2.out.frozenAt (kk * 2)
              have z1 := HO2.out.frozenAt (kk * 2 + 1)
              obtain ⟨⟨u0, u1⟩, hu⟩ : ∃ z, ds[kk]? = some z := ⟨_, List.getElem?_eq_getElem (by omega)⟩
              have y0 : wr.cell? ⟨g, kk * 2, none⟩ = some (.int .i64 u0) := (HO2.out.cellAt _ (by omega)).trans (flat_get (enc := encC) ds encC_len kk _ hu 0 _ rfl)
              have y1 : wr.cell? ⟨g, kk * 2 + 1, none⟩ = some (.int .i64 u1) := (HO2.out.cellAt _ (by omega)).trans (flat_get (enc := encC) ds encC_len kk _ hu 1 _ rfl)
              clear hu
              have hj3 : ((j2 + 1 : Nat) : Int) < ((n - (k' + 1) : Nat) : Int) := by omega
              clear hp ha h0
              by_cases he2 : a = p ∧ b = q
              · obtain ⟨rfl, rfl⟩ := he2
                have hneq2 := fun (w : World) => neq_cell w a b a b
                simp only [beq_self_eq_true, Bool.and_self, Bool.not_true] at hneq2
                go_wp2
                go_quiet (fail)
                go_wp2
                exact ⟨⟨kk, j2 + 1, ds, rfl, by go_num, by omega, by omega, hkk2, hdl, HD, Lib.hid (by rw [HC2.out]; exact (HT2.out.trans (if_pos trivial)).symm), HO2, Lib.hid (below_drewN HB2.out nq)⟩, by simp [intOf]; omega⟩
              · have hb2 : (a == p && b == q) = false := by simpa using he2
                have hneq2 := fun (w : World) => neq_cell w a b p q
                simp only [hb2, Bool.not_false] at hneq2
                have He2 := Lib.hid he2
                clear he2 hb2
                go_wp2
                go_quiet (fail)
                go_wp2
                refine ⟨⟨kk + 1, j2 + 1, ds.set kk (a, b), by go_num, by go_num, by omega, by omega, by omega, by rw [List.length_set]; exact hdl, Lib.hid (fun i hi => by rw [List.getElem?_set, if_neg (by omega)]; exact HD.out i (by omega)), Lib.hid ?_, Lib.hid ?_, Lib.hid ?_⟩, by simp [intOf]; omega⟩
                · have e1 : (ds.set kk (a, b)).take (kk + 1) = ds.take kk ++ [(a, b)] := by
                    rw [List.take_add_one, List.getElem?_set, if_pos rfl, if_pos (by omega)]
                    congr 1
                    apply List.ext_getElem?
                    intro i
                    rw [List.getElem?_take, List.getElem?_take]
                    split
                    · rw [List.getElem?_set, if_neg (by omega)]
                    · rfl
                  rw [e1, HC2.out]
                  exact (HT2.out.trans (if_neg (by simp only [Prod.mk.injEq]; exact fun h => He2.out ⟨h.1.symm, h.2.symm⟩))).symm
                · rw [← flat_set2 ds kk a b (by omega)]
                  exact ((show (wr.drewN nq).ownsRow base 24 2 (.slice (some ⟨g, 0, none⟩) n cap) n (ds.flatMap encC) from HO2.out).stored (kk * 2) (.int .i64 a)).1.stored (kk * 2 + 1) (.int .i64 b) |>.1
                · exact ((below_drewN HB2.out nq).setCell (p := ⟨g, kk * 2, none⟩) hg _).setCell (p := ⟨g, kk * 2 + 1, none⟩) hg _
            · have hj4 : j2 + 1 = n - (k' + 1) := by omega
              have hkn : kk < n := by omega
              obtain ⟨wc, hcl, hoc, hbc⟩ := run_clear_own (size := 2) (P := Try.prog) wr 25 (.agg #[.int .i64 0, .int .i64 0]) Try.underlying25 zero_cell rfl (encC_oneZ) _ kk hkn (by decide) HO2.out
              have Hoc := Lib.hid hoc
              have Hbc := Lib.hid hbc
              clear hoc hbc
              go_wp2
              go_ret
              have e1 : ds.take kk = cpt l := by
                rw [HC2.out, List.take_of_length_le (by rw [Hn.out]; omega)]
              have e2 : (cpt l).length = kk := by rw [← e1, List.length_take]; omega
              refine ⟨some ⟨g, 0, none⟩, kk, cap, rfl, e2, ?_, HB2.out.trans Hbc.out⟩
              have := Hoc.out
              rw [flat_takeC, e1] at this
              exact this
        · have hb' : (x == p && y == q) = false := by simpa using he
          have He := Lib.hid he
          clear he
          have hneq := fun (w : World) => eql_cell w x y p q
          simp only [hb'] at hneq
          clear hb'
          go_wp2
          go_quiet (fail)
          go_wp2
          go_roundw
          case rel => exact ⟨k' + 1 + 1, d + nq, by omega, by omega, by go_num, Lib.hid (by
            rw [HT.out, if_neg (by simp only [Prod.mk.injEq]; exact fun h => He.out ⟨h.1.symm, h.2.symm⟩), Hc.out, List.take_add_one (i := k' + 1), Hx.out]; rfl), rfl⟩
          case measure => simp [intOf]; omega
      · obtain rfl : k = n := by omega
        have e : cpt l = l := by have := Hc.out; rwa [List.take_of_length_le (by rw [Hn.out]; omega)] at this
        have HP := Lib.hid (show CptPost base l w (.returned (.slice (some ⟨g, 0, none⟩) k cap)) (w.drewN d) from ⟨_, k, cap, rfl, by rw [e]; exact Hn.out, by rw [e]; exact Ho.out, below_drewN (Below.refl _ _) _⟩)
        go_wp2
        go_ret
        exact HP.out
end Go.Proofs.Ytaahpjjffggaiaa
