/- slices.IndexFunc, ContainsFunc and DeleteFunc at cells, over any closure. Conditions: those typed. -/
import Derived.Test.YtaahpjjffggaiaaSortPlain
import Derived.Test.YtaahpjjffggaiaaHas
import Derived.Test.YtaahpjjffggaiaaClear
import Derived.Test.YtaahpjjffggaiaaCompact
namespace Go.Proofs.Ytaahpjjffggaiaa
open Go.RowKit Go.Gy
set_option linter.unusedVariables false
abbrev celV (x : Cell) : Value := .agg #[.int .i64 x.1, .int .i64 x.2]
def idxC (l : List Cell) (p : Cell → Bool) : Int := match l.findIdx? p with
  | some i => i
  | none => -1
def IdxPost (i : Int) (w : World) (e : Ending) (w' : World) : Prop := e = .returned (.int .i64 i) ∧ Below w.heap.size w w'
set_option maxRecDepth 100000 in
set_option maxHeartbeats 1000000 in
theorem idxc_any (F : Nat) (hF : ∀ args w, (callFunc F args).run Try.prog w = .ok (.enter F args) w) (w : World) (cap : Array Value) (p : Cell → Bool) (A : Option Addr) (n c : Nat) (l : List Cell) (hl : l.length = n) (hn : n ≤ 100000) (hr : Rd w w.heap.size 2 A n (l.flatMap encC))
    (hp : ∀ x, x ∈ l → ∀ w', Below w.heap.size w w' → Calls Try.prog F (#[celV x] ++ cap) w' (HasPost (p x) w')) :
    Calls Try.prog 89 #[.slice A n c, .func (.func F) #[] cap] w (IdxPost (idxC l p) w) := by
  have Hl := Lib.hid hl
  have Hp := Lib.hid hp
  clear hl hp
  go_enter Try.func89, Try.ntmps89
  go_wp2
  go_loopw [8] (fun i wr => ∃ k : Nat, k ≤ n ∧ i = .int .i64 k ∧ Hid (∀ j a, j < k → l[j]? = some a → p a = false) ∧ Below w.heap.size w wr) (fun i _ => n - (intOf i).toNat)
  case atStart => exact ⟨0, Nat.zero_le _, rfl, Lib.hid (fun j a h => absurd h (by omega)), Below.refl _ _⟩
  case round =>
    obtain ⟨k, hk, rfl, Hno, hb⟩ := hrel
    have hz := hb.size
    by_cases hlt : k < n
    · obtain ⟨b, o, g, rfl, hbB, hg, hc⟩ := (hr.below hb).elem encC_len Hl.out hlt
      have Hc := Lib.hid (Hp.out g (List.mem_of_getElem? hg) wr hb)
      obtain ⟨gx, gy⟩ := g
      have e0 : wr.cell? ⟨b, o + k * 2, none⟩ = some (.int .i64 gx) := hc 0 _ rfl
      have e1 : wr.cell? ⟨b, o + k * 2 + 1, none⟩ = some (.int .i64 gy) := hc 1 _ rfl
      have Hg := Lib.hid hg
      have HB1 := Lib.hid hb
      clear hg hc hb
      go_wp2_with fail
      refine Hc.out.mono ?_
      rintro e w' ⟨rfl, hbn⟩
      have HB2 := Lib.hid (HB1.out.trans (hbn.mono hz))
      obtain ⟨q, hq⟩ : ∃ q, p (gx, gy) = q := ⟨_, rfl⟩
      rw [hq]
      have Hq := Lib.hid hq
      clear hq hbn
      cases q
      · go_wp2
        go_roundw
        case rel =>
          refine ⟨k + 1, by omega, by go_num, Lib.hid (fun i x hi hx => ?_), HB2.out⟩
          by_cases hik : i = k
          · subst hik
            rw [Hg.out] at hx
            injection hx with hx
            subst hx
            exact Hq.out
          · exact Hno.out i x (by omega) hx
        case measure => simp [intOf]; omega
      · go_wp2
        go_ret
        refine ⟨ret_int ?_, HB2.out⟩
        have hkl : k < l.length := by rw [Hl.out]; omega
        have : l.findIdx? p = some k := by
          rw [List.findIdx?_eq_some_iff_getElem]
          refine ⟨hkl, ?_, fun i hi => ?_⟩
          · have := Hg.out
            rw [List.getElem?_eq_getElem hkl] at this
            injection this with this
            rw [this]; exact Hq.out
          · rw [Hno.out i _ hi (List.getElem?_eq_getElem (by omega))]; simp
        simp [idxC, this]
    · obtain rfl : k = n := by omega
      go_wp2
      go_ret
      refine ⟨ret_int ?_, hb⟩
      have : l.findIdx? p = none := by
        rw [List.findIdx?_eq_none_iff]
        intro a ha
        obtain ⟨j, hj, rfl⟩ := List.getElem_of_mem ha
        exact Hno.out j _ (by rw [Hl.out] at hj; exact hj) (List.getElem?_eq_getElem hj)
      simp [idxC, this]
theorem any_idxC (l : List Cell) (p : Cell → Bool) : decide (0 ≤ idxC l p) = l.any p := by
  unfold idxC
  cases h : l.findIdx? p with
  | none =>
    rw [List.findIdx?_eq_none_iff] at h
    have : l.any p = false := by rw [List.any_eq_false]; intro x hx; simp [h x hx]
    simp [this]
  | some i =>
    rw [List.findIdx?_eq_some_iff_getElem] at h
    obtain ⟨hi, h1, _⟩ := h
    have : l.any p = true := by rw [List.any_eq_true]; exact ⟨_, List.getElem_mem hi, h1⟩
    simp [this]
set_option maxRecDepth 100000 in
theorem contc_any (F : Nat) (hF : ∀ args w, (callFunc F args).run Try.prog w = .ok (.enter F args) w) (w : World) (cap : Array Value) (p : Cell → Bool) (A : Option Addr) (n c : Nat) (l : List Cell) (hl : l.length = n) (hn : n ≤ 100000) (hr : Rd w w.heap.size 2 A n (l.flatMap encC))
    (hp : ∀ x, x ∈ l → ∀ w', Below w.heap.size w w' → Calls Try.prog F (#[celV x] ++ cap) w' (HasPost (p x) w')) :
    Calls Try.prog 81 #[.slice A n c, .func (.func F) #[] cap] w (HasPost (l.any p) w) := by
  have Hc := Lib.hid (idxc_any F hF w cap p A n c l hl hn hr hp)
  have He := Lib.hid (any_idxC l p)
  clear hp hF hr hl
  go_enter Try.func81, Try.ntmps81
  go_wp2_with fail
  refine Hc.out.mono ?_
  rintro e w' ⟨rfl, hb⟩
  obtain ⟨q, hq⟩ : ∃ q : Int, q = idxC l p := ⟨_, rfl⟩
  rw [← hq]
  have He' := He.out
  rw [← hq] at He'
  have He'' := Lib.hid He'
  have HB := Lib.hid hb
  clear hq He' He Hc hb
  go_wp2
  go_ret
  exact ⟨ret_bool He''.out, HB.out⟩
def DelPost (base : Nat) (l : List Cell) (w : World) (e : Ending) (w' : World) : Prop := ∃ A n c, e = .returned (.slice A n c) ∧ l.length = n ∧ w'.ownsRow base 24 2 (.slice A n c) n (l.flatMap encC) ∧ Below base w w'
theorem filter_none {l : List Cell} {p : Cell → Bool} (h : ∀ x ∈ l, p x = false) : l.filter (fun x => !p x) = l := by
  rw [List.filter_eq_self]; intro x hx; simp [h x hx]
theorem idxC_cases (l : List Cell) (p : Cell → Bool) : idxC l p = -1 ∧ (∀ x ∈ l, p x = false) ∨ ∃ i x, idxC l p = (i : Nat) ∧ l[i]? = some x ∧ p x = true ∧ ∀ k a, k < i → l[k]? = some a → p a = false := by
  unfold idxC
  cases h : l.findIdx? p with
  | none => left; rw [List.findIdx?_eq_none_iff] at h; exact ⟨rfl, h⟩
  | some i =>
    right
    rw [List.findIdx?_eq_some_iff_getElem] at h
    obtain ⟨hi, h1, h2⟩ := h
    refine ⟨i, _, rfl, List.getElem?_eq_getElem hi, h1, fun k a hk ha => ?_⟩
    have := h2 k hk
    rw [List.getElem?_eq_getElem (by omega)] at ha
    injection ha with ha
    rw [ha] at this
    simpa using this
theorem filter_take {l : List Cell} {p : Cell → Bool} {j : Nat} {x : Cell} (hx : l[j]? = some x) : (l.take (j + 1)).filter p = (l.take j).filter p ++ (if p x then [x] else []) := by
  rw [List.take_add_one, hx, List.filter_append]
  cases h : p x <;> simp [h]
theorem take_set {l : List Cell} {k : Nat} {a : Cell} (h : k < l.length) : (l.set k a).take (k + 1) = l.take k ++ [a] := by
  rw [List.take_add_one, List.getElem?_set, if_pos rfl, if_pos h]
  congr 1
  apply List.ext_getElem?
  intro i
  rw [List.getElem?_take, List.getElem?_take]
  split
  · rw [List.getElem?_set, if_neg (by omega)]
  · rfl
set_option maxRecDepth 100000 in
set_option maxHeartbeats 2000000 in
theorem delc_any (F : Nat) (hF : ∀ args w, (callFunc F args).run Try.prog w = .ok (.enter F args) w) (w : World) (base : Nat) (cap : Array Value) (p : Cell → Bool) (A : Option Addr) (n c : Nat) (l : List Cell) (hl : l.length = n) (hn : n ≤ 100000) (hbase : base ≤ w.heap.size)
    (ho : w.ownsRow base 24 2 (.slice A n c) n (l.flatMap encC))
    (hp : ∀ x, x ∈ l → ∀ w', Below base w w' → Calls Try.prog F (#[celV x] ++ cap) w' (HasPost (p x) w')) :
    Calls Try.prog 72 #[.slice A n c, .func (.func F) #[] cap] w (DelPost base (l.filter fun x => !p x) w) := by
  obtain ⟨A', c', he, _, _, hr⟩ := own_rd ho
  injection he with e1 _ e3
  subst e1 e3
  have Hc := Lib.hid (idxc_any F hF w cap p A n c l hl hn hr (fun x hx w' hb => hp x hx w' (hb.mono hbase)))
  have Hl := Lib.hid hl
  have Ho := Lib.hid ho
  have Hp := Lib.hid hp
  clear hp hl ho hr
  rcases idxC_cases l p with ⟨hi, hno⟩ | ⟨i, x, hi, hx, hpx, hno⟩
  · rw [hi] at Hc
    have HP := Lib.hid (show ∀ w', Below w.heap.size w w' → DelPost base (l.filter fun x => !p x) w (.returned (.slice A n c)) w' from fun w' hb => by
      rw [filter_none hno]
      exact ⟨A, n, c, rfl, Hl.out, own_below Ho.out hb (Nat.le_refl _), hb.mono hbase⟩)
    clear hno hi
    go_enter Try.func72, Try.ntmps72
    go_wp2_with fail
    refine Hc.out.mono ?_
    rintro e w' ⟨rfl, hb⟩
    go_wp2
    go_ret
    exact HP.out _ hb
  · rw [hi] at Hc
    have hin : i < n := by
      have := (List.getElem?_eq_some_iff.1 hx).1
      rw [Hl.out] at this; exact this
    have hi1 : ((i : Int) == -1) = false := by simp
    obtain ⟨g, cap', he, hcap, hg, hgl⟩ := own_shape Ho.out (by omega)
    injection he with e1 e2 e3
    subst e1 e3
    have ht0 : (l.take i).filter (fun x => !p x) = l.take i := filter_none fun y hy => by
      obtain ⟨k, hk, rfl⟩ := List.getElem_of_mem hy
      rw [List.length_take] at hk
      exact hno k _ (by omega) (by rw [List.getElem_take]; exact List.getElem?_eq_getElem _)
    have ht1 : (l.take (i + 1)).filter (fun x => !p x) = l.take i := by
      rw [filter_take hx, ht0]; simp [hpx]
    have Ht1 := Lib.hid ht1
    clear hno hi ht0 ht1 hx hpx
    go_enter Try.func72, Try.ntmps72
    go_wp2_with fail
    refine Hc.out.mono ?_
    rintro e w1 ⟨rfl, hb1⟩
    have Hb1 := Lib.hid (hb1.mono hbase)
    have Ho1 := Lib.hid (own_below Ho.out hb1 (Nat.le_refl _))
    clear hb1
    go_wp2
    go_loopw [5, 6] (fun i' j' wr => ∃ (ii jj : Nat) (ds : List Cell), i' = .int .i64 (ii : Int) ∧ j' = .int .i64 (jj : Int) ∧ ii < jj ∧ jj ≤ n ∧ ds.length = n ∧ Hid (∀ k, jj ≤ k → ds[k]? = l[k]?) ∧ Hid (ds.take ii = (l.take jj).filter fun x => !p x) ∧ Hid (wr.ownsRow base 24 2 (.slice (some ⟨g, 0, none⟩) n c) n (ds.flatMap encC)) ∧ Hid (Below base w wr)) (fun _ j' _ => n - (intOf j').toNat)
    case atStart => exact ⟨i, i + 1, l, rfl, rfl, by omega, by omega, Hl.out, Lib.hid (fun _ _ => rfl), Lib.hid Ht1.out.symm, Lib.hid Ho1.out, Lib.hid Hb1.out⟩
    case round =>
      obtain ⟨ii, jj, ds, rfl, rfl, hij, hj, hdl, HD, HF, HO, HB⟩ := hrel
      by_cases hlt : jj < n
      · obtain ⟨⟨a, b⟩, ha⟩ : ∃ z, l[jj]? = some z := ⟨_, List.getElem?_eq_getElem (by have := Hl.out; omega)⟩
        have hda : ds[jj]? = some (a, b) := (HD.out jj (Nat.le_refl _)).trans ha
        have f0 : wr.cell? ⟨g, jj * 2, none⟩ = some (.int .i64 a) := (HO.out.cellAt _ (by omega)).trans (flat_get (enc := encC) ds encC_len jj (a, b) hda 0 _ rfl)
        have f1 : wr.cell? ⟨g, jj * 2 + 1, none⟩ = some (.int .i64 b) := (HO.out.cellAt _ (by omega)).trans (flat_get (enc := encC) ds encC_len jj (a, b) hda 1 _ rfl)
        have Ha := Lib.hid ha
        clear ha hda
        have hzr : w.heap.size ≤ wr.heap.size := Nat.le_trans (Nat.le_refl _) (by have := HB.out.size; exact this)
        obtain ⟨w2, hw2⟩ : ∃ w2, w2 = (wr.alloc (.cells #[.int .i64 a, .int .i64 b] 24)) := ⟨_, rfl⟩
        have hb2 : Below base w w2 := by rw [hw2]; exact HB.out.alloc (by omega) _
        have hk2 : Blk w2 wr.heap.size 24 #[.int .i64 a, .int .i64 b] := by rw [hw2]; exact Blk.new _ _ _
        have hz2 : w2.heap.size = wr.heap.size + 1 := by rw [hw2]; simp
        have ho2 : w2.ownsRow base 24 2 (.slice (some ⟨g, 0, none⟩) n c) n (ds.flatMap encC) := by rw [hw2]; exact HO.out.alloc _
        have HC := Lib.hid (Hp.out (a, b) (List.mem_of_getElem? Ha.out) w2 hb2)
        obtain ⟨q, hq⟩ : ∃ q, p (a, b) = q := ⟨_, rfl⟩
        rw [hq] at HC
        have HT := Lib.hid (filter_take (p := fun x => !p x) Ha.out)
        have Hq := Lib.hid hq
        have Hb2 := Lib.hid hb2
        have Hk2 := Lib.hid hk2
        have Ho2 := Lib.hid ho2
        clear hq hb2 hk2 ho2
        go_wp2_with fail
        rw [← hw2]
        clear hw2
        refine HC.out.mono ?_
        rintro e w3 ⟨rfl, hb3⟩
        have Hb3 := Lib.hid (Hb2.out.trans (hb3.mono (by omega)))
        have Ho3 := Lib.hid (own_below Ho2.out hb3 (Nat.le_refl _))
        have hk3 := Hk2.out.below hb3 (by omega)
        have k0 := hk3.cell 0 _ rfl
        have k1 := hk3.cell 1 _ rfl
        have z0 := Ho3.out.frozenAt (ii * 2)
        have z1 := Ho3.out.frozenAt (ii * 2 + 1)
        obtain ⟨⟨u0, u1⟩, hu⟩ : ∃ z, ds[ii]? = some z := ⟨_, List.getElem?_eq_getElem (by omega)⟩
        have y0 : w3.cell? ⟨g, ii * 2, none⟩ = some (.int .i64 u0) := (Ho3.out.cellAt _ (by omega)).trans (flat_get (enc := encC) ds encC_len ii _ hu 0 _ rfl)
        have y1 : w3.cell? ⟨g, ii * 2 + 1, none⟩ = some (.int .i64 u1) := (Ho3.out.cellAt _ (by omega)).trans (flat_get (enc := encC) ds encC_len ii _ hu 1 _ rfl)
        clear hu hk3 hb3 HC
        cases q
        · go_wp2
          go_roundw
          case rel => exact ⟨ii + 1, jj + 1, ds.set ii (a, b), by go_num, by go_num, by omega, by omega, by rw [List.length_set]; exact hdl, Lib.hid (fun i hi => by rw [List.getElem?_set, if_neg (by omega)]; exact HD.out i (by omega)), Lib.hid (by rw [take_set (by omega), HF.out, HT.out]; simp [Hq.out]),
            Lib.hid (by
              rw [← flat_set2 ds ii a b (by omega)]
              exact (Ho3.out.stored (ii * 2) (.int .i64 a)).1.stored (ii * 2 + 1) (.int .i64 b) |>.1),
            Lib.hid ((Hb3.out.setCell (p := ⟨g, ii * 2, none⟩) hg _).setCell (p := ⟨g, ii * 2 + 1, none⟩) hg _)⟩
          case measure => simp [intOf]; omega
        · go_wp2
          go_roundw
          case rel => exact ⟨ii, jj + 1, ds, rfl, by go_num, by omega, by omega, hdl, Lib.hid (fun i hi => HD.out i (by omega)), Lib.hid (by rw [HF.out, HT.out]; simp [Hq.out]), Ho3, Hb3⟩
          case measure => simp [intOf]; omega
      · obtain rfl : jj = n := by omega
        obtain ⟨wc, hcl, hoc, hbc⟩ := run_clear_own (size := 2) (P := Try.prog) wr 25 (.agg #[.int .i64 0, .int .i64 0]) Try.underlying25 zero_cell rfl (encC_oneZ) _ ii hij (by decide) HO.out
        have Hoc := Lib.hid hoc
        have Hbc := Lib.hid hbc
        clear hoc hbc
        go_wp2
        go_ret
        have e1 : ds.take ii = l.filter fun x => !p x := by
          rw [HF.out, List.take_of_length_le (by rw [Hl.out]; omega)]
        have e2 : (l.filter fun x => !p x).length = ii := by rw [← e1, List.length_take]; omega
        refine ⟨some ⟨g, 0, none⟩, ii, c, rfl, e2, ?_, HB.out.trans Hbc.out⟩
        have := Hoc.out
        rw [flat_takeC, e1] at this
        exact this
end Go.Proofs.Ytaahpjjffggaiaa
