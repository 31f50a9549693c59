/- gantlaw5.steps. Conditions: those typed. -/
import Derived.Test.YtgmjeanoohmdlaaOrderOf
import Derived.Test.YtgmjeanoohmdlaaRingPlain
import Derived.Test.YtgmjeanoohmdlaaReached
namespace Go.Proofs.Ytgmjeanoohmdlaa
open Go.RowKit Go.Gy
set_option linter.unusedVariables false
theorem Way.snoc {rs : List (List Int)} {i j k m : Nat} (h : Way rs j m i) (he : Ed rs j k) : Way rs k (m + 1) i := by
  induction h with
  | one h1 => exact .more h1 (.one he)
  | more h1 _ ih => exact .more h1 ih
theorem Way.unsnoc {rs : List (List Int)} {i k d : Nat} (h : Way rs k d i) : (d = 1 ∧ Ed rs i k) ∨ ∃ j e, d = e + 1 ∧ Way rs j e i ∧ Ed rs j k := by
  induction h with
  | one h1 => exact .inl ⟨rfl, h1⟩
  | @more d i q h1 h2 ih =>
    right
    rcases ih with ⟨rfl, h3⟩ | ⟨j, e, rfl, h3, h4⟩
    · exact ⟨q, 1, rfl, .one h1, h3⟩
    · exact ⟨j, e + 1, rfl, .more h1 h3, h4⟩
/-- just so many steps (perhaps none) from fr to k -/
def FW (rs : List (List Int)) (fr m k : Nat) : Prop := (m = 0 ∧ k = fr) ∨ Way rs k m fr
theorem FW.succ {rs : List (List Int)} {fr m k : Nat} : Way rs k (m + 1) fr ↔ ∃ j, FW rs fr m j ∧ Ed rs j k := by
  constructor
  · intro h
    rcases h.unsnoc with ⟨h1, h2⟩ | ⟨j, e, h1, h2, h3⟩
    · exact ⟨fr, .inl ⟨by omega, rfl⟩, h2⟩
    · have : e = m := by omega
      subst this
      exact ⟨j, .inr h2, h3⟩
  · rintro ⟨j, h1 | h1, h2⟩
    · obtain ⟨rfl, rfl⟩ := h1; exact .one h2
    · exact h1.snoc h2
def SlBo (w : World) (B : Nat) (v : Value) (sl : List Bool) : Prop := ∃ A n c, v = .slice A n c ∧ sl.length = n ∧ n ≤ c ∧ (A = none → c = 0) ∧ Rd w B 1 A n (sl.map Value.bool)
theorem SlBo.below {w w' : World} {B : Nat} {v : Value} {r : List Bool} (h : SlBo w B v r) (hb : Below B w w') : SlBo w' B v r := by
  obtain ⟨A, n, c, h1, h2, h3, h4, h5⟩ := h
  exact ⟨A, n, c, h1, h2, h3, h4, h5.below hb⟩
theorem SlBo.blk {w : World} {g n : Nat} {sl : List Bool} (h : Blk w g 4 (bools sl)) (hl : sl.length = n) : SlBo w w.heap.size (.slice (some ⟨g, 0, none⟩) n n) sl :=
  ⟨_, n, n, rfl, hl, Nat.le_refl _, (fun h => by cases h), ⟨by simp [hl], fun _ => ⟨g, 0, rfl, h.lt, fun j u hu => by rw [Nat.zero_add]; exact h.cell j u (by simpa [bools] using hu)⟩⟩⟩
theorem rd_oneb {w : World} {B n i : Nat} {A : Option Addr} {xs : List Bool} (h : Rd w B 1 A n (xs.map Value.bool)) (hk : i < n) :
    ∃ b o z, A = some ⟨b, o, none⟩ ∧ b < B ∧ xs[i]? = some z ∧ w.cell? ⟨b, o + i, none⟩ = some (.bool z) := by
  obtain ⟨b, o, u, e, hb, hu, hc⟩ := h.at_ hk
  rw [List.getElem?_map] at hu
  cases hx : xs[i]? with
  | none => simp [hx] at hu
  | some a =>
    rw [hx] at hu
    simp only [Option.map_some, Option.some.injEq] at hu
    subst hu
    exact ⟨b, o, a, e, hb, rfl, hc⟩
def isL (fr n : Nat) : List Bool := (List.range n).map fun (i : Nat) => ((i : Int) == (fr : Int))
theorem isL_snoc (fr n : Nat) : isL fr (n + 1) = isL fr n ++ [((n : Int) == (fr : Int))] := by simp [isL, List.range_succ]
theorem isL_len (fr n : Nat) : (isL fr n).length = n := by simp [isL]
theorem isL_at (fr n k : Nat) : (isL fr n)[k]? = some true ↔ k < n ∧ k = fr := by
  unfold isL
  rw [List.getElem?_map]
  by_cases h : k < n
  · rw [List.getElem?_range h]; simp [h]; omega
  · rw [List.getElem?_eq_none (by simpa using h)]; simp [h]
structure HereOK (rs : List (List Int)) (fr m : Nat) (sl : List Bool) : Prop where
  len : sl.length = rs.length
  is : ∀ k : Nat, sl[k]? = some true ↔ k < rs.length ∧ FW rs fr m k
structure NowOK (rs : List (List Int)) (sl sl2 : List Bool) (i : Nat) : Prop where
  len : sl2.length = rs.length
  is : ∀ k : Nat, sl2[k]? = some true ↔ ∃ i', i' < i ∧ sl[i']? = some true ∧ Ed rs i' k
structure RowOK (rs : List (List Int)) (sl sl2 : List Bool) (i : Nat) (r : List Int) : Prop where
  len : sl2.length = rs.length
  is : ∀ k : Nat, sl2[k]? = some true ↔ (∃ i', i' < i ∧ sl[i']? = some true ∧ Ed rs i' k) ∨ (k : Int) ∈ r
theorem NowOK.start (rs : List (List Int)) (sl : List Bool) : NowOK rs sl (List.replicate rs.length false) 0 := by
  refine ⟨by simp, fun k => ⟨fun h => ?_, fun ⟨i', h, _⟩ => absurd h (by omega)⟩⟩
  rw [List.getElem?_replicate] at h
  split at h <;> simp at h
theorem NowOK.done {rs : List (List Int)} (hg : GoodG rs) {fr m : Nat} {sl sl2 : List Bool} (h0 : HereOK rs fr m sl) (h : NowOK rs sl sl2 rs.length) (k : Nat) : sl2[k]? = some true ↔ Way rs k (m + 1) fr := by
  rw [h.is k, FW.succ]
  constructor
  · rintro ⟨i', h1, h2, h3⟩; exact ⟨i', ((h0.is i').1 h2).2, h3⟩
  · rintro ⟨j, h1, h2⟩
    have hj : j < rs.length := by obtain ⟨r, h3, _⟩ := h2; exact (List.getElem?_eq_some_iff.1 h3).1
    exact ⟨j, hj, (h0.is j).2 ⟨hj, h1⟩, h2⟩
theorem NowOK.here {rs : List (List Int)} (hg : GoodG rs) {fr m : Nat} {sl sl2 : List Bool} (h0 : HereOK rs fr m sl) (h : NowOK rs sl sl2 rs.length) : HereOK rs fr (m + 1) sl2 := by
  refine ⟨h.len, fun k => ?_⟩
  rw [h.done hg h0 k]
  constructor
  · intro hw
    obtain ⟨j, _, h2⟩ := FW.succ.1 hw
    exact ⟨hg.edge h2, .inr hw⟩
  · rintro ⟨_, h1 | h1⟩
    · omega
    · exact h1
/-- the least number of steps from fr to k, or 1000 -/
def SV (rs : List (List Int)) (k fr : Nat) (x : Int) : Prop := (∃ d : Nat, x = (d : Int) ∧ d ≤ rs.length ∧ Way rs k d fr ∧ ∀ d', d' < d → ¬ Way rs k d' fr) ∨ (x = 1000 ∧ ∀ d, d ≤ rs.length → ¬ Way rs k d fr)
def LawPost (w : World) (rs : List (List Int)) (k fr : Nat) (e : Ending) (w' : World) : Prop := ∃ x : Int, e = .returned (.int .i64 x) ∧ SV rs k fr x ∧ Below w.heap.size w w'
def HereRel (w : World) (rs : List (List Int)) (k fr : Nat) (h n : Value) (wr : World) : Prop := ∃ (m q : Nat) (sl : List Bool), n = .int .i64 (q : Int) ∧ q = m + 1 ∧ m ≤ rs.length ∧ SlBo wr wr.heap.size h sl ∧ HereOK rs fr m sl ∧ (∀ d, d ≤ m → ¬ Way rs k d fr) ∧ Below w.heap.size w wr
def NowRelB (w0 : World) (rs : List (List Int)) (sl : List Bool) (i : Value) (wr : World) : Prop := ∃ (j : Nat) (sl2 : List Bool), j ≤ rs.length ∧ i = .int .i64 (j : Int) ∧ NowOK rs sl sl2 j ∧ Blk wr w0.heap.size 4 (bools sl2) ∧ Below w0.heap.size w0 wr
def RowRelB (w0 : World) (rs : List (List Int)) (sl : List Bool) (k : Nat) (r : List Int) (i : Value) (wr : World) : Prop := ∃ (j : Nat) (sl2 : List Bool), j ≤ r.length ∧ i = .int .i64 (j : Int) ∧ RowOK rs sl sl2 k (r.take j) ∧ Blk wr w0.heap.size 4 (bools sl2) ∧ Below w0.heap.size w0 wr
set_option maxRecDepth 100000 in
set_option maxHeartbeats 4000000 in
theorem law_steps (w : World) (v : Value) (fr to : Nat) (rs : List (List Int)) (hv : RowsI w w.heap.size v rs) (hg : GoodG rs) (hf : fr < rs.length) (ht : to < rs.length) :
    Calls Try.prog 28 #[v, .int .i64 (fr : Int), .int .i64 (to : Int)] w (LawPost w rs to fr) := by
  obtain ⟨A, n, c, vs, rfl, hN, _, _, hr, hs⟩ := hv
  have hn64 := hg.len
  have HN := Lib.hid hN
  have Hs := Lib.hid hs
  have Hg := Lib.hid hg
  rw [hN] at hn64 hf ht
  have hfn : (fr : Int) < (n : Int) := by omega
  have htn : (to : Int) < (n : Int) := by omega
  obtain ⟨i0, hi, hz0, hz1, hz2⟩ := info_parts info_bool
  have hmk : ∀ W : World, (Instr.makeSlice 35 (.int .i64 (n : Int)) (.int .i64 (n : Int))).run Try.prog W = .ok (.slice (some ⟨W.heap.size, 0, none⟩) n n) (W.alloc (.cells (bools (List.replicate n false)) 4)) := fun W => by
    have h := run_makeSlice (P := Try.prog) W 35 4 i0 (.bool false) Try.underlying35 hi hz0 .i64 .i64 (n : Int) (n : Int) (by omega) (Int.le_refl _) (by rw [hz1]; omega) (by rw [hz2]; omega) (by omega)
    rw [Int.toNat_natCast, hz1, Nat.mul_one, made_bools] at h
    exact h
  clear hN hs hg
  go_enter Try.func28, Try.ntmps28
  go_wp2_with fail
  go_loopw [7, 18] (fun h i wr => ∃ k : Nat, k ≤ n ∧ i = .int .i64 (k : Int) ∧ wr.ownsRow w.heap.size 4 1 h k ((isL fr k).map Value.bool) ∧ Below w.heap.size w wr) (fun _ i _ => n - (intOf i).toNat)
  case atStart => exact ⟨0, Nat.zero_le _, rfl, World.ownsRow_lit w #[] 0 (Nat.le_refl _) (by omega) rfl, (Below.refl _ _).alloc (Nat.le_refl _) _⟩
  case round =>
    obtain ⟨k, hk, rfl, hown, hb⟩ := hrel
    have hzr := hb.size
    obtain ⟨Ah, ch, rfl, _, _, _⟩ := own_rd hown
    have Hown := Lib.hid hown
    clear hown
    by_cases hkn : k < n
    · have hkn' : (k : Int) < (n : Int) := by omega
      have hlm : k + 1 ≤ maxLen := by unfold maxLen; omega
      go_wp2_with (at_builtin; refine wpList_push rfl (.tmp 21) (.tmp 25) 35 rfl w.heap.size 4 i0 (.bool false) 1 1 Try.underlying35 hi hz0 hz1 hz2 rfl (by omega) _ k _ rfl Hown.out [_] rfl rfl (by simp [Value.oneCell']) hlm (by omega) hzr ?_; intro v6 w6 hn6 hb6 _)
      go_roundw
      case rel => exact ⟨k + 1, by omega, by go_num, by rw [isL_snoc, List.map_append]; exact hn6, hb.trans (hb6)⟩
      case measure => simp [intOf]; omega
    · obtain rfl : k = n := by omega
      have Hst := Lib.hid (show HereRel w rs to fr (.slice Ah k ch) (.int .i64 1) wr from ⟨0, 1, isL fr k, rfl, rfl, Nat.zero_le _, by
        obtain ⟨A', c', he, h1, _, h2⟩ := own_rd Hown.out
        injection he with e1 _ e3
        subst e1 e3
        exact ⟨_, k, _, rfl, isL_len _ _, h1, fun h => (own_none Hown.out h).2, h2⟩, ⟨by rw [isL_len, HN.out], fun q => by
          rw [isL_at, HN.out]
          constructor
          · rintro ⟨h1, h2⟩; exact ⟨h1, .inl ⟨rfl, h2⟩⟩
          · rintro ⟨h1, ⟨_, h2⟩ | h2⟩
            · exact ⟨h1, h2⟩
            · have := h2.pos; omega⟩, fun d hd hw => by have := hw.pos; omega, hb⟩)
      clear hzr Hown hb
      go_wp2_with fail
      go_loopw [7, 9] (fun h i wr => HereRel w rs to fr h i wr) (fun _ i _ => k + 1 - (intOf i).toNat)
      case atStart => exact Hst.out
      case round =>
        obtain ⟨w0, rfl⟩ : ∃ w0, w0 = wr := ⟨_, rfl⟩
        obtain ⟨m, q, sl, rfl, hqm, hmk2, hsl, hho, hno, hb⟩ := hrel
        rw [HN.out] at hmk2
        obtain ⟨Ah2, nh, ch2, rfl, hsln, hnc2, hA2, hrh⟩ := hsl
        have hslk : nh = k := by rw [← hsln, hho.len, HN.out]
        subst hslk
        have hz0' := hb.size
        have Hho := Lib.hid hho
        have Hno := Lib.hid hno
        have Hsln := Lib.hid hsln
        clear hho hno hsln hA2
        by_cases hqn : q ≤ nh
        · have hqn' : (q : Int) ≤ (nh : Int) := by omega
          have Hst2 := Lib.hid (show NowRelB w0 rs sl (.int .i64 0) (w0.alloc (.cells (bools (List.replicate nh false)) 4)) from ⟨0, _, Nat.zero_le _, rfl, NowOK.start rs sl, by rw [HN.out]; exact Blk.new w0 4 _, (Below.refl _ _).alloc (Nat.le_refl _) _⟩)
          have hq64 : q ≤ 64 := by omega
          have Hqm := Lib.hid hqm
          clear hqm
          go_wp2_with fail
          go_loopw [39] (fun i wr => NowRelB w0 rs sl i wr) (fun i _ => nh - (intOf i).toNat)
          case atStart => exact Hst2.out
          case round =>
            obtain ⟨k2, sl2, hk2, rfl, hNO, hB, hb2⟩ := hrel
            rw [HN.out] at hk2
            have HNO := Lib.hid hNO
            have HB := Lib.hid hB
            have hbw := hb.trans (hb2.mono hz0')
            clear hNO hB
            by_cases hkn : k2 < nh
            · have hkn' : (k2 : Int) < (nh : Int) := by omega
              obtain ⟨bh, oh, bb, rfl, hbh, hbb, hcb⟩ := rd_oneb (hrh.below hb2) hkn
              obtain ⟨b, o, u, rfl, hbB, hu, hc⟩ := (hr.below hbw).at_ hkn
              have hrk : rs[k2]? = some (rs[k2]'(by have := HN.out; omega)) := List.getElem?_eq_getElem _
              obtain ⟨r, hr0⟩ : ∃ r, r = rs[k2]'(by have := HN.out; omega) := ⟨_, rfl⟩
              rw [← hr0] at hrk
              obtain ⟨Ar, mr, cr, rfl, hmr, _, _, hrr⟩ := Hs.out.2 k2 u r hu hrk
              have hmrb : mr ≤ 1000000000 := by rw [← hmr]; exact Hg.out.row (List.mem_of_getElem? hrk)
              have Hbb := Lib.hid hbb
              have Hrk := Lib.hid hrk
              have Hmr := Lib.hid hmr
              clear hu hr0 hrk hmr hbb
              cases bb with
              | false =>
                have Hnx := Lib.hid (show NowRelB w0 rs sl (.int .i64 ((k2 : Int) + 1)) wr from ⟨k2 + 1, sl2, by rw [HN.out]; omega, by go_num, ⟨HNO.out.len, fun q => by
                  rw [HNO.out.is q]
                  constructor
                  · rintro ⟨i', h1, h2⟩; exact ⟨i', by omega, h2⟩
                  · rintro ⟨i', h1, h2, h3⟩
                    rcases Nat.lt_or_ge i' k2 with h4 | h4
                    · exact ⟨i', h4, h2, h3⟩
                    · have : i' = k2 := by omega
                      subst this
                      rw [Hbb.out] at h2; cases h2⟩, HB.out, hb2⟩)
                go_wp2_with fail
                go_roundw
                case rel => exact Hnx.out
                case measure => simp [intOf]; omega
              | true =>
                have Hst3 := Lib.hid (show RowRelB w0 rs sl k2 r (.int .i64 0) wr from ⟨0, sl2, Nat.zero_le _, rfl, ⟨HNO.out.len, fun q => by rw [HNO.out.is q]; simp⟩, HB.out, hb2⟩)
                go_wp2_with fail
                go_loopw [50] (fun i wr => RowRelB w0 rs sl k2 r i wr) (fun i _ => mr - (intOf i).toNat)
                case atStart => exact Hst3.out
                case round =>
                  obtain ⟨j, sl3, hj, rfl, hRO, hB3, hb3⟩ := hrel
                  rw [Hmr.out] at hj
                  have HRO := Lib.hid hRO
                  have HB3 := Lib.hid hB3
                  have hbw3 := hb.trans (hb3.mono hz0')
                  clear hRO hB3
                  by_cases hjl : j < mr
                  · have hjl' : (j : Int) < (mr : Int) := by omega
                    obtain ⟨bx, ox, x, rfl, _, hx, hcx⟩ := (hrr.below hbw3).one hjl
                    have hxb := Hg.out.ok r (List.mem_of_getElem? Hrk.out) x (List.mem_of_getElem? hx)
                    obtain ⟨kx, hkx⟩ : ∃ kx : Nat, (kx : Int) = x := ⟨x.toNat, by omega⟩
                    subst hkx
                    have hkxn : kx < rs.length := by omega
                    have hkxn' : (kx : Int) < (nh : Int) := by have := HN.out; omega
                    have hkl : kx < sl3.length := by rw [HRO.out.len]; exact hkxn
                    obtain ⟨b2, hb2e⟩ : ∃ b2, sl3[kx]? = some b2 := ⟨_, List.getElem?_eq_getElem hkl⟩
                    have hcb2 := HB3.out.cell kx _ (bools_at hb2e)
                    have hfz := HB3.out.free kx
                    have Hnx := Lib.hid (show RowRelB w0 rs sl k2 r (.int .i64 ((j : Int) + 1)) (wr.setCell ⟨w0.heap.size, kx, none⟩ (.bool true)) from
                      ⟨j + 1, sl3.set kx true, by rw [Hmr.out]; omega, by go_num, ⟨by rw [List.length_set]; exact HRO.out.len, fun q => by
                        rw [set_true hkl, HRO.out.is q, List.take_add_one, hx, List.mem_append]
                        simp only [Option.toList_some, List.mem_singleton]
                        constructor
                        · rintro (rfl | h1 | h1)
                          · exact .inr (.inr rfl)
                          · exact .inl h1
                          · exact .inr (.inl h1)
                        · rintro (h1 | h1 | h1)
                          · exact .inr (.inl h1)
                          · exact .inr (.inr h1)
                          · exact .inl (by omega)⟩, by rw [← bools_set]; exact HB3.out.set _ _, hb3.setCell (Nat.le_refl _) _⟩)
                    clear hx hxb hkl hb2e
                    go_wp2_with fail
                    go_roundw
                    case rel => exact Hnx.out
                    case measure => simp [intOf]; omega
                  · obtain rfl : j = mr := by omega
                    have Hnx := Lib.hid (show NowRelB w0 rs sl (.int .i64 ((k2 : Int) + 1)) wr from ⟨k2 + 1, sl3, by rw [HN.out]; omega, by go_num, ⟨HRO.out.len, fun q => by
                      rw [HRO.out.is q, List.take_of_length_le (by rw [Hmr.out]; omega)]
                      constructor
                      · rintro (⟨i', h1, h2⟩ | h1)
                        · exact ⟨i', by omega, h2⟩
                        · exact ⟨k2, by omega, Hbb.out, r, Hrk.out, h1⟩
                      · rintro ⟨i', h1, h2, h3⟩
                        rcases Nat.lt_or_ge i' k2 with h4 | h4
                        · exact .inl ⟨i', h4, h2, h3⟩
                        · have : i' = k2 := by omega
                          subst this
                          exact .inr (edMem h3 Hrk.out)⟩, HB3.out, hb3⟩)
                    go_wp2_with fail
                    go_roundw
                    case rel => exact Hnx.out
                    case measure => simp [intOf]; omega
            · obtain rfl : k2 = nh := by omega
              have hNO2 : NowOK rs sl sl2 rs.length := by rw [HN.out]; exact HNO.out
              have hdone := NowOK.done Hg.out Hho.out hNO2 to
              rw [← Hqm.out] at hdone
              have htl : to < sl2.length := by rw [hNO2.len, HN.out]; exact ht
              obtain ⟨bb, hbb⟩ : ∃ bb, sl2[to]? = some bb := ⟨_, List.getElem?_eq_getElem htl⟩
              have hcb := HB.out.cell to _ (bools_at hbb)
              rw [hbb] at hdone
              have Hdone := Lib.hid hdone
              have hmin : ∀ d', d' < q → ¬ Way rs to d' fr := fun d' h1 => Hno.out d' (by have := Hqm.out; omega)
              have Hmin := Lib.hid hmin
              have HNO2 := Lib.hid hNO2
              clear hNO2 hdone htl hbb hmin
              cases bb with
              | true =>
                have HP := Lib.hid (show LawPost w rs to fr (.returned (.int .i64 (q : Int))) wr from ⟨_, rfl, .inl ⟨q, rfl, by rw [HN.out]; exact hqn, Hdone.out.1 rfl, Hmin.out⟩, hbw⟩)
                go_wp2_with fail
                go_ret
                exact HP.out
              | false =>
                have Hnx := Lib.hid (show HereRel w rs to fr (.slice (some ⟨w0.heap.size, 0, none⟩) k2 k2) (.int .i64 ((q : Int) + 1)) wr from ⟨m + 1, q + 1, sl2, by go_num, by have := Hqm.out; omega, by rw [HN.out]; have := Hqm.out; omega, SlBo.blk HB.out (by rw [HNO2.out.len, HN.out]), HNO2.out.here Hg.out Hho.out, (fun d hd hw => by
                  rcases Nat.lt_or_ge d q with h1 | h1
                  · exact Hmin.out d h1 hw
                  · have : d = q := by have := Hqm.out; omega
                    subst this
                    have := Hdone.out.2 hw
                    cases this), hbw⟩)
                go_wp2_with fail
                go_roundw
                case rel => exact Hnx.out
                case measure => simp [intOf]; omega
        · have HP := Lib.hid (show LawPost w rs to fr (.returned (.int .i64 1000)) w0 from ⟨_, rfl, .inr ⟨rfl, fun d hd => Hno.out d (by have := HN.out; omega)⟩, hb⟩)
          have hqn' : ¬ (q : Int) ≤ (nh : Int) := by omega
          clear hqm
          go_wp2_with fail
          go_ret
          exact HP.out
end Go.Proofs.Ytgmjeanoohmdlaa
