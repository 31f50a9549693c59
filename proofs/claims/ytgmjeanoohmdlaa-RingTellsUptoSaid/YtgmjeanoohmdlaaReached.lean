/- gantref5.Reached. Conditions: those typed. -/
import Derived.Test.YtgmjeanoohmdlaaStuck
namespace Go.Proofs.Ytgmjeanoohmdlaa
open Go.RowKit Go.Gy
set_option linter.unusedVariables false
theorem edMem {rs : List (List Int)} {i k : Nat} {r : List Int} (h : Ed rs i k) (hr : rs[i]? = some r) : (k : Int) ∈ r := by
  obtain ⟨r', h1, h2⟩ := h
  rw [hr] at h1
  injection h1 with h1
  subst h1; exact h2
def Sub (sl sl' : List Bool) : Prop := sl.length = sl'.length ∧ ∀ k : Nat, sl[k]? = some true → sl'[k]? = some true
theorem Sub.refl (sl : List Bool) : Sub sl sl := ⟨rfl, fun _ h => h⟩
theorem Sub.count : ∀ (sl sl' : List Bool), Sub sl sl' → sl.count true ≤ sl'.count true ∧ (sl.count true = sl'.count true → sl = sl')
  | [], [], _ => ⟨Nat.le_refl _, fun _ => rfl⟩
  | [], _ :: _, h => by have := h.1; simp at this
  | _ :: _, [], h => by have := h.1; simp at this
  | b :: sl, b' :: sl', h => by
    have hs : Sub sl sl' := ⟨by have := h.1; simpa using this, fun k hk => by have := h.2 (k + 1) (by simpa using hk); simpa using this⟩
    obtain ⟨h1, h2⟩ := Sub.count sl sl' hs
    have h0 := h.2 0
    simp only [List.getElem?_cons_zero, Option.some.injEq] at h0
    cases b <;> cases b' <;> simp only [List.count_cons, beq_self_eq_true, if_true, Bool.false_eq_true, if_false, Nat.add_zero, show (false == true) = false from rfl]
    · exact ⟨h1, fun h => by rw [h2 h]⟩
    · exact ⟨by omega, fun h => by omega⟩
    · exact absurd (h0 rfl) (by simp)
    · exact ⟨by omega, fun h => by rw [h2 (by omega)]⟩
/-- in the middle of a round -/
structure RI (rs : List (List Int)) (a : Nat) (sl0 sl : List Bool) (i : Nat) : Prop where
  len : sl.length = rs.length
  sub : Sub sl0 sl
  sound : ∀ k, sl[k]? = some true → Reach rs a k
  done : ∀ i', i' < i → (i' = a ∨ sl0[i']? = some true) → ∀ k, Ed rs i' k → sl[k]? = some true
structure RO (rs : List (List Int)) (a m : Nat) (sl : List Bool) : Prop where
  len : sl.length = rs.length
  sound : ∀ k, sl[k]? = some true → Reach rs a k
  full : (∀ k, Reach rs a k → sl[k]? = some true) ∨ m ≤ sl.count true
theorem set_true {sl : List Bool} {k j : Nat} (hk : k < sl.length) : (sl.set k true)[j]? = some true ↔ j = k ∨ sl[j]? = some true := by
  rw [List.getElem?_set]
  by_cases h : k = j
  · subst h; simp [hk]
  · rw [if_neg h]; constructor
    · exact .inr
    · rintro (h1 | h1)
      · exact absurd h1.symm h
      · exact h1
theorem RI.set {rs : List (List Int)} {a i k : Nat} {sl0 sl : List Bool} (h : RI rs a sl0 sl i) (hk : k < rs.length) (hr : Reach rs a k) : RI rs a sl0 (sl.set k true) i := by
  have hkl : k < sl.length := by rw [h.len]; exact hk
  refine ⟨by rw [List.length_set]; exact h.len, ⟨by rw [List.length_set]; exact h.sub.1, fun j hj => (set_true hkl).2 (.inr (h.sub.2 j hj))⟩, fun j hj => ?_, fun i' hi' hc j hj => (set_true hkl).2 (.inr (h.done i' hi' hc j hj))⟩
  rcases (set_true hkl).1 hj with rfl | h1
  · exact hr
  · exact h.sound j h1
theorem RO.start (rs : List (List Int)) (a : Nat) : RO rs a 0 (List.replicate rs.length false) := by
  refine ⟨by simp, fun k hk => ?_, .inr (Nat.zero_le _)⟩
  rw [List.getElem?_replicate] at hk
  split at hk <;> simp at hk
theorem RO.enter {rs : List (List Int)} {a m : Nat} {sl : List Bool} (h : RO rs a m sl) : RI rs a sl sl 0 := ⟨h.len, Sub.refl _, h.sound, fun i' hi' => absurd hi' (by omega)⟩
theorem RO.next {rs : List (List Int)} {a m : Nat} {sl0 sl : List Bool} (h0 : RO rs a m sl0) (h : RI rs a sl0 sl rs.length) : RO rs a (m + 1) sl := by
  refine ⟨h.len, h.sound, ?_⟩
  rcases h0.full with hf | hf
  · exact .inl fun k hk => h.sub.2 k (hf k hk)
  · obtain ⟨h1, h2⟩ := Sub.count _ _ h.sub
    by_cases hc : m + 1 ≤ sl.count true
    · exact .inr hc
    · have he := h2 (by omega)
      subst he
      left
      intro k hk
      have hed : ∀ i k, Ed rs i k → i < rs.length := fun i k ⟨r, h1, _⟩ => (List.getElem?_eq_some_iff.1 h1).1
      induction hk with
      | one h1 => exact h.done a (hed _ _ h1) (.inl rfl) _ h1
      | more _ h1 ih => exact h.done _ (hed _ _ h1) (.inr ih) _ h1
theorem RO.all {rs : List (List Int)} {a : Nat} {sl : List Bool} (h : RO rs a (rs.length + 1) sl) (k : Nat) : sl[k]? = some true ↔ Reach rs a k := by
  refine ⟨h.sound k, ?_⟩
  rcases h.full with hf | hf
  · exact hf k
  · have := List.count_le_length (a := true) (l := sl)
    rw [h.len] at this
    omega
def RchRel (w : World) (rs : List (List Int)) (a N : Nat) (i : Value) (wr : World) : Prop := ∃ (m : Nat) (sl : List Bool), m ≤ N + 1 ∧ i = .int .i64 (m : Int) ∧ RO rs a m sl ∧ Blk wr w.heap.size 4 (bools sl) ∧ Below w.heap.size w wr
def RchRel2 (w : World) (rs : List (List Int)) (a N : Nat) (sl0 : List Bool) (i : Value) (wr : World) : Prop := ∃ (k : Nat) (sl : List Bool), k ≤ N ∧ i = .int .i64 (k : Int) ∧ RI rs a sl0 sl k ∧ Blk wr w.heap.size 4 (bools sl) ∧ Below w.heap.size w wr
def RchRel3 (w : World) (rs : List (List Int)) (a k : Nat) (sl0 : List Bool) (r : List Int) (i : Value) (wr : World) : Prop := ∃ (j : Nat) (sl : List Bool), j ≤ r.length ∧ i = .int .i64 (j : Int) ∧ RI rs a sl0 sl k ∧ (∀ x ∈ r.take j, sl[x.toNat]? = some true) ∧ Blk wr w.heap.size 4 (bools sl) ∧ Below w.heap.size w wr
set_option maxRecDepth 100000 in
set_option maxHeartbeats 4000000 in
theorem reached_any (w : World) (v : Value) (a : Nat) (rs : List (List Int)) (hv : RowsI w w.heap.size v rs) (hg : GoodG rs) (ha : a < rs.length) :
    Calls Try.prog 16 #[v, .int .i64 (a : Int)] w (StepsPost w rs a) := by
  obtain ⟨A, n, c, vs, rfl, hN, _, _, hr, hs⟩ := hv
  have hn64 := hg.len
  have HN := Lib.hid hN
  have Hs := Lib.hid hs
  have Hg := Lib.hid hg
  rw [hN] at hn64 ha
  have han : (a : Int) < (n : Int) := by omega
  obtain ⟨i0, hi, hz0, hz1, hz2⟩ := info_parts info_bool
  have hmk : ∀ W : World, (Instr.makeSlice 35 (.int .i64 (n : Int)) (.int .i64 (n : Int))).run Try.prog W = .ok (.slice (some ⟨W.heap.size, 0, none⟩) n n) (W.alloc (.cells (bools (List.replicate n false)) 4)) := fun W => by
    have h := run_makeSlice (P := Try.prog) W 35 4 i0 (.bool false) Try.underlying35 hi hz0 .i64 .i64 (n : Int) (n : Int) (by omega) (Int.le_refl _) (by rw [hz1]; omega) (by rw [hz2]; omega) (by omega)
    rw [Int.toNat_natCast, hz1, Nat.mul_one, made_bools] at h
    exact h
  clear hN hs hg
  go_enter Try.func16, Try.ntmps16
  go_wp2_with fail
  go_loopw [16] (fun i wr => RchRel w rs a n i wr) (fun i _ => n + 1 - (intOf i).toNat)
  case atStart => exact ⟨0, _, Nat.zero_le _, rfl, RO.start rs a, by rw [HN.out]; exact Blk.new w 4 _, (Below.refl _ _).alloc (Nat.le_refl _) _⟩
  case round =>
    obtain ⟨m, sl0, hm, rfl, hRO, hB, hb⟩ := hrel
    have HRO := Lib.hid hRO
    have HB := Lib.hid hB
    have Hst := Lib.hid (show RchRel2 w rs a n sl0 (.int .i64 0) wr from ⟨0, sl0, Nat.zero_le _, rfl, hRO.enter, hB, hb⟩)
    clear hRO hB
    by_cases hmn : m < n + 1
    · have hmn' : (m : Int) < (n : Int) + 1 := by omega
      go_wp2_with fail
      go_loopw [20] (fun i wr => RchRel2 w rs a n sl0 i wr) (fun i _ => n - (intOf i).toNat)
      case atStart => exact Hst.out
      case round =>
        obtain ⟨k, sl, hk, rfl, hRI, hB, hb⟩ := hrel
        have HRI := Lib.hid hRI
        have HB := Lib.hid hB
        clear hRI hB
        by_cases hkn : k < n
        · have hkn' : (k : Int) < (n : Int) := by omega
          obtain ⟨b, o, u, rfl, hbB, hu, hc⟩ := (hr.below hb).at_ hkn
          have hrk : rs[k]? = some (rs[k]'(by have := HN.out; omega)) := List.getElem?_eq_getElem _
          obtain ⟨r, hr0⟩ : ∃ r, r = rs[k]'(by have := HN.out; omega) := ⟨_, rfl⟩
          rw [← hr0] at hrk
          obtain ⟨Ar, mr, cr, rfl, hmr, _, _, hrr⟩ := Hs.out.2 k u r hu hrk
          have hmrb : mr ≤ 1000000000 := by rw [← hmr]; exact Hg.out.row (List.mem_of_getElem? hrk)
          have hk3 : k < sl.length := by have := HRI.out.len; have := HN.out; omega
          obtain ⟨bb, hbb⟩ : ∃ bb, sl[k]? = some bb := ⟨_, List.getElem?_eq_getElem hk3⟩
          have hcb := HB.out.cell k (.bool bb) (bools_at hbb)
          have Hbb := Lib.hid hbb
          have Hrk := Lib.hid hrk
          have Hmr := Lib.hid hmr
          have hskip : k ≠ a → bb = false → RchRel2 w rs a n sl0 (.int .i64 ((k : Int) + 1)) wr := fun h1 h2 => by
            refine ⟨k + 1, sl, by omega, by go_num, ⟨HRI.out.len, HRI.out.sub, HRI.out.sound, fun i' hi' hcc => ?_⟩, HB.out, hb⟩
            rcases Nat.lt_or_ge i' k with h3 | h3
            · exact HRI.out.done i' h3 hcc
            · have : i' = k := by omega
              subst this
              rcases hcc with h4 | h4
              · exact absurd h4 h1
              · have h5 := HRI.out.sub.2 _ h4
                rw [Hbb.out, h2] at h5
                cases h5
          have Hskip := Lib.hid hskip
          have hgo : k = a ∨ bb = true → RchRel3 w rs a k sl0 r (.int .i64 0) wr ∧ ∀ x ∈ r, Reach rs a x.toNat := fun h1 => by
            refine ⟨⟨0, sl, Nat.zero_le _, rfl, HRI.out, by simp, HB.out, hb⟩, fun x hx => ?_⟩
            have hx0 := (Hg.out.ok r (List.mem_of_getElem? Hrk.out) x hx).1
            have hed : Ed rs k x.toNat := ⟨r, Hrk.out, by rw [Int.toNat_of_nonneg hx0]; exact hx⟩
            rcases h1 with rfl | h1
            · exact .one hed
            · exact .more (HRI.out.sound k (by rw [Hbb.out, h1])) hed
          have Hgo := Lib.hid hgo
          clear hu hr0 hrk hmr hbb hk3 hskip hgo
          have hways : (k ≠ a ∧ bb = false) ∨ k = a ∨ (k ≠ a ∧ bb = true) := by
            by_cases h1 : k = a
            · exact .inr (.inl h1)
            · cases bb
              · exact .inl ⟨h1, rfl⟩
              · exact .inr (.inr ⟨h1, rfl⟩)
          rcases hways with ⟨hka, hbf⟩ | hka | ⟨hka, hbt⟩
          · have Hsk := Lib.hid (Hskip.out hka hbf)
            have e1 : ((k : Int) != (a : Int)) = true := by simp; omega
            subst hbf
            clear Hskip Hgo hka
            go_wp2_with fail
            go_roundw
            case rel => exact Hsk.out
            case measure => simp [intOf]; omega
          · have Hg3 := Lib.hid (Hgo.out (.inl hka))
            have e1 : ((k : Int) != (a : Int)) = false := by simp [hka]
            clear Hskip Hgo hka
            go_wp2_with fail
            go_loopw [37] (fun i wr => RchRel3 w rs a k sl0 r i wr) (fun i _ => mr - (intOf i).toNat)
            case atStart => exact Hg3.out.1
            case round =>
              obtain ⟨j, sl2, hj, rfl, hRI2, hin, hB2, hb2⟩ := hrel
              rw [Hmr.out] at hj
              have HRI2 := Lib.hid hRI2
              have Hin := Lib.hid hin
              have HB2 := Lib.hid hB2
              clear hRI2 hin hB2
              by_cases hjl : j < mr
              · have hjl' : (j : Int) < (mr : Int) := by omega
                obtain ⟨bx, ox, x, rfl, _, hx, hcx⟩ := (hrr.below hb2).one hjl
                have hxb := Hg.out.ok r (List.mem_of_getElem? Hrk.out) x (List.mem_of_getElem? hx)
                have hxr := Hg3.out.2 x (List.mem_of_getElem? hx)
                obtain ⟨kx, hkx⟩ : ∃ kx : Nat, (kx : Int) = x := ⟨x.toNat, by omega⟩
                subst hkx
                rw [Int.toNat_natCast] at hxr
                have hkxn : kx < rs.length := by omega
                have hkxn' : (kx : Int) < (n : Int) := by have := HN.out; omega
                have hkl : kx < sl2.length := by rw [HRI2.out.len]; exact hkxn
                obtain ⟨b2, hb2e⟩ : ∃ b2, sl2[kx]? = some b2 := ⟨_, List.getElem?_eq_getElem hkl⟩
                have hcb2 := HB2.out.cell kx _ (bools_at hb2e)
                have hfz := HB2.out.free kx
                have Hnx := Lib.hid (show RchRel3 w rs a k sl0 r (.int .i64 ((j : Int) + 1)) (wr.setCell ⟨w.heap.size, kx, none⟩ (.bool true)) from
                  ⟨j + 1, _, by rw [Hmr.out]; omega, by go_num, HRI2.out.set hkxn hxr, fun y hy => by
                    rw [List.take_add_one, hx] at hy
                    rcases List.mem_append.1 hy with h1 | h1
                    · exact (set_true hkl).2 (.inr (Hin.out y h1))
                    · simp at h1; subst h1; exact (set_true hkl).2 (.inl (Int.toNat_natCast _)), by rw [← bools_set]; exact HB2.out.set _ _, hb2.setCell (Nat.le_refl _) _⟩)
                clear hx hxb hxr hkl hb2e
                go_wp2_with fail
                go_roundw
                case rel => exact Hnx.out
                case measure => simp [intOf]; omega
              · obtain rfl : j = mr := by omega
                have Hnx := Lib.hid (show RchRel2 w rs a n sl0 (.int .i64 ((k : Int) + 1)) wr from by
                  refine ⟨k + 1, sl2, by omega, by go_num, ⟨HRI2.out.len, HRI2.out.sub, HRI2.out.sound, fun i' hi' hcc q hq => ?_⟩, HB2.out, hb2⟩
                  rcases Nat.lt_or_ge i' k with h3 | h3
                  · exact HRI2.out.done i' h3 hcc q hq
                  · have : i' = k := by omega
                    subst this
                    have h4 := Hin.out (q : Int) (by rw [List.take_of_length_le (by rw [Hmr.out]; omega)]; exact edMem hq Hrk.out)
                    rwa [Int.toNat_natCast] at h4)
                go_wp2_with fail
                go_roundw
                case rel => exact Hnx.out
                case measure => simp [intOf]; omega
          · have Hg3 := Lib.hid (Hgo.out (.inr hbt))
            have e1 : ((k : Int) != (a : Int)) = true := by simp; omega
            subst hbt
            clear Hskip Hgo hka
            go_wp2_with fail
            go_loopw [37] (fun i wr => RchRel3 w rs a k sl0 r i wr) (fun i _ => mr - (intOf i).toNat)
            case atStart => exact Hg3.out.1
            case round =>
              obtain ⟨j, sl2, hj, rfl, hRI2, hin, hB2, hb2⟩ := hrel
              rw [Hmr.out] at hj
              have HRI2 := Lib.hid hRI2
              have Hin := Lib.hid hin
              have HB2 := Lib.hid hB2
              clear hRI2 hin hB2
              by_cases hjl : j < mr
              · have hjl' : (j : Int) < (mr : Int) := by omega
                obtain ⟨bx, ox, x, rfl, _, hx, hcx⟩ := (hrr.below hb2).one hjl
                have hxb := Hg.out.ok r (List.mem_of_getElem? Hrk.out) x (List.mem_of_getElem? hx)
                have hxr := Hg3.out.2 x (List.mem_of_getElem? hx)
                obtain ⟨kx, hkx⟩ : ∃ kx : Nat, (kx : Int) = x := ⟨x.toNat, by omega⟩
                subst hkx
                rw [Int.toNat_natCast] at hxr
                have hkxn : kx < rs.length := by omega
                have hkxn' : (kx : Int) < (n : Int) := by have := HN.out; omega
                have hkl : kx < sl2.length := by rw [HRI2.out.len]; exact hkxn
                obtain ⟨b2, hb2e⟩ : ∃ b2, sl2[kx]? = some b2 := ⟨_, List.getElem?_eq_getElem hkl⟩
                have hcb2 := HB2.out.cell kx _ (bools_at hb2e)
                have hfz := HB2.out.free kx
                have Hnx := Lib.hid (show RchRel3 w rs a k sl0 r (.int .i64 ((j : Int) + 1)) (wr.setCell ⟨w.heap.size, kx, none⟩ (.bool true)) from
                  ⟨j + 1, _, by rw [Hmr.out]; omega, by go_num, HRI2.out.set hkxn hxr, fun y hy => by
                    rw [List.take_add_one, hx] at hy
                    rcases List.mem_append.1 hy with h1 | h1
                    · exact (set_true hkl).2 (.inr (Hin.out y h1))
                    · simp at h1; subst h1; exact (set_true hkl).2 (.inl (Int.toNat_natCast _)), by rw [← bools_set]; exact HB2.out.set _ _, hb2.setCell (Nat.le_refl _) _⟩)
                clear hx hxb hxr hkl hb2e
                go_wp2_with fail
                go_roundw
                case rel => exact Hnx.out
                case measure => simp [intOf]; omega
              · obtain rfl : j = mr := by omega
                have Hnx := Lib.hid (show RchRel2 w rs a n sl0 (.int .i64 ((k : Int) + 1)) wr from by
                  refine ⟨k + 1, sl2, by omega, by go_num, ⟨HRI2.out.len, HRI2.out.sub, HRI2.out.sound, fun i' hi' hcc q hq => ?_⟩, HB2.out, hb2⟩
                  rcases Nat.lt_or_ge i' k with h3 | h3
                  · exact HRI2.out.done i' h3 hcc q hq
                  · have : i' = k := by omega
                    subst this
                    have h4 := Hin.out (q : Int) (by rw [List.take_of_length_le (by rw [Hmr.out]; omega)]; exact edMem hq Hrk.out)
                    rwa [Int.toNat_natCast] at h4)
                go_wp2_with fail
                go_roundw
                case rel => exact Hnx.out
                case measure => simp [intOf]; omega
        · obtain rfl : k = n := by omega
          have Hnx := Lib.hid (show RchRel w rs a k (.int .i64 ((m : Int) + 1)) wr from ⟨m + 1, sl, by omega, by go_num, HRO.out.next (by rw [HN.out]; exact HRI.out), HB.out, hb⟩)
          go_wp2_with fail
          go_roundw
          case rel => exact Hnx.out
          case measure => simp [intOf]; omega
    · obtain rfl : m = n + 1 := by omega
      have HP := Lib.hid (show StepsPost w rs a (.returned (.slice (some ⟨w.heap.size, 0, none⟩) n n)) wr from ⟨w.heap.size, sl0, by rw [HN.out], Nat.le_refl _, HB.out, HRO.out.len, (by rw [← HN.out] at HRO; exact HRO.out.all), hb⟩)
      clear HRO
      go_wp2_with fail
      go_ret
      exact HP.out
end Go.Proofs.Ytgmjeanoohmdlaa
