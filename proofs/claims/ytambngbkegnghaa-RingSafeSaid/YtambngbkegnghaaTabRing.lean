/- (*Table).ring. Conditions: those typed. -/
import Derived.Test.YtambngbkegnghaaTabAt
import Derived.Test.YtambngbkegnghaaTabBlock
import Derived.Test.YtambngbkegnghaaQueue2
import Derived.Deep.CutBlock
namespace Go.Proofs.Ytambngbkegnghaa
open Go.RowKit Go.Gy
set_option linter.unusedVariables false
def nextF (st : Tab) (k : Int) : List Int := if 0 ≤ atF st k then blockF st k (st.2.getD (atF st k).toNat (0, [])).2 (atF st k).toNat else []
/-- does an arm wait for itself? -/
def ringF (st : Tab) (arm : Int) : Nat → List Int → List Int → Bool
  | 0, _, _ => false
  | _ + 1, _, [] => false
  | f + 1, seen, k :: todo => if k = arm then true else if k ∈ seen then ringF st arm f seen todo else ringF st arm f (seen ++ [k]) (todo ++ nextF st k)
theorem hasF_mem {has : List (List Cell)} {arm : Int} {cells : List Cell} {x : Int} : ∀ {k : Nat}, x ∈ hasF has arm cells k → ∃ i, i < k ∧ x = (i : Int)
  | 0, h => by simp [hasF] at h
  | k + 1, h => by
    unfold hasF at h
    split at h
    · rcases List.mem_append.1 h with h | h
      · obtain ⟨i, hi, e⟩ := hasF_mem h; exact ⟨i, by omega, e⟩
      · exact ⟨k, by omega, by simpa using h⟩
    · obtain ⟨i, hi, e⟩ := hasF_mem h; exact ⟨i, by omega, e⟩
theorem waitF_mem {ws : List (Int × List Cell)} {arm : Int} {cells : List Cell} {out : List Int} {x : Int} : ∀ {k : Nat}, x ∈ waitF ws arm cells out k → x ∈ out ∨ ∃ y ∈ ws, y.1 = x
  | 0, h => .inl h
  | k + 1, h => by
    unfold waitF at h
    split at h
    · rename_i y hy
      split at h
      · rcases List.mem_append.1 h with h | h
        · exact waitF_mem h
        · exact .inr ⟨y, List.mem_of_getElem? hy, by have h' := List.mem_singleton.1 h; exact h'.symm⟩
      · exact waitF_mem h
    · exact waitF_mem h
def uniF (st : Tab) (others : List Int) : List Int := others ++ ((List.range st.1.length).map Int.ofNat ++ st.2.map Prod.fst)
theorem nextF_mem {st : Tab} {others : List Int} {k x : Int} (h : x ∈ nextF st k) : x ∈ uniF st others := by
  unfold nextF at h
  split at h
  · unfold blockF at h
    unfold uniF
    rcases waitF_mem h with h | ⟨y, hy, rfl⟩
    · obtain ⟨i, hi, rfl⟩ := hasF_mem h
      exact List.mem_append_right _ (List.mem_append_left _ (List.mem_map.2 ⟨i, by simpa using hi, rfl⟩))
    · exact List.mem_append_right _ (List.mem_append_right _ (List.mem_map.2 ⟨y, hy, rfl⟩))
  · simp at h
theorem atF_cases (st : Tab) (k : Int) : (atF st k = -1 ∧ ∀ y ∈ st.2, y.1 ≠ k) ∨ ∃ (i : Nat) (y : Int × List Cell), atF st k = i ∧ i < st.2.length ∧ st.2[i]? = some y ∧ y.1 = k := by
  unfold atF
  cases h : st.2.findIdx? (fun x => decide (x.1 = k)) with
  | none =>
    rw [List.findIdx?_eq_none_iff] at h
    exact .inl ⟨rfl, fun y hy => by simpa using h y hy⟩
  | some i =>
    rw [List.findIdx?_eq_some_iff_getElem] at h
    obtain ⟨hi, h1, _⟩ := h
    exact .inr ⟨i, _, rfl, hi, List.getElem?_eq_getElem hi, by simpa using h1⟩
theorem nextF_len {st : Tab} (hs : Few st) (k : Int) : (nextF st k).length ≤ 8 := by
  unfold nextF
  rcases atF_cases st k with ⟨h, _⟩ | ⟨i, y, h, hi, _⟩
  · rw [h, if_neg (by omega)]; simp
  · rw [h, if_pos (by omega)]
    have := blockF_len st k (st.2.getD (i : Int).toNat (0, [])).2 (i : Int).toNat
    have h1 := hs.1
    have h2 := hs.2.1
    have h3 : (i : Int).toNat = i := by simp
    omega
structure RingInv (st : Tab) (arm : Int) (others : List Int) (f : Nat) (seen todo : List Int) : Prop where
  same : ringF st arm 200 [] others = ringF st arm f seen todo
  nodup : seen.Nodup
  inS : ∀ x ∈ seen, x ∈ uniF st others
  inT : ∀ x ∈ todo, x ∈ uniF st others
  fuel : (16 - seen.length) * 9 + todo.length < f
  top : f ≤ 200
theorem nodup_le {α : Type} [DecidableEq α] : ∀ (l m : List α), l.Nodup → (∀ x ∈ l, x ∈ m) → l.length ≤ m.length
  | [], _, _, _ => by simp
  | x :: l, m, hn, h => by
    have h1 := List.nodup_cons.1 hn
    have := nodup_le l (m.erase x) h1.2 (fun y hy => (List.mem_erase_of_ne (by rintro rfl; exact h1.1 hy)).2 (h y (List.mem_cons_of_mem _ hy)))
    have h2 := List.length_erase_of_mem (h x List.mem_cons_self)
    have h3 := List.length_pos_of_mem (h x List.mem_cons_self)
    rw [List.length_cons]; omega
theorem uniF_len {st : Tab} {others : List Int} (hs : Few st) (h : others.length ≤ 8) : (uniF st others).length ≤ 16 := by
  unfold uniF
  have h1 := hs.1
  have h2 := hs.2.1
  simp only [List.length_append, List.length_map, List.length_range]
  omega
theorem RingInv.start {st : Tab} {arm : Int} {others : List Int} (h : others.length ≤ 8) : RingInv st arm others 200 [] others :=
  ⟨rfl, List.nodup_nil, fun x hx => by simp at hx, fun x hx => List.mem_append_left _ hx, by simp; omega, Nat.le_refl _⟩
theorem RingInv.skip {st : Tab} {arm k : Int} {others seen todo : List Int} {f : Nat} (h : RingInv st arm others f seen (k :: todo)) (hk : k ≠ arm) (hs : k ∈ seen) : RingInv st arm others (f - 1) seen todo := by
  obtain ⟨f', rfl⟩ : ∃ f', f = f' + 1 := ⟨f - 1, by have := h.fuel; omega⟩
  have h1 := h.fuel
  have h2 := h.top
  simp at h1
  refine ⟨h.same.trans ?_, h.nodup, h.inS, fun x hx => h.inT x (List.mem_cons_of_mem _ hx), by simp; omega, by simp; omega⟩
  show (if _ then _ else _) = _
  rw [if_neg hk, if_pos hs]; rfl
theorem RingInv.next {st : Tab} {arm k : Int} {others seen todo : List Int} {f : Nat} (h : RingInv st arm others f seen (k :: todo)) (hF : Few st) (ho : others.length ≤ 8) (hk : k ≠ arm) (hs : k ∉ seen) : RingInv st arm others (f - 1) (seen ++ [k]) (todo ++ nextF st k) := by
  obtain ⟨f', rfl⟩ : ∃ f', f = f' + 1 := ⟨f - 1, by have := h.fuel; omega⟩
  have h1 := h.fuel
  have h2 := h.top
  have h3 := nextF_len hF k
  have hkU : k ∈ uniF st others := h.inT k List.mem_cons_self
  have hnd : (seen ++ [k]).Nodup := by
    rw [List.nodup_append]
    refine ⟨h.nodup, by simp, fun a ha b hb => ?_⟩
    simp at hb; subst hb
    rintro rfl; exact hs ha
  have hinS : ∀ x ∈ seen ++ [k], x ∈ uniF st others := fun x hx => by
    rcases List.mem_append.1 hx with hx | hx
    · exact h.inS x hx
    · simp at hx; subst hx; exact hkU
  have h4 := nodup_le _ _ hnd hinS
  have h5 := uniF_len hF ho
  rw [List.length_append] at h4
  simp at h1 h4
  refine ⟨h.same.trans ?_, hnd, hinS, fun x hx => ?_, by simp; omega, by simp; omega⟩
  · show (if _ then _ else _) = _
    rw [if_neg hk, if_neg hs]; rfl
  · rcases List.mem_append.1 hx with hx | hx
    · exact h.inT x (List.mem_cons_of_mem _ hx)
    · exact nextF_mem hx
theorem RingInv.hit {st : Tab} {arm : Int} {others seen todo : List Int} {f : Nat} (h : RingInv st arm others f seen (arm :: todo)) : ringF st arm 200 [] others = true := by
  obtain ⟨f', rfl⟩ : ∃ f', f = f' + 1 := ⟨f - 1, by have := h.fuel; omega⟩
  refine h.same.trans ?_
  show (if _ then _ else _) = _
  rw [if_pos rfl]
theorem RingInv.out {st : Tab} {arm : Int} {others seen : List Int} {f : Nat} (h : RingInv st arm others f seen []) : ringF st arm 200 [] others = false := by
  obtain ⟨f', rfl⟩ : ∃ f', f = f' + 1 := ⟨f - 1, by have := h.fuel; omega⟩
  exact h.same
/-- the two slices of the search: seen and todo -/
def RingRel (w : World) (st : Tab) (arm : Int) (others : List Int) (f : Nat) (s t : Value) (wr : World) : Prop := ∃ seen todo, RingInv st arm others f seen todo ∧ QRow wr w.heap.size 1 s seen.length (seen.map iv) ∧ QRow wr w.heap.size 1 t todo.length (todo.map iv) ∧ ApartV s t ∧ Below w.heap.size w wr
theorem QRow.sli {w : World} {base : Nat} {v : Value} {l : List Int} (h : QRow w base 1 v l.length (l.map iv)) : SlI w w.heap.size v l := by
  obtain ⟨A, c, rfl, h1, h2, h3, h4⟩ := h.rd
  exact ⟨A, l.length, c, rfl, rfl, h1, h3, h4⟩
theorem size_int (w : World) : (sizeOf (Try.prog.elem 22)).run Try.prog w = .ok 1 w := size_int' w
set_option maxRecDepth 100000 in
set_option maxHeartbeats 4000000 in
theorem ring_any (w : World) (B p : Nat) (st : Tab) (X : List (Value × List Cell)) (arm : Int) (v : Value) (others : List Int) (h : TabAt w B p st X) (hs : Few st) (hv : SlI w w.heap.size v others) (hl : others.length ≤ 8) :
    Calls Try.prog 45 #[.pointer (some ⟨p, 0, none⟩), .int .i64 arm, v] w (HasPost (ringF st arm 200 [] others) w) := by
  obtain ⟨i0, hi, hz0, hz1, hz2⟩ := info_parts info_int
  have HC := Lib.hid (clone_ints w v others hv (by omega))
  have H := Lib.hid h
  have HF := Lib.hid hs
  have HL := Lib.hid hl
  obtain ⟨A, n, c, rfl, hvx⟩ := id hv
  clear h hs hv hl hvx
  go_enter Try.func45, Try.ntmps45
  go_wp2_with fail
  refine HC.out.mono ?_
  rintro e w1 ⟨v1, rfl, hown1, hb1⟩
  have HR := Lib.hid (show RingRel w st arm others 200 (.slice none 0 0) v1 w1 from ⟨[], others, RingInv.start HL.out, ⟨rfl, .inl ⟨rfl, rfl⟩⟩, QRow.of_own hown1, fun g hg => by simp [Value.ownBlock] at hg, hb1⟩)
  obtain ⟨A1, c1, rfl, hx1⟩ := own_rd hown1
  clear hown1 hb1 HC hx1
  go_wp2_with fail
  go_loopg [7, 8] 200 (fun f s t wr => RingRel w st arm others f s t wr)
  case atStart => exact HR.out
  case round =>
    obtain ⟨seen, todo, hI, hsq, htq, hap, hbw⟩ := hrel
    have HI := Lib.hid hI
    have Hsq := Lib.hid hsq
    have Hap := Lib.hid hap
    have Hbw := Lib.hid hbw
    have hf0 := hI.fuel
    have Hf0 := Lib.hid hf0
    obtain ⟨A2, c2, rfl, _, _, _, _⟩ := hsq.rd
    clear hI hsq hap hf0
    cases todo with
    | nil =>
      obtain ⟨A3, c3, rfl, hc3, _, hA3, hr3⟩ := htq.rd
      have hP := HI.out.out
      clear htq hr3 hbw
      have HP := Lib.hid hP
      clear hP
      go_wp2_with fail
      go_ret
      exact ⟨by rw [HP.out]; rfl, Hbw.out⟩
    | cons k td =>
      obtain ⟨m, hm⟩ : ∃ m, m = td.length := ⟨_, rfl⟩
      have hl : (k :: td).length = m + 1 := by rw [hm]; rfl
      rw [hl] at htq
      obtain ⟨A3, c3, rfl, hc3, _, hA3, hr3⟩ := htq.rd
      have Htq := Lib.hid htq
      clear htq
      obtain ⟨b3, o3, z, rfl, hb3, hz, hcz⟩ := hr3.one (show 0 < m + 1 by omega)
      obtain rfl : k = z := by simpa using hz
      have Hl := Lib.hid hl
      have Hm := Lib.hid hm
      rw [Nat.add_zero] at hcz
      have hm0 : (0 : Int) < ((m + 1 : Nat) : Int) := by omega
      clear hz hl hm hA3 hbw hr3
      by_cases hka : k = arm
      · subst hka
        have HP := Lib.hid HI.out.hit
        go_wp2_with (refine wpList_tail2 rfl 22 _ rfl 1 (by kernel_rfl) size_int w.heap.size (.slice (some ⟨b3, o3, none⟩) (m + 1) c3) m _ rfl Htq.out ?_; intro v4 hq4 _ _)
        go_ret
        exact ⟨by rw [HP.out]; rfl, Hbw.out⟩
      · have hb1 : (k == arm) = false := by simpa using hka
        have HCn := Lib.hid (contains_ints wr (.slice A2 seen.length c2) wr.heap.size seen k (QRow.sli Hsq.out) (by have := nodup_le _ _ HI.out.nodup HI.out.inS; have := uniF_len HF.out HL.out; omega))
        have Hka := Lib.hid hka
        clear hka
        go_wp2_with (first | fail | (refine wpList_tail2 rfl 22 _ rfl 1 (by kernel_rfl) size_int w.heap.size (.slice (some ⟨b3, o3, none⟩) (m + 1) c3) m _ rfl Htq.out ?_; intro v4 hq4 _ ho4; have Hq4 := Lib.hid hq4; have Ho4 := Lib.hid ho4; clear hq4 ho4))
        refine HCn.out.mono ?_
        rintro e w3 ⟨rfl, rfl⟩
        by_cases hin : k ∈ seen
        · rw [decide_eq_true hin]
          have HR2 := Lib.hid (show ∀ v4, QRow wr w.heap.size 1 v4 m (List.drop 1 (List.map iv (k :: td))) → (∀ g, (v4 : Value).ownBlock = some g → (Value.slice (some ⟨b3, o3, none⟩) (m + 1) c3).ownBlock = some g) → RingRel w st arm others (gk - 1) (.slice A2 seen.length c2) v4 wr from fun v4 hq4 hv4 => ⟨seen, td, HI.out.skip Hka.out hin, Hsq.out, by rw [← Hm.out]; exact hq4, fun g hg h4 => Hap.out g hg (hv4 g h4), Hbw.out⟩)
          clear hin HCn
          go_wp2_with fail
          go_roundg (gk - 1)
          case measure => have := Hf0.out; omega
          case rel => exact HR2.out _ Hq4.out Ho4.out
        · rw [decide_eq_false hin]
          have HI2 := Lib.hid (HI.out.next HF.out HL.out Hka.out hin)
          have hal : ∀ X, Below wr.heap.size wr (wr.alloc X) := fun X => (Below.refl _ _).alloc (Nat.le_refl _) _
          have Hal := Lib.hid hal
          have HsqA := Lib.hid (fun X => Hsq.out.below (hal X) (Nat.le_refl _))
          have HrdA := Lib.hid (Rd.lit wr 3 [.int .i64 k] 1 1 rfl)
          have hsl : seen.length ≤ 16 := Nat.le_trans (nodup_le _ _ HI.out.nodup HI.out.inS) (uniF_len HF.out HL.out)
          have Hsl := Lib.hid hsl
          have hsm : seen.length + 1 ≤ maxLen := by unfold maxLen; omega
          have Hsm := Lib.hid hsm
          have hsz := Hbw.out.size
          have Hsz := Lib.hid (show ∀ X, w.heap.size ≤ (wr.alloc X).heap.size from fun X => by simp; omega)
          clear hin HCn hal hsl hsm
          go_wp2_with (at_builtin; refine wpList_queue2 rfl (.tmp 27) (.tmp 29) 22 rfl w.heap.size 3 i0 (.int .i64 0) 1 8 Try.underlying22 hi hz0 hz1 hz2 rfl (by omega) _ _ _ rfl (HsqA.out _) _ _ _ _ [.int .i64 k] rfl (fun h => by cases h) HrdA.out (by simp [Value.oneCell']) (seen.length + 1) rfl Hsm.out (by have := Hsl.out; omega) (Hsz.out _) ?_; intro v5 w5 hq5 hb5 hg5 hn5)
          have Hq5 := Lib.hid hq5
          have Hb5 := Lib.hid (Hbw.out.trans (((Hal.out _).mono Hbw.out.size).trans hb5))
          have hq4A := Hq4.out.below (Hal.out (.cells #[.int .i64 k] 3)) (Nat.le_refl _)
          have hap4 : ApartV v4 (.slice A2 seen.length c2) := fun g hg h' => Hap.out g h' (Ho4.out g hg)
          have Hq4b := Lib.hid (hq4A.grown hg5 hap4)
          have Hap5 := Lib.hid (hap4.near (fun g hg => (hq4A.lt g hg).2) hn5)
          obtain ⟨A5, c5, rfl, hx5⟩ := hq5.rd
          have HT5 := Lib.hid (H.out.below Hb5.out)
          have HA := Lib.hid (at_any w5 B p st X k HT5.out HF.out.2.1)
          clear hq5 hb5 hg5 hn5 hq4A hap4 hx5
          go_wp2_with fail
          refine HA.out.mono ?_
          rintro e w6 ⟨rfl, hb6⟩
          have Hb6 := Lib.hid (Hb5.out.trans (hb6.mono Hb5.out.size))
          have Hq6 := Lib.hid (Hq5.out.below hb6 (Nat.le_refl _))
          have Hq4c := Lib.hid (Hq4b.out.below hb6 (Nat.le_refl _))
          have HT6 := Lib.hid (HT5.out.below hb6)
          clear hb6 HA
          rcases atF_cases st k with ⟨hat, _⟩ | ⟨ix, y, hat, hix, hy, hyk⟩
          · rw [hat]
            have hnx : nextF st k = [] := by unfold nextF; rw [hat]; rfl
            have HR2 := Lib.hid (show RingRel w st arm others (gk - 1) (.slice A5 (seen.length + 1) c5) v4 w6 from ⟨seen ++ [k], td, by have h1 := HI2.out; rw [hnx, List.append_nil] at h1; exact h1, by rw [List.length_append, List.map_append]; exact Hq6.out, by rw [← Hm.out]; exact Hq4c.out, Hap5.out.symm, Hb6.out⟩)
            clear hat hnx
            go_wp2_with fail
            go_roundg (gk - 1)
            case measure => have := Hf0.out; omega
            case rel => exact HR2.out
          · rw [hat]
            obtain ⟨hb, vs, wv, wl, hx⟩ := id HT6.out
            obtain ⟨Aw, cw, rfl, hncw, hccw, hrdw⟩ := own_rd hx.row
            have hc1 := hx.blk.cell 1 _ rfl
            have hixw : ix < wl.length := by rw [hx.wlen]; exact hix
            have hix0 : (0 : Int) ≤ (ix : Int) := by omega
            obtain ⟨b, o, x, rfl, hbB, hxx, hcs⟩ := hrdw.elem encW_len rfl hixw
            obtain ⟨hxy, hhd⟩ := hx.wts ix x y hxx hy
            obtain ⟨a, u⟩ := x
            obtain ⟨a', cs'⟩ := y
            simp only at hxy hhd hyk
            subst hxy hyk
            obtain ⟨Au, nu, cu, rfl, hul, hurest⟩ := id hhd.1
            have e1 : w6.cell? ⟨b, o + ix * 2 + 1, none⟩ = some (.slice Au nu cu) := hcs 1 _ rfl
            have HBl := Lib.hid (blockers_any w6 B p st X a (.slice Au nu cu) cs' ix HT6.out HF.out hhd.1 (by have := HF.out.2.2.2 _ (List.mem_of_getElem? hy); simp only at this; omega) (by omega))
            have hix4 : ix ≤ 4 := by have := HF.out.2.1; omega
            have hnx : nextF st a = blockF st a cs' ix := by
              unfold nextF; rw [hat, if_pos hix0]
              have e : st.2.getD (ix : Int).toNat (0, []) = (a, cs') := by rw [Int.toNat_natCast, List.getD_eq_getElem?_getD, hy]; rfl
              rw [e, Int.toNat_natCast]
            have Hnx := Lib.hid hnx
            clear hat hnx hx hrdw hcs hhd hxx hurest hul hy hix
            go_wp2_with fail
            refine HBl.out.mono ?_
            rintro e w7 ⟨v7, rfl, hown7, hb7⟩
            have Hb7 := Lib.hid (Hb6.out.trans (hb7.mono Hb6.out.size))
            have Hq7 := Lib.hid (Hq6.out.below hb7 (Nat.le_refl _))
            have Hq47 := Lib.hid (Hq4c.out.below hb7 (Nat.le_refl _))
            obtain ⟨A7, c7, rfl, _, _, hrd7⟩ := own_rd hown7
            have hn7 := own_none hown7
            have Hn7 := Lib.hid (fun h => (hn7 h).2)
            have Hrd7 := Lib.hid hrd7
            have hnl := nextF_len HF.out a
            rw [Hnx.out] at hnl
            have hml : m < 200 := by have h1 := HI.out.fuel; have h2 := HI.out.top; rw [Hl.out] at h1; omega
            have hlo : m + (blockF st a cs' ix).length ≤ maxLen := by unfold maxLen; omega
            have Hlo := Lib.hid hlo
            have Hby := Lib.hid (show (m + (blockF st a cs' ix).length) * 8 ≤ 140737488355328 by omega)
            have hsz7 := Hb7.out.size
            clear hown7 hb7 hn7 hrd7 hnl hml hlo HBl
            go_wp2_with (at_builtin; refine wpList_queue2 rfl (.tmp 36) (.tmp 48) 22 rfl w.heap.size 3 i0 (.int .i64 0) 1 8 Try.underlying22 hi hz0 hz1 hz2 rfl (by omega) _ _ _ rfl Hq47.out _ _ _ _ _ rfl Hn7.out Hrd7.out (iv_one _) _ rfl Hlo.out Hby.out hsz7 ?_; intro v8 w8 hq8 hb8 hg8 hn8)
            have HR2 := Lib.hid (show RingRel w st arm others (gk - 1) (.slice A5 (seen.length + 1) c5) v8 w8 from ⟨seen ++ [a], td ++ nextF st a, HI2.out, by
              rw [List.length_append, List.map_append]
              exact Hq7.out.grown hg8 Hap5.out.symm, by
              rw [Hnx.out, List.length_append, List.map_append, ← Hm.out]; exact hq8, Hap5.out.symm.near (fun g hg => (Hq7.out.lt g hg).2) hn8, Hb7.out.trans hb8⟩)
            obtain ⟨A8, c8, rfl, hx8⟩ := hq8.rd
            clear hq8 hb8 hg8 hn8 hx8
            go_wp2_with fail
            go_roundg (gk - 1)
            case measure => have := Hf0.out; omega
            case rel => exact HR2.out
end Go.Proofs.Ytambngbkegnghaa
