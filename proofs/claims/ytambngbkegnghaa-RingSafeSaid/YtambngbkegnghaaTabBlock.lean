/- (*Table).blockers. Conditions: those typed. -/
import Derived.Test.YtambngbkegnghaaTabTo
namespace Go.Proofs.Ytambngbkegnghaa
open Go.RowKit Go.Gy
set_option linter.unusedVariables false
def Few (st : Tab) : Prop := st.1.length ≤ 4 ∧ st.2.length ≤ 4 ∧ (∀ r ∈ st.1, r.length ≤ 400) ∧ ∀ y ∈ st.2, y.2.length ≤ 400
def meets (a b : List Cell) : Bool := decide (0 < (meetC a b).length)
/-- the arms below k that have some of the cells -/
def hasF (has : List (List Cell)) (arm : Int) (cells : List Cell) : Nat → List Int
  | 0 => []
  | k + 1 => if decide ((k : Int) ≠ arm) && meets (has.getD k []) cells then hasF has arm cells k ++ [(k : Int)] else hasF has arm cells k
/-- and the first k of those that wait -/
def waitF (ws : List (Int × List Cell)) (arm : Int) (cells : List Cell) (out : List Int) : Nat → List Int
  | 0 => out
  | k + 1 => match ws[k]? with
    | some y => if decide (y.1 ≠ arm) && (meets y.2 cells && !decide (y.1 ∈ waitF ws arm cells out k)) then waitF ws arm cells out k ++ [y.1] else waitF ws arm cells out k
    | none => waitF ws arm cells out k
def blockF (st : Tab) (arm : Int) (cells : List Cell) (ahead : Nat) : List Int := waitF st.2 arm cells (hasF st.1 arm cells st.1.length) ahead
theorem hasF_len (has : List (List Cell)) (arm : Int) (cells : List Cell) : ∀ k, (hasF has arm cells k).length ≤ k
  | 0 => by simp [hasF]
  | k + 1 => by
    have := hasF_len has arm cells k
    unfold hasF
    split
    · rw [List.length_append]; simp; omega
    · omega
theorem waitF_len (ws : List (Int × List Cell)) (arm : Int) (cells : List Cell) (out : List Int) : ∀ k, (waitF ws arm cells out k).length ≤ out.length + k
  | 0 => by simp [waitF]
  | k + 1 => by
    have := waitF_len ws arm cells out k
    unfold waitF
    split
    · split
      · rw [List.length_append]; simp; omega
      · omega
    · omega
theorem blockF_len (st : Tab) (arm : Int) (cells : List Cell) (ahead : Nat) : (blockF st arm cells ahead).length ≤ st.1.length + ahead := by
  have := waitF_len st.2 arm cells (hasF st.1 arm cells st.1.length) ahead
  have := hasF_len st.1 arm cells st.1.length
  unfold blockF
  omega
def OwnI (base : Nat) (l : List Int) (w : World) (e : Ending) (w' : World) : Prop := ∃ v', e = .returned v' ∧ w'.ownsRow base 3 1 v' l.length (l.map iv) ∧ Below base w w'
theorem hasF_no {has : List (List Cell)} {arm : Int} {cells : List Cell} {k : Nat} (h : (k : Int) = arm ∨ meets (has.getD k []) cells = false) : hasF has arm cells (k + 1) = hasF has arm cells k := by
  show (if _ then _ else _) = _
  rw [if_neg]
  rcases h with h | h
  · simp [h]
  · rw [h, Bool.and_false]; exact Bool.false_ne_true
theorem hasF_yes {has : List (List Cell)} {arm : Int} {cells : List Cell} {k : Nat} (h : (k : Int) ≠ arm) (h2 : meets (has.getD k []) cells = true) : hasF has arm cells (k + 1) = hasF has arm cells k ++ [(k : Int)] := by
  show (if _ then _ else _) = _
  rw [if_pos]
  rw [h2, Bool.and_true]; exact decide_eq_true h
set_option maxRecDepth 100000 in
set_option maxHeartbeats 4000000 in
theorem blockers_any (w : World) (B p : Nat) (st : Tab) (X : List (Value × List Cell)) (arm : Int) (v : Value) (cells : List Cell) (ahead : Nat) (h : TabAt w B p st X) (hs : Few st) (hv : SlC w w.heap.size v cells) (hcl : cells.length ≤ 100000) (ha : ahead ≤ st.2.length) :
    Calls Try.prog 44 #[.pointer (some ⟨p, 0, none⟩), .int .i64 arm, v, .int .i64 ahead] w (OwnI w.heap.size (blockF st arm cells ahead) w) := by
  obtain ⟨hb, vs, wv, wl, h⟩ := h
  obtain ⟨i0, hi, hz0, hz1, hz2⟩ := info_parts info_int
  have hc0 := h.blk.cell 0 _ rfl
  have hvl : vs.length ≤ 4 := by rw [h.hlen]; exact hs.1
  have H := Lib.hid h
  have HF := Lib.hid hs
  have HV := Lib.hid hv
  have HA := Lib.hid ha
  have HH := Lib.hid h.hlen
  have ha4 : ahead ≤ 4 := Nat.le_trans ha hs.2.1
  obtain ⟨A, n, c, rfl, _⟩ := id hv
  clear h hs hv ha
  go_enter Try.func44, Try.ntmps44
  go_wp2_with fail
  go_loopw [9, 19] (fun o i wr => ∃ k : Nat, k ≤ vs.length ∧ i = .int .i64 k ∧ wr.ownsRow w.heap.size 3 1 o (hasF st.1 arm cells k).length ((hasF st.1 arm cells k).map iv) ∧ Below w.heap.size w wr) (fun _ i _ => vs.length - (intOf i).toNat)
  case atStart => exact ⟨0, Nat.zero_le _, rfl, World.ownsRow_nil _ _ _ _, Below.refl _ _⟩
  case round =>
    obtain ⟨k, hk, rfl, hown, hbw⟩ := hrel
    have Hown := Lib.hid hown
    have Hbw := Lib.hid hbw
    have Hl := Lib.hid (hasF_len st.1 arm cells k)
    obtain ⟨Ao, co, rfl, hnco, hcoc, hrdo⟩ := own_rd hown
    by_cases hlt : k < vs.length
    · obtain ⟨u, hu⟩ : ∃ u, vs[k]? = some u := ⟨_, List.getElem?_eq_getElem hlt⟩
      obtain ⟨r, hr⟩ : ∃ r, st.1[k]? = some r := ⟨_, List.getElem?_eq_getElem (by have := HH.out; omega)⟩
      have hu1 := H.out.has k u r hu hr
      have hrd : st.1.getD k [] = r := by rw [List.getD_eq_getElem?_getD, hr]; rfl
      obtain ⟨Au, nu, cu, rfl, hul, _⟩ := id hu1.1
      have hcu := (hbw.cell (p := ⟨hb, k, none⟩) H.out.hblk.lt).trans (H.out.hblk.cell k (.slice Au nu cu) (by simpa using hu))
      by_cases hne : (k : Int) = arm
      · have hno := hasF_no (has := st.1) (cells := cells) (k := k) (.inl hne)
        have hb1 : ((k : Int) != arm) = false := by simpa using hne
        have Hno := Lib.hid hno
        clear hown hbw hrdo hnco hcoc hno hne
        go_wp2_with fail
        go_roundw
        case rel => exact ⟨k + 1, by omega, by go_num, by rw [Hno.out]; exact Hown.out, Hbw.out⟩
        case measure => simp [intOf]; omega
      · have hb1 : ((k : Int) != arm) = true := by simpa using hne
        have HM := Lib.hid (meet_any wr (.slice Au nu cu) (.slice A n c) r cells ((hu1.1.below hbw).more hbw.size) ((HV.out.below hbw).more hbw.size) (by have := HF.out.2.2.1 r (List.mem_of_getElem? hr); omega) hcl)
        have Hne := Lib.hid hne
        have Hrd := Lib.hid hrd
        clear hown hbw hrdo hnco hcoc hne hrd hu1
        go_wp2_with fail
        refine HM.out.mono ?_
        rintro e w2 ⟨A2, n2, c2, rfl, hl2, hown2, hb2⟩
        have Hown2 := Lib.hid (own_below Hown.out hb2 (Nat.le_refl _))
        have Hb2 := Lib.hid (Hbw.out.trans (hb2.mono Hbw.out.size))
        by_cases h0 : n2 = 0
        · subst h0
          have hno := hasF_no (has := st.1) (arm := arm) (cells := cells) (k := k) (.inr (by rw [Hrd.out]; unfold meets; rw [hl2]; rfl))
          have Hno := Lib.hid hno
          clear hno hown2 hb2 hl2 HM
          go_wp2_with fail
          go_roundw
          case rel => exact ⟨k + 1, by omega, by go_num, by rw [Hno.out]; exact Hown2.out, Hb2.out⟩
          case measure => simp [intOf]; omega
        · have hyes := hasF_yes (has := st.1) (arm := arm) (cells := cells) (k := k) Hne.out (by rw [Hrd.out]; unfold meets; rw [hl2]; exact decide_eq_true (by omega))
          have Hyes := Lib.hid hyes
          have hn2 : (0 : Int) < (n2 : Int) := by omega
          have hlo : (hasF st.1 arm cells k).length + 1 ≤ maxLen := by have := Hl.out; unfold maxLen; omega
          have Hlo := Lib.hid hlo
          have hsz2 := Hb2.out.size
          clear hyes hown2 hb2 hl2 HM hlo
          go_wp2_with (at_builtin; refine wpList_push rfl (.tmp 34) (.tmp 36) 22 rfl w.heap.size 3 i0 (.int .i64 0) 1 8 Try.underlying22 hi hz0 hz1 hz2 rfl (by omega) _ _ _ rfl Hown2.out [.int .i64 (k : Int)] rfl rfl (by simp [Value.oneCell']) Hlo.out (by have := Hl.out; omega) hsz2 ?_; intro v6 w6 hn6 hb6 _)
          have Hn6 := Lib.hid hn6
          have Hb6 := Lib.hid (Hb2.out.trans hb6)
          obtain ⟨A6, c6, rfl, _, _, _⟩ := own_rd hn6
          clear hn6 hb6
          go_wp2_with fail
          go_roundw
          case rel => exact ⟨k + 1, by omega, by go_num, by rw [Hyes.out, List.length_append, List.map_append]; exact Hn6.out, Hb6.out⟩
          case measure => simp [intOf]; omega
    · obtain rfl : k = vs.length := by omega
      have Hbw1 := Lib.hid Hbw.out
      obtain ⟨out0, hout0⟩ : ∃ out0, out0 = hasF st.1 arm cells vs.length := ⟨_, rfl⟩
      have hbf : blockF st arm cells = fun a => waitF st.2 arm cells out0 a := by rw [hout0, HH.out]; rfl
      have Hbf := Lib.hid hbf
      rw [← hout0] at Hown Hl hrdo ⊢
      obtain ⟨no, hno⟩ : ∃ no, no = out0.length := ⟨_, rfl⟩
      have Hn0 := Lib.hid (show out0.length ≤ 4 from Nat.le_trans Hl.out hvl)
      obtain ⟨Aw, cw, rfl, hncw, hccw, hrdw⟩ := own_rd H.out.row
      have hc1 := (Hbw.out.cell (p := ⟨p, 1, none⟩) H.out.blk.lt).trans (H.out.blk.cell 1 _ rfl)
      have hcw : ahead ≤ cw := by have := HA.out; have := H.out.wlen; omega
      have hbe : ∀ X, Below w.heap.size w (wr.alloc X) := fun X => Hbw.out.alloc Hbw.out.size _
      clear hown hbw hrdo hnco hcoc hout0 hbf hno
      go_wp2_with (refine wpList_slice_to rfl 73 (.tmp 42) (.tmp 43) rfl Aw wl.length cw ahead rfl rfl rfl (fun w => wishes_to Aw wl.length cw ahead hcw w) ?_)
      go_loopw [9, 46] (fun o i wr => ∃ k : Nat, k ≤ ahead ∧ i = .int .i64 k ∧ wr.ownsRow w.heap.size 3 1 o (waitF st.2 arm cells out0 k).length ((waitF st.2 arm cells out0 k).map iv) ∧ Below w.heap.size w wr) (fun _ i _ => ahead - (intOf i).toNat)
      case atStart => exact ⟨0, Nat.zero_le _, rfl, Hown.out, Hbw.out⟩
      case round =>
        rename_i wr0
        obtain ⟨k, hk, rfl, hown, hbw⟩ := hrel
        have Hwn := Lib.hid hown
        have Hbn := Lib.hid hbw
        have Hl2 := Lib.hid (waitF_len st.2 arm cells out0 k)
        obtain ⟨Ao2, co2, rfl, _, _, hrdo2⟩ := own_rd hown
        by_cases hlt : k < ahead
        · have hkw : k < wl.length := by have := HA.out; have := H.out.wlen; omega
          obtain ⟨b, o, x, rfl, hbB, hx, hcs⟩ := (hrdw.below hbw).elem encW_len rfl hkw
          obtain ⟨y, hy⟩ : ∃ y, st.2[k]? = some y := ⟨_, List.getElem?_eq_getElem (by have := H.out.wlen; omega)⟩
          obtain ⟨hxy, hhd⟩ := H.out.wts k x y hx hy
          obtain ⟨a, u⟩ := x
          obtain ⟨a', cs'⟩ := y
          simp only at hxy hhd
          subst hxy
          obtain ⟨Au, nu, cu, rfl, hul, _⟩ := id hhd.1
          have e0 : wr.cell? ⟨b, o + k * 2, none⟩ = some (.int .i64 a) := hcs 0 _ rfl
          have e1 : wr.cell? ⟨b, o + k * 2 + 1, none⟩ = some (.slice Au nu cu) := hcs 1 _ rfl
          have hbox := fun u => Blk.new wr 77 #[.int .i64 a, u]
          have hal : ∀ X, Below wr.heap.size wr (wr.alloc X) := fun X => (Below.refl _ _).alloc (Nat.le_refl _) _
          have Hal := Lib.hid hal
          have hwF : waitF st.2 arm cells out0 (k + 1) = if decide (a ≠ arm) && (meets cs' cells && !decide (a ∈ waitF st.2 arm cells out0 k)) then waitF st.2 arm cells out0 k ++ [a] else waitF st.2 arm cells out0 k := by
            show (match st.2[k]? with | some y => _ | none => _) = _
            rw [hy]
          by_cases hne : a = arm
          · have hno : waitF st.2 arm cells out0 (k + 1) = waitF st.2 arm cells out0 k := by rw [hwF, if_neg]; simp [hne]
            have hb1 : (a != arm) = false := by simpa using hne
            have Hno := Lib.hid hno
            have Hown3 := Lib.hid (own_below Hwn.out (hal (.cells #[.int .i64 a, .slice Au nu cu] 77)) (Nat.le_refl _))
            have Hb3 := Lib.hid (Hbn.out.trans ((hal (.cells #[.int .i64 a, .slice Au nu cu] 77)).mono Hbn.out.size))
            clear hown hbw hrdo2 hcs hbox hal hwF hno hne hhd hx hy
            go_wp2_with fail
            go_roundw
            case rel => exact ⟨k + 1, by omega, by go_num, by rw [Hno.out]; exact Hown3.out, Hb3.out⟩
            case measure => simp [intOf]; omega
          · have hb1 : (a != arm) = true := by simpa using hne
            have hwz : ∀ X, (wr.alloc X).heap.size = wr.heap.size + 1 := fun X => by simp
            have hin : cs'.length ≤ 400 := HF.out.2.2.2 _ (List.mem_of_getElem? hy)
            have hB1 : ∀ X, Below w.heap.size w (wr.alloc X) := fun X => Hbn.out.trans ((hal X).mono Hbn.out.size)
            have HM := Lib.hid (fun X => meet_any (wr.alloc X) (.slice Au nu cu) (.slice A n c) cs' cells ((hhd.1.below (hB1 X)).more (hB1 X).size) ((HV.out.below (hB1 X)).more (hB1 X).size) (by omega) hcl)
            have HwF := Lib.hid hwF
            have Hne := Lib.hid hne
            have HB1 := Lib.hid hB1
            have Hbox := Lib.hid hbox
            clear hown hbw hrdo2 hcs hbox hal hwF hne hhd hx hy hB1 hwz
            go_wp2_with fail
            refine (HM.out _).mono ?_
            rintro e w2 ⟨A2, n2, c2, rfl, hl2, hown2, hb2⟩
            have hbx := (Hbox.out _).below hb2 (by simp)
            have Hc0 := Lib.hid (hbx.cell 0 _ rfl)
            have Hc1 := Lib.hid (hbx.cell 1 _ rfl)
            have Hown3 := Lib.hid (own_below (own_below Hwn.out (Hal.out _) (Nat.le_refl _)) hb2 (Nat.le_refl _))
            have Hb3 := Lib.hid ((HB1.out _).trans (hb2.mono (HB1.out _).size))
            have hc0 := Hc0.out
            clear hbx hown2 hb2 HM
            by_cases h0 : n2 = 0
            · subst h0
              have hno : waitF st.2 arm cells out0 (k + 1) = waitF st.2 arm cells out0 k := by rw [HwF.out, if_neg]; unfold meets; rw [hl2]; simp
              have Hno := Lib.hid hno
              clear hno hl2
              go_wp2_with fail
              go_roundw
              case rel => exact ⟨k + 1, by omega, by go_num, by rw [Hno.out]; exact Hown3.out, Hb3.out⟩
              case measure => simp [intOf]; omega
            · have hn2 : (0 : Int) < (n2 : Int) := by omega
              have hme : meets cs' cells = true := by unfold meets; rw [hl2]; exact decide_eq_true (by omega)
              have Hme := Lib.hid hme
              have HCn := Lib.hid (contains_ints w2 (.slice Ao2 (waitF st.2 arm cells out0 k).length co2) w2.heap.size (waitF st.2 arm cells out0 k) a (SlI.own Hown3.out) (by have := Hl2.out; have := Hn0.out; omega))
              clear hme hl2
              go_wp2_with fail
              refine HCn.out.mono ?_
              rintro e w3 ⟨rfl, rfl⟩
              by_cases hin2 : a ∈ waitF st.2 arm cells out0 k
              · have hno : waitF st.2 arm cells out0 (k + 1) = waitF st.2 arm cells out0 k := by rw [HwF.out, if_neg]; simp [hin2]
                have Hno := Lib.hid hno
                rw [decide_eq_true hin2]
                clear hno hin2 HCn
                go_wp2_with fail
                go_roundw
                case rel => exact ⟨k + 1, by omega, by go_num, by rw [Hno.out]; exact Hown3.out, Hb3.out⟩
                case measure => simp [intOf]; omega
              · have hyes : waitF st.2 arm cells out0 (k + 1) = waitF st.2 arm cells out0 k ++ [a] := by rw [HwF.out, if_pos]; rw [Hme.out, Bool.true_and]; simp [hin2, Hne.out]
                have Hyes := Lib.hid hyes
                rw [decide_eq_false hin2]
                have hlo : (waitF st.2 arm cells out0 k).length + 1 ≤ maxLen := by have := Hl2.out; have := Hn0.out; unfold maxLen; omega
                have Hlo := Lib.hid hlo
                have hsz2 := Hb3.out.size
                clear hyes hin2 HCn hlo
                go_wp2_with (at_builtin; refine wpList_push rfl (.tmp 69) (.tmp 72) 22 rfl w.heap.size 3 i0 (.int .i64 0) 1 8 Try.underlying22 hi hz0 hz1 hz2 rfl (by omega) _ _ _ rfl Hown3.out [.int .i64 a] rfl rfl (by simp [Value.oneCell']) Hlo.out (by have := Hl2.out; have := Hn0.out; omega) hsz2 ?_; intro v6 w6 hn6 hb6 _)
                have Hn6 := Lib.hid hn6
                have Hb6 := Lib.hid (Hb3.out.trans hb6)
                obtain ⟨A6, c6, rfl, _, _, _⟩ := own_rd hn6
                clear hn6 hb6
                go_wp2_with fail
                go_roundw
                case rel => exact ⟨k + 1, by omega, by go_num, by rw [Hyes.out, List.length_append, List.map_append]; exact Hn6.out, Hb6.out⟩
                case measure => simp [intOf]; omega
        · obtain rfl : k = ahead := by omega
          clear hown hbw hrdo2
          go_wp2_with fail
          go_ret
          exact ⟨_, rfl, by rw [congrFun Hbf.out k]; exact Hwn.out, Hbn.out⟩
end Go.Proofs.Ytambngbkegnghaa
