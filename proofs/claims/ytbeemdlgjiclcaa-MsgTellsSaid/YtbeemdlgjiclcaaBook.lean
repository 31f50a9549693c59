/- gantref5.Book. Conditions: records of at most 2000 bytes, at most 20000 of them. -/
import Derived.Test.YtbeemdlgjiclcaaRefBytes
import Derived.Test.YtbeemdlgjiclcaaTable
namespace Go.Proofs.Ytbeemdlgjiclcaa
open Go.RowKit Go.Gy
set_option linter.unusedVariables false

def CatPost (w : World) (l : List Nat) (e : Ending) (w' : World) : Prop := ∃ v, e = .returned v ∧ SlB w' w'.heap.size v l ∧ Below w.heap.size w w'
theorem concat2 (w : World) (u1 u2 : Value) (r1 r2 : List Nat) (h1 : SlB w w.heap.size u1 r1) (h2 : SlB w w.heap.size u2 r2) (hb : r1.length + r2.length ≤ 1000000000) :
    Calls Try.prog 69 #[.slice (some ⟨w.heap.size, 0, none⟩) 2 2] (w.alloc (.cells #[u1, u2] 26)) (CatPost w (r1 ++ r2)) := by
  have ha : Below w.heap.size w (w.alloc (.cells #[u1, u2] 26)) := (Below.refl _ _).alloc (Nat.le_refl _) _
  have hs := ha.size
  refine (concat_bytes _ _ 2 2 [u1, u2] [r1, r2] rfl (by omega) ?_ ?_ ?_).mono ?_
  · have h := Rd.lit w 26 [u1, u2] 1 2 rfl
    simpa using h
  · exact SlsB.cons ((h1.below ha).more hs) (SlsB.cons ((h2.below ha).more hs) (SlsB.nil _ _))
  · simp; omega
  · rintro e w' ⟨v, rfl, ho, hb'⟩
    refine ⟨v, rfl, ?_, ha.trans (hb'.mono hs)⟩
    have := SlB.own (r := [r1, r2].flatten) ho
    simpa using this
theorem concat3 (w : World) (u1 u2 u3 : Value) (r1 r2 r3 : List Nat) (h1 : SlB w w.heap.size u1 r1) (h2 : SlB w w.heap.size u2 r2) (h3 : SlB w w.heap.size u3 r3) (hb : r1.length + r2.length + r3.length ≤ 1000000000) :
    Calls Try.prog 69 #[.slice (some ⟨w.heap.size, 0, none⟩) 3 3] (w.alloc (.cells #[u1, u2, u3] 26)) (CatPost w (r1 ++ (r2 ++ r3))) := by
  have ha : Below w.heap.size w (w.alloc (.cells #[u1, u2, u3] 26)) := (Below.refl _ _).alloc (Nat.le_refl _) _
  have hs := ha.size
  refine (concat_bytes _ _ 3 3 [u1, u2, u3] [r1, r2, r3] rfl (by omega) ?_ ?_ ?_).mono ?_
  · have h := Rd.lit w 26 [u1, u2, u3] 1 3 rfl
    simpa using h
  · exact SlsB.cons ((h1.below ha).more hs) (SlsB.cons ((h2.below ha).more hs) (SlsB.cons ((h3.below ha).more hs) (SlsB.nil _ _)))
  · simp; omega
  · rintro e w' ⟨v, rfl, ho, hb'⟩
    refine ⟨v, rfl, ?_, ha.trans (hb'.mono hs)⟩
    have := SlB.own (r := [r1, r2, r3].flatten) ho
    simpa using this
theorem crc_slice (w : World) (v : Value) (l : List Nat) (h : SlB w w.heap.size v l) (hn : l.length ≤ 1000000000) (h8 : ∀ x ∈ l, x < 256) :
    Calls Try.prog 28 #[v] w fun e w' => e = .returned (.int .u32 (crc l : Nat)) ∧ Below w.heap.size w w' := by
  obtain ⟨A, n, c, rfl, h1, h2, h3, h4⟩ := h
  exact crc_any w A n c l h1 (by omega) h4 h8

def BookRel (w : World) (rs : List (List Nat)) (o l i : Value) (wr : World) : Prop := ∃ k : Nat, k ≤ rs.length ∧ i = .int .i64 k ∧ SlB wr wr.heap.size o (bookF 0 (rs.take k)) ∧ SlB wr wr.heap.size l (be4 (lastF 0 (rs.take k))) ∧ Below w.heap.size w wr
set_option maxRecDepth 100000 in
set_option maxHeartbeats 4000000 in
theorem book_any (w : World) (v : Value) (rs : List (List Nat)) (hv : SlSs w w.heap.size v rs) (hn : rs.length ≤ 20000) (h8 : ∀ r ∈ rs, r.length ≤ 2000 ∧ ∀ x ∈ r, x < 256) :
    Calls Try.prog 38 #[v] w (CatPost w (bookF 0 rs)) := by
  obtain ⟨A, n, c, vs, rfl, hxl, hnc, hA, hr, hs⟩ := hv
  have Hxl := Lib.hid hxl
  have Hs := Lib.hid hs
  have H8 := Lib.hid h8
  have HA := Lib.hid hA
  rw [hxl] at hn
  clear hxl hs h8 hA
  go_enter Try.func38, Try.ntmps38
  go_wp2
  go_loopw [3, 4, 11] (fun o l i wr => BookRel w rs o l i wr) (fun _ _ i _ => n - (intOf i).toNat)
  case atStart =>
    refine ⟨0, Nat.zero_le _, rfl, ⟨none, 0, 0, rfl, rfl, Nat.le_refl _, fun _ => rfl, ⟨rfl, fun h => by omega⟩⟩, ⟨_, 4, 4, rfl, rfl, Nat.le_refl _, (fun h => by cases h), ?_⟩, (Below.refl _ _).alloc (Nat.le_refl _) _⟩
    have h1 := Rd.lit w 5 [.int .u8 0, .int .u8 0, .int .u8 0, .int .u8 0] 1 4 rfl
    simpa [bv, be4, lastF] using h1
  case round =>
    obtain ⟨k, hk, rfl, ho, hl, hbw⟩ := hrel
    rw [Hxl.out] at hk
    have hzr := hbw.size
    by_cases hlt : k < n
    · obtain ⟨g, o, u, rfl, hg, hu, hc⟩ := (hr.below hbw).at_ hlt
      have hrk : rs[k]? = some (rs[k]'(by have := Hxl.out; omega)) := List.getElem?_eq_getElem _
      obtain ⟨r, hr0⟩ : ∃ r, r = rs[k]'(by have := Hxl.out; omega) := ⟨_, rfl⟩
      rw [← hr0] at hrk
      have hsl := ((Hs.out.below hbw).2 k u r hu hrk).more hzr
      obtain ⟨A', m, c', rfl, hrm, _, _, _⟩ := id hsl
      have hr8 := H8.out r (List.mem_of_getElem? hrk)
      have hm : m ≤ 2000 := by rw [← hrm]; exact hr8.1
      have Hrk := Lib.hid hrk
      have Hsl := Lib.hid hsl
      have Hr8 := Lib.hid hr8
      have Hrm := Lib.hid hrm
      have Ho := Lib.hid ho
      have Hl := Lib.hid hl
      clear hr0 hrk hu hsl hr8 hrm ho hl
      obtain ⟨B0, hB0⟩ : ∃ B0, B0 = bookF 0 (rs.take k) := ⟨_, rfl⟩
      obtain ⟨L0, hL0⟩ : ∃ L0, L0 = lastF 0 (rs.take k) := ⟨_, rfl⟩
      have hbook : bookF 0 (rs.take (k + 1)) = B0 ++ ((be2 m ++ r) ++ be4 (rsum L0 r)) := by
        rw [List.take_add_one, Hrk.out, Option.toList_some, bookF_append, ← hB0, ← hL0]
        simp [bookF, enc1, Hrm.out]
      have hlast : lastF 0 (rs.take (k + 1)) = rsum L0 r := by
        rw [List.take_add_one, Hrk.out, Option.toList_some, lastF_append, ← hL0]
        rfl
      have hBl : B0.length ≤ 40120000 := by
        have h1 := book_len 0 (rs.take k) fun q hq => (H8.out q (List.mem_of_mem_take hq)).1
        rw [← hB0, List.length_take, Hxl.out] at h1
        omega
      have hrs := rsum_lt L0 r Hr8.out.2
      have hcrc : crc (be4 L0 ++ (be2 m ++ r)) = rsum L0 r := by unfold rsum; rw [Hrm.out]
      rw [← hB0] at Ho
      rw [← hL0] at Hl
      have Hbook := Lib.hid hbook
      have Hlast := Lib.hid hlast
      have HBl := Lib.hid hBl
      have Hcrc := Lib.hid hcrc
      clear hB0 hL0 hbook hlast hBl hcrc
      obtain ⟨Ao, no, co, rfl, _⟩ := id Ho.out
      obtain ⟨Al, nl, cl, rfl, _⟩ := id Hl.out
      go_wp2_with fail
      refine (rbytes2 wr m (by omega)).mono ?_
      rintro e w1 ⟨v1, rfl, hown1, hb1⟩
      have S1 := Lib.hid (SlB.own (r := be2 m) hown1)
      obtain ⟨A1, n1, c1, rfl, _⟩ := id S1.out
      have Ho1 := Lib.hid ((Ho.out.below hb1).more hb1.size)
      have Hl1 := Lib.hid ((Hl.out.below hb1).more hb1.size)
      have Hs1 := Lib.hid ((Hsl.out.below hb1).more hb1.size)
      have hbw1 := hbw.trans (hb1.mono hzr)
      clear hown1 hb1
      go_wp2_with fail
      refine (concat2 w1 _ _ (be2 m) r S1.out Hs1.out (by rw [Hrm.out]; simp [be2]; omega)).mono ?_
      rintro e w2 ⟨v2, rfl, S2, hb2⟩
      have S2 := Lib.hid S2
      obtain ⟨A2, n2, c2, rfl, _⟩ := id S2.out
      have Ho2 := Lib.hid ((Ho1.out.below hb2).more hb2.size)
      have Hl2 := Lib.hid ((Hl1.out.below hb2).more hb2.size)
      have hbw2 := hbw1.trans (hb2.mono hbw1.size)
      clear hb2
      go_wp2_with fail
      refine (concat2 w2 _ _ (be4 L0) (be2 m ++ r) Hl2.out S2.out (by simp [be4, be2, Hrm.out]; omega)).mono ?_
      rintro e w3 ⟨v3, rfl, S3, hb3⟩
      have Ho3 := Lib.hid ((Ho2.out.below hb3).more hb3.size)
      have S23 := Lib.hid ((S2.out.below hb3).more hb3.size)
      have hbw3 := hbw2.trans (hb3.mono hbw2.size)
      have HK := Lib.hid (crc_slice w3 v3 _ S3 (by simp [be4, be2, Hrm.out]; omega) (by
        intro x hx
        simp only [List.mem_append] at hx
        rcases hx with hx | hx | hx
        · exact be4_lt _ x hx
        · exact be2_lt _ x hx
        · exact Hr8.out.2 x hx))
      obtain ⟨A3, n3, c3, rfl, _⟩ := id S3
      clear hb3 S3
      go_wp2_with fail
      refine HK.out.mono ?_
      rintro e w4 ⟨rfl, hb4⟩
      rw [Hcrc.out]
      have Ho4 := Lib.hid ((Ho3.out.below hb4).more hb4.size)
      have S24 := Lib.hid ((S23.out.below hb4).more hb4.size)
      have hbw4 := hbw3.trans (hb4.mono hbw3.size)
      clear hb4 HK
      go_wp2_with fail
      refine (rbytes4 w4 (rsum L0 r) hrs).mono ?_
      rintro e w5 ⟨v5, rfl, hown5, hb5⟩
      have S5 := Lib.hid (SlB.own (r := be4 (rsum L0 r)) hown5)
      obtain ⟨A5, n5, c5, rfl, _⟩ := id S5.out
      have Ho5 := Lib.hid ((Ho4.out.below hb5).more hb5.size)
      have S25 := Lib.hid ((S24.out.below hb5).more hb5.size)
      have hbw5 := hbw4.trans (hb5.mono hbw4.size)
      clear hown5 hb5
      go_wp2_with fail
      refine (concat3 w5 _ _ _ B0 (be2 m ++ r) (be4 (rsum L0 r)) Ho5.out S25.out S5.out (by simp [be4, be2, Hrm.out]; have := HBl.out; omega)).mono ?_
      rintro e w6 ⟨v6, rfl, S6, hb6⟩
      have S56 := Lib.hid ((S5.out.below hb6).more hb6.size)
      have S66 := Lib.hid S6
      have hbw6 := hbw5.trans (hb6.mono hbw5.size)
      clear hb6 S6
      go_wp2_with fail
      go_roundw
      case rel => exact ⟨k + 1, by rw [Hxl.out]; omega, by go_num, by rw [Hbook.out]; exact S66.out, by rw [Hlast.out]; exact S56.out, hbw6⟩
      case measure => simp [intOf]; omega
    · obtain rfl : k = n := by omega
      have ho' := ho
      rw [List.take_of_length_le (by rw [Hxl.out]; exact Nat.le_refl _)] at ho'
      have HO := Lib.hid ho'
      clear ho hl ho'
      go_wp2_with fail
      go_ret
      exact ⟨_, rfl, HO.out, hbw⟩
end Go.Proofs.Ytbeemdlgjiclcaa
