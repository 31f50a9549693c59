/- ring.free; lists of lists of cells; what ring.Safe computes. Conditions: those typed. -/
import Derived.Test.YtambngbkegnghaaTabCheck
namespace Go.Proofs.Ytambngbkegnghaa
open Go.RowKit Go.Gy
set_option linter.unusedVariables false
def RowsC (w : World) (B : Nat) (v : Value) (rs : List (List Cell)) : Prop := ∃ A n c vs, v = .slice A n c ∧ rs.length = n ∧ n ≤ c ∧ (A = none → c = 0) ∧ Rd w B 1 A n vs ∧ SlsC w B vs rs
theorem RowsC.below {w w' : World} {B : Nat} {v : Value} {rs : List (List Cell)} (h : RowsC w B v rs) (hb : Below B w w') : RowsC w' B v rs := by
  obtain ⟨A, n, c, vs, h1, h2, h3, h4, h5, h6⟩ := h
  exact ⟨A, n, c, vs, h1, h2, h3, h4, h5.below hb, h6.below hb⟩
theorem RowsC.more {w : World} {B B' : Nat} {v : Value} {rs : List (List Cell)} (h : RowsC w B v rs) (hB : B ≤ B') : RowsC w B' v rs := by
  obtain ⟨A, n, c, vs, h1, h2, h3, h4, h5, h6⟩ := h
  exact ⟨A, n, c, vs, h1, h2, h3, h4, h5.more hB, h6.more hB⟩
theorem RowsC.get {w : World} {B n c k : Nat} {A : Option Addr} {rs : List (List Cell)} (h : RowsC w B (.slice A n c) rs) (hk : k < n) :
    ∃ b o u r, A = some ⟨b, o, none⟩ ∧ b < B ∧ w.cell? ⟨b, o + k, none⟩ = some u ∧ rs[k]? = some r ∧ SlC w B u r := by
  obtain ⟨A', n', c', vs, h1, h2, h3, h4, h5, h6⟩ := h
  injection h1 with e1 e2 e3
  subst e1 e2 e3
  obtain ⟨b, o, u, e, hb, hu, hc⟩ := h5.at_ hk
  refine ⟨b, o, u, rs[k]'(by omega), e, hb, hc, List.getElem?_eq_getElem _, h6.2 k u _ hu (List.getElem?_eq_getElem _)⟩
theorem RowsC.len {w : World} {B n c : Nat} {A : Option Addr} {rs : List (List Cell)} (h : RowsC w B (.slice A n c) rs) : rs.length = n := by
  obtain ⟨A', n', c', vs, h1, h2, _⟩ := h
  injection h1 with e1 e2 e3
  omega
def freeAt (has : List (List Cell)) (want : List Cell) (arm : Int) (done : List Int) (i : Nat) : Bool := decide ((i : Int) = arm) || (decide ((i : Int) ∈ done) || !meets (has.getD i []) want)
/-- nobody but the arm and those that are done has a cell of those that it wants -/
def freeF (has : List (List Cell)) (want : List Cell) (arm : Int) (done : List Int) : Bool := (List.range has.length).all (freeAt has want arm done)
theorem freeF_yes {has : List (List Cell)} {want : List Cell} {arm : Int} {done : List Int} (h : ∀ i, i < has.length → freeAt has want arm done i = true) : freeF has want arm done = true := by
  unfold freeF
  rw [List.all_eq_true]
  intro i hi
  exact h i (by simpa using hi)
theorem freeF_no {has : List (List Cell)} {want : List Cell} {arm : Int} {done : List Int} {i : Nat} (hi : i < has.length) (h : freeAt has want arm done i = false) : freeF has want arm done = false := by
  rw [Bool.eq_false_iff]
  intro hf
  unfold freeF at hf
  rw [List.all_eq_true] at hf
  have := hf i (by simpa using hi)
  rw [h] at this; cases this
set_option maxRecDepth 100000 in
set_option maxHeartbeats 2000000 in
theorem free_any (w : World) (v u : Value) (has : List (List Cell)) (want : List Cell) (arm : Int) (d : Value) (done : List Int) (hv : RowsC w w.heap.size v has) (hu : SlC w w.heap.size u want) (hd : SlI w w.heap.size d done)
    (hn : has.length ≤ 100) (hl : ∀ r ∈ has, r.length ≤ 400) (hw : want.length ≤ 400) (hdl : done.length ≤ 100) :
    Calls Try.prog 58 #[v, u, .int .i64 arm, d] w (HasPost (freeF has want arm done) w) := by
  obtain ⟨A, n, c, vs, rfl, hln, _⟩ := id hv
  obtain ⟨Au, nu, cu, rfl, _⟩ := id hu
  obtain ⟨Ad, nd, cd, rfl, _⟩ := id hd
  have HV := Lib.hid hv
  have HU := Lib.hid hu
  have HD := Lib.hid hd
  have Hln := Lib.hid hln
  have HL := Lib.hid hl
  have hn1 : n ≤ 100 := by omega
  clear hv hu hd hln hl
  go_enter Try.func58, Try.ntmps58
  go_wp2_with fail
  go_loopw [13] (fun i wr => ∃ k : Nat, k ≤ n ∧ i = .int .i64 (k : Int) ∧ Hid (∀ i, i < k → freeAt has want arm done i = true) ∧ Below w.heap.size w wr) (fun i _ => n - (intOf i).toNat)
  case atStart => exact ⟨0, Nat.zero_le _, rfl, Lib.hid (fun i h => absurd h (by omega)), Below.refl _ _⟩
  case round =>
    obtain ⟨k, hk, rfl, Hok, hb⟩ := hrel
    have Hb := Lib.hid hb
    by_cases hkn : k < n
    · obtain ⟨b, o, x, r, rfl, hbB, hcx, hr, hx⟩ := (HV.out.below hb).get hkn
      have hrD : has.getD k [] = r := by rw [List.getD_eq_getElem?_getD, hr]; rfl
      have Hstep := Lib.hid (show ∀ q, freeAt has want arm done k = q → (decide ((k : Int) = arm) || (decide ((k : Int) ∈ done) || !meets r want)) = q from fun q h => by rw [← h]; unfold freeAt; rw [hrD])
      have Hstep2 := Lib.hid (show freeAt has want arm done k = (decide ((k : Int) = arm) || (decide ((k : Int) ∈ done) || !meets r want)) from by unfold freeAt; rw [hrD])
      have Hr4 := Lib.hid (HL.out r (List.mem_of_getElem? hr))
      obtain ⟨Ax, nx, cx, rfl, _⟩ := id hx
      have HxS := Lib.hid (hx.more hb.size)
      have HCn := Lib.hid (contains_ints wr (.slice Ad nd cd) wr.heap.size done (k : Int) ((HD.out.below hb).more hb.size) (by omega))
      have Hnext := Lib.hid (show freeAt has want arm done k = true → ∀ i, i < k + 1 → freeAt has want arm done i = true from fun h i hi => by
        by_cases hik : i = k
        · subst hik; exact h
        · exact Hok.out i (by omega))
      clear hb hr hx hbB hrD
      by_cases hka : (k : Int) = arm
      · have h1 : ((k : Int) != arm) = false := by simpa using hka
        have Hy := Lib.hid (Hnext.out (by rw [Hstep2.out, decide_eq_true hka]; rfl))
        clear hka
        go_wp2_with fail
        go_roundw
        case rel => exact ⟨k + 1, by omega, by go_num, Lib.hid Hy.out, Hb.out⟩
        case measure => simp [intOf]; omega
      have h1 : ((k : Int) != arm) = true := by simpa using hka
      have Hka := Lib.hid hka
      clear hka
      go_wp2_with fail
      refine HCn.out.mono ?_
      rintro e w3 ⟨rfl, rfl⟩
      by_cases hin : (k : Int) ∈ done
      · have Hy := Lib.hid (Hnext.out (by rw [Hstep2.out, decide_eq_true hin]; simp))
        rw [decide_eq_true hin]
        clear hin HCn
        go_wp2_with fail
        go_roundw
        case rel => exact ⟨k + 1, by omega, by go_num, Lib.hid Hy.out, Hb.out⟩
        case measure => simp [intOf]; omega
      have HM := Lib.hid (meet_any wr (.slice Ax nx cx) (.slice Au nu cu) r want HxS.out ((HU.out.below Hb.out).more Hb.out.size) (by have := Hr4.out; omega) (by omega))
      have Hin := Lib.hid hin
      rw [decide_eq_false hin]
      clear hin HCn
      go_wp2_with fail
      refine HM.out.mono ?_
      rintro e w4 ⟨A4, n4, c4, rfl, hl4, hown4, hb4⟩
      have Hb4 := Lib.hid (Hb.out.trans (hb4.mono Hb.out.size))
      have Hl4 := Lib.hid hl4
      clear hown4 hb4 hl4 HM
      by_cases h0 : n4 = 0
      · subst h0
        have Hy := Lib.hid (Hnext.out (by rw [Hstep2.out]; unfold meets; rw [Hl4.out]; simp))
        go_wp2_with fail
        go_roundw
        case rel => exact ⟨k + 1, by omega, by go_num, Lib.hid Hy.out, Hb4.out⟩
        case measure => simp [intOf]; omega
      · have h4 : (0 : Int) < (n4 : Int) := by omega
        have HP := Lib.hid (show freeF has want arm done = false from freeF_no (i := k) (by rw [Hln.out]; exact hkn) (by
          rw [Hstep2.out, decide_eq_false Hka.out, decide_eq_false Hin.out]
          unfold meets
          rw [Hl4.out, decide_eq_true (by omega)]; rfl))
        clear h0
        go_wp2_with fail
        go_ret
        exact ⟨by rw [HP.out]; rfl, Hb4.out⟩
    · obtain rfl : k = n := by omega
      have HP := Lib.hid (show freeF has want arm done = true from freeF_yes (by rw [Hln.out]; exact Hok.out))
      clear hb
      go_wp2_with fail
      go_ret
      exact ⟨by rw [HP.out]; rfl, Hb.out⟩
end Go.Proofs.Ytambngbkegnghaa
