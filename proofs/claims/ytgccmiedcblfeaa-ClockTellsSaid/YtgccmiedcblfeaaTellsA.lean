/- The closure of ClockTells, and slices.ContainsFunc over it. Conditions: the slice's bound. -/
import Derived.Test.YtgccmiedcblfeaaShow
namespace Go.Proofs.Ytgccmiedcblfeaa
open Go.RowKit Go.Gy
set_option linter.unusedVariables false

theorem closure_any (w : World) (x y : Int) (bl bi : Nat) (A : Option Addr) (n c i : Nat) (l : List Int) (hb : w.cell? ⟨bl, 0, none⟩ = some (.slice A n c)) (hi : w.cell? ⟨bi, 0, none⟩ = some (.int .i64 i))
    (B : Nat) (hr : Rd w B 1 A n (l.map (Value.int .u32))) (hn : n ≤ 35184372088832) (hin : i < n) (hy : l[i]? = some y) (hx0 : 0 ≤ x ∧ x < 4294967296) (hy0 : 0 ≤ y ∧ y < 4294967296) :
    Calls Try.prog 18 #[.int .u32 x, .pointer (some ⟨bl, 0, none⟩), .pointer (some ⟨bi, 0, none⟩)] w fun e w' => e = .returned (.bool (decide (0 < diff x y))) ∧ w = w' := by
  obtain ⟨b, o, z, rfl, hbb, hz, hc⟩ := hr.one hin
  rw [hy] at hz
  injection hz with hz
  subst hz
  clear hy hr
  go_enter Try.func18, Try.ntmps18
  go_wp2_with (go_at_call 16; refine (later_any _ _ _ hx0.1 hx0.2 hy0.1 hy0.2).mono ?_; rintro e w' ⟨rfl, rfl⟩)
  go_ret
  exact ⟨rfl, rfl⟩

def idxP (l : List Int) (p : Int → Bool) : Int := match l.findIdx? p with
  | some i => i
  | none => -1
set_option maxHeartbeats 400000 in
theorem idxf_any (w : World) (cap : Array Value) (p : Int → Bool) (A : Option Addr) (n c : Nat) (l : List Int) (B : Nat) (hl : l.length = n) (hr : Rd w B 1 A n (l.map (Value.int .u32))) (hn : n ≤ 35184372088832)
    (hp : ∀ x, x ∈ l → Calls Try.prog 18 (#[.int .u32 x] ++ cap) w fun e w' => e = .returned (.bool (p x)) ∧ w = w') :
    Calls Try.prog 19 #[.slice A n c, .func (.func 18) #[] cap] w fun e w' => e = .returned (.int .i64 (idxP l p)) ∧ w = w' := by
  have Hl := Lib.hid hl
  have Hp := Lib.hid hp
  clear hl hp
  go_enter Try.func19, Try.ntmps19
  go_wp2
  go_loop [8] (fun i => ∃ k : Nat, k ≤ n ∧ i = .int .i64 k ∧ ∀ j a, j < k → l[j]? = some a → p a = false) (fun i => n - (intOf i).toNat)
  case atStart => exact ⟨0, Nat.zero_le _, rfl, fun j a h => absurd h (by omega)⟩
  case round =>
    obtain ⟨k, hk, rfl, hno⟩ := hrel
    have Hno := Lib.hid hno
    clear hno
    by_cases hlt : k < n
    · obtain ⟨b, o, z, rfl, hbb, hz, hc⟩ := hr.one hlt
      have Hz := Lib.hid hz
      have Hc := Lib.hid (Hp.out z (List.mem_of_getElem? hz))
      clear hz
      go_wp2_with fail
      refine Hc.out.mono ?_
      rintro e w' ⟨rfl, rfl⟩
      obtain ⟨q, hq⟩ : ∃ q, p z = q := ⟨_, rfl⟩
      rw [hq]
      have Hq := Lib.hid hq
      clear hq
      cases q
      · go_wp2
        go_round
        case rel =>
          refine ⟨k + 1, by omega, by go_num, fun i x hi hx => ?_⟩
          by_cases hik : i = k
          · subst hik
            rw [Hz.out] at hx
            injection hx with hx
            subst hx
            exact Hq.out
          · exact Hno.out i x (by omega) hx
        case measure => simp [intOf]; omega
      · go_wp2
        go_ret
        refine ⟨ret_int ?_, rfl⟩
        have hkl : k < l.length := by rw [Hl.out]; omega
        have : l.findIdx? p = some k := by
          rw [List.findIdx?_eq_some_iff_getElem]
          refine ⟨hkl, ?_, fun i hi => ?_⟩
          · have := Hz.out
            rw [List.getElem?_eq_getElem hkl] at this
            injection this with this
            rw [this]; exact Hq.out
          · rw [Hno.out i _ hi (List.getElem?_eq_getElem (by omega))]; simp
        simp [idxP, this]
    · obtain rfl : k = n := by omega
      go_wp2
      go_ret
      refine ⟨ret_int ?_, rfl⟩
      have : l.findIdx? p = none := by
        rw [List.findIdx?_eq_none_iff]
        intro a ha
        obtain ⟨j, hj, rfl⟩ := List.getElem_of_mem ha
        exact Hno.out j _ (by rw [Hl.out] at hj; exact hj) (List.getElem?_eq_getElem hj)
      simp [idxP, this]
theorem any_find (l : List Int) (p : Int → Bool) : decide (0 ≤ idxP l p) = l.any p := by
  unfold idxP
  cases h : l.findIdx? p with
  | none =>
    rw [List.findIdx?_eq_none_iff] at h
    have : l.any p = false := by rw [List.any_eq_false]; intro x hx; simp [h x hx]
    simp [this]
  | some i =>
    rw [List.findIdx?_eq_some_iff_getElem] at h
    obtain ⟨hi, h1, _⟩ := h
    have : l.any p = true := by rw [List.any_eq_true]; exact ⟨_, List.getElem_mem hi, h1⟩
    simp [this]
theorem contf_any (w : World) (cap : Array Value) (p : Int → Bool) (A : Option Addr) (n c : Nat) (l : List Int) (B : Nat) (hl : l.length = n) (hr : Rd w B 1 A n (l.map (Value.int .u32))) (hn : n ≤ 35184372088832)
    (hp : ∀ x, x ∈ l → Calls Try.prog 18 (#[.int .u32 x] ++ cap) w fun e w' => e = .returned (.bool (p x)) ∧ w = w') :
    Calls Try.prog 17 #[.slice A n c, .func (.func 18) #[] cap] w fun e w' => e = .returned (.bool (l.any p)) ∧ w = w' := by
  have Hc := Lib.hid (idxf_any w cap p A n c l B hl hr hn hp)
  have He := Lib.hid (any_find l p)
  clear hl hp hr
  go_enter Try.func17, Try.ntmps17
  go_wp2_with fail
  refine Hc.out.mono ?_
  rintro e w' ⟨rfl, rfl⟩
  obtain ⟨q, hq⟩ : ∃ q : Int, q = idxP l p := ⟨_, rfl⟩
  rw [← hq]
  have He' := He.out
  rw [← hq] at He'
  have He'' := Lib.hid He'
  clear hq He' He Hc
  go_wp2
  go_ret
  exact ⟨ret_bool He''.out, rfl⟩
end Go.Proofs.Ytgccmiedcblfeaa
