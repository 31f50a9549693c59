/- clock.Latest returns the first reading that no other one is later than. Conditions: at most 2^45 readings. -/
import Derived.Test.YtgccmiedcblfeaaBase
import Derived.Test.YtgccmiedcblfeaaOpen
namespace Go.Proofs.Ytgccmiedcblfeaa
open Go.RowKit Go.Gy

def okAt (l : List Int) (a : Int) : Bool := l.all fun b => decide (diff b a ≤ 0)
def okTo (l : List Int) (j : Nat) (a : Int) : Bool := (l.take j).all fun b => decide (diff b a ≤ 0)
theorem okTo_step (l : List Int) (j : Nat) (a b : Int) (h : l[j]? = some b) : okTo l (j + 1) a = (okTo l j a && decide (diff b a ≤ 0)) := by
  unfold okTo
  rw [List.take_add_one, h]
  simp
theorem okTo_all (l : List Int) (a : Int) : okTo l l.length a = okAt l a := by simp [okTo, okAt]
def latest (l : List Int) : Int := match l.findIdx? (okAt l) with
  | some i => i
  | none => -1

set_option maxHeartbeats 400000 in
theorem latest_any (w : World) (A : Option Addr) (n c : Nat) (l : List Int) (B : Nat) (hl : l.length = n) (hn : n ≤ 35184372088832) (hr : Rd w B 1 A n (l.map (Value.int .u32))) :
    Calls Try.prog 12 #[.slice A n c] w fun e w' => e = .returned (.int .i64 (latest l)) ∧ w = w' := by
  have Hl := Lib.hid hl
  clear hl
  go_enter Try.func12, Try.ntmps12
  go_wp2
  go_loop [10] (fun i => ∃ k : Nat, k ≤ n ∧ i = .int .i64 k ∧ ∀ j a, j < k → l[j]? = some a → okAt l a = false) (fun i => n - (intOf i).toNat)
  case atStart => exact ⟨0, Nat.zero_le _, rfl, fun j a h => absurd h (by omega)⟩
  case round =>
    obtain ⟨k, hk, rfl, hno⟩ := hrel
    have Hno := Lib.hid hno
    clear hno
    by_cases hlt : k < n
    · obtain ⟨b, o, u, rfl, hb, hu, hc⟩ := hr.at_ hlt
      obtain ⟨a, ha, rfl⟩ : ∃ a, l[k]? = some a ∧ u = .int .u32 a := by
        rw [List.getElem?_map] at hu
        cases h : l[k]? with
        | none => simp [h] at hu
        | some a => exact ⟨a, rfl, by simpa [h] using hu.symm⟩
      have Hu := Lib.hid hu
      have Ha := Lib.hid ha
      clear hu ha
      go_wp2
      go_loop [5, 17] (fun q i => ∃ j : Nat, j ≤ n ∧ i = .int .i64 j ∧ q = .bool (okTo l j a)) (fun _ i => n - (intOf i).toNat)
      case atStart => exact ⟨0, Nat.zero_le _, rfl, rfl⟩
      case round =>
        obtain ⟨j, hj, rfl, rfl⟩ := hrel
        by_cases hjt : j < n
        · obtain ⟨b', o', u', he, hb', hu', hc'⟩ := hr.at_ hjt
          injection he with he
          injection he with he1 he2 _
          subst he1; subst he2
          obtain ⟨a', ha', rfl⟩ : ∃ a, l[j]? = some a ∧ u' = .int .u32 a := by
            rw [List.getElem?_map] at hu'
            cases h : l[j]? with
            | none => simp [h] at hu'
            | some a => exact ⟨a, rfl, by simpa [h] using hu'.symm⟩
          have Hs := Lib.hid (okTo_step l j a a' ha')
          clear hu' ha'
          obtain ⟨q, hq⟩ : ∃ q, q = okTo l j a := ⟨_, rfl⟩
          rw [← hq]
          rw [← hq] at Hs
          clear hq
          cases q
          · go_wp2_with (go_at_call 10; refine (diff_any _ _ _).mono ?_; rintro e w' ⟨rfl, rfl⟩)
            go_round
            case rel => exact ⟨j + 1, by omega, by go_num, by rw [Hs.out]; rfl⟩
            case measure => simp [intOf]; omega
          · go_wp2_with (go_at_call 10; refine (diff_any _ _ _).mono ?_; rintro e w' ⟨rfl, rfl⟩)
            go_round
            case rel => exact ⟨j + 1, by omega, by go_num, by rw [Hs.out]; rfl⟩
            case measure => simp [intOf]; omega
        · obtain rfl : j = n := by omega
          have e : okTo l j a = okAt l a := by rw [← Hl.out]; exact okTo_all l a
          rw [e]
          obtain ⟨q, hq⟩ : ∃ q, okAt l a = q := ⟨_, rfl⟩
          rw [hq]
          have Hq := Lib.hid hq
          clear hq e
          cases q
          · go_wp2
            go_round
            case rel =>
              refine ⟨k + 1, by omega, by go_num, fun i x hi hx => ?_⟩
              by_cases hik : i = k
              · subst hik
                rw [Ha.out] at hx
                injection hx with hx
                subst hx
                exact Hq.out
              · exact Hno.out i x (by omega) hx
            case measure => simp [intOf]; omega
          · go_wp2
            go_ret
            refine ⟨ret_int ?_, rfl⟩
            have hkl : k < l.length := by rw [Hl.out]; omega
            have : l.findIdx? (okAt l) = some k := by
              rw [List.findIdx?_eq_some_iff_getElem]
              refine ⟨hkl, ?_, fun i hi => ?_⟩
              · have := Ha.out
                rw [List.getElem?_eq_getElem hkl] at this
                injection this with this
                rw [this]; exact Hq.out
              · rw [Hno.out i _ hi (List.getElem?_eq_getElem (by omega))]; simp
            simp [latest, this]
    · obtain rfl : k = n := by omega
      go_wp2
      go_ret
      refine ⟨ret_int ?_, rfl⟩
      have : l.findIdx? (okAt l) = none := by
        rw [List.findIdx?_eq_none_iff]
        intro a ha
        obtain ⟨j, hj, rfl⟩ := List.getElem_of_mem ha
        exact Hno.out j _ (by rw [Hl.out] at hj; exact hj) (List.getElem?_eq_getElem hj)
      simp [latest, this]
end Go.Proofs.Ytgccmiedcblfeaa
