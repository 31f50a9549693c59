/- gantmake.Below, Stream.Next. Conditions: those typed. -/
import Derived.Test.YtaahpjjffggaiaaIntsOpen
import Derived.Deep.RegionHeld
namespace Go.Proofs.Ytaahpjjffggaiaa
open Go.RowKit Go.Gy
set_option linter.unusedVariables false
/-- a stream: one cell with a slice of integers that lies below it -/
def StrAt (w : World) (B b : Nat) : Prop := ∃ v l, Blk w b 111 #[v] ∧ SlI w B v l ∧ l.length ≤ 140737488355328
def NextPost (w : World) (B b : Nat) (n : Int) (e : Ending) (w' : World) : Prop := ∃ r : Int, e = .returned (.int .i64 r) ∧ 0 ≤ r ∧ r < n ∧ StrAt w' B b ∧ w.grownBy w' (some b) ∧ w'.heap.size = w.heap.size
set_option maxRecDepth 100000 in
set_option maxHeartbeats 1000000 in
theorem next_any (w : World) (B b : Nat) (n : Int) (h : StrAt w B b) (hB : B ≤ b) (h1 : 1 ≤ n) (h2 : n ≤ 4294967296) :
    Calls Try.prog 67 #[.pointer (some ⟨b, 0, none⟩), .int .i64 n] w (NextPost w B b n) := by
  obtain ⟨v, l, hb, hv, hl⟩ := h
  obtain ⟨A, m, c, rfl, hlm, hmc, hA, hr⟩ := id hv
  rw [hlm] at hl
  have hcb := hb.cell 0 _ rfl
  have hfz := hb.free 0
  have Hb := Lib.hid hb
  have Hv := Lib.hid hv
  have Hlm := Lib.hid hlm
  clear hb hv hlm hA
  by_cases hm : m = 0
  · have HP := Lib.hid (show NextPost w B b n (.returned (.int .i64 0)) w from ⟨0, rfl, by omega, by omega, ⟨_, l, Hb.out, Hv.out, by rw [Hlm.out]; exact hl⟩, ⟨rfl, rfl, rfl, Nat.le_refl _, fun _ _ _ => rfl⟩, rfl⟩)
    subst hm
    clear hr
    go_enter Try.func67, Try.ntmps67
    go_wp2_with fail
    go_ret
    exact HP.out
  · obtain ⟨b2, o2, x, rfl, hb2, hx, hcx⟩ := hr.one (show 0 < m by omega)
    rw [Nat.add_zero] at hcx
    have hne : ((m : Int) == 0) = false := by simpa using hm
    have hn1 : ¬ n < 1 := by omega
    have HB := Lib.hid (fun w => below_any x n w (by omega) h2)
    have hcut := hr.cut (k := 1) (cap := c) (by omega) hmc
    have hr0 := Int.emod_nonneg x (show n ≠ 0 by omega)
    have hr1 := Int.emod_lt_of_pos x (show 0 < n by omega)
    obtain ⟨r, hrr⟩ : ∃ r, r = x % n := ⟨_, rfl⟩
    rw [← hrr] at hr0 hr1 HB
    have Hcut := Lib.hid (show ∀ (ad : Addr) (w' : World), (∀ b o, b < B → w'.cell? ⟨b, o, none⟩ = w.cell? ⟨b, o, none⟩) → (if c = 1 then (some (⟨b2, o2, none⟩ : Addr)) else some ⟨b2, o2 + 1, none⟩) = some ad → SlI w' B (.slice (some ad) (m - 1) (c - 1)) l.tail from fun ad w' hk he => by
      refine ⟨_, m - 1, c - 1, rfl, by rw [List.length_tail, Hlm.out], by omega, (fun h => by cases h), ?_⟩
      have h2 := hcut.keep hk
      rw [Nat.one_mul, ← List.map_drop, List.drop_one] at h2
      rw [← he]
      have e1 : (if c = 1 then (some (⟨b2, o2, none⟩ : Addr)) else (some (⟨b2, o2, none⟩ : Addr)).map fun x => x.add 1) = (if c = 1 then (some (⟨b2, o2, none⟩ : Addr)) else some ⟨b2, o2 + 1, none⟩) := by simp [add_none]
      rw [e1] at h2
      exact h2)
    have HP := Lib.hid (show ∀ ad : Addr, (if c = 1 then (some (⟨b2, o2, none⟩ : Addr)) else some ⟨b2, o2 + 1, none⟩) = some ad → NextPost w B b n (.returned (.int .i64 r)) (w.setCell ⟨b, 0, none⟩ (.slice (some ad) (m - 1) (c - 1))) from fun ad he =>
      ⟨r, rfl, hr0, hr1, ⟨_, l.tail, by have := Hb.out.set 0 (.slice (some ad) (m - 1) (c - 1)); simpa using this, Hcut.out ad _ (fun b' o' hb' => World.cell?_setCell_far _ _ _ _ (by show b ≠ b'; omega)) he, by rw [List.length_tail, Hlm.out]; omega⟩, ⟨rfl, rfl, rfl, by simp, fun k _ hk => Below.heap_setCell w _ _ k (fun e => hk (by rw [e]))⟩, by simp⟩)
    clear hcut hrr hx
    by_cases hc1 : c = 1
    · have HP0 := HP.out ⟨b2, o2, none⟩ (by rw [if_pos hc1])
      subst hc1
      obtain rfl : m = 1 := by omega
      have HP1 := Lib.hid (show NextPost w B b n (.returned (.int .i64 r)) (w.setCell ⟨b, 0, none⟩ (.slice (some ⟨b2, o2, none⟩) 0 0)) from HP0)
      clear HP0
      clear HP Hcut
      go_enter Try.func67, Try.ntmps67
      go_wp2_with fail
      refine (HB.out _).mono ?_
      rintro e w' ⟨rfl, rfl⟩
      go_wp2_with fail
      go_ret
      exact HP1.out
    · have HP1 := Lib.hid (HP.out ⟨b2, o2 + 1, none⟩ (by rw [if_neg hc1]))
      clear HP Hcut
      go_enter Try.func67, Try.ntmps67
      go_wp2_with fail
      refine (HB.out _).mono ?_
      rintro e w' ⟨rfl, rfl⟩
      go_wp2_with fail
      go_ret
      exact HP1.out
end Go.Proofs.Ytaahpjjffggaiaa
