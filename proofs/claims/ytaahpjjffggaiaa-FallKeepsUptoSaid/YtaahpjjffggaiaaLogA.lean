/- log.sum: the checksum of a record behind others. Conditions: those typed. -/
import Derived.Test.YtaahpjjffggaiaaBytes
namespace Go.Proofs.Ytaahpjjffggaiaa
open Go.RowKit Go.Gy
set_option linter.unusedVariables false

def rsum (last : Nat) (r : List Nat) : Nat := crc (be4 last ++ (be2 r.length ++ r))
theorem rsum_lt (last : Nat) (r : List Nat) (h : ∀ x ∈ r, x < 256) : rsum last r < 4294967296 := crc_lt _ fun x hx => by
  simp only [List.mem_append] at hx
  rcases hx with hx | hx | hx
  · exact be4_lt _ x hx
  · exact be2_lt _ x hx
  · exact h x hx

set_option maxRecDepth 100000 in
set_option maxHeartbeats 2000000 in
theorem lsum_any (w : World) (last : Nat) (v : Value) (r : List Nat) (hl : last < 4294967296) (hr : SlB w w.heap.size v r) (hn : r.length ≤ 2000) (h8 : ∀ x ∈ r, x < 256) :
    Calls Try.prog 77 #[.int .u32 last, v] w fun e w' => e = .returned (.int .u32 (rsum last r : Nat)) ∧ Below w.heap.size w w' := by
  obtain ⟨A, n, c, rfl, hrl, hnc, hA, hrd⟩ := hr
  rw [hrl] at hn
  have Hrl := Lib.hid hrl
  have H8 := Lib.hid h8
  have HA := Lib.hid hA
  clear hrl h8 hA
  go_enter Try.func77, Try.ntmps77
  go_wp2_with fail
  refine (four_any _ last hl).mono ?_
  rintro e w1 ⟨v1, rfl, hown1, hb1⟩
  obtain ⟨A1, c1, rfl, hc1, _, hr1⟩ := own_rd hown1
  have hrd1 := hrd.below hb1
  have hz1 := hb1.size
  go_wp2_with fail
  have hb2 : ∀ X Y, Below w1.heap.size w1 ((w1.alloc X).alloc Y) := fun X Y => ((Below.refl _ _).alloc (Nat.le_refl _) _).alloc (by simp) _
  have hlen : (be2 n).length = 2 := rfl
  refine (concat_bytes _ _ 3 3 [.slice A1 4 c1, .slice (some ⟨w1.heap.size, 0, none⟩) 2 2, .slice A n c] [be4 last, be2 n, r] rfl (by omega) ?_ ?_ ?_).mono ?_
  · have := Rd.lit (w1.alloc (.cells #[.int .u8 ((n : Int) / 256), .int .u8 ((n : Int) % 256)] 5)) 33 [.slice A1 4 c1, .slice (some ⟨w1.heap.size, 0, none⟩) 2 2, .slice A n c] 1 3 rfl
    simpa using this
  · refine SlsB.cons ?_ (SlsB.cons ?_ (SlsB.cons ?_ (SlsB.nil _ _)))
    · exact ⟨A1, 4, c1, rfl, rfl, hc1, fun h => (own_none hown1 h).2, (hr1.below (hb2 _ _)).more (by simp; omega)⟩
    · refine ⟨_, 2, 2, rfl, rfl, Nat.le_refl _, (fun h => by cases h), ?_⟩
      have h2 := Rd.lit w1 5 [.int .u8 ((n : Int) / 256), .int .u8 ((n : Int) % 256)] 1 2 rfl
      have h3 := (h2.alloc (by simp) (.cells #[.slice A1 4 c1, .slice (some ⟨w1.heap.size, 0, none⟩) 2 2, .slice A n c] 33)).more (B' := w1.heap.size + 1 + 1) (by omega)
      have e : (be2 n).map bv = [.int .u8 ((n : Int) / 256), .int .u8 ((n : Int) % 256)] := by simp [be2, bv]; omega
      rw [e]
      simpa using h3
    · exact ⟨A, n, c, rfl, Hrl.out, hnc, HA.out, (hrd1.below ((hb2 _ _).mono hz1)).more (by simp; omega)⟩
  · simp [Hrl.out, be4, be2]; omega
  · rintro e w3 ⟨v3, rfl, hown3, hb3⟩
    have hl3 : ([be4 last, be2 n, r].flatten).length ≤ 140737488355328 := by simp [Hrl.out, be4, be2]; omega
    obtain ⟨L, hL⟩ : ∃ L, ([be4 last, be2 n, r].flatten).length = L := ⟨_, rfl⟩
    rw [hL] at hown3 hl3
    obtain ⟨A3, c3, rfl, hc3, _, hr3⟩ := own_rd hown3
    have h83 : ∀ x ∈ [be4 last, be2 n, r].flatten, x < 256 := by
      intro x hx
      simp only [List.mem_flatten, List.mem_cons, List.not_mem_nil, or_false] at hx
      obtain ⟨l, hl | hl | hl, hx⟩ := hx
      · subst hl; exact be4_lt _ x hx
      · subst hl; exact be2_lt _ x hx
      · subst hl; exact H8.out x hx
    have he : crc [be4 last, be2 n, r].flatten = rsum last r := by unfold rsum; rw [Hrl.out]; simp
    have hbw := hb1.trans (((hb2 _ _).mono hz1).trans (hb3.mono (by simp; omega)))
    have HS := Lib.hid (sum_any w3 A3 L c3 _ _ hL hl3 hr3 h83)
    have He := Lib.hid he
    have HB := Lib.hid hbw
    clear hL hl3 h83 he hbw hown3 hb3 hr3 hrd1 hrd hown1 hr1 hb1 hb2
    go_wp2_with fail
    refine HS.out.mono ?_
    rintro e w' ⟨rfl, rfl⟩
    rw [He.out]
    go_wp2
    go_ret
    exact ⟨rfl, HB.out⟩
end Go.Proofs.Ytaahpjjffggaiaa
