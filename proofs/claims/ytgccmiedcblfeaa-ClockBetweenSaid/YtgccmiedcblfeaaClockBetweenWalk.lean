/- ClockBetween's walk: it returns true. Conditions: the reach of the slice. -/
import Derived.Test.YtgccmiedcblfeaaLatest
namespace Go.Proofs.Ytgccmiedcblfeaa.clockBetween
open Go.RowKit Go.Gy
set_option linter.unusedVariables false

/-- What the law's loop has found of the first k numbers. -/
def Found (xs : List Int) (k : Nat) (b m : Int) : Prop :=
  (k = 0 ∧ b = -1 ∧ m = -1) ∨ ∃ i : Nat, i < k ∧ b = i ∧ xs[i]? = some m ∧ (∀ j y, j < k → xs[j]? = some y → y ≤ m) ∧ ∀ j y, j < i → xs[j]? = some y → y < m
theorem Found.lo {xs : List Int} {k : Nat} {b m : Int} (h : Found xs k b m) (h0 : ∀ y ∈ xs, 0 ≤ y ∧ y < 1073741824) : -1 ≤ m ∧ m < 1073741824 ∧ -1 ≤ b ∧ b < k + 1 := by
  rcases h with ⟨rfl, rfl, rfl⟩ | ⟨i, h1, rfl, h2, _⟩
  · omega
  · have := h0 m (List.mem_of_getElem? h2); omega
theorem Found.more {xs : List Int} {k : Nat} {b m x : Int} (h : Found xs k b m) (hx : xs[k]? = some x) (hm : m < x) : Found xs (k + 1) k x := by
  refine .inr ⟨k, by omega, rfl, hx, fun j y hj hy => ?_, fun j y hj hy => ?_⟩
  · by_cases e : j = k
    · subst e; rw [hx] at hy; injection hy with hy; omega
    · rcases h with ⟨rfl, _, _⟩ | ⟨i, _, _, _, h3, _⟩
      · omega
      · have := h3 j y (by omega) hy; omega
  · rcases h with ⟨rfl, _, _⟩ | ⟨i, _, _, _, h3, _⟩
    · omega
    · have := h3 j y (by omega) hy; omega
theorem Found.same {xs : List Int} {k : Nat} {b m x : Int} (h : Found xs k b m) (hx : xs[k]? = some x) (h0 : 0 ≤ x) (hm : x ≤ m) : Found xs (k + 1) b m := by
  rcases h with ⟨rfl, _, rfl⟩ | ⟨i, h1, h2, h3, h4, h5⟩
  · omega
  · refine .inr ⟨i, by omega, h2, h3, fun j y hj hy => ?_, h5⟩
    by_cases e : j = k
    · subst e; rw [hx] at hy; injection hy with hy; omega
    · exact h4 j y (by omega) hy
def later (a x : Int) : Int := (a + x) % 4294967296
theorem diff_later (a x y : Int) (hx : 0 ≤ x ∧ x < 1073741824) (hy : 0 ≤ y ∧ y < 1073741824) : diff (later a y) (later a x) = y - x := by unfold diff later; omega
theorem Found.latest {xs : List Int} {b m : Int} (a : Int) (h : Found xs xs.length b m) (h0 : ∀ y ∈ xs, 0 ≤ y ∧ y < 1073741824) : latest (xs.map (later a)) = b := by
  rcases h with ⟨hl, rfl, _⟩ | ⟨i, h1, rfl, h3, h4, h5⟩
  · have : xs = [] := List.eq_nil_of_length_eq_zero hl
    subst this; rfl
  · have hf : (xs.map (later a)).findIdx? (okAt (xs.map (later a))) = some i := by
      rw [List.findIdx?_eq_some_iff_getElem]
      have hm := h0 m (List.mem_of_getElem? h3)
      have hxi : xs[i] = m := by rw [List.getElem?_eq_getElem h1] at h3; injection h3
      refine ⟨by simpa using h1, ?_, fun j hj => ?_⟩
      · simp only [okAt, List.all_eq_true, List.mem_map, List.getElem_map, decide_eq_true_eq]
        rintro _ ⟨y, hy, rfl⟩
        obtain ⟨q, hq, rfl⟩ := List.getElem_of_mem hy
        rw [hxi, diff_later a m _ hm (h0 _ hy)]
        have := h4 q _ hq (List.getElem?_eq_getElem hq); omega
      · have hjl : j < xs.length := by omega
        simp only [okAt, Bool.not_eq_true, List.all_eq_false, List.mem_map, List.getElem_map, decide_eq_true_eq]
        refine ⟨_, ⟨m, List.mem_of_getElem? h3, rfl⟩, ?_⟩
        rw [diff_later a _ _ (h0 _ (List.getElem_mem hjl)) hm]
        have := h5 j _ hj (List.getElem?_eq_getElem hjl); omega
    simp [Go.Proofs.Ytgccmiedcblfeaa.latest, hf]

theorem push_eq (xs : List Int) (k : Nat) (x : Int) (a0 : Int) (h : xs[k]? = some x) : ((xs.map (later a0)).take (k + 1)).map (Value.int .u32) = ((xs.map (later a0)).take k).map (Value.int .u32) ++ [.int .u32 ((a0 + x) % 4294967296)] := by
  rw [List.take_add_one, List.map_append, List.getElem?_map, h]; rfl
theorem info22 : (Try.prog.info? 22).map (fun i => (i.zero, i.size, i.bytes)) = some (some (.int .u32 0), 1, 4) := by kernel_rfl

theorem mid0 : ((10 : Int) + (diff 20 10).tdiv 2) % 4294967296 = 15 := by decide
set_option maxHeartbeats 1000000 in
theorem walk (a0 a1 : Int) (v2 : Value) (w : World) (w0 : (Lit.int .u32 a0).wf = true) (w1 : (Lit.int .i64 a1).wf = true) {b2 : Nat} (f2 : SlArg (encI .i64) (wfI .i64) 1 8 w v2 b2) :
    Calls Try.prog 4 #[.int .u32 a0, .int .i64 a1, v2] w fun e w' => e = .returned (.bool true) ∧ Below w.heap.size w w' := by
  obtain ⟨A, n, c, l, rfl, hl, hnc, hcm, hre, _, _, hr, _⟩ := f2
  rw [flat_int] at hr
  have hn : n ≤ 17592186044415 := by simp only [reachBytes] at hre; omega
  have hx : 0 ≤ a0 ∧ a0 < 4294967296 := wf_u32 w0
  obtain ⟨hx1, hx2⟩ := hx
  obtain ⟨d, hd⟩ : ∃ n, a1 % 2147483648 = n := ⟨_, rfl⟩
  have d0 : 0 ≤ d := by omega
  have d1 : d < 2147483648 := by omega
  have e1 : diff ((a0 + d) % 4294967296) a0 = d := by unfold diff; omega
  have e2 : d.tdiv 2 = d / 2 := Int.tdiv_eq_ediv_of_nonneg d0
  have e3 : (diff ((a0 + (d / 2)) % 4294967296) a0 != d / 2) = false := by
    have : diff ((a0 + (d / 2)) % 4294967296) a0 = d / 2 := by unfold diff; omega
    simp [this]
  obtain ⟨xs, hxs⟩ : ∃ xs, xs = l.map (· % 1073741824) := ⟨_, rfl⟩
  have hxl : xs.length = n := by rw [hxs, List.length_map, hl]
  have hx0 : ∀ y ∈ xs, 0 ≤ y ∧ y < 1073741824 := by
    intro y hy; rw [hxs] at hy
    obtain ⟨z, _, rfl⟩ := List.mem_map.1 hy
    omega
  obtain ⟨i0, hi, hz0, hz1, hz2⟩ := info_parts info22
  have Hd := Lib.hid hd
  have E1 := Lib.hid e1
  have E2 := Lib.hid e2
  have Hxs := Lib.hid hxs
  have Hxl := Lib.hid hxl
  have Hx0 := Lib.hid hx0
  have Hl := Lib.hid hl
  clear hd e1 e2 hxs hxl hx0 hl w0 w1
  go_enter Try.func4, Try.ntmps4
  go_wp2_with (first
    | (go_at_call 7; refine (counts_any _).mono ?_; rintro e w' ⟨rfl, rfl⟩)
    | (go_at_call 8; refine (below_any _ _ _ (by omega) (by omega)).mono ?_; rintro e w' ⟨rfl, rfl⟩; rw [Hd.out])
    | (go_at_call 9; refine (after_any _ _ _).mono ?_; rintro e w' ⟨rfl, rfl⟩)
    | (go_at_call 11; refine (middle_any _ _ _).mono ?_; rintro e w' ⟨rfl, rfl⟩; first | rw [mid0] | rw [E1.out, E2.out])
    | (go_at_call 10; refine (diff_any _ _ _).mono ?_; rintro e w' ⟨rfl, rfl⟩))
  go_loopw [8, 9, 10, 34] (fun v b m i wr => ∃ (k : Nat) (bi mi : Int), k ≤ n ∧ i = .int .i64 k ∧ b = .int .i64 bi ∧ m = .int .i64 mi ∧ Found xs k bi mi ∧
      wr.ownsRow w.heap.size 22 1 v k (((xs.map (later a0)).take k).map (Value.int .u32)) ∧ Below w.heap.size w wr) (fun _ _ _ i _ => n - (intOf i).toNat)
  case atStart => exact ⟨0, -1, -1, Nat.zero_le _, rfl, rfl, rfl, .inl ⟨rfl, rfl, rfl⟩, World.ownsRow_nil _ _ _ _, Below.refl _ _⟩
  case round =>
    obtain ⟨k, bi, mi, hk, rfl, rfl, rfl, hf, hown, hb⟩ := hrel
    obtain ⟨m1, m2, b1, b2⟩ := hf.lo Hx0.out
    have Hf := Lib.hid hf
    clear hf
    by_cases hlt : k < n
    · obtain ⟨g, o, u, rfl, hg, hu, hc⟩ := (hr.below hb).at_ hlt
      obtain ⟨z, hz, rfl⟩ : ∃ a, l[k]? = some a ∧ u = .int .i64 a := by
        rw [List.getElem?_map] at hu
        cases h : l[k]? with
        | none => simp [h] at hu
        | some a => exact ⟨a, rfl, by simpa [h] using hu.symm⟩
      obtain ⟨x, hx⟩ : ∃ x, z % 1073741824 = x := ⟨_, rfl⟩
      have x0 : 0 ≤ x := by omega
      have x1 : x < 1073741824 := by omega
      have hxk : xs[k]? = some x := by rw [Hxs.out, List.getElem?_map, hz, ← hx]; rfl
      have Hx := Lib.hid hx
      have Hxk := Lib.hid hxk
      have Hz := Lib.hid hz
      clear hu hx hxk hz
      have hsz := hb.size
      go_wp2_with (first
        | (go_at_call 8; refine (below_any _ _ _ (by omega) (by omega)).mono ?_; rintro e w' ⟨rfl, rfl⟩; rw [Hx.out])
        | (go_at_call 9; refine (after_any _ _ _).mono ?_; rintro e w' ⟨rfl, rfl⟩)
        | (at_builtin; refine wpList_push rfl (.tmp 41) (.tmp 45) 30 rfl w.heap.size 22 i0 (.int .u32 0) 1 4 Try.underlying30 hi hz0 hz1 hz2 rfl (by decide) _ _ _ rfl hown [.int .u32 ((a0 + x) % 4294967296)] rfl rfl (by simp [Value.oneCell']) (by unfold maxLen; omega) (by omega) hsz ?_; intro v' w1 hown1 hb1 hsh; obtain ⟨g1, c1, rfl, _, _⟩ := hsh))
      all_goals
        go_roundw
        case rel =>
          first
            | exact ⟨k + 1, _, _, by omega, by go_num, rfl, rfl, Hf.out.more Hxk.out (by assumption), by rw [push_eq xs k x a0 Hxk.out]; exact hown1, hb.trans hb1⟩
            | exact ⟨k + 1, _, _, by omega, by go_num, rfl, rfl, Hf.out.same Hxk.out (by omega) (by omega), by rw [push_eq xs k x a0 Hxk.out]; exact hown1, hb.trans hb1⟩
        case measure => simp [intOf]; omega
    · obtain rfl : k = n := by omega
      have hown' : wr.ownsRow w.heap.size 22 1 u8 k ((xs.map (later a0)).map (Value.int .u32)) := by
        rw [List.take_of_length_le (by rw [List.length_map, Hxl.out]; omega)] at hown
        exact hown
      obtain ⟨A', c', rfl, _, _, hr'⟩ := own_rd hown'
      have Hlat := Lib.hid (Found.latest a0 (by rw [Hxl.out]; exact Hf.out) Hx0.out)
      clear hown'
      go_wp2_with (go_at_call 12; refine (latest_any _ _ _ _ (xs.map (later a0)) _ (by rw [List.length_map, Hxl.out]) (by omega) hr').mono ?_; rintro e w' ⟨rfl, rfl⟩; rw [Hlat.out])
      go_ret
      exact ⟨ret_bool (by simp), hb⟩
end Go.Proofs.Ytgccmiedcblfeaa.clockBetween
