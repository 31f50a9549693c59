/- The small graphs that the ring laws begin with; what a found ring is; slices.Min. Conditions: those typed. -/
import Derived.Test.YtgmjeanoohmdlaaGraph
namespace Go.Proofs.Ytgmjeanoohmdlaa
open Go.RowKit Go.Gy
set_option linter.unusedVariables false
theorem Chain.edges {rs : List (List Int)} {a c i : Nat} {l : List Nat} (h : Chain rs a c i l) : ∀ (j x y : Nat), (i :: l)[j]? = some x → (i :: l)[j + 1]? = some y → Ed rs x y := by
  induction h with
  | last _ => intro j x y _ h2; simp at h2
  | @step c i k l h1 h2 h3 h4 h5 ih =>
    intro j x y hx hy
    cases j with
    | zero =>
      simp at hx hy
      subst hx hy
      exact h3
    | succ j => exact ih j x y (by simpa using hx) (by simpa using hy)
theorem Chain.end_ {rs : List (List Int)} {a c i : Nat} {l : List Nat} (h : Chain rs a c i l) : ∃ z, (i :: l)[l.length]? = some z ∧ Ed rs z a := by
  induction h with
  | @last i hw =>
    refine ⟨i, rfl, ?_⟩
    generalize hq : 1 = q at hw
    cases hw with
    | one h => exact h
    | more _ h => have := h.pos; omega
  | @step c i k l h1 h2 h3 h4 h5 ih =>
    obtain ⟨z, hz, he⟩ := ih
    exact ⟨z, by simpa using hz, he⟩
theorem stuckI_sorted (p : Nat → Bool) (n : Nat) : (stuckI p n).Pairwise (· < ·) := by
  unfold stuckI
  rw [List.pairwise_map]
  exact (List.Pairwise.filter p (List.pairwise_lt_range (n := n))).imp fun h => by omega
theorem nodup_take {l : List Nat} (h : l.Nodup) {k x : Nat} (hx : l[k]? = some x) : x ∉ l.take k := by
  intro hm
  obtain ⟨j, hj⟩ := List.getElem?_of_mem hm
  rw [List.getElem?_take] at hj
  split at hj
  · rename_i hjk
    have h1 := (List.getElem?_eq_some_iff.1 hj)
    have h2 := (List.getElem?_eq_some_iff.1 hx)
    obtain ⟨a1, b1⟩ := h1
    obtain ⟨a2, b2⟩ := h2
    exact (List.pairwise_iff_getElem.1 (List.nodup_iff_pairwise_ne.1 h)) j k a1 a2 hjk (by rw [b1, b2])
  · cases hj
theorem mem_cast {l : List Nat} {x : Nat} : (x : Int) ∈ l.map (fun (k : Nat) => (k : Int)) ↔ x ∈ l := by
  rw [List.mem_map]
  constructor
  · rintro ⟨y, hy, he⟩
    have : y = x := by omega
    subst this; exact hy
  · exact fun h => ⟨x, h, rfl⟩
theorem Ed.mem {rs : List (List Int)} {i k : Nat} {r : List Int} (h : Ed rs i k) (hr : rs[i]? = some r) : (k : Int) ∈ r := by
  obtain ⟨r', h1, h2⟩ := h
  rw [hr] at h1
  injection h1 with h1
  subst h1; exact h2
theorem reach_dec (rs : List (List Int)) : ∃ p : Nat → Bool, ∀ i, p i = true ↔ Reach rs i i := by
  refine ⟨fun i => @decide (Reach rs i i) (Classical.propDecidable _), fun i => ?_⟩
  exact @decide_eq_true_iff _ (Classical.propDecidable _)
/-! [][]int{{0}} -/
theorem ed0 {i k : Nat} : Ed [[0]] i k ↔ i = 0 ∧ k = 0 := by
  constructor
  · rintro ⟨r, h1, h2⟩
    cases i with
    | zero => simp at h1; subst h1; simp at h2; exact ⟨rfl, by omega⟩
    | succ i => simp at h1
  · rintro ⟨rfl, rfl⟩; exact ⟨[0], rfl, by simp⟩
theorem reach0 (i : Nat) : decide (i = 0) = true ↔ Reach [[0]] i i := by
  rw [decide_eq_true_eq]
  constructor
  · rintro rfl; exact .one (ed0.2 ⟨rfl, rfl⟩)
  · intro h
    cases h with
    | one h => exact (ed0.1 h).1
    | more _ h => exact (ed0.1 h).2
theorem good0 : GoodG [[0]] := ⟨by simp, by intro r hr x hx; simp at hr; subst hr; simp at hx; subst hx; simp, by simp⟩
set_option maxRecDepth 100000 in
theorem find0 (w : World) (v : Value) (hv : RowsI w w.heap.size v [[0]]) : Calls Try.prog 6 #[v] w (OwnIE w [0]) :=
  find_some w v [[0]] hv good0 (fun i => decide (i = 0)) reach0 0 [] rfl 1 (Nat.le_refl _) (by simp) (.one (ed0.2 ⟨rfl, rfl⟩)) (fun d' hd hw => by have := hw.pos; omega)
/-- rows written out: one row -/
theorem rows_one (w : World) (l : List Int) (n : Nat) (hn : l.length = n) : RowsI ((w.alloc (.cells (l.map iv).toArray 3)).alloc (.cells #[.slice (some ⟨w.heap.size, 0, none⟩) n n] 22)) (w.heap.size + 2) (.slice (some ⟨w.heap.size + 1, 0, none⟩) 1 1) [l] := by
  have h1 := Rd.lit w 3 (l.map iv) 1 n (by simp [hn])
  have h2 := Rd.lit (w.alloc (.cells (l.map iv).toArray 3)) 22 [.slice (some ⟨w.heap.size, 0, none⟩) n n] 1 1 rfl
  rw [World.size_alloc] at h2
  refine ⟨_, 1, 1, [.slice (some ⟨w.heap.size, 0, none⟩) n n], rfl, rfl, Nat.le_refl _, (fun h => by cases h), h2, rfl, fun i v r hv hr => ?_⟩
  cases i with
  | zero =>
    simp at hv hr
    subst hv hr
    exact ⟨_, n, n, rfl, hn, Nat.le_refl _, (fun h => by cases h), (h1.alloc (by rw [World.size_alloc]; exact Nat.le_refl _) _).more (by omega)⟩
  | succ i => simp at hv
set_option maxRecDepth 100000 in
set_option maxHeartbeats 1000000 in
theorem min_any (w : World) (v : Value) (B : Nat) (l : List Int) (m : Int) (hv : SlI w B v l) (hn : l.length ≤ 140737488355328) (hm : m ∈ l) (hle : ∀ x ∈ l, m ≤ x) :
    Calls Try.prog 11 #[v] w fun e w' => e = .returned (.int .i64 m) ∧ w = w' := by
  obtain ⟨A, n, c, rfl, hl, _, _, hr⟩ := hv
  rw [hl] at hn
  have hn0 : 0 < n := by rw [← hl]; exact List.length_pos_of_mem hm
  obtain ⟨b, o, x0, rfl, hb, hx0, hc0⟩ := hr.one hn0
  rw [Nat.add_zero] at hc0
  have hn1 : ¬ (n : Int) < 1 := by omega
  have Hl := Lib.hid hl
  have Hm := Lib.hid hm
  have Hle := Lib.hid hle
  have Hx0 := Lib.hid hx0
  clear hl hm hle hx0
  go_enter Try.func11, Try.ntmps11
  go_wp2_with fail
  go_loop [3, 4] (fun y i => ∃ (k : Nat) (z : Int), 1 ≤ k ∧ k ≤ n ∧ i = .int .i64 (k : Int) ∧ y = .int .i64 z ∧ Hid (m ≤ z ∧ ∀ x ∈ l.take k, z ≤ x)) (fun _ i => n - (intOf i).toNat)
  case atStart =>
    refine ⟨1, x0, by omega, by omega, rfl, rfl, Lib.hid ⟨Hle.out x0 (List.mem_of_getElem? Hx0.out), fun x hx => ?_⟩⟩
    rw [List.take_add_one, Hx0.out] at hx
    simp at hx
    omega
  case round =>
    obtain ⟨k, z, hk1, hk, rfl, rfl, hz⟩ := hrel
    by_cases hkn : k < n
    · have hkn' : (k : Int) < (n : Int) := by omega
      obtain ⟨b', o', x, he, _, hx, hcx⟩ := hr.one hkn
      injection he with he
      injection he with he1 he2
      subst he1 he2
      have Hx := Lib.hid hx
      clear hx
      by_cases hxz : x < z
      · go_wp2_with (refine wpList_min2 rfl (.tmp 18) (.tmp 22) _ rfl z x rfl rfl x (by omega) ?_)
        go_round
        case rel => exact ⟨k + 1, x, by omega, by omega, by go_num, rfl, Lib.hid ⟨Hle.out x (List.mem_of_getElem? Hx.out), fun q hq => by
          rw [List.take_add_one, Hx.out] at hq
          rcases List.mem_append.1 hq with h | h
          · have := hz.out.2 q h; omega
          · simp at h; omega⟩⟩
        case measure => simp [intOf]; omega
      · go_wp2_with (refine wpList_min2 rfl (.tmp 18) (.tmp 22) _ rfl z x rfl rfl z (by omega) ?_)
        go_round
        case rel => exact ⟨k + 1, z, by omega, by omega, by go_num, rfl, Lib.hid ⟨hz.out.1, fun q hq => by
          rw [List.take_add_one, Hx.out] at hq
          rcases List.mem_append.1 hq with h | h
          · exact hz.out.2 q h
          · simp at h; omega⟩⟩
        case measure => simp [intOf]; omega
    · obtain rfl : k = n := by omega
      have hzm := hz.out
      rw [List.take_of_length_le (by rw [Hl.out]; omega)] at hzm
      have h1 := hzm.2 m Hm.out
      obtain rfl : z = m := by omega
      clear hzm h1 hz
      go_wp2_with fail
      go_ret
      exact ⟨rfl, rfl⟩
section
variable {P : Program} {ops : Array Oper} {rest : List Oper} {o : Oper} {a : Act} {w : World} {Q : Exit → Act → World → Prop}
theorem wpList_slice_toG (hw : Region.wanted o (yielded ops a.tmps) = true) (t : TypeId) (s x : Operand) (ho : o.op = .slice t s none (some x) none) (A : Option Addr) (N C k : Nat) (hs : a.eval s = .slice A N C) (hx : a.eval x = .int .i64 (k : Int))
    (hu : P.underlying t = some (.slice (P.elem t))) (hr : ∀ w, (Instr.slice t (.slice A N C) none (some (.int .i64 (k : Int))) none).run P w = .ok (.slice A k C) w)
    (h : wpList P ops Q rest (a.put o.dst (.slice A k C)) w) : wpList P ops Q (o :: rest) a w :=
  wpList_step fun _ hK => by
    rw [if_pos hw]
    unfold Oper.wp execOp
    simp only [ho, hs, hx, Option.map_none, Option.map_some, run_sliceAt_slice w t _ _ _ _ hu, hr, Sem.run_bind, Sem.run_pure, Result.andThen_ok]
    exact hK _ _ h
end
theorem SlI.take {w : World} {B n c k : Nat} {A : Option Addr} {l : List Int} (h : SlI w B (.slice A n c) l) (hk : k ≤ n) : SlI w B (.slice A k c) (l.take k) := by
  obtain ⟨A', n', c', he, h1, h2, h3, h4⟩ := h
  injection he with e1 e2 e3
  subst e1 e2 e3
  refine ⟨A, k, c, rfl, by rw [List.length_take]; omega, by omega, h3, ?_⟩
  have := h4.take hk
  rw [Nat.mul_one, ← List.map_take] at this
  exact this
theorem contains_yes (w : World) (v : Value) (B : Nat) (xs : List Int) (x : Int) (hx : SlI w B v xs) (hb : xs.length ≤ 140737488355328) (h : x ∈ xs) :
    Calls Try.prog 10 #[v, .int .i64 x] w fun e w' => e = .returned (.bool true) ∧ w = w' := by
  have := contains_ints w v B xs x hx hb
  rwa [decide_eq_true h] at this
theorem contains_no (w : World) (v : Value) (B : Nat) (xs : List Int) (x : Int) (hx : SlI w B v xs) (hb : xs.length ≤ 140737488355328) (h : x ∉ xs) :
    Calls Try.prog 10 #[v, .int .i64 x] w fun e w' => e = .returned (.bool false) ∧ w = w' := by
  have := contains_ints w v B xs x hx hb
  rwa [decide_eq_false h] at this
end Go.Proofs.Ytgmjeanoohmdlaa
