/- Worlds that are alike but for some blocks; rows of keys whose cells change; (*ctl.Ctl).Track. Conditions: those typed. -/
import Derived.Test.YtnnbnecpcppkdaaDoorCtlS
namespace Go.Proofs.YtnnbnecpcppkdaaDoor
open Go.RowKit Go.Gy
set_option linter.unusedVariables false
set_option linter.unusedSimpArgs false
/-- what w has is as it was, but for the blocks from lo on below hi -/
structure Aside (lo hi : Nat) (w w' : World) : Prop where
  os : w'.os = w.os
  tape : w'.tape = w.tape
  output : w'.output = w.output
  size : w.heap.size ≤ w'.heap.size
  block : ∀ k, k < w.heap.size → (k < lo ∨ hi ≤ k) → w'.heap[k]? = w.heap[k]?
theorem Aside.refl (lo hi : Nat) (w : World) : Aside lo hi w w := ⟨rfl, rfl, rfl, Nat.le_refl _, fun _ _ _ => rfl⟩
theorem Aside.of_below {lo hi : Nat} {w w' : World} (h : Below w.heap.size w w') : Aside lo hi w w' := ⟨h.os, h.tape, h.output, h.size, fun k hk _ => h.block k hk⟩
theorem Aside.trans {lo hi : Nat} {a b c : World} (h : Aside lo hi a b) (k : Aside lo hi b c) : Aside lo hi a c :=
  ⟨k.os.trans h.os, k.tape.trans h.tape, k.output.trans h.output, Nat.le_trans h.size k.size, fun i hi ho => (k.block i (Nat.lt_of_lt_of_le hi h.size) ho).trans (h.block i hi ho)⟩
theorem Aside.call {lo hi : Nat} {a b c : World} (h : Aside lo hi a b) (k : Below b.heap.size b c) : Aside lo hi a c := h.trans (.of_below k)
theorem Aside.set {lo hi : Nat} {a b : World} (h : Aside lo hi a b) {g : Nat} (h1 : lo ≤ g) (h2 : g < hi) (i : Nat) (u : Value) : Aside lo hi a (b.setCell ⟨g, i, none⟩ u) := by
  have hg := grown_set b g i u
  exact h.trans ⟨hg.os, hg.tape, hg.output, hg.size, fun k hk ho => hg.block k hk (fun e => by have := Option.some.inj e; omega)⟩
theorem Aside.below {lo hi : Nat} {a b : World} (h : Aside lo hi a b) (hl : lo ≤ a.heap.size) : Below lo a b := ⟨h.os, h.tape, h.output, h.size, fun k hk => h.block k (by omega) (.inl hk)⟩
theorem Aside.blk {lo hi : Nat} {a b : World} (h : Aside lo hi a b) {g : Nat} {t : TypeId} {cs : Array Value} (hk : Blk a g t cs) (ho : g < lo ∨ hi ≤ g) : Blk b g t cs := (h.block g hk.lt ho).trans hk
theorem Aside.own {lo hi : Nat} {a b : World} (h : Aside lo hi a b) {base n size : Nat} {e : TypeId} {v : Value} {xs : List Value} (hw : a.ownsRow base e size v n xs) (hb : hi ≤ base) : b.ownsRow base e size v n xs := by
  refine ⟨hw.1, ?_⟩
  rcases hw.2 with hn | ⟨g, cap, cur, rfl, hg, hh, rest⟩
  · exact .inl hn
  · refine .inr ⟨g, cap, cur, rfl, hg, ?_, rest⟩
    rw [h.block g (Array.getElem?_eq_some_iff.1 hh).1 (.inr (by omega))]
    exact hh
theorem Aside.cell {lo hi : Nat} {a b : World} (h : Aside lo hi a b) {g i : Nat} {u : Value} (hc : a.cell? ⟨g, i, none⟩ = some u) (hl : g < a.heap.size) (ho : g < lo ∨ hi ≤ g) : b.cell? ⟨g, i, none⟩ = some u := by
  have h5 := h.block g hl ho
  unfold World.cell? at hc ⊢
  simp only at hc ⊢
  rw [h5]
  exact hc
/-- the block of a slice is none of those that change -/
def OutOf (hi : Nat) (A : Option Addr) : Prop := ∀ x, A = some x → hi ≤ x.block
theorem Aside.rd {lo hi : Nat} {a b : World} (h : Aside lo hi a b) {B size n : Nat} {A : Option Addr} {xs : List Value} (hr : Rd a B size A n xs) (hB : B ≤ a.heap.size) (ho : OutOf hi A) : Rd b B size A n xs := by
  refine ⟨hr.1, fun hn => ?_⟩
  obtain ⟨g, o, rfl, hb, hc⟩ := hr.2 hn
  exact ⟨g, o, rfl, hb, fun j u hu => h.cell (hc j u hu) (by omega) (.inr (ho _ rfl))⟩
theorem Aside.slQ {lo hi : Nat} {a b : World} (h : Aside lo hi a b) {A : Option Addr} {n c : Nat} {l : List Q3} (hs : SlQ a a.heap.size (.slice A n c) l) (ho : OutOf hi A) : SlQ b b.heap.size (.slice A n c) l := by
  obtain ⟨A', n', c', he, h1, h2, h3, h4⟩ := hs
  cases he
  exact ⟨A, n, c, rfl, h1, h2, h3, (h.rd h4 (Nat.le_refl _) ho).more h.size⟩
theorem Aside.kown {lo hi base : Nat} {a b : World} (h : Aside lo hi a b) {v : Value} {K : List Ky} (hk : KOwn base a v K) (hb : hi ≤ base) : KOwn base b v K := ⟨h.own hk.1 hb, fun k hm => h.own (hk.2 k hm) hb⟩
theorem out_own {w : World} {base n size : Nat} {e : TypeId} {A : Option Addr} {m c hi : Nat} {xs : List Value} (h : w.ownsRow base e size (.slice A m c) n xs) (hb : hi ≤ base) : OutOf hi A := fun x hx => by
  have := (h.lt x.block (by rw [hx]; rfl)).1
  omega
theorem Aside.ctl {lo hi : Nat} {a b : World} (h : Aside lo hi a b) {p : Nat} {ar : Ar} {vt : Value} (hC : CtlAt a p ar vt) (hp : hi ≤ p)
    (hv : ∀ A n c, ar.v = .slice A n c → OutOf hi A) (hs : ∀ y ∈ ar.L, ∀ A n c, y.1.shape = .slice A n c → OutOf hi A) : CtlAt b p ar vt := by
  have hl := Nat.le_of_lt hC.lt
  refine ⟨h.blk hC.1 (.inr hp), ?_, fun y hy => ?_⟩
  · obtain ⟨A, n, c, he, h1, h2, h3, h4⟩ := hC.2.1
    exact ⟨A, n, c, he, h1, h2, h3, h.rd h4 hl (hv _ _ _ he)⟩
  · obtain ⟨A, n, c, he, h1, h2, h3, h4⟩ := hC.2.2 y hy
    exact ⟨A, n, c, he, h1, h2, h3, h.rd h4 hl (hs y hy _ _ _ he)⟩
/-- the cells of keys may change; where their numbers lie stays -/
def Head (lo : Nat) (W : World) (v : Value) (K : List Ky) : Prop := ∃ ys, W.ownsRow lo 89 2 v K.length ys ∧ ∀ (i : Nat) (k : Ky), K[i]? = some k → (∃ t : Int, ys[i * 2]? = some (.int .i64 t)) ∧ ys[i * 2 + 1]? = some k.2.1
def KRows (lo : Nat) (W : World) (K : List Ky) : Prop := ∀ k ∈ K, ∃ xs, W.ownsRow lo 25 3 k.2.1 k.2.2.length xs
theorem flatKy_get : ∀ (K : List Ky) (i : Nat) (k : Ky), K[i]? = some k → (K.flatMap encKy)[i * 2]? = some (.int .i64 k.1) ∧ (K.flatMap encKy)[i * 2 + 1]? = some k.2.1
  | [], i, k, h => by simp at h
  | x :: K, 0, k, h => by
    have : x = k := by simpa using h
    subst this
    simp [encKy]
  | x :: K, i + 1, k, h => by
    have ih := flatKy_get K i k (by simpa using h)
    rw [List.flatMap_cons, show (i + 1) * 2 = i * 2 + 1 + 1 by omega, show i * 2 + 1 + 1 + 1 = i * 2 + 1 + 1 + 1 from rfl]
    simpa [encKy] using ih
theorem KOwn.head {lo : Nat} {W : World} {v : Value} {K : List Ky} (h : KOwn lo W v K) : Head lo W v K := ⟨_, h.1, fun i k hk => ⟨⟨_, (flatKy_get K i k hk).1⟩, (flatKy_get K i k hk).2⟩⟩
theorem KOwn.krows {lo : Nat} {W : World} {v : Value} {K : List Ky} (h : KOwn lo W v K) : KRows lo W K := fun k hk => ⟨_, h.2 k hk⟩
theorem Head.call {lo : Nat} {W W' : World} {v : Value} {K : List Ky} (h : Head lo W v K) (hb : Below W.heap.size W W') : Head lo W' v K := by
  obtain ⟨ys, h1, h2⟩ := h
  exact ⟨ys, own_below h1 hb (Nat.le_refl _), h2⟩
theorem KRows.call {lo : Nat} {W W' : World} {K : List Ky} (h : KRows lo W K) (hb : Below W.heap.size W W') : KRows lo W' K := fun k hk => by
  obtain ⟨xs, h1⟩ := h k hk
  exact ⟨xs, own_below h1 hb (Nat.le_refl _)⟩
theorem own_any {W : World} {lo n size : Nat} {e : TypeId} {v : Value} {xs : List Value} (h : W.ownsRow lo e size v n xs) (g j : Nat) (u : Value) : ∃ xs', (W.setCell ⟨g, j, none⟩ u).ownsRow lo e size v n xs' := by
  by_cases hv : v.ownBlock = some g
  · have h' := h
    obtain ⟨_, ⟨rfl, _⟩ | ⟨g', cap, cur, rfl, _⟩⟩ := h'
    · cases hv
    · obtain rfl : g' = g := Option.some.inj hv
      exact ⟨_, (h.stored j u).1⟩
  · exact ⟨xs, h.kept (grown_set W g j u) (.inr hv)⟩
theorem KRows.set {lo : Nat} {W : World} {K : List Ky} (h : KRows lo W K) (g j : Nat) (u : Value) : KRows lo (W.setCell ⟨g, j, none⟩ u) K := fun k hk => by
  obtain ⟨xs, h1⟩ := h k hk
  exact own_any h1 g j u
theorem KRows.get {lo : Nat} {W : World} {K : List Ky} (h : KRows lo W K) {k : Ky} (hk : k ∈ K) (h0 : 0 < k.2.2.length) : ∃ g c, k.2.1 = .slice (some ⟨g, 0, none⟩) k.2.2.length c ∧ lo ≤ g ∧ g < W.heap.size := by
  obtain ⟨xs, h1⟩ := h k hk
  obtain ⟨g, c, h2, _, h3, h4⟩ := own_shape h1 h0
  exact ⟨g, c, h2, h3, h4⟩
/-- cell j of a row of numbers: it is there, and may be written -/
theorem KRows.cell {lo : Nat} {W : World} {K : List Ky} (h : KRows lo W K) {k : Ky} (hk : k ∈ K) {g c : Nat} (hv : k.2.1 = .slice (some ⟨g, 0, none⟩) k.2.2.length c) : ∀ j, W.frozen? ⟨g, j, none⟩ = false ∧ (j < k.2.2.length * 3 → ∃ u, W.cell? ⟨g, j, none⟩ = some u) := fun j => by
  obtain ⟨xs, h1⟩ := h k hk
  rw [hv] at h1
  refine ⟨h1.frozenAt j, fun hj => ?_⟩
  obtain ⟨u, hu⟩ : ∃ u, xs[j]? = some u := ⟨_, List.getElem?_eq_getElem (by rw [h1.1]; exact hj)⟩
  have := h1.cells rfl j u hu
  rw [add_none, Nat.zero_add] at this
  exact ⟨u, this⟩
theorem Head.far {lo : Nat} {W : World} {v : Value} {K : List Ky} (h : Head lo W v K) {g : Nat} (hg : v.ownBlock ≠ some g) (j : Nat) (u : Value) : Head lo (W.setCell ⟨g, j, none⟩ u) v K := by
  obtain ⟨ys, h1, h2⟩ := h
  exact ⟨ys, h1.kept (grown_set W g j u) (.inr hg), h2⟩
theorem Head.tick {lo : Nat} {W : World} {g n c : Nat} {K : List Ky} (h : Head lo W (.slice (some ⟨g, 0, none⟩) n c) K) (hn : n = K.length) (i : Nat) (t : Int) : Head lo (W.setCell ⟨g, i * 2, none⟩ (.int .i64 t)) (.slice (some ⟨g, 0, none⟩) n c) K := by
  obtain ⟨ys, h1, h2⟩ := h
  subst hn
  refine ⟨_, (h1.stored (i * 2) (.int .i64 t)).1, fun j k hk => ?_⟩
  obtain ⟨⟨s, h3⟩, h4⟩ := h2 j k hk
  refine ⟨?_, ?_⟩
  · rw [List.getElem?_set]
    by_cases e : i * 2 = j * 2
    · rw [if_pos e, if_pos (by rw [e]; exact (List.getElem?_eq_some_iff.1 h3).1)]
      exact ⟨t, rfl⟩
    · rw [if_neg e]; exact ⟨s, h3⟩
  · rw [List.getElem?_set, if_neg (by omega)]; exact h4
theorem Head.cells {lo : Nat} {W : World} {g n c : Nat} {K : List Ky} (h : Head lo W (.slice (some ⟨g, 0, none⟩) n c) K) {i : Nat} {k : Ky} (hk : K[i]? = some k) : (∃ t : Int, W.cell? ⟨g, i * 2, none⟩ = some (.int .i64 t)) ∧ W.cell? ⟨g, i * 2 + 1, none⟩ = some k.2.1 ∧ ∀ j, W.frozen? ⟨g, j, none⟩ = false := by
  obtain ⟨ys, h1, h2⟩ := h
  obtain ⟨⟨t, h3⟩, h4⟩ := h2 i k hk
  have e1 := h1.cells rfl _ _ h3
  have e2 := h1.cells rfl _ _ h4
  rw [add_none, Nat.zero_add] at e1 e2
  obtain ⟨hl, hr⟩ := h1
  have h1' : W.ownsRow lo 89 2 (.slice (some ⟨g, 0, none⟩) n c) n ys := by
    refine ⟨?_, ?_⟩
    · rcases hr with ⟨he, _⟩ | ⟨g', cap, cur, he, _⟩
      · cases he
      · injection he with _ hn _
        rw [hn]; exact hl
    · rcases hr with ⟨he, _⟩ | ⟨g', cap, cur, he, r⟩
      · cases he
      · have hn : n = K.length := by injection he
        subst hn
        exact .inr ⟨g', cap, cur, he, r⟩
  exact ⟨⟨t, e1⟩, e2, fun j => h1'.frozenAt j⟩
theorem Head.lt {lo : Nat} {W : World} {g n c : Nat} {K : List Ky} (h : Head lo W (.slice (some ⟨g, 0, none⟩) n c) K) (hn : 0 < K.length) : g < W.heap.size := by
  obtain ⟨ys, h1, _⟩ := h
  exact (h1.lt g rfl).2
/-- no row of numbers is the row of keys -/
theorem Head.ne {lo lo' : Nat} {W : World} {v v' : Value} {n : Nat} {K : List Ky} {xs : List Value} {g : Nat} (h : Head lo W v K) (h' : W.ownsRow lo' 25 3 v' n xs) (hg : v'.ownBlock = some g) : v.ownBlock ≠ some g := fun e => by
  obtain ⟨ys, h1, _⟩ := h
  obtain ⟨_, ⟨rfl, _⟩ | ⟨g', cap, cur, rfl, _, hh, _⟩⟩ := h'
  · cases hg
  · obtain rfl : g' = g := Option.some.inj hg
    exact absurd (own_type h1 e hh) (by decide)
theorem track_ctl (w : World) (p : Nat) (a : Ar) (vt : Value) (K : List Ky) (hC : CtlAt w p a vt) (hv : SlK w w.heap.size vt K) (hn : K.length ≤ 1048576) (hq : ∀ k ∈ K, k.2.2.length ≤ 1048576) :
    Calls Tryd.prog 54 #[.pointer (some ⟨p, 0, none⟩)] w (CcPost w K) := by
  have HCP := Lib.hid (ccopied_any w vt K hv hn hq)
  obtain ⟨At, nt, ct, rfl, _⟩ := id hv
  have c12 := hC.cell (i := 12) rfl
  have hpl : p < w.heap.size := hC.lt
  clear hC hv
  go_enter Tryd.func54, Tryd.ntmps54
  go_wp2_with fail
  refine HCP.out.mono ?_
  rintro e w1 ⟨v', K', rfl, h1, h2, h3⟩
  clear c12
  go_wp2
  go_ret
  exact ⟨v', K', rfl, h1, h2, h3⟩
end Go.Proofs.YtnnbnecpcppkdaaDoor
