/- fall.Check, fall.Right, fall.Same. Conditions: those typed. -/
import Derived.Test.YtaahpjjffggaiaaMsgCheck
import Derived.Test.YtaahpjjffggaiaaCellSl
namespace Go.Proofs.Ytaahpjjffggaiaa
open Go.RowKit Go.Gy
set_option linter.unusedVariables false
structure GEv where
  kind : Int
  n : Int
  cells : List Cell
structure GMem where
  goal : Int
  ticks : Int
  asked : List Cell
  has : List Cell
  falls : Int
abbrev evV (e : GEv) (A : Option Addr) (n c : Nat) : Value := .agg #[.int .i64 e.kind, .int .i64 e.n, .slice A n c]
abbrev memV (m : GMem) (A : Option Addr) (n c : Nat) (A' : Option Addr) (n' c' : Nat) : Value := .agg #[.int .i64 m.goal, .int .i64 m.ticks, .slice A n c, .slice A' n' c', .int .i64 m.falls]
theorem SlC.parts {w : World} {B n c : Nat} {A : Option Addr} {l : List Cell} (h : SlC w B (.slice A n c) l) : l.length = n ∧ n ≤ c ∧ (A = none → c = 0) ∧ Rd w B 2 A n (l.flatMap encC) := by
  obtain ⟨A', n', c', he, h1, h2, h3, h4⟩ := h
  injection he with e1 e2 e3
  subst e1 e2 e3
  exact ⟨h1, h2, h3, h4⟩
def checkF (e : GEv) : Nat :=
  if e.kind < 1 ∨ 6 < e.kind then 1 else
  if (e.kind = 1 ∧ (e.n < 0 ∨ 2147483647 < e.n)) ∨ (e.kind ≠ 1 ∧ e.n ≠ 0) then 2 else
  if e.kind ≠ 3 ∧ e.kind ≠ 5 ∧ e.cells ≠ [] then 3 else cellsF e.cells
def rightF (m : GMem) : Nat :=
  if m.goal < 0 ∨ m.ticks < 0 ∨ m.falls < 0 then 1 else if cellsF m.asked ≠ 0 then cellsF m.asked else cellsF m.has
def sameF (a b : GMem) : Bool := decide (a.goal = b.goal ∧ a.ticks = b.ticks ∧ a.falls = b.falls ∧ a.asked = b.asked ∧ a.has = b.has)
def IntPost (n : Nat) (w : World) (e : Ending) (w' : World) : Prop := e = .returned (.int .i64 ((n : Nat) : Int)) ∧ Below w.heap.size w w'
def BoolPost (b : Bool) (w : World) (e : Ending) (w' : World) : Prop := e = .returned (.bool b) ∧ Below w.heap.size w w'
set_option maxRecDepth 100000 in
set_option maxHeartbeats 2000000 in
theorem fcheck_any (w : World) (e : GEv) (A : Option Addr) (n c : Nat) (hm : SlC w w.heap.size (.slice A n c) e.cells) :
    Calls Try.prog 24 #[evV e A n c] w (IntPost (checkF e) w) := by
  obtain ⟨k, v, l⟩ := e
  have hb : ∀ X, Below w.heap.size w (w.alloc X) := fun X => (Below.refl _ _).alloc (Nat.le_refl _) _
  have Hb := Lib.hid hb
  obtain ⟨hm', _, _, hrd⟩ := hm.parts
  have Hm := Lib.hid (fun X => grid_any (w.alloc X) A n c l hm' ((hrd.below (hb X)).more (by simp)))
  clear hb hm hrd
  obtain ⟨r, hr⟩ : ∃ r, r = checkF ⟨k, v, l⟩ := ⟨_, rfl⟩
  rw [← hr]
  have hf := hr
  clear hr
  unfold checkF at hf
  simp only at hf
  by_cases h1 : k < 1 ∨ 6 < k
  · rw [if_pos h1] at hf
    subst hf
    have hc : k < 1 ∨ (1 ≤ k ∧ 6 < k) := by omega
    clear h1 hm'
    rcases hc with h | ⟨h, h'⟩
    all_goals
      go_enter Try.func24, Try.ntmps24
      go_wp2
      go_ret
      exact ⟨rfl, Hb.out _⟩
  · rw [if_neg h1] at hf
    have k1 : 1 ≤ k := by omega
    have k2 : k ≤ 6 := by omega
    clear h1
    by_cases h2 : (k = 1 ∧ (v < 0 ∨ 2147483647 < v)) ∨ (k ≠ 1 ∧ v ≠ 0)
    · rw [if_pos h2] at hf
      subst hf
      have hc : (k = 1 ∧ v < 0) ∨ (k = 1 ∧ 0 ≤ v ∧ 2147483647 < v) ∨ ((k == 1) = false ∧ (k != 1) = true ∧ (v == 0) = false ∧ (v != 0) = true) := by
        simp only [beq_eq_false_iff_ne, bne_iff_ne]; omega
      clear h2 hm'
      rcases hc with ⟨rfl, h⟩ | ⟨rfl, h, h'⟩ | ⟨h, h', h'', h'''⟩
      all_goals
        go_enter Try.func24, Try.ntmps24
        go_wp2
        go_ret
        exact ⟨rfl, Hb.out _⟩
    · rw [if_neg h2] at hf
      have hc : (k = 1 ∧ 0 ≤ v ∧ v ≤ 2147483647) ∨ ((k == 1) = false ∧ v = 0 ∧ k = 3) ∨ ((k == 1) = false ∧ v = 0 ∧ k = 5) ∨ ((k == 1) = false ∧ v = 0 ∧ (k == 3) = false ∧ (k == 5) = false) := by
        simp only [beq_eq_false_iff_ne]; omega
      clear h2
      by_cases h3 : k ≠ 3 ∧ k ≠ 5 ∧ l ≠ []
      · rw [if_pos h3] at hf
        subst hf
        have hn : (0 : Int) < (n : Int) := by
          rcases Nat.eq_zero_or_pos n with h0 | h0
          · exact absurd (List.eq_nil_of_length_eq_zero (hm'.trans h0)) h3.2.2
          · omega
        have hq3 : (k == 3) = false := by simpa using h3.1
        have hq5 : (k == 5) = false := by simpa using h3.2.1
        obtain ⟨g3, g5, _⟩ := h3
        clear hm'
        rcases hc with ⟨rfl, h, h'⟩ | ⟨h, rfl, h'⟩ | ⟨h, rfl, h'⟩ | ⟨h, rfl, _, _⟩
        · clear g3 g5
          go_enter Try.func24, Try.ntmps24
          go_wp2
          go_ret
          exact ⟨rfl, Hb.out _⟩
        · exact absurd h' g3
        · exact absurd h' g5
        · have g1 : (k != 1) = true := by simpa using h
          have g3' : (k != 3) = true := by simpa using g3
          have g5' : (k != 5) = true := by simpa using g5
          clear g3 g5
          go_enter Try.func24, Try.ntmps24
          go_wp2
          go_ret
          exact ⟨rfl, Hb.out _⟩
      · rw [if_neg h3] at hf
        have h4 : k = 3 ∨ k = 5 ∨ n = 0 := by
          rcases Nat.eq_zero_or_pos n with h0 | h0
          · exact .inr (.inr h0)
          · have : l ≠ [] := fun h => by subst h; simp at hm'; omega
            by_cases e3 : k = 3
            · exact .inl e3
            · by_cases e5 : k = 5
              · exact .inr (.inl e5)
              · exact absurd ⟨e3, e5, this⟩ h3
        subst hf
        clear h3 hm'
        have hc2 : (k = 1 ∧ 0 ≤ v ∧ v ≤ 2147483647 ∧ n = 0) ∨ (v = 0 ∧ k = 3) ∨ (v = 0 ∧ k = 5) ∨ (((k == 1) = false ∧ (k == 3) = false ∧ (k == 5) = false) ∧ ((k != 1) = true ∧ (k != 3) = true ∧ (k != 5) = true) ∧ v = 0 ∧ n = 0) := by
          simp only [beq_eq_false_iff_ne, bne_iff_ne] at hc ⊢; omega
        clear hc h4
        rcases hc2 with ⟨rfl, h, h', rfl⟩ | ⟨rfl, rfl⟩ | ⟨rfl, rfl⟩ | ⟨⟨h, h', h''⟩, ⟨f, f', f''⟩, rfl, rfl⟩
        all_goals
          go_enter Try.func24, Try.ntmps24
          go_wp2_with fail
          refine (Hm.out _).mono ?_
          rintro e w' ⟨rfl, hb⟩
          go_wp2
          go_ret
          exact ⟨rfl, (Hb.out _).trans (hb.mono (by simp))⟩
set_option maxRecDepth 100000 in
set_option maxHeartbeats 2000000 in
theorem right_any (w : World) (m : GMem) (A : Option Addr) (n c : Nat) (A' : Option Addr) (n' c' : Nat) (ha : SlC w w.heap.size (.slice A n c) m.asked) (hh : SlC w w.heap.size (.slice A' n' c') m.has) :
    Calls Try.prog 29 #[memV m A n c A' n' c'] w (IntPost (rightF m) w) := by
  obtain ⟨g, t, l, l', f⟩ := m
  have hb : ∀ X, Below w.heap.size w (w.alloc X) := fun X => (Below.refl _ _).alloc (Nat.le_refl _) _
  have Hb := Lib.hid hb
  obtain ⟨hm, _, _, hrd⟩ := ha.parts
  have Hm := Lib.hid (fun X => grid_any (w.alloc X) A n c l hm ((hrd.below (hb X)).more (by simp)))
  obtain ⟨r, hr⟩ : ∃ r, r = rightF ⟨g, t, l, l', f⟩ := ⟨_, rfl⟩
  rw [← hr]
  have hf := hr
  clear hr
  unfold rightF at hf
  simp only at hf
  have Hhh := Lib.hid hh
  clear ha hh hm hrd hb
  by_cases h1 : g < 0 ∨ t < 0 ∨ f < 0
  · rw [if_pos h1] at hf
    subst hf
    go_enter Try.func29, Try.ntmps29
    go_wp2_with fail
    all_goals
      go_ret
      exact ⟨rfl, Hb.out _⟩
  · rw [if_neg h1] at hf
    have hord : (t < g ∧ f < t ∧ 0 ≤ f) ∨ (t < g ∧ t ≤ f ∧ 0 ≤ t) ∨ (g ≤ t ∧ f < g ∧ 0 ≤ f) ∨ (g ≤ t ∧ g ≤ f ∧ 0 ≤ g) := by omega
    clear h1
    by_cases h2 : cellsF l ≠ 0
    · rw [if_pos h2] at hf
      have hne : (((cellsF l : Nat) : Int) != 0) = true := by simp; omega
      rw [← hf] at hne Hm
      clear hf h2
      rcases hord with ⟨o1, o2, o3⟩ | ⟨o1, o2, o3⟩ | ⟨o1, o2, o3⟩ | ⟨o1, o2, o3⟩
      all_goals
        go_enter Try.func29, Try.ntmps29
        go_wp2_with fail
        refine (Hm.out _).mono ?_
        rintro e w1 ⟨rfl, hb1⟩
        go_wp2
        go_ret
        exact ⟨rfl, (Hb.out _).trans (hb1.mono (by simp))⟩
    · rw [if_neg h2] at hf
      have h0 : cellsF l = 0 := by omega
      rw [h0] at Hm
      rw [hf]
      clear hf h2 h0
      have hk : ∀ X, Blk (w.alloc (.cells X 46)) w.heap.size 46 X := fun X => Blk.new _ _ _
      have Hk := Lib.hid hk
      clear hk
      rcases hord with ⟨o1, o2, o3⟩ | ⟨o1, o2, o3⟩ | ⟨o1, o2, o3⟩ | ⟨o1, o2, o3⟩
      all_goals
        go_enter Try.func29, Try.ntmps29
        go_wp2_with fail
        refine (Hm.out _).mono ?_
        rintro e w1 ⟨rfl, hb1⟩
        have hk3 := ((Hk.out _).below hb1 (by simp)).cell 3 _ rfl
        obtain ⟨hm2, _, _, hrd2⟩ := Hhh.out.parts
        have hbw1 := (Hb.out _).trans (hb1.mono (by simp))
        have Hm2 := Lib.hid (grid_any w1 A' n' c' l' hm2 ((hrd2.below hbw1).more hbw1.size))
        have Hbw1 := Lib.hid hbw1
        clear hm2 hrd2 hbw1 hb1
        go_wp2_with fail
        refine Hm2.out.mono ?_
        rintro e w2 ⟨rfl, hb2⟩
        go_wp2
        go_ret
        exact ⟨rfl, Hbw1.out.trans (hb2.mono Hbw1.out.size)⟩
set_option maxRecDepth 100000 in
set_option maxHeartbeats 4000000 in
theorem fsame_any (w : World) (a b : GMem) (A : Option Addr) (n c : Nat) (A' : Option Addr) (n' c' : Nat) (D : Option Addr) (p d : Nat) (D' : Option Addr) (p' d' : Nat)
    (ha : SlC w w.heap.size (.slice A n c) a.asked) (ha' : SlC w w.heap.size (.slice A' n' c') a.has) (hb : SlC w w.heap.size (.slice D p d) b.asked) (hb' : SlC w w.heap.size (.slice D' p' d') b.has)
    (hn : n ≤ 8796093022207) (hn' : n' ≤ 8796093022207) (hp : p ≤ 8796093022207) (hp' : p' ≤ 8796093022207) :
    Calls Try.prog 26 #[memV a A n c A' n' c', memV b D p d D' p' d'] w (BoolPost (sameF a b) w) := by
  obtain ⟨g, t, l, l', f⟩ := a
  obtain ⟨g2, t2, k, k', f2⟩ := b
  have hbel : ∀ X Y, Below w.heap.size w ((w.alloc X).alloc Y) := fun X Y => ((Below.refl _ _).alloc (Nat.le_refl _) _).alloc (by simp) _
  obtain ⟨h1, _, _, h2⟩ := ha.parts
  obtain ⟨h3, _, _, h4⟩ := ha'.parts
  obtain ⟨h5, _, _, h6⟩ := hb.parts
  obtain ⟨h7, _, _, h8⟩ := hb'.parts
  have Hc := Lib.hid (fun X Y => equal_cells ((w.alloc X).alloc Y) A D n p c d _ l k h1 h5 (by omega) (by omega) (h2.below (hbel X Y)) (h6.below (hbel X Y)))
  have Hd := Lib.hid (fun X Y j => equal_cells (((w.alloc X).alloc Y).drewN j) A' D' n' p' c' d' _ l' k' h3 h7 (by omega) (by omega) ((h4.below (hbel X Y)).drewN j) ((h8.below (hbel X Y)).drewN j))
  have Hb := Lib.hid hbel
  clear ha ha' hb hb' h1 h2 h3 h4 h5 h6 h7 h8 hbel
  obtain ⟨r, hr⟩ : ∃ r, r = sameF ⟨g, t, l, l', f⟩ ⟨g2, t2, k, k', f2⟩ := ⟨_, rfl⟩
  rw [← hr]
  have Hr := Lib.hid hr
  clear hr
  by_cases e1 : g = g2
  · subst e1
    by_cases e2 : t = t2
    · subst e2
      by_cases e3 : f = f2
      · subst e3
        obtain ⟨q, hq⟩ : ∃ q, q = decide (l = k) := ⟨_, rfl⟩
        rw [← hq] at Hc
        obtain ⟨q', hq'⟩ : ∃ q', q' = decide (l' = k') := ⟨_, rfl⟩
        rw [← hq'] at Hd
        have hR : r = (q && q') := by rw [Hr.out, hq, hq']; simp [sameF]
        have HR := Lib.hid hR
        clear hq hq' hR Hr
        cases q
        · go_enter Try.func26, Try.ntmps26
          go_wp2_with fail
          refine (Hc.out _ _).mono ?_
          rintro e w' ⟨rfl, nq, rfl⟩
          go_wp2
          go_ret
          exact ⟨ret_bool (by rw [HR.out]; rfl), below_drewN (Hb.out _ _) nq⟩
        · go_enter Try.func26, Try.ntmps26
          go_wp2_with fail
          refine (Hc.out _ _).mono ?_
          rintro e w' ⟨rfl, nq, rfl⟩
          go_wp2_with fail
          refine (Hd.out _ _ _).mono ?_
          rintro e w' ⟨rfl, nq', rfl⟩
          go_wp2
          go_ret
          exact ⟨ret_bool (by rw [HR.out]; rfl), below_drewN (Hb.out _ _) (nq + nq')⟩
      · have hn : (f == f2) = false := by simpa using e3
        have HR := Lib.hid (show r = false by rw [Hr.out]; simp [sameF, e3])
        clear e3 Hr
        go_enter Try.func26, Try.ntmps26
        go_wp2
        go_ret
        exact ⟨ret_bool HR.out.symm, Hb.out _ _⟩
    · have hn : (t == t2) = false := by simpa using e2
      have HR := Lib.hid (show r = false by rw [Hr.out]; simp [sameF, e2])
      clear e2 Hr
      go_enter Try.func26, Try.ntmps26
      go_wp2
      go_ret
      exact ⟨ret_bool HR.out.symm, Hb.out _ _⟩
  · have hn : (g == g2) = false := by simpa using e1
    have HR := Lib.hid (show r = false by rw [Hr.out]; simp [sameF, e1])
    clear e1 Hr
    go_enter Try.func26, Try.ntmps26
    go_wp2
    go_ret
    exact ⟨ret_bool HR.out.symm, Hb.out _ _⟩
end Go.Proofs.Ytaahpjjffggaiaa
