/- arm.IsName, arm.Check. Conditions: those typed. -/
import Derived.Test.YtnnbnecpcppkdaaDoorLinkC
namespace Go.Proofs.YtnnbnecpcppkdaaDoor
open Go.RowKit Go.Gy
set_option linter.unusedVariables false
def LetterP (s : ByteArray) (i : Nat) : Prop := ∀ h : i < s.size, 97 ≤ s[i].toNat ∧ s[i].toNat ≤ 122
def NameP (s : ByteArray) : Prop := (∀ i, LetterP s i) ∧ 1 ≤ s.size ∧ s.size ≤ 12
def NamePost (s : ByteArray) (w : World) (e : Ending) (w' : World) : Prop := ∃ b : Bool, e = .returned (.bool b) ∧ (b = true ↔ NameP s) ∧ w = w'
set_option maxRecDepth 100000 in
set_option maxHeartbeats 1000000 in
theorem isname_any (w : World) (s : ByteArray) (hs : s.size ≤ 140737488355328) :
    Calls Tryd.prog 84 #[.string s] w (NamePost s w) := by
  have HF := Lib.hid (show ∀ k, k < s.size → ¬ (97 ≤ s[k]!.toNat ∧ s[k]!.toNat ≤ 122) → ¬ NameP s from fun k hk h hn => h (by
    have := hn.1 k hk
    rwa [getElem!_pos s k hk]))
  have HZ := Lib.hid (show (∀ j, j < s.size → LetterP s j) → (NameP s ↔ (1 ≤ s.size ∧ s.size ≤ 12)) from fun h => ⟨fun h2 => h2.2, fun h2 => ⟨fun i hi => h i hi hi, h2⟩⟩)
  go_enter Tryd.func84, Tryd.ntmps84
  go_wp2
  go_loop [6] (fun i => ∃ k : Nat, k ≤ s.size ∧ i = .int .i64 k ∧ Hid (∀ j, j < k → LetterP s j)) (fun i => s.size - (intOf i).toNat)
  case atStart => exact ⟨0, Nat.zero_le _, rfl, Lib.hid (fun j hj => absurd hj (Nat.not_lt_zero j))⟩
  case round =>
    obtain ⟨k, hk, rfl, Hm⟩ := hrel
    by_cases hlt : k < s.size
    · have HFk := Lib.hid (HF.out k hlt)
      rw [getElem!_pos s k hlt] at HFk
      by_cases h1 : s[k].toNat < 97
      · have g1 : (s[k].toNat : Int) < 97 := by omega
        have HP := Lib.hid (HFk.out (by omega))
        clear HFk
        go_wp2
        go_ret
        exact ⟨false, rfl, ⟨fun h => Bool.noConfusion h, fun h => absurd h HP.out⟩, rfl⟩
      · have g1 : ¬ (s[k].toNat : Int) < 97 := by omega
        by_cases h2 : s[k].toNat > 122
        · have g2 : (s[k].toNat : Int) > 122 := by omega
          have HP := Lib.hid (HFk.out (by omega))
          clear HFk
          go_wp2
          go_ret
          exact ⟨false, rfl, ⟨fun h => Bool.noConfusion h, fun h => absurd h HP.out⟩, rfl⟩
        · have g2 : ¬ (s[k].toNat : Int) > 122 := by omega
          have HN := Lib.hid (show ∀ j, j < k + 1 → LetterP s j from fun j hj hjs => by
            rcases Nat.lt_or_ge j k with h | h
            · exact Hm.out j h hjs
            · obtain rfl : j = k := by omega
              exact ⟨by omega, by omega⟩)
          clear HFk
          go_wp2
          go_round
          case rel => exact ⟨k + 1, by omega, by go_num, HN⟩
          case measure => simp [intOf]; omega
    · obtain rfl : k = s.size := by omega
      have HN := Lib.hid (HZ.out Hm.out)
      by_cases h1 : 1 ≤ s.size
      · have g1 : (s.size : Int) ≥ 1 := by omega
        by_cases h2 : s.size ≤ 12
        · have g2 : (s.size : Int) ≤ 12 := by omega
          go_wp2
          go_ret
          exact ⟨true, rfl, ⟨fun _ => HN.out.mpr ⟨h1, h2⟩, fun _ => rfl⟩, rfl⟩
        · have g2 : ¬ (s.size : Int) ≤ 12 := by omega
          go_wp2
          go_ret
          exact ⟨false, rfl, ⟨fun h => Bool.noConfusion h, fun h => absurd (HN.out.mp h).2 h2⟩, rfl⟩
      · have g1 : ¬ (s.size : Int) ≥ 1 := by omega
        go_wp2
        go_ret
        exact ⟨false, rfl, ⟨fun h => Bool.noConfusion h, fun h => absurd (HN.out.mp h).1 h1⟩, rfl⟩
def BaseGood (a : Ar) : Prop := AllSmall [a.p.x, a.p.y, a.t] ∧ ¬ (a.half = true ∧ a.t.q ≠ 0)
def LinksE : List (Lk × List P2) → Int → Prop
  | [], e => e = 0
  | x :: L, e => ∃ c, LinkE x.1 x.2 c ∧ ((c ≠ 0 ∧ e = c) ∨ (c = 0 ∧ LinksE L e))
theorem LinksE.uniq : ∀ {L : List (Lk × List P2)} {e e' : Int}, LinksE L e → LinksE L e' → e = e'
  | [], _, _, h, h' => Eq.trans h (Eq.symm h')
  | x :: L, _, _, ⟨c, h1, h2⟩, ⟨c', g1, g2⟩ => by
    obtain rfl := h1.uniq g1
    rcases h2 with ⟨a, b⟩ | ⟨a, b⟩
    · rcases g2 with ⟨a', b'⟩ | ⟨a', b'⟩
      · omega
      · omega
    · rcases g2 with ⟨a', b'⟩ | ⟨a', b'⟩
      · omega
      · exact b.uniq b'
theorem LinksE.total : ∀ L : List (Lk × List P2), ∃ e, LinksE L e
  | [] => ⟨0, rfl⟩
  | x :: L => by
    obtain ⟨c, hc⟩ := LinkE.total x.1 x.2
    by_cases h : c = 0
    · obtain ⟨e, he⟩ := LinksE.total L
      exact ⟨e, c, hc, .inr ⟨h, he⟩⟩
    · exact ⟨c, c, hc, .inl ⟨h, rfl⟩⟩
theorem LinksE.zero : ∀ {L : List (Lk × List P2)} {e : Int}, LinksE L e → e = 0 → ∀ x ∈ L, LinkE x.1 x.2 0
  | [], _, _, _ => fun x hx => by cases hx
  | y :: L, e, ⟨c, h1, h2⟩, he => fun x hx => by
    rcases h2 with ⟨a, b⟩ | ⟨a, b⟩
    · omega
    · subst a
      rcases List.mem_cons.1 hx with rfl | hx
      · exact h1
      · exact LinksE.zero b he x hx
theorem LinksE.ok : ∀ {L : List (Lk × List P2)}, (∀ x ∈ L, LinkE x.1 x.2 0) → LinksE L 0
  | [], _ => rfl
  | y :: L, h => ⟨0, h y List.mem_cons_self, .inr ⟨rfl, LinksE.ok fun x hx => h x (List.mem_cons_of_mem _ hx)⟩⟩
theorem LinksE.step {L : List (Lk × List P2)} {i : Nat} {x : Lk × List P2} (hx : L[i]? = some x) (hc : LinkE x.1 x.2 0) {e : Int} (h : LinksE (L.drop (i + 1)) e) : LinksE (L.drop i) e := by
  have hi := (List.getElem?_eq_some_iff.1 hx).1
  rw [List.drop_eq_getElem_cons hi, (List.getElem?_eq_some_iff.1 hx).2]
  exact ⟨0, hc, .inr ⟨rfl, h⟩⟩
theorem LinksE.stop {L : List (Lk × List P2)} {i : Nat} {x : Lk × List P2} (hx : L[i]? = some x) {e : Int} (hc : LinkE x.1 x.2 e) (he : e ≠ 0) : LinksE (L.drop i) e := by
  have hi := (List.getElem?_eq_some_iff.1 hx).1
  rw [List.drop_eq_getElem_cons hi, (List.getElem?_eq_some_iff.1 hx).2]
  exact ⟨e, hc, .inl ⟨he, rfl⟩⟩
/-- what arm.Check says of an arm -/
def ArmE (a : Ar) (e : Int) : Prop :=
  (¬ NameP a.name ∧ e = 3) ∨ (NameP a.name ∧ a.L.length > 3 ∧ e = 2) ∨ (NameP a.name ∧ a.L.length ≤ 3 ∧ (a.L.length = 0 ∨ ¬ BaseGood a) ∧ e = 1) ∨
  (NameP a.name ∧ a.L.length ≤ 3 ∧ a.L.length ≠ 0 ∧ BaseGood a ∧ LinksE a.L e)
theorem ArmE.uniq {a : Ar} {e e' : Int} (h : ArmE a e) (h' : ArmE a e') : e = e' := by
  rcases h with ⟨h1, h2⟩ | ⟨h1, h2, h3⟩ | ⟨h1, h2, h3, h4⟩ | ⟨h1, h2, h3, h4, h5⟩
  all_goals
    rcases h' with ⟨g1, g2⟩ | ⟨g1, g2, g3⟩ | ⟨g1, g2, g3, g4⟩ | ⟨g1, g2, g3, g4, g5⟩
    all_goals first | omega | (exact absurd ‹NameP a.name› ‹¬ NameP a.name›) | (exact h5.uniq g5) | (rcases h3 with h3 | h3; exact absurd h3 g3; exact absurd g4 h3) | (rcases g3 with g3 | g3; exact absurd g3 h3; exact absurd h4 g3)
theorem ArmE.total (a : Ar) : ∃ e, ArmE a e := by
  by_cases h1 : NameP a.name
  · by_cases h2 : a.L.length > 3
    · exact ⟨2, .inr (.inl ⟨h1, h2, rfl⟩)⟩
    · by_cases h3 : a.L.length = 0 ∨ ¬ BaseGood a
      · exact ⟨1, .inr (.inr (.inl ⟨h1, by omega, h3, rfl⟩))⟩
      · obtain ⟨e, he⟩ := LinksE.total a.L
        exact ⟨e, .inr (.inr (.inr ⟨h1, by omega, fun h => h3 (.inl h), Classical.byContradiction fun h => h3 (.inr h), he⟩))⟩
  · exact ⟨3, .inl ⟨h1, rfl⟩⟩
/-- an arm that arm.Check takes -/
theorem ArmE.zero {a : Ar} {e : Int} (h : ArmE a e) (he : e = 0) : 1 ≤ a.L.length ∧ a.L.length ≤ 3 ∧ ∀ x ∈ a.L, LinkGood x.1 := by
  rcases h with ⟨h1, h2⟩ | ⟨h1, h2, h3⟩ | ⟨h1, h2, h3, h4⟩ | ⟨h1, h2, h3, h4, h5⟩
  · omega
  · omega
  · omega
  · exact ⟨by omega, h2, fun x hx => ((h5.zero he x hx).zero rfl).1⟩
end Go.Proofs.YtnnbnecpcppkdaaDoor
