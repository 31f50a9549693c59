/- Shortest rings in a graph, as plain data. No condition but those typed. -/
import Derived.Test.YtgmjeanoohmdlaaStuck
namespace Go.Proofs.Ytgmjeanoohmdlaa
set_option linter.unusedVariables false

/-- a way of just so many steps (at least one) from i to a -/
inductive Way (rs : List (List Int)) (a : Nat) : Nat → Nat → Prop
  | one {i : Nat} : Ed rs i a → Way rs a 1 i
  | more {d i k : Nat} : Ed rs i k → Way rs a d k → Way rs a (d + 1) i
theorem Way.pos {rs : List (List Int)} {a d i : Nat} (h : Way rs a d i) : 1 ≤ d := by cases h <;> omega
theorem Way.of_reach {rs : List (List Int)} {a j t : Nat} (h : Reach rs a j) : ∀ d, Way rs t d j → ∃ d', Way rs t d' a := by
  induction h with
  | one h1 => exact fun d hw => ⟨_, .more h1 hw⟩
  | more h1 h2 ih => exact fun d hw => ih _ (.more h2 hw)
theorem Way.of {rs : List (List Int)} {a t : Nat} (h : Reach rs a t) : ∃ d, Way rs t d a := by
  cases h with
  | one h1 => exact ⟨1, .one h1⟩
  | more h1 h2 => exact Way.of_reach h1 _ (.one h2)
theorem Reach.pre {rs : List (List Int)} {i k t : Nat} (he : Ed rs i k) (h : Reach rs k t) : Reach rs i t := by
  induction h with
  | one h1 => exact .more (.one he) h1
  | more _ h2 ih => exact .more ih h2
theorem Way.reach {rs : List (List Int)} {a d i : Nat} (h : Way rs a d i) : Reach rs i a := by
  induction h with
  | one h1 => exact .one h1
  | more h1 _ ih => exact Reach.pre h1 ih
theorem Reach.trans {rs : List (List Int)} {i k t : Nat} (h1 : Reach rs i k) (h2 : Reach rs k t) : Reach rs i t := by
  induction h2 with
  | one h => exact .more h1 h
  | more _ h ih => exact .more ih h

def hit (far : List Int) (a m : Nat) (k : Int) : Bool := (decide (m = 1) && decide (k = (a : Int))) || (decide (1 < m) && decide (far.getD k.toNat 0 = (m : Int) - 1))
def farAt (far : List Int) (a m : Nat) (r : List Int) (x : Int) : Int := if decide (x < 0) && r.any (hit far a m) then (m : Int) else x
def farK (rs : List (List Int)) (a : Nat) : Nat → List Int
  | 0 => List.replicate rs.length (-1)
  | m + 1 => List.zipWith (farAt (farK rs a m) a (m + 1)) rs (farK rs a m)
theorem farK_len (rs : List (List Int)) (a : Nat) : ∀ m, (farK rs a m).length = rs.length
  | 0 => by simp [farK]
  | m + 1 => by simp [farK, farK_len rs a m]
/-- what a node's number says after m rounds -/
def FarOK (rs : List (List Int)) (a m i : Nat) (x : Int) : Prop := (x = -1 ∧ ∀ d, d ≤ m → ¬ Way rs a d i) ∨ ∃ d : Nat, x = (d : Int) ∧ d ≤ m ∧ Way rs a d i ∧ ∀ d', d' < d → ¬ Way rs a d' i
theorem farK_at {rs : List (List Int)} {a : Nat} {i : Nat} {r : List Int} (hr : rs[i]? = some r) : ∀ m, ∃ x, (farK rs a m)[i]? = some x := by
  intro m
  have h1 := (List.getElem?_eq_some_iff.1 hr).1
  exact ⟨_, List.getElem?_eq_getElem (by rw [farK_len]; exact h1)⟩
theorem GoodG.edge {rs : List (List Int)} (hg : GoodG rs) {i k : Nat} (h : Ed rs i k) : k < rs.length := by
  obtain ⟨r, h1, h2⟩ := h
  have := hg.ok r (List.mem_of_getElem? h1) k h2
  omega
theorem getD_of {l : List Int} {i : Nat} {x d : Int} (h : l[i]? = some x) : l.getD i d = x := by rw [List.getD_eq_getElem?_getD, h]; rfl
theorem farK_ok {rs : List (List Int)} (hg : GoodG rs) (a : Nat) : ∀ (m i : Nat) (x : Int), (farK rs a m)[i]? = some x → FarOK rs a m i x := by
  intro m
  induction m with
  | zero =>
    intro i x h
    left
    simp only [farK, List.getElem?_replicate] at h
    split at h
    · injection h with h
      exact ⟨h.symm, fun d hd hw => by have := hw.pos; omega⟩
    · cases h
  | succ m ih =>
    intro i x h
    simp only [farK, List.getElem?_zipWith] at h
    cases hr : rs[i]? with
    | none => rw [hr] at h; cases h
    | some r =>
      obtain ⟨y, hy⟩ := farK_at (a := a) hr m
      rw [hr, hy] at h
      injection h with h
      have hok := ih i y hy
      unfold farAt at h
      have hit_iff : y = -1 → ((r.any (hit (farK rs a m) a (m + 1)) = true) ↔ Way rs a (m + 1) i) := by
        intro hy1
        have hno : ∀ d, d ≤ m → ¬ Way rs a d i := by
          rcases hok with ⟨_, h1⟩ | ⟨d, h1, _⟩
          · exact h1
          · omega
        rw [List.any_eq_true]
        constructor
        · rintro ⟨k, hk, hh⟩
          have hkb := hg.ok r (List.mem_of_getElem? hr) k hk
          have hke : Ed rs i k.toNat := ⟨r, hr, by rw [Int.toNat_of_nonneg hkb.1]; exact hk⟩
          simp only [hit, Bool.or_eq_true, Bool.and_eq_true, decide_eq_true_eq] at hh
          rcases hh with ⟨h1, h2⟩ | ⟨h1, h2⟩
          · have : m = 0 := by omega
            subst this
            have : k.toNat = a := by omega
            rw [this] at hke
            exact .one hke
          · have hkl : k.toNat < rs.length := by omega
            obtain ⟨z, hz⟩ := farK_at (a := a) (List.getElem?_eq_getElem hkl) m
            rw [getD_of hz] at h2
            rcases ih _ _ hz with ⟨h3, _⟩ | ⟨d, h3, h4, h5, _⟩
            · omega
            · have : d = m := by omega
              subst this
              exact .more hke h5
        · intro hw
          generalize hq : m + 1 = q at hw
          cases hw with
          | one h1 =>
            obtain ⟨r', h2, h3⟩ := h1
            rw [hr] at h2
            injection h2 with h2
            subst h2
            exact ⟨a, h3, by simp [hit]⟩
          | @more d _ k h1 h2 =>
            have hd : d = m := by omega
            subst hd
            obtain ⟨r', h3, h4⟩ := id h1
            rw [hr] at h3
            injection h3 with h3
            subst h3
            refine ⟨k, h4, ?_⟩
            have hkl := hg.edge h1
            obtain ⟨z, hz⟩ := farK_at (a := a) (List.getElem?_eq_getElem hkl) d
            have hz1 : z = (d : Int) := by
              rcases ih _ _ hz with ⟨_, h5⟩ | ⟨d', h5, h6, h7, _⟩
              · exact absurd h2 (h5 d (Nat.le_refl _))
              · rcases Nat.lt_or_ge d' d with h8 | h8
                · exact absurd (Way.more h1 h7) (hno _ (by omega))
                · omega
            have := h2.pos
            simp only [hit, Int.toNat_natCast, getD_of hz, hz1, Bool.or_eq_true, Bool.and_eq_true, decide_eq_true_eq]
            right
            omega
      rcases hok with ⟨h1, h2⟩ | ⟨d, h1, h2, h3, h4⟩
      · have hi := hit_iff h1
        by_cases hw : Way rs a (m + 1) i
        · rw [if_pos (by rw [Bool.and_eq_true]; exact ⟨by simp; omega, hi.2 hw⟩)] at h
          exact .inr ⟨m + 1, by omega, Nat.le_refl _, hw, fun d' hd' => h2 d' (by omega)⟩
        · rw [if_neg (by rw [Bool.and_eq_true]; exact fun hh => hw (hi.1 hh.2))] at h
          refine .inl ⟨by omega, fun d hd => ?_⟩
          rcases Nat.lt_or_ge d (m + 1) with h5 | h5
          · exact h2 d (by omega)
          · have : d = m + 1 := by omega
            subst this; exact hw
      · rw [if_neg (by rw [Bool.and_eq_true]; intro hh; have := hh.1; simp at this; omega)] at h
        exact .inr ⟨d, by omega, by omega, h3, h4⟩

def hitD (far : List Int) (c : Nat) (k : Int) : Bool := decide (far.getD k.toNat 0 = (c : Int))
def bestS (P : Int → Bool) (b k : Int) : Int := if P k && (decide (b < 0) || decide (k < b)) then k else b
def bestL (P : Int → Bool) (r : List Int) : Int := r.foldl (bestS P) (-1)
theorem bestL_snoc (P : Int → Bool) (r : List Int) (k : Int) : bestL P (r ++ [k]) = bestS P (bestL P r) k := by simp [bestL, List.foldl_append]
theorem bestL_take (P : Int → Bool) (r : List Int) (h0 : ∀ k ∈ r, 0 ≤ k) : ∀ j, (bestL P (r.take j) = -1 ∧ ∀ k ∈ r.take j, P k = false) ∨ (bestL P (r.take j) ∈ r.take j ∧ P (bestL P (r.take j)) = true ∧ ∀ k ∈ r.take j, P k = true → bestL P (r.take j) ≤ k) := by
  intro j
  induction j with
  | zero => left; simp [bestL]
  | succ j ih =>
    rw [List.take_add_one]
    cases hj : r[j]? with
    | none => simpa using ih
    | some k =>
      simp only [Option.toList_some]
      rw [bestL_snoc]
      have hk0 := h0 k (List.mem_of_getElem? hj)
      have hmem : ∀ b, b ∈ r.take j → 0 ≤ b := fun b hb => h0 b (List.mem_of_mem_take hb)
      unfold bestS
      by_cases hp : P k = true
      · rcases ih with ⟨h1, h2⟩ | ⟨h1, h2, h3⟩
        · rw [h1, if_pos (by simp [hp])]
          right
          refine ⟨by simp, hp, fun q hq hpq => ?_⟩
          rcases List.mem_append.1 hq with hq | hq
          · rw [h2 q hq] at hpq; cases hpq
          · simp at hq; omega
        · have hb0 := hmem _ h1
          by_cases hlt : k < bestL P (r.take j)
          · rw [if_pos (by simp [hp, hlt])]
            right
            refine ⟨by simp, hp, fun q hq hpq => ?_⟩
            rcases List.mem_append.1 hq with hq | hq
            · have := h3 q hq hpq; omega
            · simp at hq; omega
          · rw [if_neg (by simp [hp]; omega)]
            right
            refine ⟨List.mem_append_left _ h1, h2, fun q hq hpq => ?_⟩
            rcases List.mem_append.1 hq with hq | hq
            · exact h3 q hq hpq
            · simp at hq; omega
      · have hpf : P k = false := by simpa using hp
        rw [if_neg (by simp [hpf])]
        rcases ih with ⟨h1, h2⟩ | ⟨h1, h2, h3⟩
        · left
          refine ⟨h1, fun q hq => ?_⟩
          rcases List.mem_append.1 hq with hq | hq
          · exact h2 q hq
          · simp at hq; subst hq; exact hpf
        · right
          refine ⟨List.mem_append_left _ h1, h2, fun q hq hpq => ?_⟩
          rcases List.mem_append.1 hq with hq | hq
          · exact h3 q hq hpq
          · simp at hq; subst hq; rw [hpf] at hpq; cases hpq
theorem bestL_ok (P : Int → Bool) (r : List Int) (h0 : ∀ k ∈ r, 0 ≤ k) : (bestL P r = -1 ∧ ∀ k ∈ r, P k = false) ∨ (bestL P r ∈ r ∧ P (bestL P r) = true ∧ ∀ k ∈ r, P k = true → bestL P r ≤ k) := by
  have := bestL_take P r h0 r.length
  rwa [List.take_length] at this

def wayK (rs : List (List Int)) (far : List Int) : Nat → Int → List Int
  | 0, _ => []
  | c + 1, i => bestL (hitD far (c + 1)) (rs.getD i.toNat []) :: wayK rs far c (bestL (hitD far (c + 1)) (rs.getD i.toNat []))
theorem wayK_len (rs : List (List Int)) (far : List Int) : ∀ c i, (wayK rs far c i).length = c
  | 0, _ => rfl
  | c + 1, i => by simp [wayK, wayK_len rs far c]
/-- the node that a step of the way goes to -/
theorem step_ok {rs : List (List Int)} (hg : GoodG rs) {a d : Nat} {i c : Nat} (hw : Way rs a (c + 2) i) (hmin : ∀ d', d' < c + 2 → ¬ Way rs a d' i) (hcd : c + 2 ≤ d) :
    ∃ k : Nat, bestL (hitD (farK rs a d) (c + 1)) (rs.getD i []) = (k : Int) ∧ k < rs.length ∧ Ed rs i k ∧ Way rs a (c + 1) k ∧ ∀ d', d' < c + 1 → ¬ Way rs a d' k := by
  generalize hq : c + 2 = q at hw
  cases hw with
  | one _ => omega
  | @more e _ k h1 h2 =>
    have he : e = c + 1 := by omega
    subst he
    obtain ⟨r, hr, hk⟩ := id h1
    have hrd : rs.getD i [] = r := by rw [List.getD_eq_getElem?_getD, hr]; rfl
    rw [hrd]
    have hpos : ∀ x ∈ r, 0 ≤ x := fun x hx => (hg.ok r (List.mem_of_getElem? hr) x hx).1
    have hhit : ∀ x ∈ r, hitD (farK rs a d) (c + 1) x = true ↔ Way rs a (c + 1) x.toNat ∧ ∀ d', d' < c + 1 → ¬ Way rs a d' x.toNat := by
      intro x hx
      have hb := hg.ok r (List.mem_of_getElem? hr) x hx
      have hl : x.toNat < rs.length := by omega
      obtain ⟨z, hz⟩ := farK_at (a := a) (List.getElem?_eq_getElem hl) d
      simp only [hitD, getD_of hz, decide_eq_true_eq]
      rcases farK_ok hg a d _ _ hz with ⟨h3, h4⟩ | ⟨e, h3, h4, h5, h6⟩
      · constructor
        · intro h; omega
        · intro h; exact absurd h.1 (h4 _ (by omega))
      · constructor
        · intro h
          have : e = c + 1 := by omega
          subst this; exact ⟨h5, h6⟩
        · rintro ⟨h7, h8⟩
          rcases Nat.lt_trichotomy e (c + 1) with h9 | h9 | h9
          · exact absurd h5 (h8 _ h9)
          · omega
          · exact absurd h7 (h6 _ h9)
    have hkk : hitD (farK rs a d) (c + 1) (k : Int) = true := by
      rw [hhit _ hk]
      rw [Int.toNat_natCast]
      exact ⟨h2, fun d' hd' hw' => hmin (d' + 1) (by omega) (.more h1 hw')⟩
    rcases bestL_ok (hitD (farK rs a d) (c + 1)) r hpos with ⟨_, h3⟩ | ⟨h3, h4, _⟩
    · rw [h3 _ hk] at hkk; cases hkk
    · have hb := hg.ok r (List.mem_of_getElem? hr) _ h3
      have h5 := (hhit _ h3).1 h4
      exact ⟨_, (Int.toNat_of_nonneg hb.1).symm, by omega, ⟨r, hr, by rw [Int.toNat_of_nonneg hb.1]; exact h3⟩, h5.1, h5.2⟩
/-- the way that is found: nodes of the graph, an edge from each to the next, their distances go down by one, the last one has an edge to a -/
inductive Chain (rs : List (List Int)) (a : Nat) : Nat → Nat → List Nat → Prop
  | last {i : Nat} : Way rs a 1 i → Chain rs a 1 i []
  | step {c i k : Nat} {l : List Nat} : Way rs a (c + 2) i → (∀ d', d' < c + 2 → ¬ Way rs a d' i) → Ed rs i k → k < rs.length → Chain rs a (c + 1) k l → Chain rs a (c + 2) i (k :: l)
theorem wayK_chain {rs : List (List Int)} (hg : GoodG rs) {a d : Nat} : ∀ (c i : Nat), Way rs a (c + 1) i → (∀ d', d' < c + 1 → ¬ Way rs a d' i) → c + 1 ≤ d → ∃ l : List Nat, wayK rs (farK rs a d) c (i : Int) = l.map (fun (k : Nat) => (k : Int)) ∧ Chain rs a (c + 1) i l
  | 0, i, hw, hmin, hd => ⟨[], rfl, .last hw⟩
  | c + 1, i, hw, hmin, hd => by
    obtain ⟨k, h1, h2, h3, h4, h5⟩ := step_ok hg hw hmin hd
    obtain ⟨l, h6, h7⟩ := wayK_chain hg (d := d) c k h4 h5 (by omega)
    refine ⟨k :: l, ?_, .step hw hmin h3 h2 h7⟩
    simp only [wayK, Int.toNat_natCast, h1, List.map_cons, h6]
theorem Chain.mem {rs : List (List Int)} {a c i : Nat} {l : List Nat} (h : Chain rs a c i l) : ∀ k ∈ l, k < rs.length ∧ Reach rs i k ∧ Reach rs k a ∧ ∃ d, d < c ∧ Way rs a d k ∧ ∀ d', d' < d → ¬ Way rs a d' k := by
  induction h with
  | last _ => intro k hk; cases hk
  | @step c i k l h1 h2 h3 h4 h5 ih =>
    intro q hq
    rcases List.mem_cons.1 hq with rfl | hq
    · have hmin : ∀ d', d' < c + 1 → ¬ Way rs a d' q := fun d' hd' hw => h2 (d' + 1) (by omega) (.more h3 hw)
      have hw : Way rs a (c + 1) q := by cases h5 <;> assumption
      exact ⟨h4, .one h3, hw.reach, c + 1, by omega, hw, hmin⟩
    · obtain ⟨h6, h7, h8, d, h9, h10⟩ := ih q hq
      exact ⟨h6, Reach.pre h3 h7, h8, d, by omega, h10⟩
theorem Chain.nodup {rs : List (List Int)} {a c i : Nat} {l : List Nat} (h : Chain rs a c i l) (hmin : ∀ d', d' < c → ¬ Way rs a d' i) : (i :: l).Nodup := by
  induction h with
  | last _ => simp
  | @step c i k l h1 h2 h3 h4 h5 ih =>
    have hmk : ∀ d', d' < c + 1 → ¬ Way rs a d' k := fun d' hd' hw => h2 (d' + 1) (by omega) (.more h3 hw)
    rw [List.nodup_cons]
    refine ⟨fun hi => ?_, ih hmk⟩
    rcases List.mem_cons.1 hi with rfl | hi
    · exact h2 (c + 1) (by omega) (by cases h5 <;> assumption)
    · obtain ⟨_, _, _, d, h6, h7, _⟩ := h5.mem i hi
      exact h2 d (by omega) h7
theorem nodup_len : ∀ (n : Nat) (l : List Nat), l.Nodup → (∀ k ∈ l, k < n) → l.length ≤ n
  | 0, l, _, h => by
    cases l with
    | nil => simp
    | cons k l => have := h k (by simp); omega
  | n + 1, l, hn, h => by
    have h1 := nodup_len n (l.erase n) (hn.erase n) (fun k hk => by
      have h2 := (hn.mem_erase_iff).1 hk
      have := h k h2.2
      have := h2.1
      omega)
    rw [List.length_erase] at h1
    split at h1 <;> omega
theorem Chain.len {rs : List (List Int)} {a c i : Nat} {l : List Nat} (h : Chain rs a c i l) : l.length + 1 = c := by
  induction h with
  | last _ => rfl
  | step _ _ _ _ _ ih => simp; omega
/-- a least way exists, and has at most as many steps as there are nodes -/
theorem least_way {rs : List (List Int)} (hg : GoodG rs) {a : Nat} (ha : a < rs.length) (h : Reach rs a a) : ∃ d : Nat, 1 ≤ d ∧ d ≤ rs.length ∧ Way rs a d a ∧ ∀ d', d' < d → ¬ Way rs a d' a := by
  obtain ⟨d, hd, hmin⟩ := Go.exists_least (Way.of h)
  have hp := hd.pos
  obtain ⟨c, rfl⟩ : ∃ c, d = c + 1 := ⟨d - 1, by omega⟩
  have hmin' : ∀ d', d' < c + 1 → ¬ Way rs a d' a := fun d' h1 h2 => by have := hmin d' h2; omega
  obtain ⟨l, _, hl⟩ := wayK_chain hg (d := c + 1) c a hd hmin' (Nat.le_refl _)
  refine ⟨c + 1, hp, ?_, hd, hmin'⟩
  have h1 := nodup_len rs.length (a :: l) (hl.nodup hmin') (fun k hk => by
    rcases List.mem_cons.1 hk with rfl | hk
    · exact ha
    · exact (hl.mem k hk).1)
  have := hl.len
  rw [List.length_cons] at h1
  omega
/-- when the node's own number comes up -/
theorem farK_from {rs : List (List Int)} (hg : GoodG rs) {a d : Nat} (ha : a < rs.length) (hw : Way rs a d a) (hmin : ∀ d', d' < d → ¬ Way rs a d' a) (m : Nat) : (farK rs a m)[a]? = some (if d ≤ m then (d : Int) else -1) := by
  obtain ⟨x, hx⟩ := farK_at (a := a) (List.getElem?_eq_getElem ha) m
  rw [hx]
  congr 1
  rcases farK_ok hg a m _ _ hx with ⟨h1, h2⟩ | ⟨e, h1, h2, h3, h4⟩
  · rw [if_neg (fun hd => h2 d hd hw)]; exact h1
  · have : e = d := by
      rcases Nat.lt_trichotomy e d with h5 | h5 | h5
      · exact absurd h3 (hmin _ h5)
      · exact h5
      · exact absurd hw (h4 _ h5)
    subst this
    rw [if_pos h2]; exact h1
end Go.Proofs.Ytgmjeanoohmdlaa
