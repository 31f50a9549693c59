/- A track from tick to tick. Conditions: those typed. -/
import Derived.Test.YtnnbnecpcppkdaaDoorCtlM
import Derived.Test.YtnnbnecpcppkdaaDoorCtlS
namespace Go.Proofs.YtnnbnecpcppkdaaDoor
open Go.RowKit Go.Gy
set_option linter.unusedVariables false
theorem absQ_iff {x y : Rat} : absQ x ≤ y ↔ x ≤ y ∧ -x ≤ y := by unfold absQ; split <;> constructor <;> intro h <;> grind
/-- between two keys -/
def mixQ (x y : Rat) (a b t : Int) : Rat := x + (((t : Rat) - (a : Rat)) / ((b : Rat) - (a : Rat))) * (y - x)
theorem cast_lt {a b : Int} (h : a < b) : (a : Rat) < (b : Rat) := Rat.intCast_lt_intCast.mpr h
theorem cast_le {a b : Int} (h : a ≤ b) : (a : Rat) ≤ (b : Rat) := Rat.intCast_le_intCast.mpr h
theorem mix_lam {a b t : Int} (hab : a < b) (h1 : a ≤ t) (h2 : t ≤ b) : ∃ m : Rat, ((t : Rat) - (a : Rat)) / ((b : Rat) - (a : Rat)) = m ∧ 0 ≤ m ∧ m ≤ 1 ∧ m * ((b : Rat) - (a : Rat)) = (t : Rat) - (a : Rat) := by
  have h := cast_lt hab
  have hd : (0 : Rat) < (b : Rat) - (a : Rat) := by grind
  have e : ((t : Rat) - (a : Rat)) / ((b : Rat) - (a : Rat)) * ((b : Rat) - (a : Rat)) = (t : Rat) - (a : Rat) := Rat.div_mul_cancel (by grind)
  refine ⟨_, rfl, ?_, ?_, e⟩
  · exact Rat.le_of_mul_le_mul_right (c := (b : Rat) - (a : Rat)) (by rw [e, Rat.zero_mul]; have := cast_le h1; grind) hd
  · exact Rat.le_of_mul_le_mul_right (c := (b : Rat) - (a : Rat)) (by rw [e, Rat.one_mul]; have := cast_le h2; grind) hd
theorem mix_in {x y lo hi : Rat} {a b t : Int} (hab : a < b) (h1 : a ≤ t) (h2 : t ≤ b) (x1 : lo ≤ x) (x2 : x ≤ hi) (y1 : lo ≤ y) (y2 : y ≤ hi) : lo ≤ mixQ x y a b t ∧ mixQ x y a b t ≤ hi := by
  obtain ⟨m, hm, m0, m1, _⟩ := mix_lam hab h1 h2
  unfold mixQ
  rw [hm]
  have p1 := Rat.mul_nonneg m0 (show 0 ≤ y - lo by grind)
  have p2 := Rat.mul_nonneg (show 0 ≤ 1 - m by grind) (show 0 ≤ x - lo by grind)
  have p3 := Rat.mul_nonneg m0 (show 0 ≤ hi - y by grind)
  have p4 := Rat.mul_nonneg (show 0 ≤ 1 - m by grind) (show 0 ≤ hi - x by grind)
  constructor <;> grind
theorem mix_left (x y : Rat) (a b : Int) : mixQ x y a b a = x := by
  unfold mixQ
  rw [show (a : Rat) - (a : Rat) = 0 by grind, Rat.div_def, Rat.zero_mul, Rat.zero_mul]
  grind
theorem mix_right {x y : Rat} {a b : Int} (hab : a < b) : mixQ x y a b b = y := by
  have h := cast_lt hab
  obtain ⟨m, hm, _, _, e⟩ := mix_lam hab (Int.le_of_lt hab) (Int.le_refl b)
  have hm1 : m = 1 := by
    have g1 : m ≤ 1 := Rat.le_of_mul_le_mul_right (c := (b : Rat) - (a : Rat)) (by rw [e, Rat.one_mul]; exact Rat.le_refl) (by grind)
    have g2 : 1 ≤ m := Rat.le_of_mul_le_mul_right (c := (b : Rat) - (a : Rat)) (by rw [e, Rat.one_mul]; exact Rat.le_refl) (by grind)
    grind
  unfold mixQ
  rw [hm, hm1]
  grind
theorem mix_step {x y sp : Rat} {a b t : Int} (hab : a < b) (h1 : a ≤ t) (h2 : t + 1 ≤ b) (hs : absQ (y - x) ≤ sp * ((b - a : Int) : Rat)) : absQ (mixQ x y a b (t + 1) - mixQ x y a b t) ≤ sp := by
  have h := cast_lt hab
  obtain ⟨m, hm, m0, m1, e⟩ := mix_lam hab h1 (by omega : t ≤ b)
  obtain ⟨m', hm', m0', m1', e'⟩ := mix_lam hab (by omega : a ≤ t + 1) h2
  unfold mixQ
  rw [hm, hm']
  rw [Rat.intCast_add, show ((1 : Int) : Rat) = 1 from rfl] at e'
  rw [Rat.intCast_sub] at hs
  obtain ⟨D, hD⟩ : ∃ D, D = (b : Rat) - (a : Rat) := ⟨_, rfl⟩
  rw [← hD] at e e' hs
  have hD0 : 0 < D := by grind
  obtain ⟨s1, s2⟩ := absQ_iff.mp hs
  have e1 : (m' - m) * D = 1 := by grind
  have e2 : ((m' - m) * (y - x)) * D = y - x := by
    have : ((m' - m) * (y - x)) * D = ((m' - m) * D) * (y - x) := by grind
    rw [this, e1, Rat.one_mul]
  have k1 : (m' - m) * (y - x) ≤ sp := Rat.le_of_mul_le_mul_right (by rw [e2]; exact s1) hD0
  have k2 : -((m' - m) * (y - x)) ≤ sp := Rat.le_of_mul_le_mul_right (by rw [Rat.neg_mul, e2]; exact s2) hD0
  refine absQ_iff.mpr ⟨?_, ?_⟩ <;> grind
theorem interp_get {a b : Ky} {t : Int} {j : Nat} {x y : Q3} (hx : a.2.2[j]? = some x) (hy : b.2.2[j]? = some y) : (interpQ a b t)[j]? = some (mixQ x.q y.q a.1 b.1 t) := by
  unfold interpQ
  rw [List.getElem?_zipWith, hx, hy]
  rfl
/-- key k's value of joint j lies between lo and hi -/
def InJ (j : Nat) (lo hi : Rat) (k : Ky) : Prop := ∃ x, k.2.2[j]? = some x ∧ lo ≤ x.q ∧ x.q ≤ hi
def ChainJ (j : Nat) (lo hi sp : Rat) : Ky → List Ky → Prop
  | a, [] => InJ j lo hi a
  | a, b :: r => InJ j lo hi a ∧ a.1 < b.1 ∧ (∀ x y, a.2.2[j]? = some x → b.2.2[j]? = some y → absQ (y.q - x.q) ≤ sp * ((b.1 - a.1 : Int) : Rat)) ∧ ChainJ j lo hi sp b r
theorem ChainJ.head {j : Nat} {lo hi sp : Rat} {a : Ky} {r : List Ky} (h : ChainJ j lo hi sp a r) : InJ j lo hi a := by
  cases r with
  | nil => exact h
  | cons b r => exact h.1
theorem chain_at {j : Nat} {lo hi sp : Rat} {a : Ky} {r : List Ky} (h : ChainJ j lo hi sp a r) {x : Q3} (hx : a.2.2[j]? = some x) : (atL a.1 a r)[j]? = some x.q := by
  cases r with
  | nil => show (a.2.2.map Q3.q)[j]? = _; rw [List.getElem?_map, hx]; rfl
  | cons b r =>
    show (if b.1 ≤ a.1 then atL a.1 b r else interpQ a b a.1)[j]? = _
    obtain ⟨y, hy, _⟩ := h.2.2.2.head
    rw [if_neg (by have := h.2.1; omega), interp_get hx hy, mix_left]
theorem chain_step {j : Nat} {lo hi sp : Rat} (hsp : 0 ≤ sp) (t : Int) : ∀ (r : List Ky) (a : Ky), a.1 ≤ t → ChainJ j lo hi sp a r → ∃ u v, (atL t a r)[j]? = some u ∧ (atL (t + 1) a r)[j]? = some v ∧ (lo ≤ u ∧ u ≤ hi) ∧ (lo ≤ v ∧ v ≤ hi) ∧ absQ (v - u) ≤ sp
  | [], a, _, h => by
    obtain ⟨x, hx, x1, x2⟩ := h
    have e : (a.2.2.map Q3.q)[j]? = some x.q := by rw [List.getElem?_map, hx]; rfl
    exact ⟨x.q, x.q, e, e, ⟨x1, x2⟩, ⟨x1, x2⟩, absQ_iff.mpr ⟨by grind, by grind⟩⟩
  | b :: r, a, ha, h => by
    show ∃ u v, (if b.1 ≤ t then atL t b r else interpQ a b t)[j]? = some u ∧ (if b.1 ≤ t + 1 then atL (t + 1) b r else interpQ a b (t + 1))[j]? = some v ∧ _
    obtain ⟨⟨x, hx, x1, x2⟩, hab, hs, hr⟩ := h
    obtain ⟨y, hy, y1, y2⟩ := hr.head
    by_cases hb : b.1 ≤ t
    · rw [if_pos hb, if_pos (by omega)]
      exact chain_step hsp t r b hb hr
    · rw [if_neg hb, interp_get hx hy]
      have i1 := mix_in hab ha (by omega : t ≤ b.1) x1 x2 y1 y2
      have i2 := mix_in hab (by omega : a.1 ≤ t + 1) (by omega : t + 1 ≤ b.1) x1 x2 y1 y2
      have i3 := mix_step hab ha (by omega : t + 1 ≤ b.1) (hs x y hx hy)
      refine ⟨_, mixQ x.q y.q a.1 b.1 (t + 1), rfl, ?_, i1, i2, i3⟩
      by_cases hb2 : b.1 ≤ t + 1
      · have e : t + 1 = b.1 := by omega
        rw [if_pos hb2, e, chain_at hr hy, mix_right hab]
      · rw [if_neg hb2, interp_get hx hy]
theorem chain_all {j : Nat} {lo hi sp : Rat} (hsp : 0 ≤ sp) {K : List Ky} {a : Ky} {r : List Ky} (hK : K = a :: r) (h : ChainJ j lo hi sp a r) (t : Int) : ∃ u v, (atQ K t)[j]? = some u ∧ (atQ K (t + 1))[j]? = some v ∧ (lo ≤ u ∧ u ≤ hi) ∧ (lo ≤ v ∧ v ≤ hi) ∧ absQ (v - u) ≤ sp := by
  subst hK
  show ∃ u v, (if t ≤ a.1 then a.2.2.map Q3.q else atL t a r)[j]? = some u ∧ (if t + 1 ≤ a.1 then a.2.2.map Q3.q else atL (t + 1) a r)[j]? = some v ∧ _
  obtain ⟨x, hx, x1, x2⟩ := h.head
  have e : (a.2.2.map Q3.q)[j]? = some x.q := by rw [List.getElem?_map, hx]; rfl
  by_cases h1 : t + 1 ≤ a.1
  · rw [if_pos (by omega), if_pos h1]
    exact ⟨x.q, x.q, e, e, ⟨x1, x2⟩, ⟨x1, x2⟩, absQ_iff.mpr ⟨by grind, by grind⟩⟩
  · rw [if_neg h1]
    obtain ⟨u, v, hu, hv, h2⟩ := chain_step hsp (max t a.1) r a (by omega) h
    by_cases h3 : t ≤ a.1
    · have e2 : t = a.1 := by omega
      subst e2
      rw [if_pos h3]
      rw [Int.max_self] at hu hv
      rw [chain_at h hx] at hu
      exact ⟨u, v, by rw [e]; exact hu, hv, h2⟩
    · rw [if_neg h3]
      rw [show max t a.1 = t by omega] at hu hv
      exact ⟨u, v, hu, hv, h2⟩
theorem tow_eq {lo hi sp q g : Rat} (h1 : lo ≤ g) (h2 : g ≤ hi) (hs : absQ (g - q) ≤ sp) : towQ lo hi sp q g = g - q := by
  obtain ⟨s1, s2⟩ := absQ_iff.mp hs
  have e1 : minQ hi g = g := by unfold minQ; split <;> grind
  have e2 : maxQ lo g = g := by unfold maxQ; split <;> grind
  have e3 : minQ sp (g - q) = g - q := by unfold minQ; split <;> grind
  have e4 : maxQ (-sp) (g - q) = g - q := by unfold maxQ; split <;> grind
  unfold towQ
  rw [e1, e2, e3, e4]
theorem gen_chain {a : Ar} (hG : GenAr a) {j : Nat} {x : Lk × List P2} (hx : a.L[j]? = some x) : ∀ {r : List Ky} {k : Ky}, GenK a.L (k :: r) → (9 + 67 * ((r.length + 1 : Nat) : Int) ≤ 2000) → ChainJ j x.1.low.q x.1.high.q x.1.speed.q k r := by
  have hIn : ∀ {k : Ky}, (k.2.2.length = a.L.length ∧ QsIn a.L k.2.2) → InJ j x.1.low.q x.1.high.q k := fun {k} h => by
    have hj := (List.getElem?_eq_some_iff.1 hx).1
    obtain ⟨q, hq⟩ : ∃ q, k.2.2[j]? = some q := ⟨_, List.getElem?_eq_getElem (by rw [h.1]; exact hj)⟩
    exact ⟨q, hq, h.2.lim j x q hx hq⟩
  have key : ∀ (r : List Ky) (k : Ky), (∀ y ∈ k :: r, y.2.2.length = a.L.length ∧ QsIn a.L y.2.2) → (∀ (i : Nat) (y z : Ky), (k :: r)[i]? = some y → (k :: r)[i + 1]? = some z → y.1 + 48 ≤ z.1) → ChainJ j x.1.low.q x.1.high.q x.1.speed.q k r := by
    intro r
    induction r with
    | nil => intro k h1 _; exact hIn (h1 k List.mem_cons_self)
    | cons b r ih =>
      intro k h1 h2
      have hk := h1 k List.mem_cons_self
      have hb := h1 b (List.mem_cons_of_mem _ List.mem_cons_self)
      have hg := h2 0 k b rfl rfl
      refine ⟨hIn hk, by omega, fun p q hp hq => gen_slow hG hk.2 hb.2 hg j x p q hx hp hq, ih b (fun y hy => h1 y (List.mem_cons_of_mem _ hy)) (fun i y z hy hz => h2 (i + 1) y z (by simpa using hy) (by simpa using hz))⟩
  intro r k h _
  exact key r k (fun y hy => (h.1 y hy).2.2) h.2
/-- an arm on its track wishes to be on it a tick later -/
theorem follow_at {a : Ar} (hG : GenAr a) {K : List Ky} (hne : K ≠ []) (h4 : K.length ≤ 4) (hK : GenK a.L K) (t : Int) {j : Nat} {x : Lk × List P2} (hx : a.L[j]? = some x) :
    ∃ u v, (atQ K t)[j]? = some u ∧ (atQ K (t + 1))[j]? = some v ∧ towQ x.1.low.q x.1.high.q x.1.speed.q u v = v - u := by
  obtain ⟨k, r, rfl⟩ : ∃ k r, K = k :: r := by
    cases K with
    | nil => exact absurd rfl hne
    | cons k r => exact ⟨k, r, rfl⟩
  have hsp : 0 ≤ x.1.speed.q := by obtain ⟨_, _, h, _⟩ := (hG.lk x (List.mem_of_getElem? hx)).range; grind
  have hl : r.length + 1 ≤ 4 := by simpa using h4
  obtain ⟨u, v, hu, hv, _, ⟨v1, v2⟩, h5⟩ := chain_all hsp rfl (gen_chain hG hx hK (by omega)) t
  exact ⟨u, v, hu, hv, tow_eq v1 v2 h5⟩
theorem follow_wish {a a' : Ar} (hG : GenAr a) (hS : SameA a a') {K K' : List Ky} (hSK : SameK K K') (hne : K ≠ []) (h4 : K.length ≤ 4) (hK : GenK a.L K) (t : Int) (ht : -1 ≤ t ∧ t ≤ 2000) {j : Nat} (hj : j < a.L.length) :
    ∃ u v, (atQ K t)[j]? = some u ∧ (atQ K (t + 1))[j]? = some v ∧ wishV a'.L ((atQ K t).map toQ3) (goalL K' t ((atQ K t).map toQ3)) j = v - u := by
  obtain ⟨x, hx⟩ : ∃ x, a.L[j]? = some x := ⟨_, List.getElem?_eq_getElem hj⟩
  obtain ⟨y, hy⟩ : ∃ y, a'.L[j]? = some y := ⟨_, List.getElem?_eq_getElem (by rw [hS.2.2.2.2.1]; exact hj)⟩
  obtain ⟨_, s2, s3, s4, _⟩ := hS.2.2.2.2.2 j x y hx hy
  obtain ⟨u, v, hu, hv, e⟩ := follow_at hG hne h4 hK t hx
  have hne' : K' ≠ [] := by
    intro h
    have := hSK.length
    rw [h] at this
    exact hne (List.length_eq_zero_iff.1 this.symm)
  have hb : bndZ t = t := by unfold bndZ; omega
  refine ⟨u, v, hu, hv, ?_⟩
  unfold wishV
  rw [goal_cons hne', hb, hSK.at, hy, List.getElem?_map, hu, List.getElem?_map, hv]
  show towQ y.1.low.q y.1.high.q y.1.speed.q (toQ3 u).q (toQ3 v).q = v - u
  rw [toQ3_q, toQ3_q, s2, s3, s4, e]
end Go.Proofs.YtnnbnecpcppkdaaDoor
