/- The reference of a controller's wishes. Conditions: those typed. -/
import Derived.Test.YtnnbnecpcppkdaaDoorCtlR
import Derived.Test.YtnnbnecpcppkdaaDoorEqQ
namespace Go.Proofs.YtnnbnecpcppkdaaDoor
open Go.RowKit Go.Gy
set_option linter.unusedVariables false
set_option linter.unusedSimpArgs false
/-- the wish as the second implementation says it -/
def refG (lo hi g : Rat) : Rat := if hi < (if g < lo then lo else g) then hi else (if g < lo then lo else g)
def sgnQ (w : Rat) : Rat := if 0 < w then 1 else if w < 0 then -1 else 0
def refW (lo hi sp q g : Rat) : Rat := if sp < absQ (refG lo hi g - q) then sp * sgnQ (refG lo hi g - q) else refG lo hi g - q
theorem ref_tow {lo hi sp q g : Rat} (h1 : lo < hi) (h2 : 0 < sp) : refW lo hi sp q g = towQ lo hi sp q g := by
  have e : refG lo hi g = maxQ lo (minQ hi g) := by unfold refG maxQ minQ; grind
  unfold refW towQ
  rw [e]
  generalize maxQ lo (minQ hi g) - q = d
  unfold sgnQ absQ maxQ minQ
  grind
theorem sgn_cast {s : Int} {x : Rat} (hs : -1 ≤ s ∧ s ≤ 1) (h1 : 0 < s ↔ 0 < x) (h2 : s < 0 ↔ x < 0) : (s : Rat) = sgnQ x := by
  unfold sgnQ
  have h3 : s = 1 ∨ s = 0 ∨ s = -1 := by omega
  rcases h3 with rfl | rfl | rfl
  · rw [if_pos (h1.mp (by decide))]; rfl
  · rw [if_neg (fun h => absurd (h1.mpr h) (by decide)), if_neg (fun h => absurd (h2.mpr h) (by decide))]; rfl
  · rw [if_neg (fun h => absurd (h1.mpr h) (by decide)), if_pos (h2.mp (by decide))]; rfl
def nowL (K : List Ky) (tick : Int) (ql : List Q3) : List Q3 := match K with
  | [] => ql
  | _ :: _ => (atQ K tick).map toQ3
def latV (K : List Ky) (tick : Int) (ql : List Q3) (k : Nat) : Rat := match K with
  | [] => 0
  | _ :: _ => lateV ((atQ K tick).map toQ3) ql k
theorem nowL_cons {K : List Ky} (h : K ≠ []) (tick : Int) (ql : List Q3) : nowL K tick ql = (atQ K tick).map toQ3 := by
  cases K with
  | nil => exact absurd rfl h
  | cons k r => rfl
theorem latV_cons {K : List Ky} (h : K ≠ []) (tick : Int) (ql : List Q3) (k : Nat) : latV K tick ql k = lateV (nowL K tick ql) ql k := by
  cases K with
  | nil => exact absurd rfl h
  | cons k r => rfl
theorem nowL_len {K : List Ky} {n : Nat} (hK : KyN K n) (tick : Int) {ql : List Q3} (hq : ql.length = n) : (nowL K tick ql).length = n := by
  by_cases h : K = []
  · subst h; exact hq
  · rw [nowL_cons h, List.length_map, atQ_len _ h hK]
theorem nowL_le {K : List Ky} {N : Nat} (hN : 1 ≤ N) (hK : KyOk K) (hl : KyLe K N) {tick : Int} (ht : -1 ≤ tick ∧ tick ≤ 2000) {ql : List Q3} (hq : ∀ x ∈ ql, x.le N) : ∀ x ∈ nowL K tick ql, x.le (3 * N + 40) := by
  by_cases h : K = []
  · subst h; exact fun x hx => (hq x hx).more (by omega)
  · rw [nowL_cons h]
    intro x hx
    obtain ⟨g, hg, rfl⟩ := List.mem_map.1 hx
    exact toQ3_le (atQ_qz hN (by omega) hK hl g hg)
def WhRel (w : World) (g M n : Nat) (f : Nat → Rat) (i : Value) (wr : World) : Prop := ∃ (k : Nat) (m : Q3), k ≤ n ∧ i = .int .i64 k ∧ m.can ∧ m.le M ∧ m.q = f k ∧ In w [(g, 25, #[.bool m.neg, .string m.num, .string m.den])] wr
/-- what is known of the arguments of wishes -/
structure WhOk (w : World) (p : Nat) (a a' : Ar) (vt v : Value) (K K' : List Ky) (tz : Int) (ql : List Q3) (has : Bool) (N : Nat) : Prop where
  tab : TabW w
  at_ : a.At w w.heap.size
  le : a.le N
  ok : ArmE a 0
  same : SameA a a'
  ctl : CtlAt w p a' vt
  tr : SlK w w.heap.size vt K'
  sl : SlK w w.heap.size v K
  kle : KyLe K N
  has_ : (has = true ∧ TrackE a K 0 ∧ SameK K K') ∨ (has = false ∧ K' = [])
  tz : -1 ≤ tz ∧ tz ≤ 2000
  lq : ∀ x ∈ ql, x.le N
  hN : 1 ≤ N ∧ N ≤ 17179869
theorem WhOk.n {w : World} {p : Nat} {a a' : Ar} {vt v : Value} {K K' : List Ky} {tz : Int} {ql : List Q3} {has : Bool} {N : Nat} (h : WhOk w p a a' vt v K K' tz ql has N) : a'.L.length = a.L.length := h.same.2.2.2.2.1
theorem ArmE.three {a : Ar} (h : ArmE a 0) : 1 ≤ a.L.length ∧ a.L.length ≤ 3 := by
  rcases h with ⟨_, h⟩ | ⟨_, _, h⟩ | ⟨_, _, _, h⟩ | ⟨_, h1, h2, _⟩
  · omega
  · omega
  · omega
  · omega
theorem WhOk.keys {w : World} {p : Nat} {a a' : Ar} {vt v : Value} {K K' : List Ky} {tz : Int} {ql : List Q3} {has : Bool} {N : Nat} (h : WhOk w p a a' vt v K K' tz ql has N) : KyOk K' ∧ KyLe K' N ∧ KyN K' a'.L.length ∧ K'.length ≤ 60 ∧ (has = true → K' ≠ [] ∧ K ≠ [] ∧ K.length ≤ 60 ∧ KyOk K) := by
  rcases h.has_ with ⟨h1, h2, h3⟩ | ⟨h1, rfl⟩
  · obtain ⟨_, z1, z2, z3, z4, _⟩ := h2.zero
    have hl := h3.length
    refine ⟨h3.ok z3, h3.le h.kle, fun k hk => ?_, by omega, fun _ => ⟨fun e => z1 (List.length_eq_zero_iff.1 (by rw [← hl, e]; rfl)), z1, z2, z3⟩⟩
    obtain ⟨k', g1, _, g2⟩ := h3.mem hk
    rw [h.n, ← g2]
    exact (z4 k' g1).zero.2.1
  · refine ⟨⟨fun k hk => (by cases hk), fun i x y hx => (by simp at hx)⟩, fun k hk => (by cases hk), fun k hk => (by cases hk), Nat.zero_le _, fun e => ?_⟩
    rw [h1] at e
    cases e
theorem wh_wish {w : World} {p : Nat} {a a' : Ar} {vt v : Value} {K K' : List Ky} {tz : Int} {ql : List Q3} {has : Bool} {N : Nat} (h : WhOk w p a a' vt v K K' tz ql has N) {W : World} (hW : Below w.heap.size w W) {A : Option Addr} {n c : Nat} (hq : SlQ w w.heap.size (.slice A n c) ql) {vv : Value} (hvv : ∃ A n c, vv = .slice A n c) (pw : Bool) (hd : Int) (hn : ql.length = a.L.length) :
    Calls Tryd.prog 53 #[.pointer (some ⟨p, 0, none⟩), .int .i64 tz, .agg #[.slice A n c, vv, .bool pw, .int .i64 hd]] W fun e w' => ∃ v', e = .returned v' ∧ w'.ownsRow W.heap.size 25 3 v' a.L.length (rowQ (wishL a'.L ql (goalL K' tz ql) a.L.length)) ∧ Below W.heap.size W w' := by
  obtain ⟨k1, k2, k3, k4, _⟩ := h.keys
  have := wish_ctl W (tabs w h.tab hW) p a' vt K' tz _ vv ql pw hd (N := N) (h.ctl.below hW) (h.same.le h.le) (by rw [h.n]; exact h.ok.three.2) (h.tr.up hW) k2 k1 k3 k4 (show InI tz from ⟨by have := h.tz; omega, by have := h.tz; omega⟩) (hq.up hW) h.lq (by rw [h.n, hn]) hvv (by have := h.hN; omega)
  rwa [h.n] at this
theorem bndZ_id {tz : Int} (h : -1 ≤ tz ∧ tz ≤ 2000) : bndZ tz = tz := by unfold bndZ; omega
theorem wh_late {w : World} {p : Nat} {a a' : Ar} {vt v : Value} {K K' : List Ky} {tz : Int} {ql : List Q3} {has : Bool} {N : Nat} (h : WhOk w p a a' vt v K K' tz ql has N) {W : World} (hW : Below w.heap.size w W) {A : Option Addr} {n c : Nat} (hq : SlQ w w.heap.size (.slice A n c) ql) {vv : Value} (hvv : ∃ A n c, vv = .slice A n c) (pw : Bool) (hd : Int) (hn : ql.length = a.L.length) {Z : Q3} (cZ : Z.can) (qZ : Z.q = latV K' tz ql a.L.length) :
    Calls Tryd.prog 60 #[.pointer (some ⟨p, 0, none⟩), .int .i64 tz, .agg #[.slice A n c, vv, .bool pw, .int .i64 hd]] W fun e w' => e = .returned (.agg #[.bool Z.neg, .string Z.num, .string Z.den]) ∧ Below W.heap.size W w' := by
  obtain ⟨k1, k2, k3, k4, _⟩ := h.keys
  by_cases hK : K' = []
  · obtain ⟨At, nt, ct, hvt, hnt, _⟩ := h.tr
    have hC := h.ctl.below hW
    rw [hvt] at hC
    exact late_none W (tabs w h.tab hW) p a' tz vv pw hd hC (.inr (by rw [← hnt, hK]; rfl)) Z cZ (by rw [qZ, hK]; rfl)
  · exact late_ctl W (tabs w h.tab hW) p a' vt K' tz _ vv ql pw hd (N := N) (h.ctl.below hW) (by rw [h.n]; exact h.ok.three.2) (h.tr.up hW) k2 k1 k3 k4 hK (show InI tz from ⟨by have := h.tz; omega, by have := h.tz; omega⟩) (hq.up hW) h.lq (by rw [h.n, hn]) hvv (by have := h.hN; omega) Z cZ (by rw [qZ, latV_cons hK, nowL_cons hK, bndZ_id h.tz, h.n])
theorem wh_over {w : World} {p : Nat} {a a' : Ar} {vt v : Value} {K K' : List Ky} {tz : Int} {ql : List Q3} {has : Bool} {N : Nat} (h : WhOk w p a a' vt v K K' tz ql has N) {W : World} (hW : Below w.heap.size w W) {A : Option Addr} {n c : Nat} (hq : SlQ w w.heap.size (.slice A n c) ql) {vv : Value} (hvv : ∃ A n c, vv = .slice A n c) (pw : Bool) (hd : Int) :
    Calls Tryd.prog 61 #[.pointer (some ⟨p, 0, none⟩), .int .i64 tz, .agg #[.slice A n c, vv, .bool pw, .int .i64 hd]] W fun e w' => e = .returned (.bool (overB K' tz ql a.L.length)) ∧ Below W.heap.size W w' := by
  obtain ⟨k1, k2, k3, k4, _⟩ := h.keys
  have := over_ctl W (tabs w h.tab hW) p a' vt K' tz _ vv ql pw hd (N := N) (h.ctl.below hW) (by rw [h.n]; exact h.ok.three.2) (h.tr.up hW) k2 k1 k3 k4 (show InI tz from ⟨by have := h.tz; omega, by have := h.tz; omega⟩) (hq.up hW) h.lq hvv (by have := h.hN; omega)
  rwa [h.n] at this
/-- the end of the track that was given -/
theorem wh_end {w : World} {p : Nat} {a a' : Ar} {vt v : Value} {K K' : List Ky} {tz : Int} {ql : List Q3} {N : Nat} (h : WhOk w p a a' vt v K K' tz ql true N) (hn : ql.length = a.L.length) {k : Ky} (hk : K[K.length - 1]? = some k) : overB K' tz ql a.L.length = (!decide (tz < k.1) && decide (latV K' tz ql a.L.length = 0)) := by
  obtain ⟨_, _, _, _, k5⟩ := h.keys
  obtain ⟨k6, _⟩ := k5 rfl
  rcases h.has_ with ⟨_, _, h3⟩ | ⟨h1, _⟩
  · obtain ⟨k', hk'⟩ : ∃ k', K'[K'.length - 1]? = some k' := ⟨_, List.getElem?_eq_getElem (by have := List.length_pos_iff.mpr k6; omega)⟩
    obtain ⟨k2, g1, g2, _⟩ := h3.get hk'
    rw [h3.length, hk] at g1
    rw [over_last hk', bndZ_id h.tz, latV_cons k6, nowL_cons k6, ← g2, ← Option.some.inj g1, hn]
    simp
  · cases h1
theorem ArmE.link {a : Ar} (h : ArmE a 0) {x : Lk × List P2} (hx : x ∈ a.L) : x.1.low.q < x.1.high.q ∧ 0 < x.1.speed.q := ⟨((h.zero rfl).2.2 x hx).2.2.1, ((h.zero rfl).2.2 x hx).2.2.2.1⟩
theorem wh_tow {w : World} {p : Nat} {a a' : Ar} {vt v : Value} {K K' : List Ky} {tz : Int} {ql : List Q3} {has : Bool} {N : Nat} (h : WhOk w p a a' vt v K K' tz ql has N) {k : Nat} {x : Lk × List P2} {q g : Q3} (hx : a.L[k]? = some x) (hq : ql[k]? = some q) (hg : (goalL K' tz ql)[k]? = some g) :
    ((wishL a'.L ql (goalL K' tz ql) a.L.length).map toQ3)[k]? = some (toQ3 (refW x.1.low.q x.1.high.q x.1.speed.q q.q g.q)) := by
  have hk := (List.getElem?_eq_some_iff.1 hx).1
  obtain ⟨y, hy⟩ : ∃ y, a'.L[k]? = some y := ⟨_, List.getElem?_eq_getElem (by rw [h.n]; exact hk)⟩
  obtain ⟨_, s2, s3, s4, _⟩ := h.same.2.2.2.2.2 k x y hx hy
  unfold wishL
  rw [List.map_map, List.getElem?_map, List.getElem?_range hk]
  show some (toQ3 (wishV a'.L ql (goalL K' tz ql) k)) = _
  unfold wishV
  rw [hy, hq, hg]
  show some (toQ3 (towQ y.1.low.q y.1.high.q y.1.speed.q q.q g.q)) = _
  obtain ⟨l1, l2⟩ := ArmE.link h.ok (List.mem_of_getElem? hx)
  rw [s2, s3, s4, ref_tow l1 l2]
end Go.Proofs.YtnnbnecpcppkdaaDoor
