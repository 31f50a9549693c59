/- Ticks of braking, plain; what a store into a state leaves. Conditions: those typed. -/
import Derived.Test.YtnnbnecpcppkdaaDoorBrkPlain
namespace Go.Proofs.YtnnbnecpcppkdaaDoor
open Go.RowKit Go.Gy
set_option linter.unusedVariables false
theorem GenLk.speed4 {k : Lk} {l : List P2} (h : GenLk k l) : k.speed.q ≤ 1 / 4 := by
  obtain ⟨c, a, e, d, f, zs, _, _, _, hd, _, ⟨_, _, _, hs, _⟩, _⟩ := h
  rw [hs]
  have h8 : d = 0 ∨ d = 1 ∨ d = 2 ∨ d = 3 ∨ d = 4 ∨ d = 5 ∨ d = 6 ∨ d = 7 := by omega
  rcases h8 with rfl | rfl | rfl | rfl | rfl | rfl | rfl | rfl <;> decide +kernel
theorem pathV_stays {b v : Rat} (hb : 0 < b) {m : Nat} (h : pathV b v m = 0) : ∀ k, pathV b v (m + k) = 0
  | 0 => h
  | k + 1 => by
    show stepV b (pathV b v (m + k)) = 0
    rw [pathV_stays hb h k]
    unfold stepV
    rw [if_neg (by grind), if_neg (by grind)]
theorem pathQ_stays {b q v : Rat} (hb : 0 < b) {m : Nat} (h : pathV b v m = 0) : ∀ k, pathQ b q v (m + k) = pathQ b q v m
  | 0 => rfl
  | k + 1 => by
    show pathQ b q v (m + k) + pathV b v (m + k + 1) = _
    rw [pathQ_stays hb h k, show m + k + 1 = m + (k + 1) by omega, pathV_stays hb h (k + 1)]
    grind
/-- each tick is between the beginning and the end -/
theorem path_in {b q v : Rat} {n : Int} (h : TicksIs b v n 0) (t : Nat) : (q ≤ pathQ b q v t ∧ pathQ b q v t ≤ q + wayQ b v n) ∨ (q + wayQ b v n ≤ pathQ b q v t ∧ pathQ b q v t ≤ q) := by
  obtain ⟨hb, _⟩ := ticks_ok h
  obtain ⟨m, hm, hend⟩ := ticks_end h
  have hz := (path_ticks h hend).2
  rw [← wayQ_path h hm]
  rcases Rat.le_total (a := 0) (b := v) with hv | hv
  · left
    have h1 := pathQ_up (q := q) hb hv 0 t
    rw [Nat.zero_add] at h1
    refine ⟨h1, ?_⟩
    rcases Nat.le_total t m with ht | ht
    · have h2 := pathQ_up (q := q) hb hv t (m - t)
      rwa [show t + (m - t) = m by omega] at h2
    · have h2 := pathQ_stays (q := q) hb hz (t - m)
      rw [show m + (t - m) = t by omega] at h2
      rw [h2]; exact Rat.le_refl
  · right
    have h1 := pathQ_down (q := q) hb hv 0 t
    rw [Nat.zero_add] at h1
    refine ⟨?_, h1⟩
    rcases Nat.le_total t m with ht | ht
    · have h2 := pathQ_down (q := q) hb hv t (m - t)
      rwa [show t + (m - t) = m by omega] at h2
    · have h2 := pathQ_stays (q := q) hb hz (t - m)
      rw [show m + (t - m) = t by omega] at h2
      rw [h2]; exact Rat.le_refl
theorem pathQ_qz {b q v : Rat} (hb : 0 < b) : ∀ k, k ≤ 2000 → qz (pathQ b q v k) ≤ qz q + k * (qz v + qz b + 10)
  | 0, _ => by show qz q ≤ _; omega
  | k + 1, hk => by
    have h1 := pathQ_qz (q := q) (v := v) hb k (by omega)
    have h2 := pathV_qz (v := v) hb (k + 1) hk
    have h3 := qz_add (pathQ b q v k) (pathV b v (k + 1))
    show qz (pathQ b q v k + pathV b v (k + 1)) ≤ _
    rw [Nat.add_mul]
    omega
/-- a joint after t ticks of braking -/
def HoldAt (k : Lk) (q0 v0 : Q3) (t : Nat) (q v : Q3) : Prop := q.q = pathQ k.brake.q q0.q v0.q t ∧ v.q = pathV k.brake.q v0.q t ∧ q.can ∧ v.can
theorem HoldAt.step {N t : Nat} {k : Lk} {q0 v0 q v q' v' : Q3} (hb : 0 < k.brake.q) (h : HoldAt k q0 v0 t q v) (hB : BrkAt N k q v q' v') : HoldAt k q0 v0 (t + 1) q' v' := by
  obtain ⟨h1, h2, _, _⟩ := h
  obtain ⟨g1, g2, g3, g4, _⟩ := hB
  have e1 : v'.q = pathV k.brake.q v0.q (t + 1) := by
    rw [g1, slow_path hb, h2]; rfl
  exact ⟨by rw [g2, h1, e1]; rfl, e1, g4, g3⟩
theorem HoldAt.le {t : Nat} {k : Lk} {q0 v0 q v : Q3} (hb : 0 < k.brake.q) (lb : k.brake.le 1) (lq : q0.le 1) (lv : v0.le 20) (ht : t ≤ 60) (h : HoldAt k q0 v0 t q v) : q.le 4000 ∧ v.le 4000 := by
  obtain ⟨h1, h2, h3, h4⟩ := h
  have z1 := lb.qz (by decide)
  have z2 := lq.qz (by decide)
  have z3 := lv.qz (by decide)
  constructor
  · rw [h3, h1]
    refine toQ3_le ?_
    have h5 := pathQ_qz (q := q0.q) (v := v0.q) hb t (by omega)
    have h6 : t * (qz v0.q + qz k.brake.q + 10) ≤ 60 * 31 := Nat.mul_le_mul ht (by omega)
    omega
  · rw [h4, h2]
    refine toQ3_le ?_
    have h5 := pathV_qz (v := v0.q) hb t (by omega)
    omega
theorem hold_span {M t : Nat} {k : Lk} {q0 v0 q v : Q3} {s : P2} (h : HoldAt k q0 v0 t q v) (hs : SpanAt M k q0 v0 s) : s.x.q ≤ q.q ∧ q.q ≤ s.y.q := by
  obtain ⟨n, t1, a1, a2, _⟩ := hs
  have h1 := path_in (q := q0.q) t1 t
  rw [← h.1] at h1
  rw [a1, a2]
  unfold minQ maxQ
  rcases h1 with ⟨g1, g2⟩ | ⟨g1, g2⟩
  · split <;> split <;> grind
  · split <;> split <;> grind
theorem hold_end {k : Lk} {l : List P2} (hk : GenLk k l) {q0 v0 q v : Q3} (hv : absQ v0.q ≤ k.speed.q) (h : HoldAt k q0 v0 60 q v) : v.q = 0 := by
  rw [h.2.1]
  obtain ⟨b1, b2, _⟩ := hk.brake
  have hs := hk.speed4
  refine (pathV_zero b1 60).mpr ?_
  have e : (((60 : Nat) : Int) : Rat) = 60 := rfl
  rw [e]
  grind
theorem rd_far {w w' : World} {B size n g : Nat} {A : Option Addr} {xs : List Value} {T : TypeId} {a0 a1 : Option Addr} {n0 c0 n1 c1 : Nat} {p : Bool} {k : IntKind} {z : Int} {b0 : Bool} {s0 : ByteArray}
    (h : Rd w B size A n xs) (hB : B ≤ w.heap.size) (h0 : xs[0]? = some (.bool b0)) (h1 : xs[1]? = some (.string s0)) (hk : Blk w g T #[.slice a0 n0 c0, .slice a1 n1 c1, .bool p, .int k z]) (hg : w.grownBy w' (some g)) : Rd w' B size A n xs := by
  refine ⟨h.1, fun hn => ?_⟩
  obtain ⟨b, o, e, hb, hc⟩ := h.2 hn
  refine ⟨b, o, e, hb, fun j u hu => ?_⟩
  have hne : b ≠ g := by
    rintro rfl
    have k0 := hc 0 _ h0
    have k1 := hc 1 _ h1
    rw [cell_of_row _ _ (o + 0) _ _ (0, 0) hk] at k0
    rw [cell_of_row _ _ (o + 1) _ _ (0, 0) hk] at k1
    rcases o with _ | _ | _ | _ | o
    · simp at k0
    · simp at k0
    · simp at k1
    · simp at k0
    · simp at k0
  obtain ⟨_, _, _, _, g5⟩ := hg
  have h5 := g5 b (by omega) (fun e => hne (Option.some.inj e))
  have h6 := hc j u hu
  unfold World.cell? at h6 ⊢
  simp only at h6 ⊢
  rw [h5]
  exact h6
end Go.Proofs.YtnnbnecpcppkdaaDoor
