/- What serves several laws of braking. Conditions: those typed. -/
import Derived.Test.YtnnbnecpcppkdaaDoorState
import Derived.Test.YtnnbnecpcppkdaaDoorHoldPlain
import Derived.Test.YtnnbnecpcppkdaaDoorFastR
namespace Go.Proofs.YtnnbnecpcppkdaaDoor
open Go.RowKit Go.Gy
set_option linter.unusedVariables false
/-- a tick of braking at an arm that gantmake.Arm makes: what Spans answers -/
theorem spans_gen {w w' : World} {M : Nat} {a : Ar} (hG : GenAr a) {ql vl : List Q3} (hq : ql.length = a.L.length) (hv : vl.length = a.L.length) (hb : ∀ (j : Nat) (x : Lk × List P2) (y : Q3), a.L[j]? = some x → vl[j]? = some y → absQ y.q ≤ x.1.speed.q) {e : Ending} (h : SpansPost w M a ql vl e w') :
    ∃ (v : Value) (S : List P2), e = .returned (.tuple #[v, .int .i64 0]) ∧ Below w.heap.size w w' ∧ S.length = a.L.length ∧ SpansOK M a.L ql vl S ∧ w'.ownsRow w.heap.size 68 6 v S.length (S.flatMap encP) := by
  have hF : FitsE a ql.length vl.length 0 := by rw [hq, hv]; exact FitsE.ok hG.ok
  obtain ⟨v, c, he, hbl, ⟨h1, h2, _⟩ | ⟨_, ⟨j, x, y, h1, h2, n, e', h3, h4, _⟩, _⟩ | ⟨_, h1, S, h2, h3, h4⟩⟩ := h
  · exact absurd (h1.uniq hF) h2
  · exfalso
    have hg := hG.lk x (List.mem_of_getElem? h1)
    obtain ⟨b1, b2, _⟩ := hg.brake
    have hs := hg.speed_le
    have ha := hb j x y h1 h2
    exact h4 (ticks_fine h3 b1 (by grind))
  · subst h1
    exact ⟨v, S, he, hbl, h2, h3, h4⟩
theorem brake_gen {w w' : World} {N : Nat} {a : Ar} (hG : GenAr a) {ql vl : List Q3} {pw : Bool} {hd : Int} (hq : ql.length = a.L.length) (hv : vl.length = a.L.length) {e : Ending} (h : BrakePost w N a ql vl pw hd e w') :
    ∃ (vq vv : Value) (qs vs : List Q3), e = .returned (.tuple #[.agg #[vq, vv, .bool pw, .int .i64 hd], .int .i64 0]) ∧ Below w.heap.size w w' ∧ SlQ w' w'.heap.size vq qs ∧ SlQ w' w'.heap.size vv vs ∧ BrkTo N a.L ql vl qs vs a.L.length := by
  have hF : FitsE a ql.length vl.length 0 := by rw [hq, hv]; exact FitsE.ok hG.ok
  obtain ⟨vq, vv, p, h', c, he, hbl, ⟨h1, h2, _⟩ | ⟨_, h1, h2, h3, qs, vs, h4, h5, h6⟩⟩ := h
  · exact absurd (h1.uniq hF) h2
  · subst h1 h2 h3
    exact ⟨vq, vv, qs, vs, he, hbl, h4, h5, h6⟩
theorem SlP.ownS {w : World} {base n : Nat} {v : Value} {S : List P2} (h : w.ownsRow base 68 6 v n (S.flatMap encP)) (hn : n = S.length) : SlP w w.heap.size v S := by
  obtain ⟨A, c, rfl, h1, _, h2⟩ := own_rd h
  exact ⟨A, n, c, rfl, hn.symm, h1, fun hA => (own_none h hA).2, h2⟩
theorem SlQ.up {w w' : World} {v : Value} {l : List Q3} (h : SlQ w w.heap.size v l) (hb : Below w.heap.size w w') : SlQ w' w'.heap.size v l := (h.below hb).more hb.size
theorem SlP.up {w w' : World} {v : Value} {l : List P2} (h : SlP w w.heap.size v l) (hb : Below w.heap.size w w') : SlP w' w'.heap.size v l := (h.below hb).more hb.size
theorem enters_own {f : FuncId} {fn : Func} {c : Code} (hf : Tryd.prog.funcs[f]? = some fn) (hname : (fn.name == "runtime.NumGoroutine") = false) (hb : fn.body = some c) (args : Array Value) (w : World) : (callFunc f args).run Tryd.prog w = .ok (.enter f args) w := by
  have h1 : fn.name ≠ "runtime.NumGoroutine" := by simpa using hname
  simp [callFunc, hf, h1, hb, mark]
theorem SlQ.far {w w' : World} {g : Nat} {v : Value} {l : List Q3} {T : TypeId} {a0 a1 : Option Addr} {n0 c0 n1 c1 : Nat} {p : Bool} {k : IntKind} {z : Int} (h : SlQ w w.heap.size v l) (hl : 0 < l.length) (hk : Blk w g T #[.slice a0 n0 c0, .slice a1 n1 c1, .bool p, .int k z]) (hg : w.grownBy w' (some g)) : SlQ w' w'.heap.size v l := by
  obtain ⟨A, n, c, h1, h2, h3, h4, h5⟩ := h
  obtain ⟨x, l', rfl⟩ : ∃ x l', l = x :: l' := by
    cases l with
    | nil => exact absurd hl (Nat.lt_irrefl 0)
    | cons x l' => exact ⟨x, l', rfl⟩
  have h6 := rd_far h5 (Nat.le_refl _) rfl rfl hk hg
  obtain ⟨_, _, _, g4, _⟩ := hg
  exact ⟨A, n, c, h1, h2, h3, h4, h6.more g4⟩
theorem SlP.far {w w' : World} {g : Nat} {v : Value} {l : List P2} {T : TypeId} {a0 a1 : Option Addr} {n0 c0 n1 c1 : Nat} {p : Bool} {k : IntKind} {z : Int} (h : SlP w w.heap.size v l) (hl : 0 < l.length) (hk : Blk w g T #[.slice a0 n0 c0, .slice a1 n1 c1, .bool p, .int k z]) (hg : w.grownBy w' (some g)) : SlP w' w'.heap.size v l := by
  obtain ⟨A, n, c, h1, h2, h3, h4, h5⟩ := h
  obtain ⟨x, l', rfl⟩ : ∃ x l', l = x :: l' := by
    cases l with
    | nil => exact absurd hl (Nat.lt_irrefl 0)
    | cons x l' => exact ⟨x, l', rfl⟩
  have h6 := rd_far h5 (Nat.le_refl _) rfl rfl hk hg
  obtain ⟨_, _, _, g4, _⟩ := hg
  exact ⟨A, n, c, h1, h2, h3, h4, h6.more g4⟩
theorem speed_gen {k : Lk} {l : List P2} (h : GenLk k l) : 0 < k.speed.q ∧ k.speed.q ≤ 1 ∧ floorE (k.speed.q * ((64 : Int) : Rat)) = 0 ∧ 0 ≤ floorN (k.speed.q * ((64 : Int) : Rat)) ∧ floorN (k.speed.q * ((64 : Int) : Rat)) ≤ 6400 ∧ ((floorN (k.speed.q * ((64 : Int) : Rat)) : Int) : Rat) ≤ k.speed.q * 64 := by
  obtain ⟨c, a, e, d, f, zs, _, _, _, hd, _, ⟨_, _, _, hs, _⟩, _⟩ := h
  rw [hs]
  obtain ⟨m, hm⟩ : ∃ m, m = (4 + d).toNat := ⟨_, rfl⟩
  rw [← hm]
  have hm1 : 4 ≤ m ∧ m ≤ 11 := by omega
  have key : ∀ m : Fin 12, 4 ≤ m.val → (0 < mkRat 1 m.val ∧ mkRat 1 m.val ≤ 1 ∧ floorE (mkRat 1 m.val * ((64 : Int) : Rat)) = 0 ∧ 0 ≤ floorN (mkRat 1 m.val * ((64 : Int) : Rat)) ∧ floorN (mkRat 1 m.val * ((64 : Int) : Rat)) ≤ 6400 ∧ ((floorN (mkRat 1 m.val * ((64 : Int) : Rat)) : Int) : Rat) ≤ mkRat 1 m.val * 64) := by decide +kernel
  exact key ⟨m, by omega⟩ hm1.1
/-- what Fast answers, at a link that gantmake.Arm makes -/
theorem fast_safe {k : Lk} {l : List P2} (h : GenLk k l) {q : Q3} (hq : QIn k q) {way : Int} (hw : way = 1 ∨ way = -1) {x : Q3} (hF : FastIs k.brake.q k.low.q k.high.q k.speed.q q.q way x 0) :
    x.can ∧ x.le 16 ∧ 0 ≤ x.q ∧ x.q ≤ k.speed.q ∧ FitP k.brake.q k.low.q k.high.q q.q (x.q * (way : Rat)) ∧ absQ (x.q * (way : Rat)) ≤ 2000 * k.brake.q := by
  obtain ⟨s1, s2, _, _, _, s6⟩ := speed_gen h
  obtain ⟨b1, b2, b3⟩ := h.brake
  rcases hF with ⟨_, _, h3⟩ | ⟨_, _, _, _, _, h6⟩ | ⟨_, _, _, _, _, _, hc, hl, a, ha, han, hxa, hfit, _⟩
  · omega
  · omega
  have e64 : ((64 : Int) : Rat) = 64 := rfl
  have hx64 : x.q * 64 = (a : Rat) := by
    rw [hxa, e64]
    exact Rat.div_mul_cancel (by decide +kernel)
  have ha0 : ((0 : Int) : Rat) ≤ (a : Rat) := Rat.intCast_le_intCast.mpr ha
  have han2 : (a : Rat) ≤ ((floorN (k.speed.q * ((64 : Int) : Rat)) : Int) : Rat) := Rat.intCast_le_intCast.mpr han
  have e0 : ((0 : Int) : Rat) = 0 := rfl
  rw [e0] at ha0
  have hx0 : 0 ≤ x.q := by grind
  have hxs : x.q ≤ k.speed.q := by grind
  have hwq : (way : Rat) = 1 ∨ (way : Rat) = -1 := by
    rcases hw with rfl | rfl
    · exact .inl rfl
    · exact .inr rfl
  have hxw : ((a * way : Int) : Rat) / ((64 : Int) : Rat) = x.q * (way : Rat) := by
    rw [Rat.intCast_mul, ← hx64, e64, Rat.mul_assoc, Rat.mul_comm 64, ← Rat.mul_assoc, Rat.mul_div_cancel (by decide +kernel)]
  refine ⟨hc, hl, hx0, hxs, ?_, ?_⟩
  · rw [← hxw]
    rcases hfit with h0 | h0
    · subst h0
      rw [Int.zero_mul, show (((0 : Int) : Rat) / ((64 : Int) : Rat)) = 0 by decide +kernel]
      exact fit_zero b1 ⟨hq.2.2.1, hq.2.2.2⟩
    · exact h0
  · rcases hwq with h1 | h1
    · rw [h1, Rat.mul_one]
      unfold absQ
      split <;> grind
    · rw [h1]
      unfold absQ
      split <;> grind
def LsRel (w : World) (n : Nat) (i : Value) (wr : World) : Prop := ∃ k : Nat, k ≤ n ∧ i = .int .i64 k ∧ In w [] wr
theorem SlQ.blk {w : World} {b C : Nat} {cur : Array Value} {qs : List Q3} (hB : Blk w b 25 cur) (hc : cur.toList.take (qs.length * 3) = qs.flatMap encQ) (hC : qs.length ≤ C) : SlQ w w.heap.size (.slice (some ⟨b, 0, none⟩) qs.length C) qs := by
  refine ⟨_, _, _, rfl, rfl, hC, (fun h => by cases h), flatQ_length qs, fun _ => ⟨b, 0, rfl, hB.lt, fun j u hu => ?_⟩⟩
  rw [Nat.zero_add]
  refine hB.cell j u ?_
  have h2 : (cur.toList.take (qs.length * 3))[j]? = some u := by rw [hc]; exact hu
  rw [List.getElem?_take] at h2
  split at h2
  · simpa using h2
  · cases h2
theorem ticks_60 {k : Lk} {l : List P2} (hk : GenLk k l) {v : Rat} {n : Int} (hv : absQ v ≤ k.speed.q) (h : TicksIs k.brake.q v n 0) : 0 ≤ n ∧ n ≤ 60 := by
  obtain ⟨_, _, h0, _, _, h3⟩ := ticks_ok h
  refine ⟨h0, ?_⟩
  obtain ⟨b1, b2, _⟩ := hk.brake
  have hs := hk.speed4
  rcases Int.lt_or_le 60 n with hn | hn
  · exfalso
    have h4 : ((60 : Int) : Rat) ≤ ((n - 1 : Int) : Rat) := Rat.intCast_le_intCast.mpr (by omega)
    rw [Rat.intCast_sub] at h4
    have e1 : ((1 : Int) : Rat) = 1 := rfl
    have e60 : ((60 : Int) : Rat) = 60 := rfl
    rw [e1, e60] at h4
    have h5 := Rat.mul_le_mul_of_nonneg_right h4 (Rat.le_of_lt b1)
    grind
  · exact hn
theorem hold_fin {N M : Nat} {k : Lk} {q0 v0 q v : Q3} {s : P2} {n : Int} (h : HoldAt k q0 v0 M q v) (ht : TicksIs k.brake.q v0.q n 0) (hn : n ≤ M) (hs : SpanAt N k q0 v0 s) : v.q = 0 ∧ (q = s.x ∨ q = s.y) := by
  obtain ⟨n', t1, a1, a2, ⟨c1, c2⟩, _⟩ := hs
  obtain ⟨rfl, _⟩ := ticks_uniq ht t1
  obtain ⟨hb, _⟩ := ticks_ok ht
  obtain ⟨m, hm, hend⟩ := ticks_end ht
  have hz := (path_ticks ht hend).2
  obtain ⟨h1, h2, h3, _⟩ := h
  have hmM : M = m + (M - m) := by omega
  refine ⟨by rw [h2, hmM]; exact pathV_stays hb hz _, ?_⟩
  have hq : q.q = q0.q + wayQ k.brake.q v0.q n := by rw [h1, hmM, pathQ_stays hb hz, wayQ_path ht hm]
  unfold minQ at a1
  unfold maxQ at a2
  by_cases hle : q0.q ≤ q0.q + wayQ k.brake.q v0.q n
  · right
    refine h3.eq c2 ?_
    rw [hq, a2]
    split <;> grind
  · left
    refine h3.eq c1 ?_
    rw [hq, a1]
    split <;> grind
end Go.Proofs.YtnnbnecpcppkdaaDoor
