/- stop.Brake. Conditions: those typed. -/
import Derived.Test.YtnnbnecpcppkdaaDoorStopFits
import Derived.Test.YtnnbnecpcppkdaaDoorBrakes
import Derived.Test.YtnnbnecpcppkdaaDoorCloneQ
import Derived.Test.YtnnbnecpcppkdaaDoorInv2
namespace Go.Proofs.YtnnbnecpcppkdaaDoor
open Go.RowKit Go.Gy
set_option linter.unusedVariables false
/-- a joint behind a tick of braking -/
def BrkAt (N : Nat) (k : Lk) (q v q' v' : Q3) : Prop := v'.q = slowQ k.brake.q v.q ∧ q'.q = q.q + v'.q ∧ v'.can ∧ q'.can ∧ v'.le (N + N + 8) ∧ q'.le (N + (N + N + 8) + 1)
/-- the first i joints have braked, the others stand as they were -/
def BrkTo (N : Nat) (L : List (Lk × List P2)) (ql vl qs vs : List Q3) (i : Nat) : Prop := qs.length = ql.length ∧ vs.length = vl.length ∧
  (∀ (j : Nat) (x : Lk × List P2) (q v q' v' : Q3), j < i → L[j]? = some x → ql[j]? = some q → vl[j]? = some v → qs[j]? = some q' → vs[j]? = some v' → BrkAt N x.1 q v q' v') ∧
  (∀ j : Nat, i ≤ j → qs[j]? = ql[j]? ∧ vs[j]? = vl[j]?)
def BrakePost (w : World) (N : Nat) (a : Ar) (ql vl : List Q3) (pw : Bool) (hd : Int) (e : Ending) (w' : World) : Prop := ∃ (vq vv : Value) (p : Bool) (h c : Int), e = .returned (.tuple #[.agg #[vq, vv, .bool p, .int .i64 h], .int .i64 c]) ∧ Below w.heap.size w w' ∧
  ((FitsE a ql.length vl.length c ∧ c ≠ 0 ∧ vq = .slice none 0 0 ∧ vv = .slice none 0 0 ∧ p = false ∧ h = 0) ∨
   (FitsE a ql.length vl.length 0 ∧ c = 0 ∧ p = pw ∧ h = hd ∧ ∃ qs vs, SlQ w' w'.heap.size vq qs ∧ SlQ w' w'.heap.size vv vs ∧ BrkTo N a.L ql vl qs vs a.L.length))
/-- what the operations of 'out := ..' yield -/
def BrkF (w : World) (g : Nat) (vq vv : Value) (ql vl : List Q3) (pw : Bool) (hd : Int) (i : Nat) (v : Value) (W : World) : Prop :=
  match i with
  | 0 => v = .pointer (some ⟨g + 1, 0, none⟩)
  | 1 => v = vq
  | 2 => W.ownsRow w.heap.size 25 3 v ql.length (ql.flatMap encQ) ∧ ∃ A n c, v = .slice A n c
  | 3 => v = .pointer (some ⟨g + 1, 1, none⟩)
  | 4 => v = vv
  | 5 => W.ownsRow w.heap.size 25 3 v vl.length (vl.flatMap encQ) ∧ ∃ A n c, v = .slice A n c
  | 6 => v = .pointer (some ⟨g + 1, 2, none⟩)
  | 7 => v = .bool pw
  | 8 => v = .pointer (some ⟨g + 1, 3, none⟩)
  | 9 => v = .int .i64 hd
  | 10 => ∃ v1 v2, v = .agg #[v1, v2, .bool pw, .int .i64 hd]
  | 11 => ∃ b, v = .pointer (some ⟨b, 0, none⟩) ∧ w.heap.size + 3 ≤ b ∧ Blk W b 61 #[.slice none 0 0, .slice none 0 0, .bool false, .int .i64 0]
  | _ => True
/-- the two rows lie apart; the state is of them -/
def BrkR (i : Nat) (vs : Nat → Value) (v : Value) (pw : Bool) (hd : Int) : Prop :=
  match i with
  | 5 => ∀ b, (vs 2).ownBlock = some b → v.ownBlock ≠ some b
  | 10 => v = .agg #[vs 2, vs 5, .bool pw, .int .i64 hd]
  | _ => True
theorem own_base2 {w : World} {base base' : Nat} {e : TypeId} {size n : Nat} {v : Value} {xs : List Value} (h : w.ownsRow base' e size v n xs) (hb : base ≤ base') : w.ownsRow base e size v n xs := by
  obtain ⟨h1, h2 | ⟨g, cap, cur, h2, h3, h4⟩⟩ := h
  · exact ⟨h1, .inl h2⟩
  · exact ⟨h1, .inr ⟨g, cap, cur, h2, by omega, h4⟩⟩
theorem BrkF.below {w W W' : World} {g : Nat} {vq vv : Value} {ql vl : List Q3} {pw : Bool} {hd : Int} (hb : Below W.heap.size W W') : ∀ j u, BrkF w g vq vv ql vl pw hd j u W → BrkF w g vq vv ql vl pw hd j u W' := by
  intro j u hF
  rcases j with _ | _ | _ | _ | _ | _ | _ | _ | _ | _ | _ | _ | j
  all_goals try exact hF
  · exact ⟨own_below hF.1 hb (Nat.le_refl _), hF.2⟩
  · exact ⟨own_below hF.1 hb (Nat.le_refl _), hF.2⟩
  · obtain ⟨b, h1, h2, h3⟩ := hF
    exact ⟨b, h1, h2, h3.below hb h3.lt⟩
theorem In.all4 {w W : World} {a b : List (Nat × TypeId × Array Value)} {g : Nat} {t : TypeId} {x0 x1 x2 x3 : Value} (h : In w (a ++ (g, t, #[x0, x1, x2, x3]) :: b) W) (u0 u1 u2 u3 : Value) :
    In w (a ++ (g, t, #[u0, u1, u2, u3]) :: b) ((((W.setCell ⟨g, 0, none⟩ u0).setCell ⟨g, 1, none⟩ u1).setCell ⟨g, 2, none⟩ u2).setCell ⟨g, 3, none⟩ u3) := by
  replace h : In w (a ++ (g, t, #[u0, x1, x2, x3]) :: b) (W.setCell ⟨g, 0, none⟩ u0) := h.set 0 u0
  replace h : In w (a ++ (g, t, #[u0, u1, x2, x3]) :: b) ((W.setCell ⟨g, 0, none⟩ u0).setCell ⟨g, 1, none⟩ u1) := h.set 1 u1
  replace h : In w (a ++ (g, t, #[u0, u1, u2, x3]) :: b) (((W.setCell ⟨g, 0, none⟩ u0).setCell ⟨g, 1, none⟩ u1).setCell ⟨g, 2, none⟩ u2) := h.set 2 u2
  exact h.set 3 u3
theorem grown4 (W : World) (g : Nat) (u0 u1 u2 u3 : Value) : W.grownBy ((((W.setCell ⟨g, 0, none⟩ u0).setCell ⟨g, 1, none⟩ u1).setCell ⟨g, 2, none⟩ u2).setCell ⟨g, 3, none⟩ u3) (some g) :=
  grown_trans2 (grown_trans2 (grown_trans2 (grown_set W g 0 _) (grown_set _ g 1 _)) (grown_set _ g 2 _)) (grown_set _ g 3 _)
theorem own_slc {w : World} {base n size : Nat} {e : TypeId} {v : Value} {xs : List Value} (h : w.ownsRow base e size v n xs) : ∃ A n c, v = .slice A n c := by
  obtain ⟨_, ⟨hv, _⟩ | ⟨g, cap, cur, hv, _⟩⟩ := h
  · exact ⟨_, _, _, hv⟩
  · exact ⟨_, _, _, hv⟩
/-- out, and its two rows -/
def BrkW (w : World) (b g1 c1 g2 c2 : Nat) (LS : List (Nat × TypeId × Array Value)) (pw : Bool) (hd : Int) (n m : Nat) (qs vs : List Q3) (W : World) : Prop :=
  In w ((b, 61, #[.slice (some ⟨g1, 0, none⟩) n c1, .slice (some ⟨g2, 0, none⟩) m c2, .bool pw, .int .i64 hd]) :: LS) W ∧
  W.ownsRow w.heap.size 25 3 (.slice (some ⟨g1, 0, none⟩) n c1) n (qs.flatMap encQ) ∧ W.ownsRow w.heap.size 25 3 (.slice (some ⟨g2, 0, none⟩) m c2) m (vs.flatMap encQ) ∧ g1 ≠ g2
theorem BrkW.call {w W W' : World} {b g1 c1 g2 c2 : Nat} {LS : List (Nat × TypeId × Array Value)} {pw : Bool} {hd : Int} {n m : Nat} {qs vs : List Q3} (h : BrkW w b g1 c1 g2 c2 LS pw hd n m qs vs W) (hb : Below W.heap.size W W') : BrkW w b g1 c1 g2 c2 LS pw hd n m qs vs W' :=
  ⟨h.1.call hb, own_below h.2.1 hb (Nat.le_refl _), own_below h.2.2.1 hb (Nat.le_refl _), h.2.2.2⟩
/-- no block of ls holds numbers -/
def NoRat (ls : List (Nat × TypeId × Array Value)) : Prop := ∀ x ∈ ls, x.2.1 ≠ 25
theorem BrkW.setV {w W : World} {b g1 c1 g2 c2 : Nat} {LS : List (Nat × TypeId × Array Value)} {pw : Bool} {hd : Int} {n m : Nat} {qs vs : List Q3} (h : BrkW w b g1 c1 g2 c2 LS pw hd n m qs vs W) (hn : NoRat LS) {i : Nat} (hi : i < vs.length) (q : Q3) :
    BrkW w b g1 c1 g2 c2 LS pw hd n m qs (vs.set i q) (((W.setCell ⟨g2, i * 3, none⟩ (.bool q.neg)).setCell ⟨g2, i * 3 + 1, none⟩ (.string q.num)).setCell ⟨g2, i * 3 + 2, none⟩ (.string q.den)) := by
  obtain ⟨hI, h1, h2, h3⟩ := h
  have hg := grown3 W g2 (i * 3) (i * 3 + 1) (i * 3 + 2) (.bool q.neg) (.string q.num) (.string q.den)
  refine ⟨hI.next hg (h2.lt g2 rfl).1 (fun x hx e => ?_), h1.kept hg (.inr (fun e => h3 (Option.some.inj e))), own_set3 h2 hi q, h3⟩
  have h4 := own_type h2 (g := x.1) (by rw [e]; rfl) (hI.blk x hx)
  rcases List.mem_cons.1 hx with rfl | hx
  · exact absurd (show (61 : Nat) = 25 from h4) (by decide)
  · exact hn x hx h4
theorem BrkW.setQ {w W : World} {b g1 c1 g2 c2 : Nat} {LS : List (Nat × TypeId × Array Value)} {pw : Bool} {hd : Int} {n m : Nat} {qs vs : List Q3} (h : BrkW w b g1 c1 g2 c2 LS pw hd n m qs vs W) (hn : NoRat LS) {i : Nat} (hi : i < qs.length) (q : Q3) :
    BrkW w b g1 c1 g2 c2 LS pw hd n m (qs.set i q) vs (((W.setCell ⟨g1, i * 3, none⟩ (.bool q.neg)).setCell ⟨g1, i * 3 + 1, none⟩ (.string q.num)).setCell ⟨g1, i * 3 + 2, none⟩ (.string q.den)) := by
  obtain ⟨hI, h1, h2, h3⟩ := h
  have hg := grown3 W g1 (i * 3) (i * 3 + 1) (i * 3 + 2) (.bool q.neg) (.string q.num) (.string q.den)
  refine ⟨hI.next hg (h1.lt g1 rfl).1 (fun x hx e => ?_), own_set3 h1 hi q, h2.kept hg (.inr (fun e => h3 (Option.some.inj e).symm)), h3⟩
  have h4 := own_type h1 (g := x.1) (by rw [e]; rfl) (hI.blk x hx)
  rcases List.mem_cons.1 hx with rfl | hx
  · exact absurd (show (61 : Nat) = 25 from h4) (by decide)
  · exact hn x hx h4
theorem own_cells {W : World} {base g n c i : Nat} {l : List Q3} {y : Q3} (h : W.ownsRow base 25 3 (.slice (some ⟨g, 0, none⟩) n c) n (l.flatMap encQ)) (hy : l[i]? = some y) :
    W.cell? ⟨g, i * 3, none⟩ = some (.bool y.neg) ∧ W.cell? ⟨g, i * 3 + 1, none⟩ = some (.string y.num) ∧ W.cell? ⟨g, i * 3 + 2, none⟩ = some (.string y.den) := by
  obtain ⟨A, n', c', he, _, _, _, hr⟩ := SlQ.own h
  injection he with he1 he2 he3
  subst he1
  obtain ⟨b, o, he, _, e0, e1, e2⟩ := Rd.quot hr hy
  injection he with he
  injection he with h1 h2
  subst h1 h2
  rw [Nat.zero_add] at e0 e1 e2
  exact ⟨e0, e1, e2⟩
theorem BrkTo.start {N : Nat} {L : List (Lk × List P2)} {ql vl : List Q3} : BrkTo N L ql vl ql vl 0 := ⟨rfl, rfl, fun j _ _ _ _ _ h => absurd h (Nat.not_lt_zero j), fun _ _ => ⟨rfl, rfl⟩⟩
theorem BrkTo.step {N : Nat} {L : List (Lk × List P2)} {ql vl qs vs : List Q3} {i : Nat} {x : Lk × List P2} {q v q' v' : Q3} (h : BrkTo N L ql vl qs vs i) (hx : L[i]? = some x) (hq : ql[i]? = some q) (hv : vl[i]? = some v) (hb : BrkAt N x.1 q v q' v') : BrkTo N L ql vl (qs.set i q') (vs.set i v') (i + 1) := by
  obtain ⟨h1, h2, h3, h4⟩ := h
  have hqi := (List.getElem?_eq_some_iff.1 hq).1
  have hvi := (List.getElem?_eq_some_iff.1 hv).1
  refine ⟨by rw [List.length_set, h1], by rw [List.length_set, h2], fun j y a b a' b' hj k1 k2 k3 k4 k5 => ?_, fun j hj => ?_⟩
  · rw [List.getElem?_set] at k4 k5
    by_cases hji : i = j
    · subst hji
      rw [if_pos rfl, if_pos (by omega)] at k4 k5
      rw [hx] at k1; rw [hq] at k2; rw [hv] at k3
      cases k1; cases k2; cases k3; cases k4; cases k5
      exact hb
    · rw [if_neg hji] at k4 k5
      exact h3 j y a b a' b' (by omega) k1 k2 k3 k4 k5
  · rw [List.getElem?_set, List.getElem?_set, if_neg (by omega), if_neg (by omega)]
    exact h4 j (by omega)
def BkRel (w : World) (N b g1 c1 g2 c2 : Nat) (LS : List (Nat × TypeId × Array Value)) (pw : Bool) (hd : Int) (L : List (Lk × List P2)) (ql vl : List Q3) (i : Value) (wr : World) : Prop :=
  ∃ (k : Nat) (qs vs : List Q3), i = .int .i64 k ∧ k ≤ L.length ∧ BrkTo N L ql vl qs vs k ∧ BrkW w b g1 c1 g2 c2 LS pw hd ql.length vl.length qs vs wr
set_option maxRecDepth 100000 in
set_option maxHeartbeats 8000000 in
theorem brake_any (w : World) (hT : TabW w) (a : Ar) {N : Nat} (hA : a.At w w.heap.size) (hle : a.le N) (vq vv : Value) (ql vl : List Q3) (pw : Bool) (hd : Int) (hq : SlQ w w.heap.size vq ql) (hv : SlQ w w.heap.size vv vl) (lq : ∀ x ∈ ql, x.le N) (lv : ∀ x ∈ vl, x.le N) (hN : 1 ≤ N ∧ N ≤ 67108864) :
    Calls Tryd.prog 37 #[a.val, .agg #[vq, vv, .bool pw, .int .i64 hd]] w (BrakePost w N a ql vl pw hd) := by
  have HSQ := Lib.hid hq
  have HSV := Lib.hid hv
  obtain ⟨Aq, nq, Cq, rfl, hqn, _, _, hrq⟩ := hq
  obtain ⟨Av, nv, Cv, rfl, hvn, _, _, hrv⟩ := hv
  subst hqn hvn
  have HT := Lib.hid hT
  have HFI := Lib.hid (fun W (hW : Below w.heap.size w W) => fits_any W (tabs w hT hW) a (hA.up hW) hle (by omega) Aq Av ql.length Cq vl.length Cv)
  have HRQ := Lib.hid hrq
  have HRV := Lib.hid hrv
  have HLQ := Lib.hid lq
  have HLV := Lib.hid lv
  obtain ⟨ar, har⟩ : ∃ ar, ar = a := ⟨_, rfl⟩
  rw [← har] at HFI ⊢
  obtain ⟨nm, ⟨px, py⟩, hf, t, va, L⟩ := a
  obtain ⟨⟨A, n9, C, hva, hNL, _, _, hrd⟩, hshp⟩ := hA
  obtain rfl : va = .slice A n9 C := hva
  obtain rfl : L.length = n9 := (Ar.ks_len ⟨nm, ⟨px, py⟩, hf, t, .slice A n9 C, L⟩).symm.trans hNL
  have hval : ar.val = .agg #[.string nm, .bool px.neg, .string px.num, .string px.den, .bool py.neg, .string py.num, .string py.den, .bool hf, .bool t.neg, .string t.num, .string t.den, .slice A L.length C] := by rw [har]; rfl
  have hLL : ar.L = L := by rw [har]
  rw [hval] at HFI ⊢
  have HRD := Lib.hid hrd
  have HSH := Lib.hid (show ∀ x ∈ L, SlP w w.heap.size x.1.shape x.2 from hshp)
  have HKL := Lib.hid (show ∀ x ∈ L, x.1.le N ∧ (∀ y ∈ x.2, y.le N) ∧ x.2.length ≤ N from hle.2.2.2)
  have HKS := Lib.hid (show ∀ i : Nat, (L.map (·.1))[i]? = (L[i]?).map (·.1) from fun i => List.getElem?_map)
  have HP1 := Lib.hid (show ∀ c W, FitsE ar ql.length vl.length c → c ≠ 0 → Below w.heap.size w W → BrakePost w N ar ql vl pw hd (.returned (.tuple #[.agg #[.slice none 0 0, .slice none 0 0, .bool false, .int .i64 0], .int .i64 c])) W from fun c W h h0 hb => ⟨_, _, _, _, c, rfl, hb, .inl ⟨h, h0, rfl, rfl, rfl, rfl⟩⟩)
  have HP2 := Lib.hid (show ∀ v1 v2 qs vs W, FitsE ar ql.length vl.length 0 → SlQ W W.heap.size v1 qs → SlQ W W.heap.size v2 vs → BrkTo N L ql vl qs vs L.length → Below w.heap.size w W → BrakePost w N ar ql vl pw hd (.returned (.tuple #[.agg #[v1, v2, .bool pw, .int .i64 hd], .int .i64 0])) W from fun v1 v2 qs vs W h h1 h2 h3 hb => ⟨_, _, _, _, 0, rfl, hb, .inr ⟨h, rfl, rfl, rfl, qs, vs, h1, h2, by rw [hLL]; exact h3⟩⟩)
  have HFZ := Lib.hid (show FitsE ar ql.length vl.length 0 → ql.length = L.length ∧ vl.length = L.length ∧ L.length ≤ 3 ∧ 1 ≤ L.length from fun h => by
    have h1 := h.zero
    rw [hLL] at h1
    have h2 := h1.1.zero rfl
    rw [hLL] at h2
    exact ⟨h1.2.1, h1.2.2, h2.2.1, h2.1⟩)
  have hI := (((In.start w).alloc 37 #[.string nm, .bool px.neg, .string px.num, .string px.den, .bool py.neg, .string py.num, .string py.den, .bool hf, .bool t.neg, .string t.num, .string t.den, .slice A L.length C]).alloc 61 #[.slice Aq ql.length Cq, .slice Av vl.length Cv, .bool pw, .int .i64 hd]).alloc 61 #[.slice none 0 0, .slice none 0 0, .bool false, .int .i64 0]
  rw [World.size_alloc, World.size_alloc] at hI
  clear hrq hrv lq lv hT hval hLL har hrd hshp hNL hle
  go_enter Tryd.func37, Tryd.ntmps37
  go_upto_region 1 with (fail)
  obtain ⟨g, hg⟩ : ∃ g, g = w.heap.size := ⟨_, rfl⟩
  rw [← hg] at hI ⊢
  have HG := Lib.hid hg
  clear hg
  generalize World.alloc _ _ = W1 at hI ⊢
  have fx := hI.facts
  simp only [factsOf, cellsOf, Nat.zero_add, Nat.reduceAdd] at fx
  go_wp2_with fail
  refine (HFI.out _ hI.bel).mono ?_
  rintro e wn ⟨c, rfl, hc, hb⟩
  replace hI := hI.call hb
  clear hb fx HFI
  by_cases h0 : c = 0
  · subst h0
    have HC := Lib.hid hc
    obtain ⟨hq1, hv1, hL3, hL1⟩ := HFZ.out hc
    have HQ1 := Lib.hid hq1
    have HV1 := Lib.hid hv1
    clear hc hq1 hv1
    go_upto_region 4 with (fail)
    go_cut [7] (fun p wx => ∃ b g1 c1 g2 c2 : Nat, p = .pointer (some ⟨b, 0, none⟩) ∧ BrkW w b g1 c1 g2 c2 [(g + 1 + 1, 61, #[.slice none 0 0, .slice none 0 0, .bool false, .int .i64 0]), (g + 1, 61, #[.slice Aq ql.length Cq, .slice Av vl.length Cv, .bool pw, .int .i64 hd]), (g, 37, #[.string nm, .bool px.neg, .string px.num, .string px.den, .bool py.neg, .string py.num, .string py.den, .bool hf, .bool t.neg, .string t.num, .string t.den, .slice A L.length C])] pw hd ql.length vl.length ql vl wx)
    case first =>
      as_aux_lemma =>
      refine wp_region_inv2 12 (In w [(g + 1 + 1, 61, #[.slice none 0 0, .slice none 0 0, .bool false, .int .i64 0]), (g + 1, 61, #[.slice Aq ql.length Cq, .slice Av vl.length Cv, .bool pw, .int .i64 hd]), (g, 37, #[.string nm, .bool px.neg, .string px.num, .string px.den, .bool py.neg, .string py.num, .string py.den, .bool hf, .bool t.neg, .string t.num, .string t.den, .slice A L.length C])]) (BrkF w g (.slice Aq ql.length Cq) (.slice Av vl.length Cv) ql vl pw hd) (fun i vs v => BrkR i vs v pw hd) ?_ (by kernel_rfl) (by kernel_rfl) hI.drew ?_ ?_
      · intro i o vs vs' v ho heq hR
        rcases i with _ | _ | _ | _ | _ | _ | _ | _ | _ | _ | _ | i
        all_goals try exact trivial
        · simp only [List.getElem?_cons_succ, List.getElem?_cons_zero, Option.some.injEq] at ho
          subst ho
          have h2 : vs 2 = vs' 2 := heq ⟨2, .chain⟩ (by simp) rfl
          show ∀ b, (vs' 2).ownBlock = some b → v.ownBlock ≠ some b
          rw [← h2]
          exact hR
        · simp only [List.getElem?_cons_succ, List.getElem?_cons_zero, Option.some.injEq] at ho
          subst ho
          have h2 : vs 2 = vs' 2 := heq ⟨2, .data⟩ (by simp) rfl
          have h5 : vs 5 = vs' 5 := heq ⟨5, .data⟩ (by simp) rfl
          show v = .agg #[vs' 2, vs' 5, .bool pw, .int .i64 hd]
          rw [← h2, ← h5]
          exact hR
      · intro i o hi ho vs W hI hdep
        rcases i with _ | _ | _ | _ | _ | _ | _ | _ | _ | _ | _ | _ | i
        all_goals first | omega | skip
        all_goals (simp only [List.getElem?_cons_succ, List.getElem?_cons_zero, Option.some.injEq] at ho; subst ho)
        · skip
          refine ⟨rfl, .inl ⟨.pointer (some ⟨g + 1, 0, none⟩), W, ?_, hI, rfl, trivial, fun j u h => h⟩⟩
          unfold lexA
          simp only [putAll, preI, Nat.reduceLT, Nat.reduceAdd, decide_false, Bool.false_eq_true, if_false]
          go_simp
        · have d0 : vs 0 = .pointer (some ⟨g + 1, 0, none⟩) := hdep ⟨0, .data⟩ (by simp) rfl
          have fx := hI.facts
          simp only [factsOf, cellsOf, Nat.zero_add, Nat.reduceAdd] at fx
          refine ⟨rfl, .inl ⟨.slice Aq ql.length Cq, W, ?_, hI, rfl, trivial, fun j u h => h⟩⟩
          clear hI
          unfold lexA
          simp only [putAll, preI, Nat.reduceLT, Nat.reduceAdd, decide_true, decide_false, Bool.false_eq_true, if_true, if_false, Act.put, List.setIfInBounds_toArray, List.set_cons_zero, List.set_cons_succ]
          go_simp
        · have d1 : vs 1 = .slice Aq ql.length Cq := hdep ⟨1, .data⟩ (by simp) rfl
          refine ⟨rfl, .inr ⟨_, _, ?_, (clone_rats W (.slice Aq ql.length Cq) ql ((HSQ.out.below hI.bel).more hI.bel.size) (by rw [HQ1.out]; omega)).mono fun e W' ⟨v', he, ho, hb⟩ => ⟨v', he, hI.call hb, ⟨own_base2 ho hI.bel.size, own_slc ho⟩, trivial, BrkF.below hb⟩⟩⟩
          unfold lexA
          simp only [putAll, preI, Nat.reduceLT, Nat.reduceAdd, decide_true, decide_false, Bool.false_eq_true, if_true, if_false, Act.put, List.setIfInBounds_toArray, List.set_cons_zero, List.set_cons_succ]
          go_simp
        · skip
          refine ⟨rfl, .inl ⟨.pointer (some ⟨g + 1, 1, none⟩), W, ?_, hI, rfl, trivial, fun j u h => h⟩⟩
          unfold lexA
          simp only [putAll, preI, Nat.reduceLT, Nat.reduceAdd, decide_true, decide_false, Bool.false_eq_true, if_true, if_false, Act.put, List.setIfInBounds_toArray, List.set_cons_zero, List.set_cons_succ]
          go_simp
        · have d3 : vs 3 = .pointer (some ⟨g + 1, 1, none⟩) := hdep ⟨3, .data⟩ (by simp) rfl
          have fx := hI.facts
          simp only [factsOf, cellsOf, Nat.zero_add, Nat.reduceAdd] at fx
          refine ⟨rfl, .inl ⟨.slice Av vl.length Cv, W, ?_, hI, rfl, trivial, fun j u h => h⟩⟩
          clear hI
          unfold lexA
          simp only [putAll, preI, Nat.reduceLT, Nat.reduceAdd, decide_true, decide_false, Bool.false_eq_true, if_true, if_false, Act.put, List.setIfInBounds_toArray, List.set_cons_zero, List.set_cons_succ]
          go_simp
        · have d4 : vs 4 = .slice Av vl.length Cv := hdep ⟨4, .data⟩ (by simp) rfl
          have d2 : W.ownsRow w.heap.size 25 3 (vs 2) ql.length (ql.flatMap encQ) ∧ _ := hdep ⟨2, .chain⟩ (by simp) rfl
          refine ⟨rfl, .inr ⟨_, _, ?_, (clone_rats W (.slice Av vl.length Cv) vl ((HSV.out.below hI.bel).more hI.bel.size) (by rw [HV1.out]; omega)).mono fun e W' ⟨v', he, ho, hb⟩ => ⟨v', he, hI.call hb, ⟨own_base2 ho hI.bel.size, own_slc ho⟩, (fun b h1 h2 => by have h3 := (d2.1.lt b h1).2; have h4 := (ho.lt b h2).1; omega), BrkF.below hb⟩⟩⟩
          unfold lexA
          simp only [putAll, preI, Nat.reduceLT, Nat.reduceAdd, decide_true, decide_false, Bool.false_eq_true, if_true, if_false, Act.put, List.setIfInBounds_toArray, List.set_cons_zero, List.set_cons_succ]
          go_simp
        · skip
          refine ⟨rfl, .inl ⟨.pointer (some ⟨g + 1, 2, none⟩), W, ?_, hI, rfl, trivial, fun j u h => h⟩⟩
          unfold lexA
          simp only [putAll, preI, Nat.reduceLT, Nat.reduceAdd, decide_true, decide_false, Bool.false_eq_true, if_true, if_false, Act.put, List.setIfInBounds_toArray, List.set_cons_zero, List.set_cons_succ]
          go_simp
        · have d6 : vs 6 = .pointer (some ⟨g + 1, 2, none⟩) := hdep ⟨6, .data⟩ (by simp) rfl
          have fx := hI.facts
          simp only [factsOf, cellsOf, Nat.zero_add, Nat.reduceAdd] at fx
          refine ⟨rfl, .inl ⟨.bool pw, W, ?_, hI, rfl, trivial, fun j u h => h⟩⟩
          clear hI
          unfold lexA
          simp only [putAll, preI, Nat.reduceLT, Nat.reduceAdd, decide_true, decide_false, Bool.false_eq_true, if_true, if_false, Act.put, List.setIfInBounds_toArray, List.set_cons_zero, List.set_cons_succ]
          go_simp
        · skip
          refine ⟨rfl, .inl ⟨.pointer (some ⟨g + 1, 3, none⟩), W, ?_, hI, rfl, trivial, fun j u h => h⟩⟩
          unfold lexA
          simp only [putAll, preI, Nat.reduceLT, Nat.reduceAdd, decide_true, decide_false, Bool.false_eq_true, if_true, if_false, Act.put, List.setIfInBounds_toArray, List.set_cons_zero, List.set_cons_succ]
          go_simp
        · have d8 : vs 8 = .pointer (some ⟨g + 1, 3, none⟩) := hdep ⟨8, .data⟩ (by simp) rfl
          have fx := hI.facts
          simp only [factsOf, cellsOf, Nat.zero_add, Nat.reduceAdd] at fx
          refine ⟨rfl, .inl ⟨.int .i64 hd, W, ?_, hI, rfl, trivial, fun j u h => h⟩⟩
          clear hI
          unfold lexA
          simp only [putAll, preI, Nat.reduceLT, Nat.reduceAdd, decide_true, decide_false, Bool.false_eq_true, if_true, if_false, Act.put, List.setIfInBounds_toArray, List.set_cons_zero, List.set_cons_succ]
          go_simp
        · obtain ⟨_, A1, n1, k1, d2⟩ : W.ownsRow w.heap.size 25 3 (vs 2) ql.length (ql.flatMap encQ) ∧ ∃ A n c, vs 2 = .slice A n c := hdep ⟨2, .data⟩ (by simp) rfl
          obtain ⟨_, A2, n2, k2, d5⟩ : W.ownsRow w.heap.size 25 3 (vs 5) vl.length (vl.flatMap encQ) ∧ ∃ A n c, vs 5 = .slice A n c := hdep ⟨5, .data⟩ (by simp) rfl
          have d7 : vs 7 = .bool pw := hdep ⟨7, .data⟩ (by simp) rfl
          have d9 : vs 9 = .int .i64 hd := hdep ⟨9, .data⟩ (by simp) rfl
          refine ⟨rfl, .inl ⟨.agg #[vs 2, vs 5, .bool pw, .int .i64 hd], W, ?_, hI, ⟨_, _, rfl⟩, rfl, fun j u h => h⟩⟩
          unfold lexA
          simp only [putAll, preI, Nat.reduceLT, Nat.reduceAdd, decide_true, decide_false, Bool.false_eq_true, if_true, if_false, Act.put, List.setIfInBounds_toArray, List.set_cons_zero, List.set_cons_succ]
          go_simp
        · skip
          refine ⟨rfl, .inl ⟨.pointer (some ⟨W.heap.size, 0, none⟩), W.alloc (.cells #[.slice none 0 0, .slice none 0 0, .bool false, .int .i64 0] 61), ?_, hI.skip _, ⟨W.heap.size, rfl, (by have h1 := hI.lt (k := 0) rfl; have h2 := HG.out; omega), Blk.new _ _ _⟩, trivial, BrkF.below ((Below.refl _ _).alloc (Nat.le_refl _) _)⟩⟩
          unfold lexA
          simp only [putAll, preI, Nat.reduceLT, Nat.reduceAdd, decide_true, decide_false, Bool.false_eq_true, if_true, if_false, Act.put, List.setIfInBounds_toArray, List.set_cons_zero, List.set_cons_succ]
          go_simp
      · intro vs W hI hF hR
        obtain ⟨ho1, _⟩ : W.ownsRow w.heap.size 25 3 (vs 2) ql.length (ql.flatMap encQ) ∧ _ := hF 2 (by decide)
        obtain ⟨ho2, _⟩ : W.ownsRow w.heap.size 25 3 (vs 5) vl.length (vl.flatMap encQ) ∧ _ := hF 5 (by decide)
        obtain ⟨b, d11, hbw, hbk⟩ : ∃ b, vs 11 = .pointer (some ⟨b, 0, none⟩) ∧ w.heap.size + 3 ≤ b ∧ Blk W b 61 #[.slice none 0 0, .slice none 0 0, .bool false, .int .i64 0] := hF 11 (by decide)
        have hap : ∀ b, (vs 2).ownBlock = some b → (vs 5).ownBlock ≠ some b := hR 5 (by decide)
        have d10 : vs 10 = .agg #[vs 2, vs 5, .bool pw, .int .i64 hd] := hR 10 (by decide)
        obtain ⟨g1, c1, e1, _, _, _⟩ := own_shape ho1 (by rw [HQ1.out]; omega)
        obtain ⟨g2, c2, e2, _, _, _⟩ := own_shape ho2 (by rw [HV1.out]; omega)
        rw [e1] at ho1 hap d10
        rw [e2] at ho2 hap d10
        have hap2 : g1 ≠ g2 := fun e => hap g1 rfl (by rw [e]; rfl)
        unfold lexA
        simp only [putAll, preI, Nat.reduceLT, Nat.reduceAdd, decide_true, decide_false, Bool.false_eq_true, if_true, if_false, Act.put, List.setIfInBounds_toArray, List.set_cons_zero, List.set_cons_succ, List.drop_succ_cons, List.drop_zero]
        rw [d10, d11]
        have hJ : In w ((b, 61, #[.slice none 0 0, .slice none 0 0, .bool false, .int .i64 0]) :: [(g + 1 + 1, 61, #[.slice none 0 0, .slice none 0 0, .bool false, .int .i64 0]), (g + 1, 61, #[.slice Aq ql.length Cq, .slice Av vl.length Cv, .bool pw, .int .i64 hd]), (g, 37, #[.string nm, .bool px.neg, .string px.num, .string px.den, .bool py.neg, .string py.num, .string py.den, .bool hf, .bool t.neg, .string t.num, .string t.den, .slice A L.length C])]) W := by
          have hgg := HG.out
          refine ⟨hI.bel, fun x hx => ?_, fun x hx => ?_, ?_⟩
          · rcases List.mem_cons.1 hx with rfl | hx
            · exact hbk
            · exact hI.blk x hx
          · rcases List.mem_cons.1 hx with rfl | hx
            · show w.heap.size ≤ b; omega
            · exact hI.new x hx
          · rw [List.map_cons]
            refine List.nodup_cons.2 ⟨fun hm => ?_, hI.apart⟩
            simp only [List.map_cons, List.map_nil, List.mem_cons, List.not_mem_nil, or_false] at hm
            omega
        have hS1 := hJ.take (a := [_])
        have fx := hS1.facts
        simp only [factsOf, cellsOf, Nat.zero_add, Nat.reduceAdd] at fx
        have hz := fun i => hS1.free (k := 0) (i := i) rfl
        have HX := Lib.hid (show BrkW w b g1 c1 g2 c2 [(g + 1 + 1, 61, #[.slice none 0 0, .slice none 0 0, .bool false, .int .i64 0]), (g + 1, 61, #[.slice Aq ql.length Cq, .slice Av vl.length Cv, .bool pw, .int .i64 hd]), (g, 37, #[.string nm, .bool px.neg, .string px.num, .string px.den, .bool py.neg, .string py.num, .string py.den, .bool hf, .bool t.neg, .string t.num, .string t.den, .slice A L.length C])] pw hd ql.length vl.length ql vl ((((W.setCell ⟨b, 0, none⟩ (.slice (some ⟨g1, 0, none⟩) ql.length c1)).setCell ⟨b, 1, none⟩ (.slice (some ⟨g2, 0, none⟩) vl.length c2)).setCell ⟨b, 2, none⟩ (.bool pw)).setCell ⟨b, 3, none⟩ (.int .i64 hd)) from by
          have hgr : W.grownBy ((((W.setCell ⟨b, 0, none⟩ (.slice (some ⟨g1, 0, none⟩) ql.length c1)).setCell ⟨b, 1, none⟩ (.slice (some ⟨g2, 0, none⟩) vl.length c2)).setCell ⟨b, 2, none⟩ (.bool pw)).setCell ⟨b, 3, none⟩ (.int .i64 hd)) (some b) := grown_trans2 (grown_trans2 (grown_trans2 (grown_set W b 0 _) (grown_set _ b 1 _)) (grown_set _ b 2 _)) (grown_set _ b 3 _)
          refine ⟨?_, ho1.kept hgr (.inr (fun e => ?_)), ho2.kept hgr (.inr (fun e => ?_)), hap2⟩
          · have k1 := hJ.set (a := []) 0 (.slice (some ⟨g1, 0, none⟩) ql.length c1)
            simp only [List.nil_append, List.setIfInBounds_toArray, List.set_cons_zero] at k1
            have k2 := k1.set (a := []) 1 (.slice (some ⟨g2, 0, none⟩) vl.length c2)
            simp only [List.nil_append, List.setIfInBounds_toArray, List.set_cons_zero, List.set_cons_succ] at k2
            have k3 := k2.set (a := []) 2 (.bool pw)
            simp only [List.nil_append, List.setIfInBounds_toArray, List.set_cons_zero, List.set_cons_succ] at k3
            have k4 := k3.set (a := []) 3 (.int .i64 hd)
            simp only [List.nil_append, List.setIfInBounds_toArray, List.set_cons_zero, List.set_cons_succ] at k4
            exact k4
          · exact absurd (own_type ho1 (Option.some.inj e ▸ rfl) hbk) (by decide)
          · exact absurd (own_type ho2 (Option.some.inj e ▸ rfl) hbk) (by decide))
        clear hS1 hJ hI hF hR ho1 ho2 hap hbk d10 d11
        go_wp2_with fail
        go_meet
        exact ⟨b, g1, c1, g2, c2, rfl, HX.out⟩
    case rest =>
      clear hI
      obtain ⟨b, g1, c1, g2, c2, rfl, hBW⟩ := hcut
      have HNR := Lib.hid (show NoRat [(g + 1 + 1, 61, #[.slice none 0 0, .slice none 0 0, .bool false, .int .i64 0]), (g + 1, 61, #[.slice Aq ql.length Cq, .slice Av vl.length Cv, .bool pw, .int .i64 hd]), (g, 37, #[.string nm, .bool px.neg, .string px.num, .string px.den, .bool py.neg, .string py.num, .string py.den, .bool hf, .bool t.neg, .string t.num, .string t.den, .slice A L.length C])] from fun x hx => by
        simp only [List.mem_cons, List.not_mem_nil, or_false] at hx
        rcases hx with rfl | rfl | rfl
        · exact (by decide : (61 : Nat) ≠ 25)
        · exact (by decide : (61 : Nat) ≠ 25)
        · exact (by decide : (37 : Nat) ≠ 25))
      have hst := Lib.hid (show BkRel w N b g1 c1 g2 c2 [(g + 1 + 1, 61, #[.slice none 0 0, .slice none 0 0, .bool false, .int .i64 0]), (g + 1, 61, #[.slice Aq ql.length Cq, .slice Av vl.length Cv, .bool pw, .int .i64 hd]), (g, 37, #[.string nm, .bool px.neg, .string px.num, .string px.den, .bool py.neg, .string py.num, .string py.den, .bool hf, .bool t.neg, .string t.num, .string t.den, .slice A L.length C])] pw hd L ql vl (.int .i64 0) wc from ⟨0, ql, vl, rfl, Nat.zero_le _, BrkTo.start, hBW⟩)
      have hI := hBW.1
      have fx := hI.facts
      simp only [factsOf, cellsOf, Nat.zero_add, Nat.reduceAdd] at fx
      clear hI hBW
      go_wp2_with fail
      clear fx
      go_loopw [34] (fun i wr => BkRel w N b g1 c1 g2 c2 [(g + 1 + 1, 61, #[.slice none 0 0, .slice none 0 0, .bool false, .int .i64 0]), (g + 1, 61, #[.slice Aq ql.length Cq, .slice Av vl.length Cv, .bool pw, .int .i64 hd]), (g, 37, #[.string nm, .bool px.neg, .string px.num, .string px.den, .bool py.neg, .string py.num, .string py.den, .bool hf, .bool t.neg, .string t.num, .string t.den, .slice A L.length C])] pw hd L ql vl i wr) (fun i _ => L.length - (intOf i).toNat)
      case atStart => exact hst.out
      case round =>
        as_aux_lemma =>
        clear hst
        obtain ⟨k, qs, vs, rfl, hk, hto, hBW⟩ := hrel
        by_cases hin : k < L.length
        · obtain ⟨wq, rfl⟩ : ∃ wq, wq = wr := ⟨_, rfl⟩
          have hi1 : (k : Int) < (L.length : Int) := by omega
          have hi2 : 0 ≤ (k : Int) ∧ (k : Int) < (L.length : Int) := by omega
          have hi3 : 0 ≤ (k : Int) ∧ (k : Int) < (ql.length : Int) := by rw [HQ1.out]; exact hi2
          have hi4 : 0 ≤ (k : Int) ∧ (k : Int) < (vl.length : Int) := by rw [HV1.out]; exact hi2
          have hkq : k < qs.length := by rw [hto.1, HQ1.out]; exact hin
          have hkv : k < vs.length := by rw [hto.2.1, HV1.out]; exact hin
          have hbw := hBW.1.bel
          have HT2 := Lib.hid (tabs w HT.out hbw)
          obtain ⟨⟨⟨klen, klow, khigh, kspeed, kbrake, kshape⟩, pts⟩, ha⟩ : ∃ x, L[k]? = some x := ⟨_, List.getElem?_eq_getElem hin⟩
          obtain ⟨q, hq⟩ : ∃ q, ql[k]? = some q := ⟨_, List.getElem?_eq_getElem (by rw [HQ1.out]; exact hin)⟩
          obtain ⟨v, hv⟩ : ∃ q, vl[k]? = some q := ⟨_, List.getElem?_eq_getElem (by rw [HV1.out]; exact hin)⟩
          obtain ⟨y, hy⟩ : ∃ y, vs[k]? = some y := ⟨_, List.getElem?_eq_getElem hkv⟩
          obtain ⟨z, hz⟩ : ∃ z, qs[k]? = some z := ⟨_, List.getElem?_eq_getElem hkq⟩
          obtain ⟨A5, n5, c5, hk5, _⟩ := HSH.out _ (List.mem_of_getElem? ha)
          obtain rfl : kshape = .slice A5 n5 c5 := hk5
          obtain ⟨b9, o, hAe, hbB, hlc⟩ := Rd.lnk HRD.out (i := k) (k := ⟨klen, klow, khigh, kspeed, kbrake, .slice A5 n5 c5⟩) (by
            show (L.map (·.1))[k]? = _
            rw [HKS.out, ha]; rfl)
          have hlc := hlc.below hbw hbB
          have hbn : b9 < wq.heap.size := Nat.lt_of_lt_of_le hbB hbw.size
          obtain ⟨f0, f1, f2, f3, f4, f5, f6, f7, f8, f9, f10, f11, f12, f13, f14, f15⟩ := hlc
          obtain ⟨bq, oq, hAq, hbq, e0, e1, e2⟩ := Rd.quot HRQ.out hq
          obtain ⟨bv, ov, hAv, hbv, d0, d1, d2⟩ := Rd.quot HRV.out hv
          subst hAe hAq hAv
          have hb1 := hBW.1.cell (k := 0) (i := 1) rfl rfl
          have hs1 := hBW.1.cell (k := 2) (i := 1) rfl rfl
          have hbl := hBW.1.lt (k := 0) rfl
          have hsl := hBW.1.lt (k := 2) rfl
          have hg2l := (hBW.2.2.1.lt g2 rfl).2
          have EV := Lib.hid (fun W (hW : Below wq.heap.size wq W) => (⟨(hW.cell (p := ⟨b, 1, none⟩) hbl).trans hb1, (hW.cell (p := ⟨g + 1, 1, none⟩) hsl).trans hs1, (hW.cell (p := ⟨bv, ov + k * 3, none⟩) (Nat.lt_of_lt_of_le hbv hbw.size)).trans ((hbw.cell (p := ⟨bv, ov + k * 3, none⟩) hbv).trans d0), (hW.cell (p := ⟨bv, ov + k * 3 + 1, none⟩) (Nat.lt_of_lt_of_le hbv hbw.size)).trans ((hbw.cell (p := ⟨bv, ov + k * 3 + 1, none⟩) hbv).trans d1), (hW.cell (p := ⟨bv, ov + k * 3 + 2, none⟩) (Nat.lt_of_lt_of_le hbv hbw.size)).trans ((hbw.cell (p := ⟨bv, ov + k * 3 + 2, none⟩) hbv).trans d2)⟩ : And _ (And _ (And _ (And _ _)))))
          have lb : kbrake.le N := (HKL.out _ (List.mem_of_getElem? ha)).1.2.2.2.2
          have lq := HLQ.out q (List.mem_of_getElem? hq)
          have lv := HLV.out v (List.mem_of_getElem? hv)
          obtain ⟨v', qv, cv, lv', SL⟩ := slowerR wq HT2.out kbrake v lv lb
          obtain ⟨q', qq, cq, lq', _⟩ := addR wq HT2.out q v' lq lv'
          have HAD := Lib.hid (fun W hW => addR W (tabs w HT.out hW) q v' lq lv')
          have hwk : IntKind.i64.wrap ((k : Int) + 1) = (k : Int) + 1 := by rw [IntKind.wrap_i64]; omega
          have HTO := Lib.hid (hto.step ha hq hv (show BrkAt N ⟨klen, klow, khigh, kspeed, kbrake, .slice A5 n5 c5⟩ q v q' v' from ⟨qv, qq, cv, cq, lv', lq'⟩))
          have HBW := Lib.hid hBW
          have HY := Lib.hid hy
          have HZ := Lib.hid hz
          have HEQ := Lib.hid (And.intro hbq (And.intro e0 (And.intro e1 e2)))
          have hI := (In.start wq).alloc 28 #[.bool klen.neg, .string klen.num, .string klen.den, .bool klow.neg, .string klow.num, .string klow.den, .bool khigh.neg, .string khigh.num, .string khigh.den, .bool kspeed.neg, .string kspeed.num, .string kspeed.den, .bool kbrake.neg, .string kbrake.num, .string kbrake.den, .slice A5 n5 c5]
          obtain ⟨g9, hg9⟩ : ∃ g, g = wq.heap.size := ⟨_, rfl⟩
          clear hto hBW ha hq hv hy hz e0 e1 e2 d0 d1 d2 hb1 hs1 hbl hsl hg2l qv lv hbq hbv
          go_upto_region 8 with (fail)
          clear f0 f1 f2 f3 f4 f5 f6 f7 f8 f9 f10 f11 f12 f13 f14 f15 hbn hbB
          rw [← hg9] at hI ⊢
          generalize World.alloc _ _ = W2 at hI ⊢
          clear hg9
          refine wp_region_in_tail 12 hI (by kernel_rfl) (by kernel_rfl) ?_
          simp only [List.take_succ_cons, List.take_zero, List.drop_succ_cons, List.drop_zero]
          repeat (first
            | (refine wpSeq_off (by rfl) ?_; try simp only [Act.put, List.setIfInBounds_toArray, List.set_cons_zero, List.set_cons_succ])
            | (refine wpSeq_val (v := ?_) (by rfl) (fun W hS => ?_) ?_
               rotate_left
               · (have fx := hS.facts; simp only [factsOf, cellsOf, Nat.zero_add, Nat.reduceAdd] at fx; have fy0 := EV.out W hS.bel; clear hS; go_simp; first | done | with_reducible rfl)
               try simp only [Act.put, List.setIfInBounds_toArray, List.set_cons_zero, List.set_cons_succ]))
          refine wpSeq_call (v := .agg #[.bool v'.neg, .string v'.num, .string v'.den]) (by rfl) (fun W hS => ?_) (fun W hS => (SL.out W hS.bel)) ?_
          · (clear hS; go_simp; done)
          try simp only [Act.put, List.setIfInBounds_toArray, List.set_cons_zero, List.set_cons_succ]
          repeat (first
            | (refine wpSeq_off (by rfl) ?_; try simp only [Act.put, List.setIfInBounds_toArray, List.set_cons_zero, List.set_cons_succ])
            | (refine wpSeq_val (v := ?_) (by rfl) (fun W hS => ?_) ?_
               rotate_left
               · (have fx := hS.facts; simp only [factsOf, cellsOf, Nat.zero_add, Nat.reduceAdd] at fx; clear hS; go_simp; first | done | with_reducible rfl)
               try simp only [Act.put, List.setIfInBounds_toArray, List.set_cons_zero, List.set_cons_succ]))
          refine wpSeq_nil (fun W hS => ?_)
          have hB8 := HBW.out.call hS.bel
          have hc8 := own_cells hB8.2.2.1 HY.out
          have hz8 := fun j => hB8.2.2.1.frozenAt j
          have HX := Lib.hid (hB8.setV HNR.out hkv v')
          clear hS hB8 hI SL EV HBW
          go_upto_region 9 with (fail)
          have hBW := HX.out
          clear HX hc8 hz8
          generalize World.setCell _ _ _ = W8 at hBW ⊢
          have hbw8 := hBW.1.bel
          obtain ⟨q2, qq2, cq2, lq2, AD⟩ := HAD.out W8 hbw8
          obtain rfl : q2 = q' := cq2.eq cq (by rw [qq2, qq])
          have hb0 := hBW.1.cell (k := 0) (i := 0) rfl rfl
          have hb1 := hBW.1.cell (k := 0) (i := 1) rfl rfl
          have hs0 := hBW.1.cell (k := 2) (i := 0) rfl rfl
          have hbl := hBW.1.lt (k := 0) rfl
          have hsl := hBW.1.lt (k := 2) rfl
          have hg2l := (hBW.2.2.1.lt g2 rfl).2
          have hv8 := own_cells hBW.2.2.1 (show (vs.set k v')[k]? = some v' by rw [List.getElem?_set, if_pos rfl, if_pos hkv])
          obtain ⟨hbq, e0, e1, e2⟩ := HEQ.out
          have EQ := Lib.hid (fun W (hW : Below W8.heap.size W8 W) => (⟨(hW.cell (p := ⟨b, 0, none⟩) hbl).trans hb0, (hW.cell (p := ⟨b, 1, none⟩) hbl).trans hb1, (hW.cell (p := ⟨g + 1, 0, none⟩) hsl).trans hs0,
            (hW.cell (p := ⟨bq, oq + k * 3, none⟩) (Nat.lt_of_lt_of_le hbq hbw8.size)).trans ((hbw8.cell (p := ⟨bq, oq + k * 3, none⟩) hbq).trans e0), (hW.cell (p := ⟨bq, oq + k * 3 + 1, none⟩) (Nat.lt_of_lt_of_le hbq hbw8.size)).trans ((hbw8.cell (p := ⟨bq, oq + k * 3 + 1, none⟩) hbq).trans e1), (hW.cell (p := ⟨bq, oq + k * 3 + 2, none⟩) (Nat.lt_of_lt_of_le hbq hbw8.size)).trans ((hbw8.cell (p := ⟨bq, oq + k * 3 + 2, none⟩) hbq).trans e2),
            (hW.cell (p := ⟨g2, k * 3, none⟩) hg2l).trans hv8.1, (hW.cell (p := ⟨g2, k * 3 + 1, none⟩) hg2l).trans hv8.2.1, (hW.cell (p := ⟨g2, k * 3 + 2, none⟩) hg2l).trans hv8.2.2⟩ : And _ (And _ (And _ (And _ (And _ (And _ (And _ (And _ _)))))))))
          have HBW := Lib.hid hBW
          have hI := In.start W8
          clear hBW hb0 hb1 hs0 hbl hsl hg2l hv8 hbq e0 e1 e2 hbw8 HAD qq qq2 cq2 lq2 lq' cq lq
          refine wp_region_in_tail 15 hI (by kernel_rfl) (by kernel_rfl) ?_
          simp only [List.take_succ_cons, List.take_zero, List.drop_succ_cons, List.drop_zero]
          repeat (first
            | (refine wpSeq_off (by rfl) ?_; try simp only [Act.put, List.setIfInBounds_toArray, List.set_cons_zero, List.set_cons_succ])
            | (refine wpSeq_val (v := ?_) (by rfl) (fun W hS => ?_) ?_
               rotate_left
               · (have fy0 := EQ.out W hS.bel; clear hS; go_simp; first | done | with_reducible rfl)
               try simp only [Act.put, List.setIfInBounds_toArray, List.set_cons_zero, List.set_cons_succ]))
          refine wpSeq_call (v := .agg #[.bool q2.neg, .string q2.num, .string q2.den]) (by rfl) (fun W hS => ?_) (fun W hS => (AD.out W hS.bel)) ?_
          · (clear hS; go_simp; done)
          try simp only [Act.put, List.setIfInBounds_toArray, List.set_cons_zero, List.set_cons_succ]
          repeat (first
            | (refine wpSeq_off (by rfl) ?_; try simp only [Act.put, List.setIfInBounds_toArray, List.set_cons_zero, List.set_cons_succ])
            | (refine wpSeq_val (v := ?_) (by rfl) (fun W hS => ?_) ?_
               rotate_left
               · (have fy0 := EQ.out W hS.bel; clear hS; go_simp; first | done | with_reducible rfl)
               try simp only [Act.put, List.setIfInBounds_toArray, List.set_cons_zero, List.set_cons_succ]))
          refine wpSeq_nil (fun W hS => ?_)
          have hB9 := HBW.out.call hS.bel
          have hc9 := own_cells hB9.2.1 HZ.out
          have hz9 := fun j => hB9.2.1.frozenAt j
          have HX := Lib.hid (hB9.setQ HNR.out hkq q2)
          clear hS hB9 hI AD EQ HBW
          go_upto_region 10 with (fail)
          have hBW := HX.out
          clear HX hc9 hz9
          generalize World.setCell _ _ _ = W9 at hBW ⊢
          have HX := Lib.hid (show BkRel w N b g1 c1 g2 c2 _ pw hd L ql vl (.int .i64 ((k : Int) + 1)) W9 from ⟨k + 1, _, _, by simp, hin, HTO.out, hBW⟩)
          clear hBW
          go_wp2_with fail
          go_roundw
          case rel => exact HX.out
          case measure => simp [intOf]; omega
        · obtain rfl : k = L.length := by omega
          have hi1 : ¬ (L.length : Int) < (L.length : Int) := by omega
          obtain ⟨hI, ho1, ho2, _⟩ := hBW
          have hT := hI.take (a := [_, _])
          have fx := hT.facts
          simp only [factsOf, cellsOf, Nat.zero_add, Nat.reduceAdd] at fx
          have hz := fun i => hT.free (k := 1) (i := i) rfl
          have HK := Lib.hid (hI.all4 (a := [_]) (.slice (some ⟨g1, 0, none⟩) ql.length c1) (.slice (some ⟨g2, 0, none⟩) vl.length c2) (.bool pw) (.int .i64 hd))
          have hbk := hI.blkAt (k := 1) rfl
          have hgr := grown4 wr (g + 1 + 1) (.slice (some ⟨g1, 0, none⟩) ql.length c1) (.slice (some ⟨g2, 0, none⟩) vl.length c2) (.bool pw) (.int .i64 hd)
          have HO1 := Lib.hid (ho1.kept hgr (.inr (fun e => absurd (own_type ho1 e hbk) (by decide))))
          have HO2 := Lib.hid (ho2.kept hgr (.inr (fun e => absurd (own_type ho2 e hbk) (by decide))))
          have HTO := Lib.hid hto
          clear hT hI ho1 ho2 hbk hgr hto
          go_wp2_with fail
          clear fx hz
          have hK := HK.out
          have hO1 := HO1.out
          have hO2 := HO2.out
          clear HK HO1 HO2
          generalize World.setCell _ _ _ = W9 at hK hO1 hO2 ⊢
          refine bodyPost_ret (results_cell_two Tryd.results37 _ _ (g + 1 + 1) 61 _ (0, 0) _ _ rfl rfl (hK.blkAt (k := 1) rfl) Tryd.underlying61 rfl (by kernel_rfl)) rfl ?_
          exact HP2.out _ _ qs vs W9 HC.out (SlQ.own hO1) (SlQ.own hO2) HTO.out hK.bel
  · have h01 : (c == 0) = false := by simpa using h0
    have h02 : (c != 0) = true := by simpa using h0
    have HX := Lib.hid (fun W => HP1.out c W hc h0)
    clear hc
    have hS0 := hI.take (a := [_])
    have HK := Lib.hid (hI.all4 (a := []) (.slice none 0 0) (.slice none 0 0) (.bool false) (.int .i64 0))
    have fx := hS0.facts
    simp only [factsOf, cellsOf, Nat.zero_add, Nat.reduceAdd] at fx
    have hz := fun i => hS0.free (k := 0) (i := i) rfl
    clear hS0 hI
    go_wp2_with fail
    clear fx hz
    have hK := HK.out
    clear HK
    generalize World.setCell _ _ _ = W9 at hK ⊢
    refine bodyPost_ret (results_cell_two Tryd.results37 _ _ (g + 1 + 1) 61 _ (0, 0) _ _ rfl rfl (hK.blkAt (k := 0) rfl) Tryd.underlying61 rfl (by kernel_rfl)) rfl ?_
    exact HX.out _ hK.bel
end Go.Proofs.YtnnbnecpcppkdaaDoor
