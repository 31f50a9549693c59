/- CtlFollows: the walk. Conditions: those typed. -/
import Derived.Test.YtnnbnecpcppkdaaDoorCtlN
import Derived.Test.YtnnbnecpcppkdaaDoorCtlP
import Derived.Test.YtnnbnecpcppkdaaDoorBrkX
import Derived.Test.YtnnbnecpcppkdaaDoorArgQ
import Derived.Test.YtnnbnecpcppkdaaDoorGcdFn
namespace Go.Proofs.YtnnbnecpcppkdaaDoor.ctlFollows
open Go.RowKit Go.Gy
set_option linter.unusedVariables false
set_option linter.unusedSimpArgs false
theorem KyLe.more {K : List Ky} {N M : Nat} (h : KyLe K N) (hM : N ≤ M) : KyLe K M := fun k hk => ⟨fun x hx => ((h k hk).1 x hx).more hM, (h k hk).2⟩
/-- the first i numbers of B, the others of A -/
def mixL (A B : List Rat) (i : Nat) : List Q3 := (B.take i ++ A.drop i).map toQ3
theorem mixL_zero (A B : List Rat) : mixL A B 0 = A.map toQ3 := by simp [mixL]
theorem mixL_full {A B : List Rat} {n : Nat} (hA : A.length = n) (hB : B.length = n) : mixL A B n = B.map toQ3 := by
  unfold mixL
  rw [List.take_of_length_le (by omega), List.drop_of_length_le (by omega), List.append_nil]
theorem mixL_len {A B : List Rat} {n i : Nat} (hA : A.length = n) (hB : B.length = n) (hi : i ≤ n) : (mixL A B i).length = n := by
  unfold mixL
  rw [List.length_map, List.length_append, List.length_take, List.length_drop]
  omega
theorem mixL_get {A B : List Rat} {n i : Nat} (hA : A.length = n) (hB : B.length = n) {u : Rat} (hu : A[i]? = some u) : (mixL A B i)[i]? = some (toQ3 u) := by
  have hi := (List.getElem?_eq_some_iff.1 hu).1
  unfold mixL
  rw [List.getElem?_map, List.getElem?_append_right (by rw [List.length_take]; omega), List.length_take, List.getElem?_drop, show i + (i - min i B.length) = i by omega, hu]
  rfl
theorem mixL_set {A B : List Rat} {n i : Nat} (hA : A.length = n) (hB : B.length = n) {v : Rat} (hv : B[i]? = some v) : (mixL A B i).set i (toQ3 v) = mixL A B (i + 1) := by
  have hi := (List.getElem?_eq_some_iff.1 hv).1
  apply List.ext_getElem?
  intro j
  unfold mixL
  rw [← List.map_set, List.getElem?_map, List.getElem?_map, List.getElem?_set, List.getElem?_append, List.getElem?_append, List.length_append, List.length_take, List.length_drop, List.length_take, List.getElem?_take, List.getElem?_take, List.getElem?_drop, List.getElem?_drop]
  by_cases h1 : i = j
  · subst h1
    rw [if_pos rfl, if_pos (by omega), if_pos (by omega), if_pos (by omega), hv]
  · rw [if_neg h1]
    by_cases h2 : j < i
    · rw [if_pos (by omega), if_pos h2, if_pos (by omega), if_pos (by omega)]
    · rw [if_neg (by omega), if_neg (by omega), show i + (j - min i B.length) = j by omega, show i + 1 + (j - min (i + 1) B.length) = j by omega]
theorem mixL_le {A B : List Rat} {N i : Nat} (hA : ∀ g ∈ A, qz g ≤ N) (hB : ∀ g ∈ B, qz g ≤ N) : ∀ x ∈ mixL A B i, x.le N := fun x hx => by
  obtain ⟨g, hg, rfl⟩ := List.mem_map.1 hx
  rcases List.mem_append.1 hg with h | h
  · exact toQ3_le (hB g (List.mem_of_mem_take h))
  · exact toQ3_le (hA g (List.mem_of_mem_drop h))
/-- the state's box, and its row of joint values -/
def FoW (w : World) (g9 gr c n : Nat) (qs : List Q3) (W : World) : Prop :=
  In w [(g9, 61, #[.slice (some ⟨gr, 0, none⟩) n c, .slice none 0 0, .bool true, .int .i64 (-1)])] W ∧ W.ownsRow w.heap.size 25 3 (.slice (some ⟨gr, 0, none⟩) n c) n (qs.flatMap encQ)
theorem FoW.call {w W W' : World} {g9 gr c n : Nat} {qs : List Q3} (h : FoW w g9 gr c n qs W) (hb : Below W.heap.size W W') : FoW w g9 gr c n qs W' := ⟨h.1.call hb, own_below h.2 hb (Nat.le_refl _)⟩
theorem FoW.slQ {w W : World} {g9 gr c n : Nat} {qs : List Q3} (h : FoW w g9 gr c n qs W) : SlQ W W.heap.size (.slice (some ⟨gr, 0, none⟩) n c) qs := SlQ.own h.2
theorem FoW.set {w W : World} {g9 gr c n : Nat} {qs : List Q3} (h : FoW w g9 gr c n qs W) {i : Nat} (hi : i < qs.length) (q : Q3) :
    FoW w g9 gr c n (qs.set i q) (((W.setCell ⟨gr, i * 3, none⟩ (.bool q.neg)).setCell ⟨gr, i * 3 + 1, none⟩ (.string q.num)).setCell ⟨gr, i * 3 + 2, none⟩ (.string q.den)) := by
  obtain ⟨hI, h1⟩ := h
  have hg := grown3 W gr (i * 3) (i * 3 + 1) (i * 3 + 2) (.bool q.neg) (.string q.num) (.string q.den)
  refine ⟨hI.next hg (h1.lt gr rfl).1 (fun x hx e => ?_), own_set3 h1 hi q⟩
  have h4 := own_type h1 (g := x.1) (by rw [e]; rfl) (hI.blk x hx)
  rcases List.mem_cons.1 hx with rfl | hx
  · exact absurd (show (61 : Nat) = 25 from h4) (by decide)
  · cases hx
theorem row_cells {W : World} {base g n c i : Nat} {l : List Q3} {y : Q3} (h : W.ownsRow base 25 3 (.slice (some ⟨g, 0, none⟩) n c) n (l.flatMap encQ)) (hy : l[i]? = some y) :
    W.cell? ⟨g, i * 3, none⟩ = some (.bool y.neg) ∧ W.cell? ⟨g, i * 3 + 1, none⟩ = some (.string y.num) ∧ W.cell? ⟨g, i * 3 + 2, none⟩ = some (.string y.den) := by
  obtain ⟨A, n', c', he, _, _, _, hr⟩ := SlQ.own h
  injection he with he1 he2 he3
  subst he1
  obtain ⟨b, o, he, _, e0, e1, e2⟩ := Rd.quot hr hy
  injection he with he
  injection he with h1 h2
  subst h1 h2
  rw [Nat.zero_add] at e0 e1 e2
  exact ⟨e0, e1, e2⟩
def FoRel (w : World) (g9 gr c n mn : Nat) (K : List Ky) (i : Value) (wr : World) : Prop := ∃ k : Nat, k ≤ mn ∧ i = .int .i64 k ∧ FoW w g9 gr c n ((atQ K k).map toQ3) wr
def FiRel (w w0 : World) (g9 gr c n : Nat) (A B : List Rat) (vw : Value) (VL : List Q3) (i : Value) (wr : World) : Prop := ∃ j : Nat, j ≤ n ∧ i = .int .i64 j ∧ FoW w g9 gr c n (mixL A B j) wr ∧ OwnK w0.heap.size 25 3 vw n (VL.flatMap encQ) wr
theorem ownK_set3 {B : Nat} {e : TypeId} {v : Value} {n gr i : Nat} {xs : List Value} {W : World} (h : OwnK B e 3 v n xs W) (hg : gr < B) (q : Q3) : OwnK B e 3 v n xs (((W.setCell ⟨gr, i * 3, none⟩ (.bool q.neg)).setCell ⟨gr, i * 3 + 1, none⟩ (.string q.num)).setCell ⟨gr, i * 3 + 2, none⟩ (.string q.den)) := ((h.set (p := ⟨gr, i * 3, none⟩) hg _).set (p := ⟨gr, i * 3 + 1, none⟩) hg _).set (p := ⟨gr, i * 3 + 2, none⟩) hg _
/-- all that the loop wants of the track -/
structure FoOk (w : World) (p : Nat) (a a' : Ar) (v' : Value) (K K' : List Ky) : Prop where
  gen : GenAr a
  same : SameA a a'
  sk : SameK K K'
  ne : K ≠ []
  k4 : K.length ≤ 4
  gk : GenK a.L K
  tab : TabW w
  ctl : CtlAt w p a' v'
  sl : SlK w w.heap.size v' K'
theorem FoOk.n {w : World} {p : Nat} {a a' : Ar} {v' : Value} {K K' : List Ky} (h : FoOk w p a a' v' K K') : a'.L.length = a.L.length := h.same.2.2.2.2.1
theorem FoOk.ne' {w : World} {p : Nat} {a a' : Ar} {v' : Value} {K K' : List Ky} (h : FoOk w p a a' v' K K') : K' ≠ [] := fun e => by
  have := h.sk.length
  rw [e] at this
  exact h.ne (List.length_eq_zero_iff.1 this.symm)
theorem FoOk.kyN {w : World} {p : Nat} {a a' : Ar} {v' : Value} {K K' : List Ky} (h : FoOk w p a a' v' K K') : KyN K' a'.L.length := fun k hk => by
  obtain ⟨k', h1, _, h2⟩ := h.sk.mem hk
  rw [h.n, ← h.gk.len k' h1, h2]
theorem FoOk.kyN1 {w : World} {p : Nat} {a a' : Ar} {v' : Value} {K K' : List Ky} (h : FoOk w p a a' v' K K') : KyN K a.L.length := fun k hk => h.gk.len k hk
theorem FoOk.qz {w : World} {p : Nat} {a a' : Ar} {v' : Value} {K K' : List Ky} (h : FoOk w p a a' v' K K') (t : Nat) (ht : t ≤ 2000) : ∀ g ∈ atQ K t, qz g ≤ 43 := atQ_qz (N := 1) (Nat.le_refl _) (by omega) (h.gk.ky h.k4) (h.gk.le h.gen.len.2)
theorem FoOk.le {w : World} {p : Nat} {a a' : Ar} {v' : Value} {K K' : List Ky} (h : FoOk w p a a' v' K K') (t : Nat) (ht : t ≤ 2000) : ∀ x ∈ (atQ K t).map toQ3, x.le 43 := fun x hx => by
  obtain ⟨g, hg, rfl⟩ := List.mem_map.1 hx
  exact toQ3_le (h.qz t ht g hg)
theorem FoOk.len {w : World} {p : Nat} {a a' : Ar} {v' : Value} {K K' : List Ky} (h : FoOk w p a a' v' K K') (t : Int) : ((atQ K t).map toQ3).length = a'.L.length := by
  rw [List.length_map, h.n]; exact atQ_len _ h.ne h.kyN1
theorem FoOk.up {w : World} {p : Nat} {a a' : Ar} {v' : Value} {K K' : List Ky} (h : FoOk w p a a' v' K K') {W : World} (hW : Below w.heap.size w W) : FoOk W p a a' v' K K' :=
  ⟨h.gen, h.same, h.sk, h.ne, h.k4, h.gk, tabs w h.tab hW, h.ctl.below hW, h.sl.up hW⟩
set_option maxRecDepth 100000 in
theorem fol_wish {w : World} {p : Nat} {a a' : Ar} {v' : Value} {K K' : List Ky} (h : FoOk w p a a' v' K K') (t : Nat) (ht : t ≤ 2000) {A : Option Addr} {n c : Nat} (hq : SlQ w w.heap.size (.slice A n c) ((atQ K t).map toQ3)) :
    Calls Tryd.prog 53 #[.pointer (some ⟨p, 0, none⟩), .int .i64 t, .agg #[.slice A n c, .slice none 0 0, .bool true, .int .i64 (-1)]] w fun e w' => ∃ v, e = .returned v ∧ w'.ownsRow w.heap.size 25 3 v a'.L.length (rowQ (wishL a'.L ((atQ K t).map toQ3) (goalL K' t ((atQ K t).map toQ3)) a'.L.length)) ∧ Below w.heap.size w w' :=
  wish_ctl w h.tab p a' v' K' t _ (.slice none 0 0) _ true (-1) (N := 43) h.ctl ((h.same.le h.gen.le).more (by decide)) (by rw [h.n]; exact h.gen.len.2) h.sl (KyLe.more (h.sk.le (h.gk.le h.gen.len.2)) (by decide)) (h.sk.ok (h.gk.ky h.k4)) h.kyN (by have := h.sk.length; have := h.k4; omega) (show InI _ from ⟨by omega, by omega⟩) hq (h.le t ht) (h.len t) ⟨_, _, _, rfl⟩ (by decide)
theorem fol_zero {w : World} {p : Nat} {a a' : Ar} {v' : Value} {K K' : List Ky} (h : FoOk w p a a' v' K K') (t : Nat) (ht : t ≤ 2000) : lateV ((atQ K' (bndZ t)).map toQ3) ((atQ K t).map toQ3) a'.L.length = 0 := by
  refine lateV_zero (fun k g q hg hq => ?_) _
  rw [h.sk.at, show bndZ t = t by unfold bndZ; omega, hq] at hg
  rw [Option.some.inj hg]
set_option maxRecDepth 100000 in
theorem fol_late {w : World} {p : Nat} {a a' : Ar} {v' : Value} {K K' : List Ky} (h : FoOk w p a a' v' K K') (t : Nat) (ht : t ≤ 2000) {A : Option Addr} {n c : Nat} (hq : SlQ w w.heap.size (.slice A n c) ((atQ K t).map toQ3)) (Z : Q3) (cZ : Z.can) (qZ : Z.q = 0) :
    Calls Tryd.prog 60 #[.pointer (some ⟨p, 0, none⟩), .int .i64 t, .agg #[.slice A n c, .slice none 0 0, .bool true, .int .i64 (-1)]] w fun e w' => e = .returned (.agg #[.bool Z.neg, .string Z.num, .string Z.den]) ∧ Below w.heap.size w w' :=
  late_ctl w h.tab p a' v' K' t _ (.slice none 0 0) _ true (-1) (N := 43) h.ctl (by rw [h.n]; exact h.gen.len.2) h.sl (KyLe.more (h.sk.le (h.gk.le h.gen.len.2)) (by decide)) (h.sk.ok (h.gk.ky h.k4)) h.kyN (by have := h.sk.length; have := h.k4; omega) h.ne' (show InI _ from ⟨by omega, by omega⟩) hq (h.le t ht) (h.len t) ⟨_, _, _, rfl⟩ (by decide) Z cZ (by rw [qZ, fol_zero h t ht])
set_option maxRecDepth 100000 in
theorem fol_over {w : World} {p : Nat} {a a' : Ar} {v' : Value} {K K' : List Ky} (h : FoOk w p a a' v' K K') (t : Nat) (ht : t ≤ 2000) (hl : ∀ k, K[K.length - 1]? = some k → k.1 = t) {A : Option Addr} {n c : Nat} (hq : SlQ w w.heap.size (.slice A n c) ((atQ K t).map toQ3)) :
    Calls Tryd.prog 61 #[.pointer (some ⟨p, 0, none⟩), .int .i64 t, .agg #[.slice A n c, .slice none 0 0, .bool true, .int .i64 (-1)]] w fun e w' => e = .returned (.bool true) ∧ Below w.heap.size w w' := by
  have e : overB K' t ((atQ K t).map toQ3) a'.L.length = true := by
    obtain ⟨k, hk⟩ : ∃ k, K'[K'.length - 1]? = some k := ⟨_, List.getElem?_eq_getElem (by have := List.length_pos_iff.mpr h.ne'; omega)⟩
    obtain ⟨k', h1, h2, _⟩ := h.sk.get hk
    rw [h.sk.length] at h1
    rw [over_last hk, fol_zero h t ht, h.len, ← h2, hl k' h1]
    simp
  refine (over_ctl w h.tab p a' v' K' t _ (.slice none 0 0) _ true (-1) (N := 43) h.ctl (by rw [h.n]; exact h.gen.len.2) h.sl (KyLe.more (h.sk.le (h.gk.le h.gen.len.2)) (by decide)) (h.sk.ok (h.gk.ky h.k4)) h.kyN (by have := h.sk.length; have := h.k4; omega) (show InI _ from ⟨by omega, by omega⟩) hq (h.le t ht) ⟨_, _, _, rfl⟩ (by decide)).mono fun e2 w2 h2 => ⟨?_, h2.2⟩
  rw [h2.1, e]
theorem fol_step {w : World} {p : Nat} {a a' : Ar} {v' : Value} {K K' : List Ky} (h : FoOk w p a a' v' K K') (t : Nat) (ht : t ≤ 2000) {j : Nat} (hj : j < a'.L.length) :
    ∃ u v, (atQ K t)[j]? = some u ∧ (atQ K ((t : Int) + 1))[j]? = some v ∧ ((wishL a'.L ((atQ K t).map toQ3) (goalL K' t ((atQ K t).map toQ3)) a'.L.length).map toQ3)[j]? = some (toQ3 (v - u)) := by
  obtain ⟨u, v, hu, hv, hw⟩ := follow_wish h.gen h.same h.sk h.ne h.k4 h.gk t (by omega) (j := j) (by rw [← h.n]; exact hj)
  refine ⟨u, v, hu, hv, ?_⟩
  unfold wishL
  rw [List.map_map, List.getElem?_map, List.getElem?_range hj]
  show some (toQ3 (wishV _ _ _ j)) = _
  rw [hw]
set_option maxRecDepth 100000 in
set_option maxHeartbeats 8000000 in
theorem walk (v0 v1 : Value) (w : World) {b0 b1 : Nat} (f0 : IntsArg w v0 b0) (f1 : IntsArg w v1 b1) (hT : TabW w) :
    Calls Tryd.prog 12 #[v0, v1] w fun e w' => e = .returned (.bool true) ∧ Below w.heap.size w w' := by
  obtain ⟨r0, hl0, _, _, hrb0⟩ := f0
  obtain ⟨r1, hl1, _, _, hrb1⟩ := f1
  have HT := Lib.hid hT
  have HA := Lib.hid (fun W (hW : Below w.heap.size w W) => armMake W v0 r0 ((hl0.below hW).more hW.size) (by unfold reachBytes at hrb0; omega))
  have HL1 := Lib.hid hl1
  have HR1 := Lib.hid (show r1.length ≤ 140737488355328 by unfold reachBytes at hrb1; omega)
  clear hl0 hl1 hrb0 hrb1 hT
  go_enter Tryd.func12, Tryd.ntmps12
  go_wp2_with fail
  refine (HA.out _ (Below.refl _ _)).mono ?_
  rintro e w1 ⟨a, he, hG, hAt, hb1⟩
  have HG := Lib.hid hG
  have HB1 := Lib.hid hb1
  have HNW := Lib.hid (fun W (hW : Below w1.heap.size w1 W) => new_ctl W (tabs w HT.out (hb1.trans (hW.mono hb1.size))) a (hAt.up hW) hG.le (by decide))
  have HTM := Lib.hid (fun W (hW : Below w1.heap.size w1 W) => trackMake W a hG (hAt.up hW) v1 r1 ((HL1.out.below (hb1.trans (hW.mono hb1.size))).more (hb1.trans (hW.mono hb1.size)).size) HR1.out)
  obtain ⟨ar, har⟩ : ∃ ar, ar = a := ⟨_, rfl⟩
  rw [← har] at HNW HTM HG
  obtain ⟨nm, ⟨px, py⟩, hf, t, va, L⟩ := a
  obtain ⟨⟨A, N, C, hva, hNL, hNC, _, hrd⟩, hshp⟩ := hAt
  obtain rfl : va = .slice A N C := hva
  have hval : ar.val = .agg #[.string nm, .bool px.neg, .string px.num, .string px.den, .bool py.neg, .string py.num, .string py.den, .bool hf, .bool t.neg, .string t.num, .string t.den, .slice A N C] := by rw [har]; rfl
  have he : e = .returned (.agg #[.string nm, .bool px.neg, .string px.num, .string px.den, .bool py.neg, .string py.num, .string py.den, .bool hf, .bool t.neg, .string t.num, .string t.den, .slice A N C]) := he
  subst he
  rw [hval] at HNW HTM
  clear hb1 HA hG hrd hshp hNL HL1 HR1 har hval hNC
  have hI := (In.start w1).alloc 37 #[.string nm, .bool px.neg, .string px.num, .string px.den, .bool py.neg, .string py.num, .string py.den, .bool hf, .bool t.neg, .string t.num, .string t.den, .slice A N C]
  obtain ⟨g5, hg5⟩ : ∃ g, g = w1.heap.size := ⟨_, rfl⟩
  go_upto_region 2 with (fail)
  rw [← hg5] at hI ⊢
  generalize World.alloc _ _ = W1 at hI ⊢
  clear hg5
  have fx := hI.facts
  simp only [factsOf, cellsOf, Nat.zero_add, Nat.reduceAdd] at fx
  go_wp2_with fail
  refine (HTM.out _ hI.bel).mono ?_
  rintro e w2 ⟨vt, K, rfl, hne, hK4, hgk, hown, hb⟩
  obtain ⟨At, ct, rfl, _⟩ := own_rd hown.1
  have HK := Lib.hid (show K ≠ [] ∧ K.length ≤ 4 ∧ GenK ar.L K from ⟨hne, hK4, hgk⟩)
  replace hI := hI.call hb
  have hw2 := hI.bel.size
  have HKO := Lib.hid (show SlK w2 w2.heap.size _ K from hown.slK)
  clear hb hown hne hK4 hgk fx HTM
  have fx := hI.facts
  simp only [factsOf, cellsOf, Nat.zero_add, Nat.reduceAdd] at fx
  go_wp2_with fail
  refine (HNW.out _ hI.bel).mono ?_
  rintro e w3 ⟨hb, ⟨c, hc, hE, _⟩ | ⟨hE, p, a', rfl, hok⟩⟩
  · exact absurd (hE.uniq HG.out.ok) hc
  have hp5 : w2.heap.size ≤ p := hok.2.2.1
  have HSA := Lib.hid hok.1
  have hC := hok.at
  replace hI := hI.call hb
  have hsl3 := HKO.out.up hb
  have HB3 := Lib.hid hb
  have hbw := HB1.out.trans (hI.bel.mono HB1.out.size)
  have HW2 := Lib.hid hw2
  have HSET := Lib.hid (set_ctl w3 (tabs w HT.out hbw) p a' (.slice none 0 0) (.slice At K.length ct) K (N := 4) hC (HSA.out.le HG.out.le) hsl3 (KyLe.more (HK.out.2.2.le HG.out.len.2) (by decide)) (fun k hk => by
    obtain ⟨q1, q2⟩ := (HK.out.2.2.ky HK.out.2.1).1 k hk
    exact ⟨by omega, by omega⟩) (by have := HK.out.2.1; omega) (by decide) ⟨none, 0, 0, rfl⟩)
  have hkl : ((K.length : Int) == 0) = false := beq_eq_false_iff_ne.mpr (by have := List.length_pos_iff.mpr HK.out.1; omega)
  clear hok hE hb hsl3 hC fx HNW hw2
  have HW3 := Lib.hid hbw
  clear hbw hI
  go_wp2_with fail
  refine HSET.out.mono ?_
  rintro e w4 ⟨c, rfl, hTE, hbp, hsz, hor⟩
  obtain rfl : c = 0 := hTE.uniq ((gen_track HG.out HK.out.1 HK.out.2.1 HK.out.2.2).same HSA.out)
  obtain ⟨v', K', hC, hown, hsk⟩ : ∃ (v' : Value) (K' : List Ky), CtlAt w4 p a' v' ∧ KOwn w3.heap.size w4 v' K' ∧ SameK K K' := by
    rcases hor with ⟨h, _⟩ | ⟨_, h⟩
    · exact absurd rfl h
    · exact h
  have hw21 : w.heap.size ≤ p := Nat.le_trans HB1.out.size (Nat.le_trans HW2.out hp5)
  have HT4 := Lib.hid (show Below w.heap.size w w4 from HW3.out.trans (hbp.mono hw21))
  have hslk : SlK w4 w4.heap.size (.slice At K.length ct) K := ((HKO.out.below HB3.out).below (hbp.mono hp5)).more (by have := HB3.out.size; omega)
  have HOK := Lib.hid (show FoOk w4 p ar a' v' K K' from ⟨HG.out, HSA.out, hsk, HK.out.1, HK.out.2.1, HK.out.2.2, tabs w HT.out HT4.out, hC, hown.slK⟩)
  have HSL := Lib.hid hslk
  clear hTE hbp hsz hor hC hown hsk hp5 HSET HKO HB3 HW3 hslk hw21 HW2 HB1 HSA
  obtain ⟨n, hn⟩ : ∃ n, n = a'.L.length := ⟨_, rfl⟩
  have HN := Lib.hid hn
  have hn0 : 0 < n := by have := HG.out.len.1; rw [hn, HOK.out.n]; exact this
  have HAT := Lib.hid (at_any' w4 HOK.out.tab (.slice At K.length ct) K 0 HSL.out (HK.out.2.2.le HG.out.len.2) (HK.out.2.2.ky HK.out.2.1) (by have := HK.out.2.1; omega) (show InI 0 from ⟨by omega, by omega⟩) (by decide))
  have HLA := Lib.hid (show (atQ K 0).length = n from by have := HOK.out.len 0; rw [List.length_map] at this; rw [this, hn])
  clear hn
  go_wp2_with fail
  refine HAT.out.mono ?_
  rintro e w5 ⟨vq, rfl, hown, hb⟩
  rw [HLA.out] at hown
  have hown : w5.ownsRow w4.heap.size 25 3 vq n (((atQ K 0).map toQ3).flatMap encQ) := hown
  obtain ⟨gr, c, rfl, _, _, hgr⟩ := own_shape hown hn0
  have hI := ((In.start w4).call hb).alloc 61 #[.slice (some ⟨gr, 0, none⟩) n c, .slice none 0 0, .bool true, .int .i64 (-1)]
  have hown := own_below hown ((Below.refl w5.heap.size w5).alloc (Nat.le_refl _) (.cells #[.slice (some ⟨gr, 0, none⟩) n c, .slice none 0 0, .bool true, .int .i64 (-1)] 61)) (Nat.le_refl _)
  obtain ⟨g9, hg9⟩ : ∃ g, g = w5.heap.size := ⟨_, rfl⟩
  clear hb HAT HLA
  go_upto_region 7 with (fail)
  rw [← hg9] at hI ⊢
  generalize World.alloc _ _ = W5 at hI hown ⊢
  clear hg9
  have HF := Lib.hid (show FoW w4 g9 gr c n ((atQ K 0).map toQ3) W5 from ⟨hI, hown⟩)
  clear hown
  obtain ⟨m, hm⟩ : ∃ m, K.length = m + 1 := ⟨K.length - 1, by have := List.length_pos_iff.mpr HK.out.1; omega⟩
  obtain ⟨kl, hkl2⟩ : ∃ k, K[K.length - 1]? = some k := ⟨_, List.getElem?_eq_getElem (by omega)⟩
  obtain ⟨q1, q2⟩ := (HK.out.2.2.ky HK.out.2.1).1 kl (List.mem_of_getElem? hkl2)
  obtain ⟨ln, hln⟩ : ∃ ln : Nat, kl.1 = ln := ⟨kl.1.toNat, by omega⟩
  have HLK := Lib.hid (show ∀ k, K[K.length - 1]? = some k → k.1 = (ln : Int) from fun k hk => by rw [hkl2] at hk; rw [← Option.some.inj hk, hln])
  have hln2 : ln ≤ 2000 := by omega
  obtain ⟨_, _, _, he8, _, _, _, hrk, _⟩ := id HSL.out
  cases he8
  rw [hm, Nat.add_sub_cancel] at hkl2
  obtain ⟨bk, ok, rfl, hbk, k0, _⟩ := Rd.key hrk hkl2
  rw [hln] at k0
  have hk0 := (hI.bel.cell (p := ⟨bk, ok + m * 2, none⟩) hbk).trans k0
  have hw1 : IntKind.i64.wrap ((K.length : Int) - 1) = (m : Int) := by rw [IntKind.wrap_i64]; have := HK.out.2.1; omega
  have hw3 : 0 ≤ (m : Int) ∧ (m : Int) < (K.length : Int) := by omega
  obtain ⟨mn, hmn⟩ : ∃ mn : Nat, min (ln : Int) 80 = (mn : Int) := ⟨min ln 80, by omega⟩
  have HMN := Lib.hid hmn
  have HM := Lib.hid hm
  have hst := Lib.hid (show FoRel w4 g9 gr c n mn K (.int .i64 0) W5 from ⟨0, Nat.zero_le _, rfl, HF.out⟩)
  clear hI HF hm hkl2 q1 q2 hln hrk k0 hmn
  go_wp2_with (refine wpList_min2 rfl (.tmp 51) (.const (.int .i64 80)) _ rfl (ln : Int) 80 rfl rfl (mn : Int) HMN.out ?_)
  clear hk0 hw1 hw3
  go_loopw [53] (fun i wr => FoRel w4 g9 gr c n mn K i wr) (fun i _ => mn - (intOf i).toNat)
  case atStart => exact hst.out
  case round =>
    clear hst
    obtain ⟨k, hk, rfl, hF⟩ := hrel
    obtain ⟨w0, rfl⟩ : ∃ w0, w0 = wr := ⟨_, rfl⟩
    by_cases hin : k < mn
    · as_aux_lemma =>
      have hi1 : (k : Int) < (mn : Int) := by omega
      have hk80 : k ≤ 80 := by have := HMN.out; omega
      have HO0 := Lib.hid (HOK.out.up hF.1.bel)
      have HWI := Lib.hid (fol_wish HO0.out k (by omega) hF.slQ)
      obtain ⟨Z, cZ, qZ⟩ : ∃ Z : Q3, Z.can ∧ Z.q = 0 := ⟨toQ3 0, toQ3_can 0, toQ3_q 0⟩
      have lZ : Z.le 8 := by
        rw [cZ, qZ]
        exact toQ3_le (by rw [qz_zero]; decide)
      have HLT := Lib.hid (fun W (hW : Below w0.heap.size w0 W) hq => fol_late (HO0.out.up hW) k (by omega) (A := some ⟨gr, 0, none⟩) (n := n) (c := c) hq Z cZ qZ)
      obtain ⟨cs, _, s1, s2, SG⟩ := signR w0 HO0.out.tab Z lZ
      obtain rfl : cs = 0 := by
        rw [qZ] at s1 s2
        have h1 : ¬ 0 < cs := fun h => absurd (s1.mp h) (by decide)
        have h2 : ¬ cs < 0 := fun h => absurd (s2.mp h) (by decide)
        omega
      have hgr0 := (hF.2.lt gr rfl).2
      have HGR := Lib.hid hgr0
      have hI := hF.1
      clear s1 s2 cZ qZ lZ hgr0
      have fx := hI.facts
      simp only [factsOf, cellsOf, Nat.zero_add, Nat.reduceAdd] at fx
      go_wp2_with fail
      refine HWI.out.mono ?_
      rintro e w5 ⟨vw, rfl, hown, hb⟩
      rw [← HN.out] at hown
      obtain ⟨Aw, cw, rfl, _⟩ := own_rd hown
      obtain ⟨VL, hVL⟩ : ∃ VL, VL = (wishL a'.L ((atQ K k).map toQ3) (goalL K' k ((atQ K k).map toQ3)) n).map toQ3 := ⟨_, rfl⟩
      have hown : w5.ownsRow w0.heap.size 25 3 (.slice Aw n cw) n (VL.flatMap encQ) := by rw [hVL]; exact hown
      have HST := Lib.hid (show ∀ j, j < n → ∃ u v, (atQ K k)[j]? = some u ∧ (atQ K ((k : Int) + 1))[j]? = some v ∧ VL[j]? = some (toQ3 (v - u)) from fun j hj => by
        have := fol_step HOK.out k (by omega) (j := j) (by rw [← HN.out]; exact hj)
        rw [← HN.out] at this
        rw [hVL]
        exact this)
      replace hF := hF.call hb
      replace hI := hI.call hb
      have hnn : ((n : Int) != (n : Int)) = false := by simp
      have HB5 := Lib.hid hb
      clear fx hVL hb HWI
      have fx := hI.facts
      simp only [factsOf, cellsOf, Nat.zero_add, Nat.reduceAdd] at fx
      go_wp2_with fail
      refine (HLT.out w5 HB5.out hF.slQ).mono ?_
      rintro e w6 ⟨rfl, hb6⟩
      clear fx
      go_wp2_with fail
      refine (SG.out w6 (HB5.out.trans (hb6.mono HB5.out.size))).mono ?_
      rintro e w7 ⟨rfl, hb7⟩
      have hb67 := hb6.trans (hb7.mono hb6.size)
      replace hF := hF.call hb67
      have hown := own_below hown hb67 (Nat.le_refl _)
      have hsz0 := HB5.out.size
      have hsz6 := hb67.size
      have HAL := Lib.hid (show (atQ K k).length = n from by have := HOK.out.len k; rw [List.length_map] at this; rw [this, HN.out])
      have HBL := Lib.hid (show (atQ K ((k : Int) + 1)).length = n from by have := HOK.out.len ((k : Int) + 1); rw [List.length_map] at this; rw [this, HN.out])
      have HQA := Lib.hid (HOK.out.qz k (by omega))
      have HQB := Lib.hid (show ∀ g ∈ atQ K ((k : Int) + 1), qz g ≤ 43 from HOK.out.qz (k + 1) (by omega))
      have hsi := Lib.hid (show FiRel w4 w0 g9 gr c n (atQ K k) (atQ K ((k : Int) + 1)) (.slice Aw n cw) VL (.int .i64 0) w7 from ⟨0, Nat.zero_le _, rfl, by rw [mixL_zero]; exact hF, by omega, hown⟩)
      have hwk : IntKind.i64.wrap ((k : Int) + 1) = (k : Int) + 1 := by rw [IntKind.wrap_i64]; omega
      clear hF hown hb6 hb7 hb67 hsz0 hsz6 hI HLT SG hnn
      go_wp2_with fail
      go_loopw [76] (fun i wr => FiRel w4 w0 g9 gr c n (atQ K k) (atQ K ((k : Int) + 1)) (.slice Aw n cw) VL i wr) (fun i _ => n - (intOf i).toNat)
      case atStart => exact hsi.out
      case round =>
        clear hsi
        obtain ⟨j, hj, rfl, hF, hV⟩ := hrel
        obtain ⟨wi, rfl⟩ : ∃ wi, wi = wr := ⟨_, rfl⟩
        by_cases hjn : j < n
        · have hj1 : (j : Int) < (n : Int) := by omega
          have hj2 : 0 ≤ (j : Int) ∧ (j : Int) < (n : Int) := by omega
          obtain ⟨u, v, hu, hv, hd⟩ := HST.out j hjn
          have hy := mixL_get HAL.out HBL.out hu
          have lU : (toQ3 u).le 43 := toQ3_le (HQA.out u (List.mem_of_getElem? hu))
          have lD : (toQ3 (v - u)).le 87 := toQ3_le (by
            have h1 := HQA.out u (List.mem_of_getElem? hu)
            have h2 := HQB.out v (List.mem_of_getElem? hv)
            have h3 := qz_sub v u
            omega)
          obtain ⟨U, hU⟩ : ∃ U, U = toQ3 u := ⟨_, rfl⟩
          obtain ⟨D, hD⟩ : ∃ D, D = toQ3 (v - u) := ⟨_, rfl⟩
          rw [← hU] at hy lU
          rw [← hD] at hd lD
          have HTI := Lib.hid (tabs w4 HOK.out.tab hF.1.bel)
          obtain ⟨z, zq, zc, _, AD⟩ := addR wi HTI.out U D lU lD
          have hz : z = toQ3 v := by
            rw [zc, zq, hU, hD, toQ3_q, toQ3_q]
            congr 1
            grind
          have hjl : j < (mixL (atQ K k) (atQ K ((k : Int) + 1)) j).length := by rw [mixL_len HAL.out HBL.out hj]; exact hjn
          have HY := Lib.hid hy
          have HM2 := Lib.hid (show (mixL (atQ K k) (atQ K ((k : Int) + 1)) j).set j z = mixL (atQ K k) (atQ K ((k : Int) + 1)) (j + 1) from by rw [hz]; exact mixL_set HAL.out HBL.out hv)
          obtain ⟨e0, e1, e2⟩ := row_cells hF.2 hy
          obtain ⟨_, _, _, he9, _, _, _, hrw⟩ := SlQ.own hV.2
          cases he9
          obtain ⟨bw, ow, rfl, hbw, d0, d1, d2⟩ := Rd.quot hrw hd
          have b0 := hF.1.cell (k := 0) (i := 0) rfl rfl
          have bl := hF.1.lt (k := 0) rfl
          have hgl := (hF.2.lt gr rfl).2
          have E := Lib.hid (fun W (hW : Below wi.heap.size wi W) => (⟨(hW.cell (p := ⟨g9, 0, none⟩) bl).trans b0, (hW.cell (p := ⟨gr, j * 3, none⟩) hgl).trans e0, (hW.cell (p := ⟨gr, j * 3 + 1, none⟩) hgl).trans e1, (hW.cell (p := ⟨gr, j * 3 + 2, none⟩) hgl).trans e2, (hW.cell (p := ⟨bw, ow + j * 3, none⟩) hbw).trans d0, (hW.cell (p := ⟨bw, ow + j * 3 + 1, none⟩) hbw).trans d1, (hW.cell (p := ⟨bw, ow + j * 3 + 2, none⟩) hbw).trans d2⟩ : And _ (And _ (And _ (And _ (And _ (And _ _)))))))
          have hwj : IntKind.i64.wrap ((j : Int) + 1) = (j : Int) + 1 := by
            have := HOK.out.n
            have := HN.out
            have := HG.out.len.2
            rw [IntKind.wrap_i64]; omega
          have HF := Lib.hid hF
          have HV := Lib.hid hV
          have hI2 := In.start wi
          clear hF hV hu hv hd hy lU lD hU hD zq zc hz e0 e1 e2 hrw d0 d1 d2 hbw b0 bl hgl
          go_upto_region 17 with (fail)
          refine wp_region_in_tail 14 hI2 (by kernel_rfl) (by kernel_rfl) ?_
          simp only [List.take_succ_cons, List.take_zero, List.drop_succ_cons, List.drop_zero]
          repeat (first
            | (refine wpSeq_off (by rfl) ?_; try simp only [Act.put, List.setIfInBounds_toArray, List.set_cons_zero, List.set_cons_succ])
            | (refine wpSeq_val (v := ?_) (by rfl) (fun W hS => ?_) ?_
               rotate_left
               · (have fy0 := E.out W hS.bel; clear hS; go_simp; first | done | with_reducible rfl)
               try simp only [Act.put, List.setIfInBounds_toArray, List.set_cons_zero, List.set_cons_succ]))
          refine wpSeq_call (v := .agg #[.bool z.neg, .string z.num, .string z.den]) (by rfl) (fun W hS => ?_) (fun W hS => (AD.out W hS.bel)) ?_
          · (clear hS; go_simp; done)
          try simp only [Act.put, List.setIfInBounds_toArray, List.set_cons_zero, List.set_cons_succ]
          repeat (first
            | (refine wpSeq_off (by rfl) ?_; try simp only [Act.put, List.setIfInBounds_toArray, List.set_cons_zero, List.set_cons_succ])
            | (refine wpSeq_val (v := ?_) (by rfl) (fun W hS => ?_) ?_
               rotate_left
               · (have fy0 := E.out W hS.bel; clear hS; go_simp; first | done | with_reducible rfl)
               try simp only [Act.put, List.setIfInBounds_toArray, List.set_cons_zero, List.set_cons_succ]))
          refine wpSeq_nil (fun W hS => ?_)
          have hF8 := HF.out.call hS.bel
          have hc8 := row_cells hF8.2 HY.out
          have hz8 := fun i => hF8.2.frozenAt i
          have HX := Lib.hid (hF8.set hjl z)
          have HX2 := Lib.hid (ownK_set3 (gr := gr) (i := j) (ownL _ _ HV.out hS.bel) HGR.out z)
          clear hS hF8 hI2 AD E HF HV
          go_upto_region 18 with (fail)
          have hF := HX.out
          have hV := HX2.out
          clear HX HX2 hc8 hz8
          generalize World.setCell _ _ _ = W8 at hF hV ⊢
          rw [HM2.out] at hF
          have HX := Lib.hid (And.intro hF hV)
          clear hF hV
          go_wp2_with fail
          go_roundw
          case rel => exact ⟨j + 1, hjn, by simp, HX.out.1, HX.out.2⟩
          case measure => simp [intOf]; omega
        · obtain rfl : j = n := by omega
          have hj1 : ¬ (j : Int) < (j : Int) := by omega
          rw [mixL_full HAL.out HBL.out] at hF
          have HX := Lib.hid hF
          clear hF hV
          go_wp2_with fail
          go_roundw
          case rel => exact ⟨k + 1, hin, by simp, HX.out⟩
          case measure => simp [intOf]; omega
    · obtain rfl : k = mn := by omega
      have hi1 : ¬ (k : Int) < (k : Int) := by omega
      have HFI := Lib.hid (fun W (hW : Below w0.heap.size w0 W) => HT4.out.trans ((hF.1.bel.trans (hW.mono hF.1.bel.size)).mono HT4.out.size))
      by_cases h80 : (ln : Int) > 80
      · clear hF
        go_wp2
        go_ret
        exact ⟨rfl, HFI.out _ (Below.refl _ _)⟩
      · have hkl : k = ln := by have := HMN.out; omega
        subst hkl
        have HOV := Lib.hid (fol_over (HOK.out.up hF.1.bel) k (by omega) HLK.out hF.slQ)
        have hI := hF.1
        clear hF
        have fx := hI.facts
        simp only [factsOf, cellsOf, Nat.zero_add, Nat.reduceAdd] at fx
        go_wp2_with fail
        refine HOV.out.mono ?_
        rintro e w9 ⟨rfl, hb9⟩
        have HFE := Lib.hid (HFI.out _ hb9)
        clear fx hI
        go_wp2
        go_ret
        exact ⟨rfl, HFE.out⟩
end Go.Proofs.YtnnbnecpcppkdaaDoor.ctlFollows
