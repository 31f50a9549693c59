/- ZoneCloser: the walk. Conditions: those typed. -/
import Derived.Test.YthmgcbpmfipfiaaDoorLevel
import Derived.Test.YthmgcbpmfipfiaaDoorPolyP
import Derived.Test.YthmgcbpmfipfiaaDoorZoneWalksWalk
namespace Go.Proofs.YthmgcbpmfipfiaaDoor.zoneCloser
open Go.RowKit Go.Gy
set_option linter.unusedVariables false
theorem wf_i64 {n : Int} (h : wfI .i64 n) : -9223372036854775808 ≤ n ∧ n ≤ 9223372036854775807 := by
  simpa [wfI, Lit.wf, IntKind.min, IntKind.max, IntKind.signed, IntKind.bits] using h
/-- how close polygons without fault are -/
def Lev (p q x : Rat) (near slow : Int) (L : List (List P2)) (n : Int) : Prop :=
  (n = 2 ∧ ∃ l ∈ L, TB p q x near l) ∨ (n = 1 ∧ (∀ l ∈ L, ¬ TB p q x near l) ∧ ∃ l ∈ L, TB p q x slow l) ∨ (n = 0 ∧ (∀ l ∈ L, ¬ TB p q x near l) ∧ ∀ l ∈ L, ¬ TB p q x slow l)
theorem lev_made {p q x : Rat} {near slow : Int} {L : List (List P2)} {n e : Int} (hL : ∀ l ∈ L, PolyIs l) (hr : 0 ≤ near ∧ near ≤ slow ∧ slow ≤ 2000) (h : LevelIs p q x near slow L n e) : e = 0 ∧ Lev p q x near slow L n := by
  rcases h with ⟨h, _⟩ | ⟨_, _, h0, h1⟩ | ⟨_, h0, _, h2⟩
  · omega
  · rcases h1 with ⟨h1, _⟩ | ⟨_, k, l, h1, h2, _⟩
    · exact absurd h1 h0
    · exact absurd ((hL l (List.mem_of_getElem? h1)).check h2) h0
  · exact ⟨h0, h2⟩
theorem TB_mono {p q x : Rat} {t t' : Int} {l : List P2} (h : t ≤ t') (hb : TB p q x t l) : TB p q x t' l := fun y hy => tchB_mono (farV_mono h) (hb y hy)
theorem lev_le {p q x : Rat} {near slow near' slow' : Int} {L L' : List (List P2)} {n n' : Int} (hn : ∀ l ∈ L, TB p q x near l → ∃ l' ∈ L', TB p q x near' l') (hs : ∀ l ∈ L, TB p q x slow l → ∃ l' ∈ L', TB p q x slow' l')
    (h : Lev p q x near slow L n) (h' : Lev p q x near' slow' L' n') : n ≤ n' := by
  rcases h with ⟨rfl, l, hl, ht⟩ | ⟨rfl, _, l, hl, ht⟩ | ⟨rfl, _⟩
  · obtain ⟨l', hl', ht'⟩ := hn l hl ht
    rcases h' with ⟨rfl, _⟩ | ⟨rfl, g, _⟩ | ⟨rfl, g, _⟩
    · omega
    · exact absurd ht' (g l' hl')
    · exact absurd ht' (g l' hl')
  · obtain ⟨l', hl', ht'⟩ := hs l hl ht
    rcases h' with ⟨rfl, _⟩ | ⟨rfl, g, _⟩ | ⟨rfl, _, g⟩
    · omega
    · omega
    · exact absurd ht' (g l' hl')
  · rcases h' with ⟨rfl, _⟩ | ⟨rfl, _⟩ | ⟨rfl, _⟩ <;> omega
theorem lev_range {p q x : Rat} {near slow : Int} {L : List (List P2)} {n : Int} (h : Lev p q x near slow L n) : 0 ≤ n ∧ n ≤ 2 := by
  rcases h with ⟨rfl, _⟩ | ⟨rfl, _⟩ | ⟨rfl, _⟩ <;> omega
/-- rows of slices of points that have just been made -/
theorem rows1 (W : World) {A : Option Addr} {n c : Nat} {l : List P2} (h : SlP W W.heap.size (.slice A n c) l) : SlPs (W.alloc (.cells #[.slice A n c] 68)) (W.alloc (.cells #[.slice A n c] 68)).heap.size (.slice (some ⟨W.heap.size, 0, none⟩) 1 1) [l] :=
  ⟨_, _, _, [.slice A n c], rfl, rfl, rfl, by rw [World.size_alloc]; exact Rd.lit W _ [.slice A n c] 1 1 rfl, fun k v' l' hk hl => by
    cases k with
    | zero => cases hk; cases hl; exact (h.below ((Below.refl _ _).alloc (Nat.le_refl _) _)).more (by rw [World.size_alloc]; omega)
    | succ k => simp at hk⟩
theorem rows2 (W : World) {A A' : Option Addr} {n c n' c' : Nat} {l l' : List P2} (h : SlP W W.heap.size (.slice A n c) l) (h' : SlP W W.heap.size (.slice A' n' c') l') :
    SlPs (W.alloc (.cells #[.slice A n c, .slice A' n' c'] 68)) (W.alloc (.cells #[.slice A n c, .slice A' n' c'] 68)).heap.size (.slice (some ⟨W.heap.size, 0, none⟩) 2 2) [l, l'] :=
  ⟨_, _, _, [.slice A n c, .slice A' n' c'], rfl, rfl, rfl, by rw [World.size_alloc]; exact Rd.lit W _ [.slice A n c, .slice A' n' c'] 1 2 rfl, fun k v' l'' hk hl => by
    rcases k with _ | _ | k
    · cases hk; cases hl; exact (h.below ((Below.refl _ _).alloc (Nat.le_refl _) _)).more (by rw [World.size_alloc]; omega)
    · cases hk; cases hl; exact (h'.below ((Below.refl _ _).alloc (Nat.le_refl _) _)).more (by rw [World.size_alloc]; omega)
    · simp at hk⟩
set_option maxRecDepth 100000 in
set_option maxHeartbeats 8000000 in
theorem walk (v0 v1 v2 : Value) (wk nr sl : Int) (w : World) {b0 b1 b2 : Nat} (f0 : IntsArg w v0 b0) (f1 : IntsArg w v1 b1) (f2 : IntsArg w v2 b2) (w3 : wfI .i64 wk) (w4 : wfI .i64 nr) (w5 : wfI .i64 sl) (hT : TabW w) :
    Calls Tryd.prog 9 #[v0, v1, v2, .int .i64 wk, .int .i64 nr, .int .i64 sl] w fun e w' => e = .returned (.bool true) ∧ Below w.heap.size w w' := by
  obtain ⟨r0, hl0, _, _, hb0⟩ := f0
  obtain ⟨r1, hl1, _, _, hb1⟩ := f1
  obtain ⟨r2, hl2, _, _, hb2⟩ := f2
  have HT := Lib.hid hT
  have h30 := wf_i64 w3
  have h40 := wf_i64 w4
  have h50 := wf_i64 w5
  have HZ := Lib.hid (fun W hW => zoneWalks.zones_any W (tabs w hT hW))
  have HV := Lib.hid (fun W (hW : Below w.heap.size w W) => vec_any W v0 r0 ((hl0.below hW).more hW.size) (by unfold reachBytes at hb0; omega))
  have HP1 := Lib.hid (fun W (hW : Below w.heap.size w W) => polyMake W v1 r1 ((hl1.below hW).more hW.size) (by unfold reachBytes at hb1; omega))
  have HP2 := Lib.hid (fun W (hW : Below w.heap.size w W) => polyMake W v2 r2 ((hl2.below hW).more hW.size) (by unfold reachBytes at hb2; omega))
  obtain ⟨za, _, _, la, A1⟩ := ratMR w wk h30
  obtain ⟨x, qx, _, lx, A2⟩ := absR w hT za la
  have B1 := Lib.hid (fun W => below_any nr 20 W (by omega) (by omega))
  have B2 := Lib.hid (fun W => below_any sl 20 W (by omega) (by omega))
  have a0 := Int.emod_nonneg nr (b := 20) (by omega)
  have a1 := Int.emod_lt_of_pos nr (b := 20) (by omega)
  have c0 := Int.emod_nonneg sl (b := 20) (by omega)
  have c1 := Int.emod_lt_of_pos sl (b := 20) (by omega)
  obtain ⟨na, hna⟩ : ∃ na, na = nr % 20 := ⟨_, rfl⟩
  obtain ⟨nb, hnb⟩ : ∃ nb, nb = sl % 20 := ⟨_, rfl⟩
  rw [← hna] at a0 a1 B1
  rw [← hnb] at c0 c1 B2
  have hw1 : IntKind.i64.wrap (na + nb) = na + nb := by rw [IntKind.wrap_i64]; omega
  have hw2 : IntKind.i64.wrap (na + 1) = na + 1 := by rw [IntKind.wrap_i64]; omega
  have hw3 : IntKind.i64.wrap (na + nb + 1) = na + nb + 1 := by rw [IntKind.wrap_i64]; omega
  have hI := In.start w
  clear hl0 hl1 hl2 hb0 hb1 hb2 w3 w4 w5 hT h30 h40 h50 qx hna hnb
  go_enter Tryd.func9, Tryd.ntmps9
  go_wp2_with fail
  refine (HZ.out _ hI.bel).mono ?_
  rintro e wn ⟨rfl, hb⟩
  replace hI := hI.call hb
  clear hb
  go_wp2_with fail
  refine (HV.out _ hI.bel).mono ?_
  rintro e wn ⟨p, q, rfl, _, _, lp, lq, hb⟩
  replace hI := hI.call hb
  clear hb HV HZ
  go_wp2_with fail
  refine (A1.out _).mono ?_
  rintro e wn ⟨rfl, hb⟩
  replace hI := hI.call hb
  clear hb A1
  go_wp2_with fail
  refine (A2.out _ hI.bel).mono ?_
  rintro e wn ⟨rfl, hb⟩
  replace hI := hI.call hb
  clear hb
  replace hI := (hI.alloc 58 #[.bool p.neg, .string p.num, .string p.den, .bool q.neg, .string q.num, .string q.den]).alloc 27 #[.bool x.neg, .string x.num, .string x.den]
  rw [World.size_alloc] at hI
  obtain ⟨g, hg⟩ : ∃ g, g = wn.heap.size := ⟨_, rfl⟩
  go_upto_region 4 with (fail)
  rw [← hg] at hI ⊢
  generalize World.alloc _ _ = W1 at hI ⊢
  clear hg A2
  go_wp2_with fail
  refine (B1.out _).mono ?_
  rintro e wn ⟨rfl, rfl⟩
  go_wp2_with fail
  refine (B2.out _).mono ?_
  rintro e wn ⟨rfl, rfl⟩
  go_wp2_with fail
  refine (HP1.out _ hI.bel).mono ?_
  rintro e wa ⟨va, l1, rfl, hp1, hs1, hb⟩
  replace hI := hI.call hb
  clear hb
  go_wp2_with fail
  refine (HP2.out _ hI.bel).mono ?_
  rintro e wb ⟨vb, l2, rfl, hp2, hs2, hb⟩
  have hs1b := (hs1.below hb).more hb.size
  replace hI := hI.call hb
  have hIb := In.start wb
  obtain ⟨As, ns, cs, rfl, hx1⟩ := id hs1b
  obtain ⟨At, nt, ct, rfl, hx2⟩ := id hs2
  have HS1 := Lib.hid (fun W (hW : Below wb.heap.size wb W) => (hs1b.below hW).more hW.size)
  have HS2 := Lib.hid (fun W (hW : Below wb.heap.size wb W) => (hs2.below hW).more hW.size)
  have HBB := Lib.hid hI.bel
  have HQ1 := Lib.hid hp1
  have HQ2 := Lib.hid hp2
  clear hb hs1 hs1b hs2 hx1 hx2 hp1 hp2 HP1 HP2 B1 B2
  have fx := hI.facts
  simp only [factsOf, cellsOf, Nat.zero_add, Nat.reduceAdd] at fx
  have hlv0 := level_any _ (tabs w HT.out (hI.skip (.cells #[.slice As ns cs] 68)).bel) p q x (na) (na + nb) _ [l1] (N := 8) (lp.more (by decide)) (lq.more (by decide)) (lx.more (by decide)) (rows1 _ (HS1.out _ hIb.bel)) (by
    intro l hl z hz
    simp only [List.mem_cons, List.not_mem_nil, or_false] at hl
    rcases hl with rfl
    all_goals exact (PolyIs.le (by first | exact HQ1.out | exact HQ2.out) z hz).more (by decide)) (by
    intro l hl
    simp only [List.mem_cons, List.not_mem_nil, or_false] at hl
    rcases hl with rfl
    all_goals (have := PolyIs.len (l := l) (by first | exact HQ1.out | exact HQ2.out); omega)) (by simp) (by decide)
  have HLV := Lib.hid hlv0
  clear hlv0
  replace hI := hI.skip (.cells #[.slice As ns cs] 68)
  replace hIb := hIb.skip (.cells #[.slice As ns cs] 68)
  go_wp2_with fail
  refine HLV.out.mono ?_
  rintro e w7 ⟨n7, e7, rfl, hlv, hb⟩
  replace hI := hI.call hb
  replace hIb := hIb.call hb
  have H7 := Lib.hid (lev_made (by
    intro l hl
    simp only [List.mem_cons, List.not_mem_nil, or_false] at hl
    rcases hl with rfl
    all_goals first | exact HQ1.out | exact HQ2.out) (by omega) hlv)
  clear hb hlv HLV fx
  have fx := hI.facts
  simp only [factsOf, cellsOf, Nat.zero_add, Nat.reduceAdd] at fx
  have hlv0 := level_any _ (tabs w HT.out (hI.skip (.cells #[.slice As ns cs, .slice At nt ct] 68)).bel) p q x (na) (na + nb) _ [l1, l2] (N := 8) (lp.more (by decide)) (lq.more (by decide)) (lx.more (by decide)) (rows2 _ (HS1.out _ hIb.bel) (HS2.out _ hIb.bel)) (by
    intro l hl z hz
    simp only [List.mem_cons, List.not_mem_nil, or_false] at hl
    rcases hl with rfl | rfl
    all_goals exact (PolyIs.le (by first | exact HQ1.out | exact HQ2.out) z hz).more (by decide)) (by
    intro l hl
    simp only [List.mem_cons, List.not_mem_nil, or_false] at hl
    rcases hl with rfl | rfl
    all_goals (have := PolyIs.len (l := l) (by first | exact HQ1.out | exact HQ2.out); omega)) (by simp) (by decide)
  have HLV := Lib.hid hlv0
  clear hlv0
  replace hI := hI.skip (.cells #[.slice As ns cs, .slice At nt ct] 68)
  replace hIb := hIb.skip (.cells #[.slice As ns cs, .slice At nt ct] 68)
  go_wp2_with fail
  refine HLV.out.mono ?_
  rintro e w8 ⟨n8, e8, rfl, hlv, hb⟩
  replace hI := hI.call hb
  replace hIb := hIb.call hb
  have H8 := Lib.hid (lev_made (by
    intro l hl
    simp only [List.mem_cons, List.not_mem_nil, or_false] at hl
    rcases hl with rfl | rfl
    all_goals first | exact HQ1.out | exact HQ2.out) (by omega) hlv)
  clear hb hlv HLV fx
  have fx := hI.facts
  simp only [factsOf, cellsOf, Nat.zero_add, Nat.reduceAdd] at fx
  have hlv0 := level_any _ (tabs w HT.out (hI.skip (.cells #[.slice As ns cs] 68)).bel) p q x (na + 1) (na + nb + 1) _ [l1] (N := 8) (lp.more (by decide)) (lq.more (by decide)) (lx.more (by decide)) (rows1 _ (HS1.out _ hIb.bel)) (by
    intro l hl z hz
    simp only [List.mem_cons, List.not_mem_nil, or_false] at hl
    rcases hl with rfl
    all_goals exact (PolyIs.le (by first | exact HQ1.out | exact HQ2.out) z hz).more (by decide)) (by
    intro l hl
    simp only [List.mem_cons, List.not_mem_nil, or_false] at hl
    rcases hl with rfl
    all_goals (have := PolyIs.len (l := l) (by first | exact HQ1.out | exact HQ2.out); omega)) (by simp) (by decide)
  have HLV := Lib.hid hlv0
  clear hlv0
  replace hI := hI.skip (.cells #[.slice As ns cs] 68)
  replace hIb := hIb.skip (.cells #[.slice As ns cs] 68)
  go_wp2_with fail
  refine HLV.out.mono ?_
  rintro e w9 ⟨n9, e9, rfl, hlv, hb⟩
  replace hI := hI.call hb
  replace hIb := hIb.call hb
  have H9 := Lib.hid (lev_made (by
    intro l hl
    simp only [List.mem_cons, List.not_mem_nil, or_false] at hl
    rcases hl with rfl
    all_goals first | exact HQ1.out | exact HQ2.out) (by omega) hlv)
  clear hb hlv HLV fx
  have fx := hI.facts
  simp only [factsOf, cellsOf, Nat.zero_add, Nat.reduceAdd] at fx
  have hlv0 := level_any _ (tabs w HT.out (hI.skip (.cells #[.slice At nt ct, .slice As ns cs] 68)).bel) p q x (na) (na + nb) _ [l2, l1] (N := 8) (lp.more (by decide)) (lq.more (by decide)) (lx.more (by decide)) (rows2 _ (HS2.out _ hIb.bel) (HS1.out _ hIb.bel)) (by
    intro l hl z hz
    simp only [List.mem_cons, List.not_mem_nil, or_false] at hl
    rcases hl with rfl | rfl
    all_goals exact (PolyIs.le (by first | exact HQ1.out | exact HQ2.out) z hz).more (by decide)) (by
    intro l hl
    simp only [List.mem_cons, List.not_mem_nil, or_false] at hl
    rcases hl with rfl | rfl
    all_goals (have := PolyIs.len (l := l) (by first | exact HQ1.out | exact HQ2.out); omega)) (by simp) (by decide)
  have HLV := Lib.hid hlv0
  clear hlv0
  replace hI := hI.skip (.cells #[.slice At nt ct, .slice As ns cs] 68)
  replace hIb := hIb.skip (.cells #[.slice At nt ct, .slice As ns cs] 68)
  go_wp2_with fail
  refine HLV.out.mono ?_
  rintro e w10 ⟨n10, e10, rfl, hlv, hb⟩
  replace hI := hI.call hb
  replace hIb := hIb.call hb
  have H10 := Lib.hid (lev_made (by
    intro l hl
    simp only [List.mem_cons, List.not_mem_nil, or_false] at hl
    rcases hl with rfl | rfl
    all_goals first | exact HQ1.out | exact HQ2.out) (by omega) hlv)
  clear hb hlv HLV fx
  obtain ⟨rfl, v7⟩ := H7.out
  obtain ⟨rfl, v8⟩ := H8.out
  obtain ⟨rfl, v9⟩ := H9.out
  obtain ⟨rfl, v10⟩ := H10.out
  have k1 : n7 ≤ n8 := lev_le (fun l hl h => ⟨l, by simp at hl ⊢; exact .inl hl, h⟩) (fun l hl h => ⟨l, by simp at hl ⊢; exact .inl hl, h⟩) v7 v8
  have k2 : n7 ≤ n9 := lev_le (fun l hl h => ⟨l, hl, TB_mono (by omega) h⟩) (fun l hl h => ⟨l, hl, TB_mono (by omega) h⟩) v7 v9
  have k3 : n10 ≤ n8 := lev_le (fun l hl h => ⟨l, by simp at hl ⊢; exact hl.symm, h⟩) (fun l hl h => ⟨l, by simp at hl ⊢; exact hl.symm, h⟩) v10 v8
  have k4 : n8 ≤ n10 := lev_le (fun l hl h => ⟨l, by simp at hl ⊢; exact hl.symm, h⟩) (fun l hl h => ⟨l, by simp at hl ⊢; exact hl.symm, h⟩) v8 v10
  have k5 := lev_range v7
  have k6 := lev_range v8
  obtain rfl : n10 = n8 := by omega
  have g1 : n10 ≥ n7 := k1
  have g2 : n9 ≥ n7 := k2
  have g3 : n7 ≥ 0 := k5.1
  have g4 : n10 ≤ 2 := k6.2
  clear H7 H8 H9 H10 v7 v8 v9 v10 k1 k2 k3 k4 k5 k6
  go_wp2
  go_ret
  exact ⟨rfl, hI.bel⟩
end Go.Proofs.YthmgcbpmfipfiaaDoor.zoneCloser
