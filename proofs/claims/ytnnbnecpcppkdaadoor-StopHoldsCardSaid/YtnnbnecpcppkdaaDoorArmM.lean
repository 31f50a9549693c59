/- gantmake.Arm. Conditions: those typed. -/
import Derived.Test.YtnnbnecpcppkdaaDoorArmB
import Derived.Test.YtnnbnecpcppkdaaDoorLinks
namespace Go.Proofs.YtnnbnecpcppkdaaDoor
open Go.RowKit Go.Gy
set_option linter.unusedVariables false
/-- a link that gantmake.arm makes, with its shape -/
def GenLk (k : Lk) (l : List P2) : Prop := ∃ (c a e d f : Int) (zs : List (Int × Int)), (0 ≤ c ∧ c ≤ 3) ∧ (0 ≤ a ∧ a ≤ 5) ∧ (0 ≤ e ∧ e ≤ 5) ∧ (0 ≤ d ∧ d ≤ 7) ∧ (0 ≤ f ∧ f ≤ 19) ∧
  (k.len.q = mkRat (4 + 2 * c) 4 ∧ k.low.q = mkRat (-1 - a) 3 ∧ k.high.q = mkRat (1 + e) 3 ∧ k.speed.q = mkRat 1 (4 + d).toNat ∧ k.brake.q = mkRat 1 (10 + f).toNat) ∧ (k.len.can ∧ k.low.can ∧ k.high.can ∧ k.speed.can ∧ k.brake.can) ∧ (k.len.le 1 ∧ k.low.le 1 ∧ k.high.le 1 ∧ k.speed.le 1 ∧ k.brake.le 1) ∧
  PtsOf l zs ∧ (zs = [(-1, -1), (4 + 2 * c + 1, -1), (4 + 2 * c + 1, 1), (-1, 1)] ∨ zs = [(-1, -1), (4 + 2 * c + 1, 0), (-1, 1)])
/-- an arm that gantmake.Arm makes -/
structure GenAr (a : Ar) : Prop where
  nm : a.name = { data := #[111, 110, 101] }
  p : PtIs a.p 0 0
  half : a.half = false
  t : a.t.can ∧ a.t.le 1
  len : 1 ≤ a.L.length ∧ a.L.length ≤ 3
  lk : ∀ x ∈ a.L, GenLk x.1 x.2
theorem SlP.blk {w : World} {g : Nat} {t : TypeId} {l : List P2} (h : Blk w g t (l.flatMap encP).toArray) : SlP w w.heap.size (.slice (some ⟨g, 0, none⟩) l.length l.length) l :=
  ⟨_, _, _, rfl, rfl, Nat.le_refl _, (fun h => by cases h), flat_length encP_length l, fun _ => ⟨g, 0, rfl, h.lt, fun j u hu => by
    rw [Nat.zero_add]
    exact h.cell j u (by simpa using hu)⟩⟩
theorem LinkIs.gen {lo : Nat} {k : Lk} {w : World} (h : LinkIs lo k w) : ∃ l, SlP w w.heap.size k.shape l ∧ GenLk k l := by
  obtain ⟨c, a, e, d, f, g, l, zs, h1, h2, h3, h4, h5, h6, h7, h8, h9, h10, h11, h12, h13⟩ := h
  exact ⟨l, by rw [h9]; exact SlP.blk h11, c, a, e, d, f, zs, h1, h2, h3, h4, h5, h6, h7, h8, h12, h13⟩
theorem links_gen {lo : Nat} {w : World} : ∀ {ks : List Lk}, (∀ k ∈ ks, LinkIs lo k w) → ∃ L : List (Lk × List P2), L.map (·.1) = ks ∧ ∀ x ∈ L, SlP w w.heap.size x.1.shape x.2 ∧ GenLk x.1 x.2
  | [], _ => ⟨[], rfl, fun x hx => by cases hx⟩
  | k :: ks, h => by
    obtain ⟨L, h1, h2⟩ := links_gen (ks := ks) fun k' hk => h k' (List.mem_cons_of_mem _ hk)
    obtain ⟨l, h3, h4⟩ := (h k List.mem_cons_self).gen
    refine ⟨(k, l) :: L, by rw [List.map_cons, h1], fun x hx => ?_⟩
    rcases List.mem_cons.1 hx with rfl | hx
    · exact ⟨h3, h4⟩
    · exact h2 x hx
def ArmMk (w : World) (e : Ending) (w' : World) : Prop := ∃ a : Ar, e = .returned a.val ∧ GenAr a ∧ a.At w' w'.heap.size ∧ Below w.heap.size w w'
set_option maxRecDepth 100000 in
set_option maxHeartbeats 4000000 in
theorem armMake (w : World) (v : Value) (l : List Int) (hv : SlI w w.heap.size v l) (hl : l.length ≤ 140737488355328) :
    Calls Tryd.prog 15 #[v] w (ArmMk w) := by
  obtain ⟨A, m, c, rfl, hvr⟩ := id hv
  clear hvr
  have hI := (In.start w).alloc 37 #[.string { data := #[] }, .bool false, .string { data := #[] }, .string { data := #[] }, .bool false, .string { data := #[] }, .string { data := #[] }, .bool false, .bool false, .string { data := #[] }, .string { data := #[] }, .slice none 0 0]
  have hsz := World.size_alloc w (.cells #[.string { data := #[] }, .bool false, .string { data := #[] }, .string { data := #[] }, .bool false, .string { data := #[] }, .string { data := #[] }, .bool false, .bool false, .string { data := #[] }, .string { data := #[] }, .slice none 0 0] 37)
  go_enter Tryd.func15, Tryd.ntmps15
  go_upto_region 1 with (fail)
  generalize World.alloc _ _ = w1 at hI hsz ⊢
  have hb1 : Below w1.heap.size w1 (w1.alloc (.cells #[.slice A m c] 103)) := (Below.refl _ _).alloc (Nat.le_refl _) _
  have hst : StrAt (w1.alloc (.cells #[.slice A m c] 103)) w.heap.size w1.heap.size := ⟨_, l, Blk.new _ _ _, hv.below (hI.bel.trans (hb1.mono (by omega))), hl⟩
  have h0 : InS w1 w.heap.size w1.heap.size [] (w1.alloc (.cells #[.slice A m c] 103)) := ⟨⟨hb1, by simp, by simp, by simp⟩, hst, by simp⟩
  have HP := Lib.hid (arm_any w1 _ w.heap.size w1.heap.size h0 (by omega) (Nat.le_refl _))
  have HZ := Lib.hid hsz
  clear hv hl hst h0 hb1 hsz
  go_wp2_with fail
  refine HP.out.mono ?_
  rintro e wn ⟨p, z, v, ks, lo, rfl, hp, hz, hlen, hlo, hL⟩
  obtain ⟨gq, cq, rfl, _, _⟩ := own_shape hL.own (by omega)
  have hsz := HZ.out
  replace hI := hI.call hL.toIn.bel
  have hT := hI.take (a := [_]) (b := [])
  have fx := hT.facts
  simp only [factsOf, cellsOf, Nat.zero_add, Nat.reduceAdd] at fx
  have hfz := fun i => hT.free (k := 0) (i := i) rfl
  have HK := Lib.hid (hT.all12 (a := []) (.string { data := #[111, 110, 101] }) (.bool p.x.neg) (.string p.x.num) (.string p.x.den) (.bool p.y.neg) (.string p.y.num) (.string p.y.den) (.bool false) (.bool z.neg) (.string z.num) (.string z.den) (.slice (some ⟨gq, 0, none⟩) ks.length cq))
  have hG := grown12 wn w.heap.size (.string { data := #[111, 110, 101] }) (.bool p.x.neg) (.string p.x.num) (.string p.x.den) (.bool p.y.neg) (.string p.y.num) (.string p.y.den) (.bool false) (.bool z.neg) (.string z.num) (.string z.den) (.slice (some ⟨gq, 0, none⟩) ks.length cq)
  have HO := Lib.hid (hL.own.kept hG (.inr (fun e => by have := (hL.own.lt _ e).1; omega)))
  have HL := Lib.hid (fun k hk => (hL.lk k hk).keep (fun g cs hge hbk => by
    obtain ⟨_, _, _, _, g5⟩ := hG
    exact (g5 g hbk.lt (fun e => by have := Option.some.inj e; omega)).trans hbk))
  have Hp := Lib.hid hp
  have Hz := Lib.hid hz
  clear hT hI hL HP hG hp hz hsz
  go_wp2_with fail
  clear fx hfz
  have hK := HK.out
  have hO := HO.out
  have hLK := HL.out
  clear HK HO HL
  generalize World.setCell _ _ _ = W9 at hK hO hLK ⊢
  refine bodyPost_ret (results_cell_row Tryd.results15 _ _ (w.heap.size) 37 _ (0, 0) _ rfl (hK.blkAt (k := 0) rfl) Tryd.underlying37 rfl (by kernel_rfl)) rfl ?_
  obtain ⟨L, hLm, hLx⟩ := links_gen hLK
  subst hLm
  refine ⟨⟨{ data := #[111, 110, 101] }, p, false, z, _, L⟩, rfl, ⟨rfl, Hp.out, rfl, Hz.out, by rw [List.length_map] at hlen; exact hlen, fun x hx => (hLx x hx).2⟩, ⟨SlL.own (by exact hO), fun x hx => (hLx x hx).1⟩, hK.bel⟩
end Go.Proofs.YtnnbnecpcppkdaaDoor
