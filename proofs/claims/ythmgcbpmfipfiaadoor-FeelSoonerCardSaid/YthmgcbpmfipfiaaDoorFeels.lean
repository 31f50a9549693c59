/- gantkeep5.feels. Conditions: those typed. -/
import Derived.Test.YthmgcbpmfipfiaaDoorFeelStop
namespace Go.Proofs.YthmgcbpmfipfiaaDoor
open Go.RowKit Go.Gy
set_option linter.unusedVariables false
/-- a block that holds a row of numbers, as a slice -/
theorem In.slq {w W : World} {l : List (Nat × TypeId × Array Value)} (h : In w l W) {k g : Nat} {t : TypeId} {cs : Array Value} (hk : l[k]? = some (g, t, cs)) (r : List Q3) (hr : cs.toList = r.flatMap encQ) : SlQ W W.heap.size (.slice (some ⟨g, 0, none⟩) r.length r.length) r := by
  refine ⟨_, _, _, rfl, rfl, Nat.le_refl _, (fun hA => by cases hA), flatQ_length r, fun _ => ⟨g, 0, rfl, h.lt hk, fun j u hj => ?_⟩⟩
  rw [Nat.zero_add]
  exact h.cell hk (by rw [hr]; exact hj)
theorem stopAt0 : StopIs 1 9 [0, 3] 1 := by
  refine .inl ⟨1, rfl, ⟨3, rfl, .inl (by decide)⟩, fun j hj => ?_⟩
  obtain rfl : j = 0 := by omega
  rintro ⟨x, hx, h | ⟨y, h, _⟩⟩
  · cases hx; exact absurd h (by decide)
  · exact absurd h (Nat.lt_irrefl 0)
set_option maxRecDepth 100000 in
set_option maxHeartbeats 4000000 in
theorem feels_any (w : World) (hT : TabW w) : Calls Tryd.prog 15 #[] w fun e w' => e = .returned (.bool true) ∧ Below w.heap.size w w' := by
  obtain ⟨z1, q1, _, l1, O1⟩ := ofR w hT 1
  obtain ⟨z9, q9, _, l9, O9⟩ := ofR w hT 9
  obtain ⟨z0, q0, _, l0, O0⟩ := ofR w hT 0
  obtain ⟨z3, q3, _, l3, O3⟩ := ofR w hT 3
  have hI := In.start w
  have HT := Lib.hid hT
  clear hT
  go_enter Tryd.func15, Tryd.ntmps15
  go_wp2_with fail
  refine (O1.out _ hI.bel).mono ?_
  rintro e wn ⟨rfl, hb⟩
  replace hI := hI.call hb
  clear hb
  go_wp2_with fail
  refine (O9.out _ hI.bel).mono ?_
  rintro e wn ⟨rfl, hb⟩
  replace hI := hI.call hb
  clear hb
  go_wp2_with fail
  refine (O0.out _ hI.bel).mono ?_
  rintro e wn ⟨rfl, hb⟩
  replace hI := hI.call hb
  clear hb
  go_wp2_with fail
  refine (O3.out _ hI.bel).mono ?_
  rintro e wn ⟨rfl, hb⟩
  replace hI := hI.call hb
  clear hb
  go_wp2_with fail
  have hJ := hI.alloc 27 #[.bool z0.neg, .string z0.num, .string z0.den, .bool z3.neg, .string z3.num, .string z3.den]
  generalize World.alloc _ _ = W at hJ ⊢
  have hs := hJ.slq (k := 0) rfl [z0, z3] rfl
  refine (stop_any W z1 z9 (l1.more (by decide)) (l9.more (by decide)) _ [z0, z3] hs (fun x hx => by
    rcases List.mem_cons.1 hx with rfl | hx
    · exact l0.more (by decide)
    · rcases List.mem_cons.1 hx with rfl | hx
      · exact l3.more (by decide)
      · cases hx) (tabs w HT.out hJ.bel)).mono ?_
  rintro e wn' ⟨x, k, rfl, hp, hb⟩
  have hp2 : x = 1 ∧ k = 0 := by
    unfold StopPost at hp
    rw [q1, q9, if_pos ⟨by decide, by decide⟩, if_neg (by rw [List.length_map]; simp)] at hp
    refine ⟨StopIs.unique hp.1 ?_, hp.2⟩
    rw [List.map_cons, List.map_cons, List.map_nil, q0, q3]
    exact stopAt0
  obtain ⟨rfl, rfl⟩ := hp2
  replace hJ := hJ.call hb
  clear hb hp hs
  go_wp2
  go_ret
  exact ⟨rfl, hJ.bel⟩
end Go.Proofs.YthmgcbpmfipfiaaDoor
