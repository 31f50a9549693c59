/- Rings in a graph, up to ring.Find: eight texts in one. Conditions: those typed. -/
import Derived.Test.YtambngbkegnghaaInts
import Derived.Test.YtambngbkegnghaaTabRing
import Derived.Test.YtambngbkegnghaaQueue
import Derived.Deep.RegionHeld
import Derived.Lib.Mul64
import Derived.Laws.Bits64b
import Derived.Deep.RegionLaw
import Derived.Outline
/- ring.Check. Conditions: those typed. -/
namespace Go.Proofs.Ytambngbkegnghaa
open Go.RowKit Go.Gy
set_option linter.unusedVariables false

def badK (n : Nat) (k : Int) : Bool := decide (k < 0) || decide ((n : Int) ≤ k)
def checkR (rs : List (List Int)) : Nat := if 64 < rs.length then 2 else if rs.any (fun r => r.any (badK rs.length)) = true then 1 else 0
theorem badK_true {n : Nat} {k : Int} (h : k < 0 ∨ (n : Int) ≤ k) : badK n k = true := by simp [badK]; omega
theorem badK_false {n : Nat} {k : Int} (h : ¬ (k < 0 ∨ (n : Int) ≤ k)) : badK n k = false := by simp [badK]; omega
theorem checkR_bad {rs : List (List Int)} {r : List Int} {k : Int} (hn : rs.length ≤ 64) (hr : r ∈ rs) (hk : k ∈ r) (hb : badK rs.length k = true) : checkR rs = 1 := by
  unfold checkR
  rw [if_neg (by omega), if_pos (by rw [List.any_eq_true]; exact ⟨r, hr, by rw [List.any_eq_true]; exact ⟨k, hk, hb⟩⟩)]
theorem checkR_good {rs : List (List Int)} (hn : rs.length ≤ 64) (h : ∀ r ∈ rs, r.any (badK rs.length) = false) : checkR rs = 0 := by
  unfold checkR
  rw [if_neg (by omega), if_neg (by rw [List.any_eq_true]; rintro ⟨r, hr, hb⟩; rw [h r hr] at hb; cases hb)]
set_option maxRecDepth 100000 in
set_option maxHeartbeats 2000000 in
theorem check_ring (w : World) (v : Value) (B : Nat) (rs : List (List Int)) (hv : RowsI w B v rs) (hn : rs.length ≤ 140737488355328) (hl : ∀ r ∈ rs, r.length ≤ 140737488355328) :
    Calls Try.prog 80 #[v] w fun e w' => e = .returned (.int .i64 ((checkR rs : Nat) : Int)) ∧ w = w' := by
  obtain ⟨A, n, c, vs, rfl, hN, _, _, hr, hs⟩ := hv
  rw [hN] at hn
  by_cases h64 : 64 < n
  · have e : checkR rs = 2 := by unfold checkR; rw [if_pos (by omega)]
    rw [e]
    have h' : (64 : Int) < (n : Int) := by omega
    clear e hr hs hN hl
    go_enter Try.func80, Try.ntmps80
    go_wp2
    go_ret
    exact ⟨rfl, rfl⟩
  · have h' : ¬ (64 : Int) < (n : Int) := by omega
    have HN := Lib.hid hN
    have Hs := Lib.hid hs
    have HL := Lib.hid hl
    clear hN hs hl
    go_enter Try.func80, Try.ntmps80
    go_wp2
    go_loop [12] (fun i => ∃ k : Nat, k ≤ n ∧ i = .int .i64 k ∧ Hid (∀ r ∈ rs.take k, r.any (badK n) = false)) (fun i => n - (intOf i).toNat)
    case atStart => exact ⟨0, Nat.zero_le _, rfl, Lib.hid (by simp)⟩
    case round =>
      obtain ⟨k, hk, rfl, Hgd⟩ := hrel
      by_cases hlt : k < n
      · obtain ⟨b, o, u, rfl, hbB, hu, hc⟩ := hr.at_ hlt
        have hrk : rs[k]? = some (rs[k]'(by have := HN.out; omega)) := List.getElem?_eq_getElem _
        obtain ⟨r, hr0⟩ : ∃ r, r = rs[k]'(by have := HN.out; omega) := ⟨_, rfl⟩
        rw [← hr0] at hrk
        obtain ⟨A', m, c', rfl, hm, _, _, hrr⟩ := Hs.out.2 k u r hu hrk
        have hmb : m ≤ 140737488355328 := by rw [← hm]; exact HL.out r (List.mem_of_getElem? hrk)
        have Hm := Lib.hid hm
        have Hrk := Lib.hid hrk
        have hlt' : (k : Int) < (n : Int) := by omega
        clear hr0 hrk hu hm
        go_wp2
        go_loop [18] (fun i => ∃ j : Nat, j ≤ m ∧ i = .int .i64 j ∧ Hid ((r.take j).any (badK n) = false)) (fun i => m - (intOf i).toNat)
        case atStart => exact ⟨0, Nat.zero_le _, rfl, Lib.hid (by simp)⟩
        case round =>
          obtain ⟨j, hj, rfl, Hin⟩ := hrel
          by_cases hjl : j < m
          · obtain ⟨b', o', z, rfl, _, hz, hcz⟩ := hrr.one hjl
            have Hz := Lib.hid hz
            have hjl' : (j : Int) < (m : Int) := by omega
            clear hz
            by_cases hb : z < 0 ∨ (n : Int) ≤ z
            · have Hb := Lib.hid (badK_true hb)
              have hbb : z < 0 ∨ (0 ≤ z ∧ (n : Int) ≤ z) := by omega
              clear hb
              rcases hbb with q1 | ⟨q1, q2⟩
              all_goals
                go_wp2
                go_ret
                exact ⟨ret_int (by rw [checkR_bad (by rw [HN.out]; omega) (List.mem_of_getElem? Hrk.out) (List.mem_of_getElem? Hz.out) (by rw [HN.out]; exact Hb.out)]; rfl), rfl⟩
            · have Hb := Lib.hid (badK_false hb)
              have q1 : 0 ≤ z := by omega
              have q2 : z < (n : Int) := by omega
              clear hb
              go_wp2
              go_round
              case rel => exact ⟨j + 1, by omega, by go_num, Lib.hid (by rw [List.take_add_one, Hz.out, List.any_append, Hin.out]; simp [Hb.out])⟩
              case measure => simp [intOf]; omega
          · obtain rfl : j = m := by omega
            go_wp2
            go_round
            case rel => exact ⟨k + 1, by omega, by go_num, Lib.hid (by
              intro t ht
              rw [List.take_add_one, Hrk.out] at ht
              simp only [Option.toList_some, List.mem_append, List.mem_singleton] at ht
              rcases ht with ht | rfl
              · exact Hgd.out t ht
              · have := Hin.out; rwa [List.take_of_length_le (by rw [Hm.out]; omega)] at this)⟩
            case measure => simp [intOf]; omega
      · obtain rfl : k = n := by omega
        go_wp2
        go_ret
        refine ⟨ret_int ?_, rfl⟩
        rw [checkR_good (by rw [HN.out]; omega) (by
          have := Hgd.out
          rw [List.take_of_length_le (by rw [HN.out]; omega)] at this
          rw [HN.out]; exact this)]
        rfl
end Go.Proofs.Ytambngbkegnghaa
/- Which nodes a graph's steps reach, as plain data: the invariant of ring.steps. No condition but those typed. -/
namespace Go.Proofs.Ytambngbkegnghaa
set_option linter.unusedVariables false

/-- an edge; what is reached by at least one step -/
def Ed (rs : List (List Int)) (i k : Nat) : Prop := ∃ r, rs[i]? = some r ∧ (k : Int) ∈ r
inductive Reach (rs : List (List Int)) (a : Nat) : Nat → Prop
  | one {k : Nat} : Ed rs a k → Reach rs a k
  | more {j k : Nat} : Reach rs a j → Ed rs j k → Reach rs a k
structure StInv (rs : List (List Int)) (a : Nat) (sl : List Bool) (td : List Int) : Prop where
  len : sl.length = rs.length
  todo : ∀ x ∈ td, 0 ≤ x ∧ x < (rs.length : Int) ∧ Reach rs a x.toNat
  seen : ∀ k, sl[k]? = some true → Reach rs a k
  first : ∀ k, Ed rs a k → sl[k]? = some true ∨ (k : Int) ∈ td
  closed : ∀ j k, sl[j]? = some true → Ed rs j k → sl[k]? = some true ∨ (k : Int) ∈ td
theorem StInv.start {rs : List (List Int)} {a : Nat} {r : List Int} (hr : rs[a]? = some r) (hg : ∀ x ∈ r, 0 ≤ x ∧ x < (rs.length : Int)) : StInv rs a (List.replicate rs.length false) r where
  len := by simp
  todo x hx := ⟨(hg x hx).1, (hg x hx).2, .one ⟨r, hr, by rw [Int.toNat_of_nonneg (hg x hx).1]; exact hx⟩⟩
  seen k h := by
    rw [List.getElem?_replicate] at h
    split at h <;> simp at h
  first k h := by
    obtain ⟨r', h1, h2⟩ := h
    rw [hr] at h1
    injection h1 with h1
    subst h1
    exact .inr h2
  closed j k h := by
    rw [List.getElem?_replicate] at h
    split at h <;> simp at h
theorem StInv.skip {rs : List (List Int)} {a : Nat} {sl : List Bool} {x : Int} {td : List Int} (h : StInv rs a sl (x :: td)) (hx : sl[x.toNat]? = some true) : StInv rs a sl td where
  len := h.len
  todo y hy := h.todo y (by simp [hy])
  seen := h.seen
  first k hk := by
    rcases h.first k hk with h1 | h1
    · exact .inl h1
    · rcases List.mem_cons.1 h1 with h2 | h2
      · left; rw [← h2] at hx; simpa using hx
      · exact .inr h2
  closed j k hj hk := by
    rcases h.closed j k hj hk with h1 | h1
    · exact .inl h1
    · rcases List.mem_cons.1 h1 with h2 | h2
      · left; rw [← h2] at hx; simpa using hx
      · exact .inr h2
theorem StInv.take {rs : List (List Int)} {a : Nat} {sl : List Bool} {x : Int} {td r : List Int} (h : StInv rs a sl (x :: td)) (hr : rs[x.toNat]? = some r) (hg : ∀ y ∈ r, 0 ≤ y ∧ y < (rs.length : Int)) : StInv rs a (sl.set x.toNat true) (td ++ r) := by
  have hx := h.todo x (by simp)
  have hxl : x.toNat < sl.length := by rw [h.len]; omega
  have hset : ∀ k, (sl.set x.toNat true)[k]? = some true ↔ k = x.toNat ∨ sl[k]? = some true := by
    intro k
    rw [List.getElem?_set]
    by_cases hk : x.toNat = k
    · subst hk; simp [hxl]
    · rw [if_neg hk]; constructor
      · exact .inr
      · rintro (h1 | h1)
        · exact absurd h1.symm hk
        · exact h1
  refine ⟨by rw [List.length_set]; exact h.len, fun y hy => ?_, fun k hk => ?_, fun k hk => ?_, fun j k hj hk => ?_⟩
  · rcases List.mem_append.1 hy with hy | hy
    · exact h.todo y (by simp [hy])
    · exact ⟨(hg y hy).1, (hg y hy).2, .more hx.2.2 ⟨r, hr, by rw [Int.toNat_of_nonneg (hg y hy).1]; exact hy⟩⟩
  · rcases (hset k).1 hk with rfl | hk
    · exact hx.2.2
    · exact h.seen k hk
  · rcases h.first k hk with h1 | h1
    · exact .inl ((hset k).2 (.inr h1))
    · rcases List.mem_cons.1 h1 with h2 | h2
      · exact .inl ((hset k).2 (.inl (by rw [← h2]; simp)))
      · exact .inr (List.mem_append_left _ h2)
  · rcases (hset j).1 hj with rfl | hj
    · obtain ⟨r', h1, h2⟩ := hk
      rw [hr] at h1
      injection h1 with h1
      subst h1
      exact .inr (List.mem_append_right _ h2)
    · rcases h.closed j k hj hk with h1 | h1
      · exact .inl ((hset k).2 (.inr h1))
      · rcases List.mem_cons.1 h1 with h2 | h2
        · exact .inl ((hset k).2 (.inl (by rw [← h2]; simp)))
        · exact .inr (List.mem_append_left _ h2)
theorem StInv.done {rs : List (List Int)} {a : Nat} {sl : List Bool} (h : StInv rs a sl []) (k : Nat) : sl[k]? = some true ↔ Reach rs a k := by
  refine ⟨h.seen k, fun hk => ?_⟩
  induction hk with
  | one h1 => rcases h.first _ h1 with h2 | h2
              · exact h2
              · simp at h2
  | more _ h1 ih => rcases h.closed _ _ ih h1 with h2 | h2
                    · exact h2
                    · simp at h2
/-- how many may still be laid into the list -/
def mu : List (List Int) → List Bool → Nat
  | r :: rs, b :: sl => (if b = true then 0 else r.length) + mu rs sl
  | _, _ => 0
theorem mu_set : ∀ (rs : List (List Int)) (sl : List Bool) (k : Nat) (r : List Int), sl[k]? = some false → rs[k]? = some r → mu rs (sl.set k true) + r.length = mu rs sl
  | [], _, k, r, _, h => by simp at h
  | _ :: _, [], k, r, h, _ => by simp at h
  | r0 :: rs, b :: sl, 0, r, h, h' => by
    simp at h h'
    subst h h'
    simp [mu]; omega
  | r0 :: rs, b :: sl, k + 1, r, h, h' => by
    simp only [List.getElem?_cons_succ] at h h'
    have := mu_set rs sl k r h h'
    simp only [List.set_cons_succ, mu]
    omega
theorem mu_le : ∀ (rs : List (List Int)) (sl : List Bool), mu rs sl ≤ rs.flatten.length
  | [], sl => by simp [mu]
  | r :: rs, [] => by simp [mu]
  | r :: rs, b :: sl => by
    have := mu_le rs sl
    simp only [mu, List.flatten_cons, List.length_append]
    split <;> omega
end Go.Proofs.Ytambngbkegnghaa
/- ring.steps. Conditions: those typed. -/
namespace Go.Proofs.Ytambngbkegnghaa
open Go.RowKit Go.Gy
set_option linter.unusedVariables false
theorem info_bool : (Try.prog.info? 4).map (fun i => (i.zero, i.size, i.bytes)) = some (some (.bool false), 1, 1) := by kernel_rfl
theorem made_bools (n : Nat) : madeCells (Value.bool false).cells n = ((List.replicate n false).map Value.bool).toArray := by
  apply Array.ext
  · simp [madeCells]
  · intro j h1 h2
    simp [madeCells, Value.cells, Nat.mod_one]
def bools (sl : List Bool) : Array Value := (sl.map Value.bool).toArray
theorem bools_at {sl : List Bool} {k : Nat} {b : Bool} (h : sl[k]? = some b) : (bools sl)[k]? = some (.bool b) := by simp [bools, h]
theorem bools_set (sl : List Bool) (k : Nat) (b : Bool) : (bools sl).setIfInBounds k (.bool b) = bools (sl.set k b) := by simp [bools, List.map_set]
def StepsPost (w : World) (rs : List (List Int)) (a : Nat) (e : Ending) (w' : World) : Prop := ∃ g sl, e = .returned (.slice (some ⟨g, 0, none⟩) rs.length rs.length) ∧ w.heap.size ≤ g ∧ Blk w' g 4 (bools sl) ∧ sl.length = rs.length ∧ (∀ k, sl[k]? = some true ↔ Reach rs a k) ∧ Below w.heap.size w w'
def StepRel (w : World) (rs : List (List Int)) (a G g : Nat) (t : Value) (wr : World) : Prop := ∃ sl td, StInv rs a sl td ∧ mu rs sl + td.length < g ∧ mu rs sl + td.length ≤ 2 * rs.flatten.length ∧ QRow wr (w.heap.size + 1) 1 t td.length (td.map iv) ∧ Blk wr G 4 (bools sl) ∧ Below w.heap.size w wr ∧ w.heap.size + 1 ≤ wr.heap.size
theorem flat_mem_le {rs : List (List Int)} {a : Nat} {r : List Int} (h : rs[a]? = some r) : r.length ≤ rs.flatten.length := by
  induction rs generalizing a with
  | nil => simp at h
  | cons x rs ih =>
    rw [List.flatten_cons, List.length_append]
    cases a with
    | zero => simp at h; subst h; omega
    | succ a => have := ih (by simpa using h); omega
set_option maxRecDepth 100000 in
set_option maxHeartbeats 2000000 in
theorem steps_any (w : World) (v : Value) (a : Nat) (rs : List (List Int)) (hv : RowsI w w.heap.size v rs) (ha : a < rs.length) (hn : rs.length ≤ 64) (hg : ∀ r ∈ rs, ∀ x ∈ r, 0 ≤ x ∧ x < (rs.length : Int)) (hS : rs.flatten.length ≤ 1000000000) :
    Calls Try.prog 81 #[v, .int .i64 (a : Int)] w (StepsPost w rs a) := by
  obtain ⟨A, n, c, vs, rfl, hN, _, _, hr, hs⟩ := hv
  obtain ⟨b, o, u, rfl, hbB, hu, hc⟩ := hr.at_ (show a < n by omega)
  have hra : rs[a]? = some (rs[a]) := List.getElem?_eq_getElem _
  obtain ⟨r, hr0⟩ : ∃ r, r = rs[a] := ⟨_, rfl⟩
  rw [← hr0] at hra
  have hsl := hs.2 a u r hu hra
  have han : (a : Int) < (n : Int) := by omega
  have hn64 : n ≤ 64 := by omega
  have HN := Lib.hid hN
  have Hs := Lib.hid hs
  have Hsl := Lib.hid hsl
  have Hra := Lib.hid hra
  obtain ⟨A', m, c', rfl, hm, hm2, hm3, hm4⟩ := id hsl
  subst hm
  clear hm2 hm3 hm4
  obtain ⟨i0, hi, hz0, hz1, hz2⟩ := info_parts info_bool
  have hmk : ∀ W : World, (Instr.makeSlice 105 (.int .i64 (n : Int)) (.int .i64 (n : Int))).run Try.prog W = .ok (.slice (some ⟨W.heap.size, 0, none⟩) n n) (W.alloc (.cells ((List.replicate n false).map Value.bool).toArray 4)) := fun W => by
    have h := run_makeSlice (P := Try.prog) W 105 4 i0 (.bool false) Try.underlying105 hi hz0 .i64 .i64 (n : Int) (n : Int) (by omega) (Int.le_refl _) (by rw [hz1]; omega) (by rw [hz2]; omega) (by omega)
    rw [Int.toNat_natCast, hz1, Nat.mul_one, made_bools] at h
    exact h
  have Hg := Lib.hid hg
  obtain ⟨j0, hj, hy0, hy1, hy2⟩ := info_parts info_int
  clear hN hs hsl hra hr0 hu hg
  go_enter Try.func81, Try.ntmps81
  go_wp2_with fail
  have hz0 : ∀ X, (w.alloc X).heap.size = w.heap.size + 1 := fun X => by simp
  refine (clone_ints _ _ r ((Hsl.out.below ((Below.refl _ _).alloc (Nat.le_refl _) _)).more (by simp)) (by have := flat_mem_le Hra.out; omega)).mono ?_
  rintro e w1 ⟨v1, rfl, hown1, hb1⟩
  have hbw1 : Below w.heap.size w w1 := ((Below.refl _ _).alloc (Nat.le_refl _) _).trans (hb1.mono (by simp))
  have hG : Blk w1 w.heap.size 4 (bools (List.replicate n false)) := by
    have := (Blk.new w 4 (bools (List.replicate n false)))
    refine Blk.below this ?_ (show w.heap.size < (w.alloc (.cells (bools (List.replicate n false)) 4)).heap.size by simp)
    have e : bools (List.replicate n false) = Array.replicate n (Value.bool false) := by simp [bools]
    rw [e]; exact hb1
  obtain ⟨A2, c2, rfl, _, _, _⟩ := own_rd hown1
  have hst := Lib.hid (show StepRel w rs a w.heap.size (rs.flatten.length + r.length + 1) (.slice A2 r.length c2) w1 from ⟨List.replicate n false, r, by rw [← HN.out]; exact StInv.start Hra.out (Hg.out r (List.mem_of_getElem? Hra.out)), by have := mu_le rs (List.replicate n false); omega, by have := mu_le rs (List.replicate n false); have := flat_mem_le Hra.out; omega, QRow.lower (QRow.of_own hown1) (by rw [hz0]; exact Nat.le_refl _), hG, hbw1, by have := hb1.size; rw [hz0] at this; exact this⟩)
  clear hown1 hb1 hG
  go_wp2_with fail
  go_loopg [6] (rs.flatten.length + r.length + 1) (fun g t wr => StepRel w rs a w.heap.size g t wr)
  case atStart => exact hst.out
  case round =>
    obtain ⟨sl, td, hI, hmu, hmv, hq, hB, hbw, hz⟩ := hrel
    obtain ⟨f, rfl⟩ : ∃ f, gk = f + 1 := ⟨gk - 1, by omega⟩
    have HI := Lib.hid hI
    have HB := Lib.hid hB
    have Hmu := Lib.hid hmu
    clear hI hB hmu
    cases td with
    | nil =>
      obtain ⟨A3, c3, rfl, hc3, _, hA3, hr3⟩ := hq.rd
      clear hq
      have hNn := HN.out
      have HP := Lib.hid (show StepsPost w rs a (.returned (.slice (some ⟨w.heap.size, 0, none⟩) n n)) wr from ⟨w.heap.size, sl, by rw [hNn], Nat.le_refl _, HB.out, HI.out.len, HI.out.done, hbw⟩)
      clear hNn hr3
      go_wp2
      go_ret
      exact HP.out
    | cons x td =>
      have hx := HI.out.todo x (by simp)
      obtain ⟨k, hk⟩ : ∃ k : Nat, (k : Int) = x := ⟨x.toNat, by omega⟩
      subst hk
      have hkn : k < n := by have := hx.2.1; rw [HN.out] at this; omega
      clear hx
      have hkn' : (k : Int) < (n : Int) := by omega
      obtain ⟨m, hm⟩ : ∃ m, m = td.length := ⟨_, rfl⟩
      have hl : (((k : Int) :: td).length) = m + 1 := by rw [hm]; rfl
      rw [hl] at hmv hq
      obtain ⟨A3, c3, rfl, hc3, _, hA3, hr3⟩ := hq.rd
      have Hq := Lib.hid hq
      clear hq
      obtain ⟨b3, o3, z, rfl, hb3, hz, hcz⟩ := hr3.one (show 0 < m + 1 by omega)
      obtain rfl : (k : Int) = z := by simpa using hz
      have Hl := Lib.hid hl
      have Hm := Lib.hid hm
      rw [Nat.add_zero] at hcz
      have hk3 : k < sl.length := by have := HI.out.len; have := HN.out; omega
      obtain ⟨bb, hbb⟩ : ∃ bb, sl[k]? = some bb := ⟨_, List.getElem?_eq_getElem hk3⟩
      have hcb := HB.out.cell k (.bool bb) (bools_at hbb)
      have Hbb := Lib.hid hbb
      clear hz hl hm hbb hA3 hk3
      cases bb with
      | true =>
        go_wp2_with (refine wpList_tail rfl 22 _ rfl 1 (by kernel_rfl) size_int (w.heap.size + 1) (.slice (some ⟨b3, o3, none⟩) (m + 1) c3) m _ rfl Hq.out ?_; intro v4 hq4)
        go_roundg f
        case measure => omega
        case rel => exact ⟨sl, td, HI.out.skip (by simpa using Hbb.out), by have h1 := Hmu.out; have h2 := Hl.out; have h3 := Hm.out; omega, by have h3 := Hm.out; omega, by rw [← Hm.out]; exact hq4, HB.out, hbw, hz⟩
      | false =>
        obtain ⟨bk, ok, uk, he, hbk, huk, hck⟩ := (hr.below hbw).at_ hkn
        injection he with he
        injection he with he1 he2
        subst he1 he2
        have hrk : rs[k]? = some (rs[k]'(by have := HN.out; omega)) := List.getElem?_eq_getElem _
        obtain ⟨r2, hr20⟩ : ∃ r2, r2 = rs[k]'(by have := HN.out; omega) := ⟨_, rfl⟩
        rw [← hr20] at hrk
        obtain ⟨A4, m2, c4, rfl, hm2, hnc2, hA4, hr4⟩ := Hs.out.2 k uk r2 huk hrk
        have hle := flat_mem_le hrk
        have hms := mu_set rs sl k r2 Hbb.out hrk
        have hbound : mu rs sl ≤ rs.flatten.length := mu_le rs sl
        have hmm : m + m2 ≤ 2000000001 := by omega
        have hbs : Below w.heap.size w (wr.setCell ⟨w.heap.size, k, none⟩ (.bool true)) := hbw.setCell (Nat.le_refl _) _
        have hck' : (wr.setCell ⟨w.heap.size, k, none⟩ (.bool true)).cell? ⟨b, o + k, none⟩ = some (.slice A4 m2 c4) := (World.cell?_setCell_far _ _ _ _ (by show w.heap.size ≠ b; omega)).trans hck
        have hsz : w.heap.size + 1 ≤ (wr.setCell ⟨w.heap.size, k, none⟩ (.bool true)).heap.size := by simpa using hz
        have hfr := HB.out.free k
        have e63 : m + m2 ≤ maxLen := by unfold maxLen; omega
        have eby : (m + m2) * 8 ≤ 140737488355328 := by omega
        have Hm2 := Lib.hid hm2
        have Hms := Lib.hid hms
        have Hrk := Lib.hid hrk
        have HA4 := Lib.hid hA4
        have Hr4 := Lib.hid (hr4.below hbs)
        have Hbs := Lib.hid hbs
        clear huk hr20 hrk hm2 hms hA4 hr4 hbs hle hbound hck
        go_wp2_with (first | (refine wpList_tail rfl 22 _ rfl 1 (by kernel_rfl) size_int (w.heap.size + 1) (.slice (some ⟨b3, o3, none⟩) (m + 1) c3) m _ rfl Hq.out ?_; intro v4 hq4) | (at_builtin; refine wpList_queue' rfl _ _ 22 rfl (w.heap.size + 1) 3 j0 (.int .i64 0) 1 8 Try.underlying22 hj hy0 hy1 hy2 rfl (by omega) v4 m _ rfl (hq4.far (p := ⟨w.heap.size, k, none⟩) (by show w.heap.size < _; omega) _) A4 m2 c4 w.heap.size (r2.map iv) rfl HA4.out Hr4.out (iv_one r2) _ rfl e63 eby hsz ?_; intro v5 w5 hq5 hb5))
        go_roundg f
        case measure => omega
        case rel => exact ⟨sl.set k true, td ++ r2, HI.out.take (by simpa using Hrk.out) (Hg.out r2 (List.mem_of_getElem? Hrk.out)), by have h1 := Hmu.out; have h2 := Hl.out; have h3 := Hm.out; have h4 := Hms.out; rw [List.length_append]; omega, by have h3 := Hm.out; have h4 := Hms.out; rw [List.length_append]; omega, by rw [List.length_append, ← Hm.out, Hm2.out, List.map_append]; exact hq5, by rw [← bools_set]; exact (HB.out.set k _).below hb5 (by omega), Hbs.out.trans (hb5.mono (by simp)), by have := hb5.size; omega⟩
end Go.Proofs.Ytambngbkegnghaa
/- ring.Stuck. Conditions: those typed. -/
namespace Go.Proofs.Ytambngbkegnghaa
open Go.RowKit Go.Gy
set_option linter.unusedVariables false
structure GoodG (rs : List (List Int)) : Prop where
  len : rs.length ≤ 64
  ok : ∀ r ∈ rs, ∀ x ∈ r, 0 ≤ x ∧ x < (rs.length : Int)
  size : rs.flatten.length ≤ 1000000000
theorem GoodG.row {rs : List (List Int)} (h : GoodG rs) {r : List Int} (hr : r ∈ rs) : r.length ≤ 1000000000 := by
  obtain ⟨a, ha⟩ := List.getElem?_of_mem hr
  have := flat_mem_le ha
  have := h.size
  omega
theorem GoodG.check {rs : List (List Int)} (h : GoodG rs) : checkR rs = 0 := by
  refine checkR_good h.len fun r hr => ?_
  rw [List.any_eq_false]
  intro x hx
  have := h.ok r hr x hx
  rw [badK_false (by omega)]
  simp
theorem GoodG.of_check {rs : List (List Int)} (h : checkR rs = 0) (hs : rs.flatten.length ≤ 1000000000) : GoodG rs := by
  unfold checkR at h
  split at h
  · cases h
  · rename_i h1
    split at h
    · cases h
    · rename_i h2
      refine ⟨by omega, fun r hr x hx => ?_, hs⟩
      rw [List.any_eq_true] at h2
      have h3 : ¬ badK rs.length x = true := fun h4 => h2 ⟨r, hr, by rw [List.any_eq_true]; exact ⟨x, hx, h4⟩⟩
      by_cases h5 : x < 0 ∨ (rs.length : Int) ≤ x
      · exact absurd (badK_true h5) h3
      · omega
def stuckI (p : Nat → Bool) (n : Nat) : List Int := ((List.range n).filter p).map fun (i : Nat) => (i : Int)
theorem stuckI_snoc (p : Nat → Bool) (n : Nat) : stuckI p (n + 1) = stuckI p n ++ if p n = true then [(n : Int)] else [] := by
  unfold stuckI
  rw [List.range_succ, List.filter_append, List.map_append]
  by_cases h : p n = true <;> simp [h]
theorem stuckI_len (p : Nat → Bool) (n : Nat) : (stuckI p n).length ≤ n := by
  unfold stuckI
  rw [List.length_map]
  have := List.length_filter_le p (List.range n)
  simpa using this
/-- a pair of an own slice of integers and no error -/
def OwnIE (w : World) (l : List Int) (e : Ending) (w' : World) : Prop := ∃ v', e = .returned (.tuple #[v', .int .i64 0]) ∧ w'.ownsRow w.heap.size 3 1 v' l.length (l.map iv) ∧ Below w.heap.size w w'
def StuckRel (w : World) (n : Nat) (p : Nat → Bool) (g : Nat) (t i : Value) (wr : World) : Prop := ∃ k : Nat, i = .int .i64 (k : Int) ∧ k + g = n ∧ wr.ownsRow w.heap.size 3 1 t (stuckI p k).length ((stuckI p k).map iv) ∧ Below w.heap.size w wr
set_option maxRecDepth 100000 in
set_option maxHeartbeats 2000000 in
theorem stuck_good (w : World) (v : Value) (rs : List (List Int)) (hv : RowsI w w.heap.size v rs) (hg : GoodG rs) (p : Nat → Bool) (hp : ∀ i, p i = true ↔ Reach rs i i) :
    Calls Try.prog 59 #[v] w (OwnIE w (stuckI p rs.length)) := by
  obtain ⟨A, n, c, vs, rfl, hN, h1, h2, h3, h4⟩ := id hv
  have hn64 := hg.len
  have HC := Lib.hid (check_ring w (.slice A n c) w.heap.size rs hv (by omega) fun r hr => by have := hg.row hr; omega)
  have Hv := Lib.hid hv
  have HN := Lib.hid hN
  have Hg := Lib.hid hg
  have Hp := Lib.hid hp
  rw [hN] at hn64 ⊢
  obtain ⟨j0, hj, hy0, hy1, hy2⟩ := info_parts info_int
  have hck := Lib.hid hg.check
  clear hv hN hg hp h1 h2 h3 h4
  go_enter Try.func59, Try.ntmps59
  go_wp2_with fail
  refine HC.out.mono ?_
  rintro e w' ⟨rfl, rfl⟩
  rw [hck.out]
  clear HC hck
  go_wp2_with fail
  go_loopg [5, 14] n (fun g t i wr => StuckRel w n p g t i wr)
  case atStart => exact ⟨0, rfl, by omega, (show w.ownsRow w.heap.size 3 1 (.slice none 0 0) 0 [] from World.ownsRow_nil _ _ _ _), Below.refl _ _⟩
  case round =>
    obtain ⟨k, rfl, hkg, hown, hb⟩ := hrel
    have Hown := Lib.hid hown
    have hsl := stuckI_len p k
    have hzr := hb.size
    clear hown
    by_cases hlt : k < n
    · have hlt' : (k : Int) < (n : Int) := by omega
      have HS := Lib.hid (steps_any wr (.slice A n c) k rs ((Hv.out.below hb).more hzr) (by rw [HN.out]; exact hlt) Hg.out.len Hg.out.ok Hg.out.size)
      go_wp2_with fail
      refine HS.out.mono ?_
      rintro e w1 ⟨g, sl, rfl, hgr, hB, hsll, hre, hb1⟩
      rw [HN.out]
      have hpk : sl[k]? = some (p k) := by
        have hl : k < sl.length := by rw [hsll, HN.out]; exact hlt
        rw [List.getElem?_eq_getElem hl]
        congr 1
        rw [Bool.eq_iff_iff, Hp.out k, ← hre k, List.getElem?_eq_getElem hl]
        simp
      have hcb := hB.cell k (.bool (p k)) (bools_at hpk)
      have Hown1 := Lib.hid (own_below Hown.out hb1 (Nat.le_refl _))
      have hbw1 := hb.trans (hb1.mono hzr)
      have hz1 := hbw1.size
      have hbig : (stuckI p k).length + 1 ≤ maxLen := by unfold maxLen; omega
      have Hsn := Lib.hid (stuckI_snoc p k)
      obtain ⟨ln, hln⟩ : ∃ ln, ln = (stuckI p k).length := ⟨_, rfl⟩
      rw [← hln] at hsl hbig Hown1
      have Hln := Lib.hid hln
      obtain ⟨At, ct, rfl, _, _, _⟩ := own_rd Hown1.out
      clear HS hpk hre hsll hB hln
      cases hpp : p k with
      | true =>
        rw [hpp] at hcb Hsn
        have Hpp := Lib.hid hpp
        clear hpp
        go_wp2_with (at_builtin; refine wpList_push rfl (.tmp 23) (.tmp 25) 22 rfl w.heap.size 3 j0 (.int .i64 0) 1 8 Try.underlying22 hj hy0 hy1 hy2 rfl (by omega) _ ln _ rfl Hown1.out [_] rfl rfl (by simp [Value.oneCell']) hbig (by omega) hz1 ?_; intro v6 w6 hn6 hb6 _)
        go_roundg (n - (k + 1))
        case measure => omega
        case rel => exact ⟨k + 1, by go_num, by omega, by rw [Hsn.out]; simp only [if_true, List.length_append, List.map_append, List.length_singleton, ← Hln.out]; exact hn6, hbw1.trans hb6⟩
      | false =>
        rw [hpp] at hcb Hsn
        have Hpp := Lib.hid hpp
        clear hpp
        go_wp2_with fail
        go_roundg (n - (k + 1))
        case measure => omega
        case rel => exact ⟨k + 1, by go_num, by omega, by rw [Hsn.out]; simp only [Bool.false_eq_true, if_false, List.append_nil, ← Hln.out]; exact Hown1.out, hbw1⟩
    · obtain rfl : k = n := by omega
      have hlt' : ¬ (k : Int) < (k : Int) := by omega
      obtain ⟨ln, hln⟩ : ∃ ln, ln = (stuckI p k).length := ⟨_, rfl⟩
      rw [← hln] at Hown
      have Hln := Lib.hid hln
      clear hln
      obtain ⟨At, ct, rfl, _, _, _⟩ := own_rd Hown.out
      have HP := Lib.hid (show OwnIE w (stuckI p k) (.returned (.tuple #[.slice At ln ct, .int .i64 0])) wr from ⟨_, rfl, by rw [← Hln.out]; exact Hown.out, hb⟩)
      go_wp2_with fail
      go_ret2
      exact HP.out
set_option maxRecDepth 100000 in
set_option maxHeartbeats 2000000 in
theorem stuck_bad (w : World) (v : Value) (rs : List (List Int)) (hv : RowsI w w.heap.size v rs) (hn : rs.length ≤ 140737488355328) (hl : ∀ r ∈ rs, r.length ≤ 140737488355328) (hc : checkR rs ≠ 0) :
    Calls Try.prog 59 #[v] w fun e w' => e = .returned (.tuple #[.slice none 0 0, .int .i64 ((checkR rs : Nat) : Int)]) ∧ w = w' := by
  obtain ⟨A, n, c, vs, rfl, h0, h1, h2, h3, h4⟩ := id hv
  have HC := Lib.hid (check_ring w (.slice A n c) w.heap.size rs hv hn hl)
  obtain ⟨q, hq⟩ : ∃ q, q = checkR rs := ⟨_, rfl⟩
  rw [← hq] at hc HC ⊢
  clear hv h0 h1 h2 h3 h4 hq hn hl
  have hq0 : ((q : Int) == 0) = false := by simpa using hc
  have hq1 : ((q : Int) != 0) = true := by simpa using hc
  go_enter Try.func59, Try.ntmps59
  go_wp2_with fail
  refine HC.out.mono ?_
  rintro e w' ⟨rfl, rfl⟩
  clear HC
  go_wp2_with fail
  go_ret2
  exact ⟨rfl, rfl⟩
end Go.Proofs.Ytambngbkegnghaa
/- slices.Repeat of one integer (a slice of -1). Conditions: those typed. -/
namespace Go.Proofs.Ytambngbkegnghaa
open Go.RowKit Go.Gy
set_option linter.unusedVariables false
namespace MulN
theorem maskN (a : Nat) (ha : a < 18446744073709551616) : bits .and .u64 (a : Int) 4294967295 = ((a % 4294967296 : Nat) : Int) := by
  have h := bits_and_u64_nat a 4294967295 ha (by omega)
  have e : a &&& 4294967295 = a % 4294967296 := Nat.and_two_pow_sub_one_eq_mod a 32
  rw [e] at h
  exact h
theorem divN (a : Nat) : (a : Int) / 4294967296 = ((a / 4294967296 : Nat) : Int) := by omega
theorem mulN (a b : Nat) : (a : Int) * (b : Int) = ((a * b : Nat) : Int) := (Int.natCast_mul a b).symm
theorem addN (a b : Nat) : (a : Int) + (b : Int) = ((a + b : Nat) : Int) := (Int.natCast_add a b).symm
theorem wrapN (a : Nat) (ha : a < 18446744073709551616) : IntKind.u64.wrap (a : Int) = (a : Int) := by rw [IntKind.wrap_u64]; omega
theorem wrapM (a : Nat) : IntKind.u64.wrap (a : Int) = ((a % 18446744073709551616 : Nat) : Int) := by rw [IntKind.wrap_u64]; omega
end MulN
set_option maxRecDepth 100000 in
set_option maxHeartbeats 2000000 in
theorem mul64_any (x y : Nat) (hx : x < 18446744073709551616) (hy : y < 18446744073709551616) (w : World) :
    Calls Try.prog 104 #[.int .u64 x, .int .u64 y] w fun e w' => e = .returned (.tuple #[.int .u64 ((x * y / 18446744073709551616 : Nat) : Int), .int .u64 ((x * y % 18446744073709551616 : Nat) : Int)]) ∧ w = w' := by
  obtain ⟨bd, bt, bw, hhi⟩ := Lib.mul64_hi x y hx hy
  have ba := Lib.half_mul_le (a := x / 4294967296) (b := y / 4294967296) (by omega) (by omega)
  have bb := Lib.half_mul_le (a := x / 4294967296) (b := y % 4294967296) (by omega) (by omega)
  have bc := Lib.half_mul_le (a := x % 4294967296) (b := y / 4294967296) (by omega) (by omega)
  have ba' : x / 4294967296 * (y / 4294967296) < 18446744073709551616 := by omega
  have bb' : x / 4294967296 * (y % 4294967296) < 18446744073709551616 := by omega
  have bc' : x % 4294967296 * (y / 4294967296) < 18446744073709551616 := by omega
  have bh1 : x / 4294967296 * (y / 4294967296) + (x / 4294967296 * (y % 4294967296) + x % 4294967296 * (y % 4294967296) / 4294967296) / 4294967296 < 18446744073709551616 := by omega
  have bh : x / 4294967296 * (y / 4294967296) + (x / 4294967296 * (y % 4294967296) + x % 4294967296 * (y % 4294967296) / 4294967296) / 4294967296 + ((x / 4294967296 * (y % 4294967296) + x % 4294967296 * (y % 4294967296) / 4294967296) % 4294967296 + x % 4294967296 * (y / 4294967296)) / 4294967296 < 18446744073709551616 := by omega
  go_enter Try.func104, Try.ntmps104
  go_wp2
  simp only [MulN.maskN x hx, MulN.maskN y hy, MulN.divN, MulN.mulN, MulN.addN, MulN.wrapN _ bd, MulN.wrapN _ bb', MulN.wrapN _ bt, MulN.maskN _ bt, MulN.wrapN _ bc', MulN.wrapN _ bw, MulN.wrapN _ ba', MulN.wrapN _ bh1, MulN.wrapN _ bh, MulN.wrapM (x * y)]
  rw [hhi]
  go_ret2
  exact ⟨rfl, rfl⟩
set_option maxRecDepth 100000 in
theorem mul_any (x y : Nat) (hx : x < 18446744073709551616) (hy : y < 18446744073709551616) (w : World) :
    Calls Try.prog 96 #[.int .u64 x, .int .u64 y] w fun e w' => e = .returned (.tuple #[.int .u64 ((x * y / 18446744073709551616 : Nat) : Int), .int .u64 ((x * y % 18446744073709551616 : Nat) : Int)]) ∧ w = w' := by
  have HM := Lib.hid (mul64_any x y hx hy w)
  go_enter Try.func96, Try.ntmps96
  go_wp2_with fail
  refine HM.out.mono ?_
  rintro e w' ⟨rfl, rfl⟩
  go_wp2_with fail
  go_ret2
  exact ⟨rfl, rfl⟩
theorem mul_one (y : Nat) (hy : y < 18446744073709551616) (w : World) :
    Calls Try.prog 96 #[.int .u64 1, .int .u64 y] w fun e w' => e = .returned (.tuple #[.int .u64 0, .int .u64 (y : Int)]) ∧ w = w' := by
  have h := mul_any 1 y (by omega) hy w
  rw [Nat.one_mul, Nat.div_eq_of_lt hy, Nat.mod_eq_of_lt hy] at h
  exact h
theorem sz_int : (Try.prog.info? 3).map (·.size) = some 1 := by kernel_rfl
def rowR (n k : Nat) : List Value := List.replicate k (iv (-1)) ++ List.replicate (n - k) (iv 0)
theorem rowR_splice {n k c : Nat} (hk : k + c ≤ n) : splice (rowR n k) k (List.replicate c (iv (-1))) = rowR n (k + c) := by
  unfold splice rowR
  rw [List.take_append_of_le_length (by simp), List.take_of_length_le (by simp), List.drop_append, List.drop_of_length_le (by simp), List.nil_append, List.length_replicate, List.length_replicate, List.drop_replicate, ← List.append_assoc, List.replicate_append_replicate]
  congr 2
  omega
def RepRel (w : World) (n : Nat) (g : Nat) (i : Value) (wr : World) : Prop := ∃ k : Nat, i = .int .i64 (k : Int) ∧ k + g = n ∧ 1 ≤ k ∧ wr.heap[w.heap.size]? = some (.cells (rowR n k).toArray 3 (0, 0)) ∧ Below w.heap.size w wr
def RepPost (w : World) (n : Nat) (e : Ending) (w' : World) : Prop := e = .returned (.slice (some ⟨w.heap.size, 0, none⟩) n n) ∧ Blk w' w.heap.size 3 ((List.replicate n (-1 : Int)).map iv).toArray ∧ Below w.heap.size w w'
set_option maxRecDepth 100000 in
set_option maxHeartbeats 4000000 in
theorem repeat_one (w : World) (b n : Nat) (hc0 : w.cell? ⟨b, 0, none⟩ = some (iv (-1))) (hbl : b < w.heap.size) (hn : n ≤ 64) (h1 : 1 ≤ n) :
    Calls Try.prog 82 #[.slice (some ⟨b, 0, none⟩) 1 1, .int .i64 (n : Int)] w (RepPost w n) := by
  obtain ⟨i0, hi, hz0, hz1, hz2⟩ := info_parts info_int
  have hmk : ∀ W : World, (Instr.makeSlice 22 (.int .i64 (n : Int)) (.int .i64 (n : Int))).run Try.prog W = .ok (.slice (some ⟨W.heap.size, 0, none⟩) n n) (W.alloc (.cells (Array.replicate n (.int .i64 0)) 3)) := fun W => by
    have h := run_makeSlice (P := Try.prog) W 22 3 i0 (.int .i64 0) Try.underlying22 hi hz0 .i64 .i64 (n : Int) (n : Int) (by omega) (Int.le_refl _) (by rw [hz1]; omega) (by rw [hz2]; omega) (by omega)
    rw [Int.toNat_natCast, hz1, Nat.mul_one] at h
    rw [h]
    congr 3
    apply Array.ext
    · simp [madeCells]
    · intro j h1 h2
      simp [madeCells, Value.cells, Nat.mod_one]
  have HM := Lib.hid (mul_one n (by omega) w)
  have e1 : IntKind.u64.wrap (n : Int) = (n : Int) := MulN.wrapN n (by omega)
  have e2 : IntKind.i64.wrap (n : Int) = (n : Int) := IntWalk.i64_in _ (by omega)
  have q1 : ¬ (n : Int) < 0 := by omega
  have q2 : ¬ (9223372036854775807 : Int) < (n : Int) := by omega
  have hrow0 : Array.replicate n (Value.int .i64 0) = (rowR n 0).toArray := by simp [rowR, iv]
  have Hrow := Lib.hid hrow0
  have Hc0 := Lib.hid hc0
  clear hrow0
  go_enter Try.func82, Try.ntmps82
  go_wp2_with fail
  refine HM.out.mono ?_
  rintro e w' ⟨rfl, rfl⟩
  clear HM
  have hg0 : (w.alloc (.cells (Array.replicate n (.int .i64 0)) 3)).heap[w.heap.size]? = some (.cells (rowR n 0).toArray 3 (0, 0)) := by rw [← Hrow.out]; exact heap_alloc_new _ _
  have hb0 : Below w.heap.size w (w.alloc (.cells (Array.replicate n (.int .i64 0)) 3)) := (Below.refl _ _).alloc (Nat.le_refl _) _
  have hcc : (w.alloc (.cells (Array.replicate n (.int .i64 0)) 3)).cell? ⟨b, 0, none⟩ = some (iv (-1)) := (hb0.cell (p := ⟨b, 0, none⟩) hbl).trans Hc0.out
  have hn1 : [iv (-1)].length = Nat.min 1 n := by simp [Nat.min_eq_left h1]
  have hpos0 : ∀ j v, [iv (-1)][j]? = some v → (w.alloc (.cells (Array.replicate n (.int .i64 0)) 3)).cell? ((⟨b, 0, none⟩ : Addr).add j) = some v := by
    refine fun j v hv => ?_
    cases j with
    | zero => simp at hv; subst hv; rw [add_none]; exact hcc
    | succ j => simp at hv
  have hfit0 : 0 + [iv (-1)].length ≤ (rowR n 0).length := by simp [rowR]; exact h1
  have h10 : ∀ v ∈ [iv (-1)], v.oneCell' = true := by intro v hv; simp at hv; subst hv; rfl
  have hs10 : splice (rowR n 0) 0 [iv (-1)] = rowR n 1 := rowR_splice (n := n) (k := 0) (c := 1) (by omega)
  have Hg0 := Lib.hid hg0
  have Hn1 := Lib.hid hn1
  have Hpos0 := Lib.hid hpos0
  have Hfit0 := Lib.hid hfit0
  have H10 := Lib.hid h10
  have Hs10 := Lib.hid hs10
  clear hg0 hcc hn1 hpos0 hfit0 h10 hs10 hc0
  go_wp2_with (refine wpList_copy_splice rfl (.tmp 31) (.tmp 32) 22 22 rfl 3 Try.underlying22 (by kernel_rfl) (some ⟨w.heap.size, 0, none⟩) (some ⟨b, 0, none⟩) n n 1 1 rfl rfl w.heap.size 0 (rowR n 0) 3 Hg0.out [iv (-1)] Hn1.out (fun _ => ⟨rfl, _, rfl, Hpos0.out⟩) Hfit0.out H10.out w.heap.size w hb0 (Nat.le_refl _) ?_; intro w4 hg4 hb4)
  have hz4 := hb4.size
  have Hst := Lib.hid (show RepRel w n (n - 1) (.int .i64 1) w4 from ⟨1, rfl, by omega, by omega, by rw [← Hs10.out]; exact hg4.out, hb4⟩)
  clear hg4 hb4 Hg0 Hn1 Hpos0 Hfit0 H10 Hs10 hb0 e1 e2
  go_loopg [8] (n - 1) (fun g i wr => RepRel w n g i wr)
  case atStart => exact Hst.out
  case round =>
    obtain ⟨k, rfl, hkg, hk1, hB, hb⟩ := hrel
    have HB := Lib.hid hB
    have hbd : Below w.heap.size w wr.drew := ⟨hb.os, hb.tape, hb.output, hb.size, hb.block⟩
    have hzr := hb.size
    clear hB
    by_cases hlt : k < n
    · have hlt' : (k : Int) < (n : Int) := by omega
      obtain ⟨c, hc⟩ : ∃ c, c = min k (n - k) := ⟨_, rfl⟩
      have hc1 : 1 ≤ c := by omega
      have hck : k + c ≤ n := by omega
      have hcn : (List.replicate c (iv (-1))).length = Nat.min k (n - k) := by rw [List.length_replicate, hc]
      have hfit : k + (List.replicate c (iv (-1))).length ≤ (rowR n k).length := by simp [rowR]; omega
      have hsrc : ∀ j v, (List.replicate c (iv (-1)))[j]? = some v → wr.cell? ((⟨w.heap.size, 0, none⟩ : Addr).add j) = some v := by
        intro j v hv
        rw [add_none, Nat.zero_add]
        refine Blk.cell (show Blk wr w.heap.size 3 (rowR n k).toArray from HB.out) j v ?_
        have hj := (List.getElem?_eq_some_iff.1 hv).1
        rw [List.length_replicate] at hj
        rw [List.getElem?_replicate, if_pos hj] at hv
        have hjk : j < k := by omega
        simp only [List.getElem?_toArray, rowR]
        rw [List.getElem?_append_left (by rw [List.length_replicate]; exact hjk), List.getElem?_replicate, if_pos hjk]
        exact hv
      have h1c : ∀ v ∈ List.replicate c (iv (-1)), v.oneCell' = true := by
        intro v hv
        obtain ⟨_, rfl⟩ := List.mem_replicate.1 hv
        rfl
      have hsp : splice (rowR n k) k (List.replicate c (iv (-1))) = rowR n (k + c) := rowR_splice hck
      have Hcn := Lib.hid hcn
      have Hfit := Lib.hid hfit
      have Hsrc := Lib.hid hsrc
      have H1c := Lib.hid h1c
      have Hsp := Lib.hid hsp
      have Hc := Lib.hid hc
      have k1 : ¬ n = k := by omega
      have k2 : ¬ n = 0 := by omega
      have e3 : IntKind.i64.wrap ((k : Int) + (c : Int)) = ((k + c : Nat) : Int) := by rw [IntWalk.i64_in _ (by omega)]; omega
      have hw0 : (0 : Int) ≤ (k : Int) := by omega
      have hwn : (k : Int) ≤ (n : Int) := by omega
      have htn : (k : Int).toNat = k := by omega
      clear hc hcn hfit hsrc h1c hsp
      go_wp2_with fail
      go_region_law (refine step_copy_splice (by rfl) (.tmp 41) (.tmp 44) 22 22 (by rfl) 3 Try.underlying22 sz_int (some ⟨w.heap.size, k, none⟩) (some ⟨w.heap.size, 0, none⟩) (n - k) (n - k) k n (by go_simp) (by go_simp) w.heap.size k (rowR n k) 3 HB.out (List.replicate c (iv (-1))) Hcn.out (fun _ => ⟨rfl, _, rfl, Hsrc.out⟩) Hfit.out H1c.out w.heap.size w (by first | exact hb | exact hbd) (Nat.le_refl _) ?_; intro w5 hg5 hb5)
      go_wp2_with fail
      go_roundg (n - (k + c))
      case measure => omega
      case rel => exact ⟨k + c, by simp, by omega, by omega, by rw [← Hsp.out]; exact hg5.out, hb5⟩
    · obtain rfl : k = n := by omega
      have HP := Lib.hid (show RepPost w k (.returned (.slice (some ⟨w.heap.size, 0, none⟩) k k)) wr from ⟨rfl, by
        have : ((List.replicate k (-1 : Int)).map iv).toArray = (rowR k k).toArray := by simp [rowR]
        rw [this]; exact HB.out, hb⟩)
      go_wp2_with fail
      go_ret
      exact HP.out
end Go.Proofs.Ytambngbkegnghaa
/- Shortest rings in a graph, as plain data. No condition but those typed. -/
namespace Go.Proofs.Ytambngbkegnghaa
set_option linter.unusedVariables false

/-- a way of just so many steps (at least one) from i to a -/
inductive Way (rs : List (List Int)) (a : Nat) : Nat → Nat → Prop
  | one {i : Nat} : Ed rs i a → Way rs a 1 i
  | more {d i k : Nat} : Ed rs i k → Way rs a d k → Way rs a (d + 1) i
theorem Way.pos {rs : List (List Int)} {a d i : Nat} (h : Way rs a d i) : 1 ≤ d := by cases h <;> omega
theorem Way.of_reach {rs : List (List Int)} {a j t : Nat} (h : Reach rs a j) : ∀ d, Way rs t d j → ∃ d', Way rs t d' a := by
  induction h with
  | one h1 => exact fun d hw => ⟨_, .more h1 hw⟩
  | more h1 h2 ih => exact fun d hw => ih _ (.more h2 hw)
theorem Way.of {rs : List (List Int)} {a t : Nat} (h : Reach rs a t) : ∃ d, Way rs t d a := by
  cases h with
  | one h1 => exact ⟨1, .one h1⟩
  | more h1 h2 => exact Way.of_reach h1 _ (.one h2)
theorem Reach.pre {rs : List (List Int)} {i k t : Nat} (he : Ed rs i k) (h : Reach rs k t) : Reach rs i t := by
  induction h with
  | one h1 => exact .more (.one he) h1
  | more _ h2 ih => exact .more ih h2
theorem Way.reach {rs : List (List Int)} {a d i : Nat} (h : Way rs a d i) : Reach rs i a := by
  induction h with
  | one h1 => exact .one h1
  | more h1 _ ih => exact Reach.pre h1 ih
theorem Reach.trans {rs : List (List Int)} {i k t : Nat} (h1 : Reach rs i k) (h2 : Reach rs k t) : Reach rs i t := by
  induction h2 with
  | one h => exact .more h1 h
  | more _ h ih => exact .more ih h

def hit (far : List Int) (a m : Nat) (k : Int) : Bool := (decide (m = 1) && decide (k = (a : Int))) || (decide (1 < m) && decide (far.getD k.toNat 0 = (m : Int) - 1))
def farAt (far : List Int) (a m : Nat) (r : List Int) (x : Int) : Int := if decide (x < 0) && r.any (hit far a m) then (m : Int) else x
def farK (rs : List (List Int)) (a : Nat) : Nat → List Int
  | 0 => List.replicate rs.length (-1)
  | m + 1 => List.zipWith (farAt (farK rs a m) a (m + 1)) rs (farK rs a m)
theorem farK_len (rs : List (List Int)) (a : Nat) : ∀ m, (farK rs a m).length = rs.length
  | 0 => by simp [farK]
  | m + 1 => by simp [farK, farK_len rs a m]
/-- what a node's number says after m rounds -/
def FarOK (rs : List (List Int)) (a m i : Nat) (x : Int) : Prop := (x = -1 ∧ ∀ d, d ≤ m → ¬ Way rs a d i) ∨ ∃ d : Nat, x = (d : Int) ∧ d ≤ m ∧ Way rs a d i ∧ ∀ d', d' < d → ¬ Way rs a d' i
theorem farK_at {rs : List (List Int)} {a : Nat} {i : Nat} {r : List Int} (hr : rs[i]? = some r) : ∀ m, ∃ x, (farK rs a m)[i]? = some x := by
  intro m
  have h1 := (List.getElem?_eq_some_iff.1 hr).1
  exact ⟨_, List.getElem?_eq_getElem (by rw [farK_len]; exact h1)⟩
theorem GoodG.edge {rs : List (List Int)} (hg : GoodG rs) {i k : Nat} (h : Ed rs i k) : k < rs.length := by
  obtain ⟨r, h1, h2⟩ := h
  have := hg.ok r (List.mem_of_getElem? h1) k h2
  omega
theorem getD_of {l : List Int} {i : Nat} {x d : Int} (h : l[i]? = some x) : l.getD i d = x := by rw [List.getD_eq_getElem?_getD, h]; rfl
theorem farK_ok {rs : List (List Int)} (hg : GoodG rs) (a : Nat) : ∀ (m i : Nat) (x : Int), (farK rs a m)[i]? = some x → FarOK rs a m i x := by
  intro m
  induction m with
  | zero =>
    intro i x h
    left
    simp only [farK, List.getElem?_replicate] at h
    split at h
    · injection h with h
      exact ⟨h.symm, fun d hd hw => by have := hw.pos; omega⟩
    · cases h
  | succ m ih =>
    intro i x h
    simp only [farK, List.getElem?_zipWith] at h
    cases hr : rs[i]? with
    | none => rw [hr] at h; cases h
    | some r =>
      obtain ⟨y, hy⟩ := farK_at (a := a) hr m
      rw [hr, hy] at h
      injection h with h
      have hok := ih i y hy
      unfold farAt at h
      have hit_iff : y = -1 → ((r.any (hit (farK rs a m) a (m + 1)) = true) ↔ Way rs a (m + 1) i) := by
        intro hy1
        have hno : ∀ d, d ≤ m → ¬ Way rs a d i := by
          rcases hok with ⟨_, h1⟩ | ⟨d, h1, _⟩
          · exact h1
          · omega
        rw [List.any_eq_true]
        constructor
        · rintro ⟨k, hk, hh⟩
          have hkb := hg.ok r (List.mem_of_getElem? hr) k hk
          have hke : Ed rs i k.toNat := ⟨r, hr, by rw [Int.toNat_of_nonneg hkb.1]; exact hk⟩
          simp only [hit, Bool.or_eq_true, Bool.and_eq_true, decide_eq_true_eq] at hh
          rcases hh with ⟨h1, h2⟩ | ⟨h1, h2⟩
          · have : m = 0 := by omega
            subst this
            have : k.toNat = a := by omega
            rw [this] at hke
            exact .one hke
          · have hkl : k.toNat < rs.length := by omega
            obtain ⟨z, hz⟩ := farK_at (a := a) (List.getElem?_eq_getElem hkl) m
            rw [getD_of hz] at h2
            rcases ih _ _ hz with ⟨h3, _⟩ | ⟨d, h3, h4, h5, _⟩
            · omega
            · have : d = m := by omega
              subst this
              exact .more hke h5
        · intro hw
          generalize hq : m + 1 = q at hw
          cases hw with
          | one h1 =>
            obtain ⟨r', h2, h3⟩ := h1
            rw [hr] at h2
            injection h2 with h2
            subst h2
            exact ⟨a, h3, by simp [hit]⟩
          | @more d _ k h1 h2 =>
            have hd : d = m := by omega
            subst hd
            obtain ⟨r', h3, h4⟩ := id h1
            rw [hr] at h3
            injection h3 with h3
            subst h3
            refine ⟨k, h4, ?_⟩
            have hkl := hg.edge h1
            obtain ⟨z, hz⟩ := farK_at (a := a) (List.getElem?_eq_getElem hkl) d
            have hz1 : z = (d : Int) := by
              rcases ih _ _ hz with ⟨_, h5⟩ | ⟨d', h5, h6, h7, _⟩
              · exact absurd h2 (h5 d (Nat.le_refl _))
              · rcases Nat.lt_or_ge d' d with h8 | h8
                · exact absurd (Way.more h1 h7) (hno _ (by omega))
                · omega
            have := h2.pos
            simp only [hit, Int.toNat_natCast, getD_of hz, hz1, Bool.or_eq_true, Bool.and_eq_true, decide_eq_true_eq]
            right
            omega
      rcases hok with ⟨h1, h2⟩ | ⟨d, h1, h2, h3, h4⟩
      · have hi := hit_iff h1
        by_cases hw : Way rs a (m + 1) i
        · rw [if_pos (by rw [Bool.and_eq_true]; exact ⟨by simp; omega, hi.2 hw⟩)] at h
          exact .inr ⟨m + 1, by omega, Nat.le_refl _, hw, fun d' hd' => h2 d' (by omega)⟩
        · rw [if_neg (by rw [Bool.and_eq_true]; exact fun hh => hw (hi.1 hh.2))] at h
          refine .inl ⟨by omega, fun d hd => ?_⟩
          rcases Nat.lt_or_ge d (m + 1) with h5 | h5
          · exact h2 d (by omega)
          · have : d = m + 1 := by omega
            subst this; exact hw
      · rw [if_neg (by rw [Bool.and_eq_true]; intro hh; have := hh.1; simp at this; omega)] at h
        exact .inr ⟨d, by omega, by omega, h3, h4⟩

def hitD (far : List Int) (c : Nat) (k : Int) : Bool := decide (far.getD k.toNat 0 = (c : Int))
def bestS (P : Int → Bool) (b k : Int) : Int := if P k && (decide (b < 0) || decide (k < b)) then k else b
def bestL (P : Int → Bool) (r : List Int) : Int := r.foldl (bestS P) (-1)
theorem bestL_snoc (P : Int → Bool) (r : List Int) (k : Int) : bestL P (r ++ [k]) = bestS P (bestL P r) k := by simp [bestL, List.foldl_append]
theorem bestL_take (P : Int → Bool) (r : List Int) (h0 : ∀ k ∈ r, 0 ≤ k) : ∀ j, (bestL P (r.take j) = -1 ∧ ∀ k ∈ r.take j, P k = false) ∨ (bestL P (r.take j) ∈ r.take j ∧ P (bestL P (r.take j)) = true ∧ ∀ k ∈ r.take j, P k = true → bestL P (r.take j) ≤ k) := by
  intro j
  induction j with
  | zero => left; simp [bestL]
  | succ j ih =>
    rw [List.take_add_one]
    cases hj : r[j]? with
    | none => simpa using ih
    | some k =>
      simp only [Option.toList_some]
      rw [bestL_snoc]
      have hk0 := h0 k (List.mem_of_getElem? hj)
      have hmem : ∀ b, b ∈ r.take j → 0 ≤ b := fun b hb => h0 b (List.mem_of_mem_take hb)
      unfold bestS
      by_cases hp : P k = true
      · rcases ih with ⟨h1, h2⟩ | ⟨h1, h2, h3⟩
        · rw [h1, if_pos (by simp [hp])]
          right
          refine ⟨by simp, hp, fun q hq hpq => ?_⟩
          rcases List.mem_append.1 hq with hq | hq
          · rw [h2 q hq] at hpq; cases hpq
          · simp at hq; omega
        · have hb0 := hmem _ h1
          by_cases hlt : k < bestL P (r.take j)
          · rw [if_pos (by simp [hp, hlt])]
            right
            refine ⟨by simp, hp, fun q hq hpq => ?_⟩
            rcases List.mem_append.1 hq with hq | hq
            · have := h3 q hq hpq; omega
            · simp at hq; omega
          · rw [if_neg (by simp [hp]; omega)]
            right
            refine ⟨List.mem_append_left _ h1, h2, fun q hq hpq => ?_⟩
            rcases List.mem_append.1 hq with hq | hq
            · exact h3 q hq hpq
            · simp at hq; omega
      · have hpf : P k = false := by simpa using hp
        rw [if_neg (by simp [hpf])]
        rcases ih with ⟨h1, h2⟩ | ⟨h1, h2, h3⟩
        · left
          refine ⟨h1, fun q hq => ?_⟩
          rcases List.mem_append.1 hq with hq | hq
          · exact h2 q hq
          · simp at hq; subst hq; exact hpf
        · right
          refine ⟨List.mem_append_left _ h1, h2, fun q hq hpq => ?_⟩
          rcases List.mem_append.1 hq with hq | hq
          · exact h3 q hq hpq
          · simp at hq; subst hq; rw [hpf] at hpq; cases hpq
theorem bestL_ok (P : Int → Bool) (r : List Int) (h0 : ∀ k ∈ r, 0 ≤ k) : (bestL P r = -1 ∧ ∀ k ∈ r, P k = false) ∨ (bestL P r ∈ r ∧ P (bestL P r) = true ∧ ∀ k ∈ r, P k = true → bestL P r ≤ k) := by
  have := bestL_take P r h0 r.length
  rwa [List.take_length] at this

def wayK (rs : List (List Int)) (far : List Int) : Nat → Int → List Int
  | 0, _ => []
  | c + 1, i => bestL (hitD far (c + 1)) (rs.getD i.toNat []) :: wayK rs far c (bestL (hitD far (c + 1)) (rs.getD i.toNat []))
theorem wayK_len (rs : List (List Int)) (far : List Int) : ∀ c i, (wayK rs far c i).length = c
  | 0, _ => rfl
  | c + 1, i => by simp [wayK, wayK_len rs far c]
/-- the node that a step of the way goes to -/
theorem step_ok {rs : List (List Int)} (hg : GoodG rs) {a d : Nat} {i c : Nat} (hw : Way rs a (c + 2) i) (hmin : ∀ d', d' < c + 2 → ¬ Way rs a d' i) (hcd : c + 2 ≤ d) :
    ∃ k : Nat, bestL (hitD (farK rs a d) (c + 1)) (rs.getD i []) = (k : Int) ∧ k < rs.length ∧ Ed rs i k ∧ Way rs a (c + 1) k ∧ ∀ d', d' < c + 1 → ¬ Way rs a d' k := by
  generalize hq : c + 2 = q at hw
  cases hw with
  | one _ => omega
  | @more e _ k h1 h2 =>
    have he : e = c + 1 := by omega
    subst he
    obtain ⟨r, hr, hk⟩ := id h1
    have hrd : rs.getD i [] = r := by rw [List.getD_eq_getElem?_getD, hr]; rfl
    rw [hrd]
    have hpos : ∀ x ∈ r, 0 ≤ x := fun x hx => (hg.ok r (List.mem_of_getElem? hr) x hx).1
    have hhit : ∀ x ∈ r, hitD (farK rs a d) (c + 1) x = true ↔ Way rs a (c + 1) x.toNat ∧ ∀ d', d' < c + 1 → ¬ Way rs a d' x.toNat := by
      intro x hx
      have hb := hg.ok r (List.mem_of_getElem? hr) x hx
      have hl : x.toNat < rs.length := by omega
      obtain ⟨z, hz⟩ := farK_at (a := a) (List.getElem?_eq_getElem hl) d
      simp only [hitD, getD_of hz, decide_eq_true_eq]
      rcases farK_ok hg a d _ _ hz with ⟨h3, h4⟩ | ⟨e, h3, h4, h5, h6⟩
      · constructor
        · intro h; omega
        · intro h; exact absurd h.1 (h4 _ (by omega))
      · constructor
        · intro h
          have : e = c + 1 := by omega
          subst this; exact ⟨h5, h6⟩
        · rintro ⟨h7, h8⟩
          rcases Nat.lt_trichotomy e (c + 1) with h9 | h9 | h9
          · exact absurd h5 (h8 _ h9)
          · omega
          · exact absurd h7 (h6 _ h9)
    have hkk : hitD (farK rs a d) (c + 1) (k : Int) = true := by
      rw [hhit _ hk]
      rw [Int.toNat_natCast]
      exact ⟨h2, fun d' hd' hw' => hmin (d' + 1) (by omega) (.more h1 hw')⟩
    rcases bestL_ok (hitD (farK rs a d) (c + 1)) r hpos with ⟨_, h3⟩ | ⟨h3, h4, _⟩
    · rw [h3 _ hk] at hkk; cases hkk
    · have hb := hg.ok r (List.mem_of_getElem? hr) _ h3
      have h5 := (hhit _ h3).1 h4
      exact ⟨_, (Int.toNat_of_nonneg hb.1).symm, by omega, ⟨r, hr, by rw [Int.toNat_of_nonneg hb.1]; exact h3⟩, h5.1, h5.2⟩
/-- the way that is found: nodes of the graph, an edge from each to the next, their distances go down by one, the last one has an edge to a -/
inductive Chain (rs : List (List Int)) (a : Nat) : Nat → Nat → List Nat → Prop
  | last {i : Nat} : Way rs a 1 i → Chain rs a 1 i []
  | step {c i k : Nat} {l : List Nat} : Way rs a (c + 2) i → (∀ d', d' < c + 2 → ¬ Way rs a d' i) → Ed rs i k → k < rs.length → Chain rs a (c + 1) k l → Chain rs a (c + 2) i (k :: l)
theorem wayK_chain {rs : List (List Int)} (hg : GoodG rs) {a d : Nat} : ∀ (c i : Nat), Way rs a (c + 1) i → (∀ d', d' < c + 1 → ¬ Way rs a d' i) → c + 1 ≤ d → ∃ l : List Nat, wayK rs (farK rs a d) c (i : Int) = l.map (fun (k : Nat) => (k : Int)) ∧ Chain rs a (c + 1) i l
  | 0, i, hw, hmin, hd => ⟨[], rfl, .last hw⟩
  | c + 1, i, hw, hmin, hd => by
    obtain ⟨k, h1, h2, h3, h4, h5⟩ := step_ok hg hw hmin hd
    obtain ⟨l, h6, h7⟩ := wayK_chain hg (d := d) c k h4 h5 (by omega)
    refine ⟨k :: l, ?_, .step hw hmin h3 h2 h7⟩
    simp only [wayK, Int.toNat_natCast, h1, List.map_cons, h6]
theorem Chain.mem {rs : List (List Int)} {a c i : Nat} {l : List Nat} (h : Chain rs a c i l) : ∀ k ∈ l, k < rs.length ∧ Reach rs i k ∧ Reach rs k a ∧ ∃ d, d < c ∧ Way rs a d k ∧ ∀ d', d' < d → ¬ Way rs a d' k := by
  induction h with
  | last _ => intro k hk; cases hk
  | @step c i k l h1 h2 h3 h4 h5 ih =>
    intro q hq
    rcases List.mem_cons.1 hq with rfl | hq
    · have hmin : ∀ d', d' < c + 1 → ¬ Way rs a d' q := fun d' hd' hw => h2 (d' + 1) (by omega) (.more h3 hw)
      have hw : Way rs a (c + 1) q := by cases h5 <;> assumption
      exact ⟨h4, .one h3, hw.reach, c + 1, by omega, hw, hmin⟩
    · obtain ⟨h6, h7, h8, d, h9, h10⟩ := ih q hq
      exact ⟨h6, Reach.pre h3 h7, h8, d, by omega, h10⟩
theorem Chain.nodup {rs : List (List Int)} {a c i : Nat} {l : List Nat} (h : Chain rs a c i l) (hmin : ∀ d', d' < c → ¬ Way rs a d' i) : (i :: l).Nodup := by
  induction h with
  | last _ => simp
  | @step c i k l h1 h2 h3 h4 h5 ih =>
    have hmk : ∀ d', d' < c + 1 → ¬ Way rs a d' k := fun d' hd' hw => h2 (d' + 1) (by omega) (.more h3 hw)
    rw [List.nodup_cons]
    refine ⟨fun hi => ?_, ih hmk⟩
    rcases List.mem_cons.1 hi with rfl | hi
    · exact h2 (c + 1) (by omega) (by cases h5 <;> assumption)
    · obtain ⟨_, _, _, d, h6, h7, _⟩ := h5.mem i hi
      exact h2 d (by omega) h7
theorem nodup_len : ∀ (n : Nat) (l : List Nat), l.Nodup → (∀ k ∈ l, k < n) → l.length ≤ n
  | 0, l, _, h => by
    cases l with
    | nil => simp
    | cons k l => have := h k (by simp); omega
  | n + 1, l, hn, h => by
    have h1 := nodup_len n (l.erase n) (hn.erase n) (fun k hk => by
      have h2 := (hn.mem_erase_iff).1 hk
      have := h k h2.2
      have := h2.1
      omega)
    rw [List.length_erase] at h1
    split at h1 <;> omega
theorem Chain.len {rs : List (List Int)} {a c i : Nat} {l : List Nat} (h : Chain rs a c i l) : l.length + 1 = c := by
  induction h with
  | last _ => rfl
  | step _ _ _ _ _ ih => simp; omega
/-- a least way exists, and has at most as many steps as there are nodes -/
theorem least_way {rs : List (List Int)} (hg : GoodG rs) {a : Nat} (ha : a < rs.length) (h : Reach rs a a) : ∃ d : Nat, 1 ≤ d ∧ d ≤ rs.length ∧ Way rs a d a ∧ ∀ d', d' < d → ¬ Way rs a d' a := by
  obtain ⟨d, hd, hmin⟩ := Go.exists_least (Way.of h)
  have hp := hd.pos
  obtain ⟨c, rfl⟩ : ∃ c, d = c + 1 := ⟨d - 1, by omega⟩
  have hmin' : ∀ d', d' < c + 1 → ¬ Way rs a d' a := fun d' h1 h2 => by have := hmin d' h2; omega
  obtain ⟨l, _, hl⟩ := wayK_chain hg (d := c + 1) c a hd hmin' (Nat.le_refl _)
  refine ⟨c + 1, hp, ?_, hd, hmin'⟩
  have h1 := nodup_len rs.length (a :: l) (hl.nodup hmin') (fun k hk => by
    rcases List.mem_cons.1 hk with rfl | hk
    · exact ha
    · exact (hl.mem k hk).1)
  have := hl.len
  rw [List.length_cons] at h1
  omega
/-- when the node's own number comes up -/
theorem farK_from {rs : List (List Int)} (hg : GoodG rs) {a d : Nat} (ha : a < rs.length) (hw : Way rs a d a) (hmin : ∀ d', d' < d → ¬ Way rs a d' a) (m : Nat) : (farK rs a m)[a]? = some (if d ≤ m then (d : Int) else -1) := by
  obtain ⟨x, hx⟩ := farK_at (a := a) (List.getElem?_eq_getElem ha) m
  rw [hx]
  congr 1
  rcases farK_ok hg a m _ _ hx with ⟨h1, h2⟩ | ⟨e, h1, h2, h3, h4⟩
  · rw [if_neg (fun hd => h2 d hd hw)]; exact h1
  · have : e = d := by
      rcases Nat.lt_trichotomy e d with h5 | h5 | h5
      · exact absurd h3 (hmin _ h5)
      · exact h5
      · exact absurd hw (h4 _ h5)
    subst this
    rw [if_pos h2]; exact h1
end Go.Proofs.Ytambngbkegnghaa
/- ring.shortest. Conditions: those typed. -/
namespace Go.Proofs.Ytambngbkegnghaa
open Go.RowKit Go.Gy
set_option linter.unusedVariables false
/-- the numbers, the first k of them already those of the next round -/
def midL (rs : List (List Int)) (a m k : Nat) : List Int := (farK rs a (m + 1)).take k ++ (farK rs a m).drop k
theorem midL_len {rs : List (List Int)} {a m k : Nat} (hk : k ≤ rs.length) : (midL rs a m k).length = rs.length := by
  simp [midL, farK_len]; omega
theorem midL_at {rs : List (List Int)} {a m k : Nat} (hk : k < rs.length) : (midL rs a m k)[k]? = (farK rs a m)[k]? := by
  unfold midL
  rw [List.getElem?_append_right (by simp [farK_len]; omega), List.length_take, farK_len, Nat.min_eq_left (by omega), Nat.sub_self, List.getElem?_drop, Nat.add_zero]
theorem midL_next {rs : List (List Int)} {a m k : Nat} {r : List Int} {x : Int} (hr : rs[k]? = some r) (hx : (farK rs a m)[k]? = some x) : (midL rs a m k).set k (farAt (farK rs a m) a (m + 1) r x) = midL rs a m (k + 1) := by
  have hk := (List.getElem?_eq_some_iff.1 hr).1
  have hn : (farK rs a (m + 1))[k]? = some (farAt (farK rs a m) a (m + 1) r x) := by simp only [farK, List.getElem?_zipWith, hr, hx]
  unfold midL
  rw [List.set_append_right _ _ (by simp [farK_len]; omega), List.length_take, farK_len, Nat.min_eq_left (by omega), Nat.sub_self]
  have hd : (farK rs a m).drop k = x :: (farK rs a m).drop (k + 1) := by
    obtain ⟨h1, h2⟩ := List.getElem?_eq_some_iff.1 hx
    rw [List.drop_eq_getElem_cons h1, h2]
  rw [hd, List.set_cons_zero, List.take_add_one, hn]
  simp
theorem midL_zero (rs : List (List Int)) (a m : Nat) : midL rs a m 0 = farK rs a m := by simp [midL]
theorem midL_full (rs : List (List Int)) (a m : Nat) : midL rs a m rs.length = farK rs a (m + 1) := by
  unfold midL
  rw [List.take_of_length_le (by rw [farK_len]; omega), List.drop_of_length_le (by rw [farK_len]; omega), List.append_nil]
theorem farAt_snoc (far : List Int) (a m : Nat) (r : List Int) (z x : Int) : farAt far a m (r ++ [z]) x = if decide (x < 0) && (r.any (hit far a m) || hit far a m z) then (m : Int) else x := by
  simp [farAt, List.any_append]
theorem farAt_miss {far : List Int} {a m : Nat} {r : List Int} {z x : Int} (h : x < 0 → hit far a m z = false) : farAt far a m (r ++ [z]) x = farAt far a m r x := by
  rw [farAt_snoc, farAt]
  by_cases hx : x < 0
  · rw [h hx, Bool.or_false]
  · simp [hx]
theorem farAt_hit {far : List Int} {a m : Nat} {r : List Int} {z x : Int} (hx : x < 0) (h : hit far a m z = true) : farAt far a m (r ++ [z]) x = (m : Int) := by
  rw [farAt_snoc, h]; simp [hx]
theorem map_set (l : List Int) (k : Nat) (x : Int) : (l.map iv).set k (iv x) = (l.set k x).map iv := by rw [List.map_set]
/-- a row of integers of the call's own -/
def OwnIS (w : World) (base : Nat) (v : Value) (l : List Int) : Prop := w.ownsRow base 3 1 v l.length (l.map iv)
def FarRel (w : World) (rs : List (List Int)) (a d : Nat) (g : Nat) (f i : Value) (wr : World) : Prop := ∃ m q : Nat, i = .int .i64 (q : Int) ∧ q = m + 1 ∧ m + g = d ∧ SlI wr wr.heap.size f (farK rs a m) ∧ Below w.heap.size w wr
def NowRel (w0 : World) (rs : List (List Int)) (a m : Nat) (now : Value) (i : Value) (wr : World) : Prop := ∃ k : Nat, k ≤ rs.length ∧ i = .int .i64 (k : Int) ∧ wr.ownsRow w0.heap.size 3 1 now rs.length ((midL rs a m k).map iv) ∧ Below w0.heap.size w0 wr
def CellRel (w0 : World) (rs : List (List Int)) (a m k : Nat) (r : List Int) (x : Int) (now : Value) (i : Value) (wr : World) : Prop := ∃ j : Nat, j ≤ r.length ∧ i = .int .i64 (j : Int) ∧ wr.ownsRow w0.heap.size 3 1 now rs.length (((midL rs a m k).set k (farAt (farK rs a m) a (m + 1) (r.take j) x)).map iv) ∧ Below w0.heap.size w0 wr
def ShortPost (w : World) (rs : List (List Int)) (a d : Nat) (e : Ending) (w' : World) : Prop := ∃ v' l, e = .returned v' ∧ l = (a : Int) :: wayK rs (farK rs a d) (d - 1) a ∧ w'.ownsRow w.heap.size 3 1 v' l.length (l.map iv) ∧ Below w.heap.size w w'
def OutRel (w : World) (rs : List (List Int)) (a d : Nat) (g : Nat) (o i l : Value) (wr : World) : Prop := ∃ (c k q : Nat) (pre : List Int), g = c ∧ i = .int .i64 (k : Int) ∧ l = .int .i64 (q : Int) ∧ q = c + 1 ∧ k < rs.length ∧ c + 1 ≤ d ∧ pre.length + c = d ∧ Way rs a (c + 1) k ∧ (∀ d', d' < c + 1 → ¬ Way rs a d' k) ∧ pre ++ wayK rs (farK rs a d) c k = (a : Int) :: wayK rs (farK rs a d) (d - 1) a ∧ wr.ownsRow w.heap.size 3 1 o pre.length (pre.map iv) ∧ Below w.heap.size w wr
set_option maxRecDepth 100000 in
set_option maxHeartbeats 4000000 in
theorem shortest_any (w : World) (v : Value) (rs : List (List Int)) (hv : RowsI w w.heap.size v rs) (hg : GoodG rs) (a d : Nat) (ha : a < rs.length) (hd1 : 1 ≤ d) (hdn : d ≤ rs.length) (hw : Way rs a d a) (hmin : ∀ d', d' < d → ¬ Way rs a d' a) :
    Calls Try.prog 60 #[v, .int .i64 (a : Int)] w (ShortPost w rs a d) := by
  obtain ⟨A, n, c, vs, rfl, hN, h1, h2, hr, hs⟩ := id hv
  have hn64 := hg.len
  have Hv := Lib.hid hv
  have HN := Lib.hid hN
  have Hg := Lib.hid hg
  have Hw := Lib.hid hw
  have Hmin := Lib.hid hmin
  have Hs := Lib.hid hs
  rw [hN] at hn64 hdn
  have han : a < n := by omega
  have hrep : ∀ W : World, w.heap.size < W.heap.size → W.cell? ⟨w.heap.size, 0, none⟩ = some (iv (-1)) → Calls Try.prog 82 #[.slice (some ⟨w.heap.size, 0, none⟩) 1 1, .int .i64 (n : Int)] W (RepPost W n) := fun W hW hc => repeat_one W w.heap.size n hc hW hn64 (by omega)
  have Hrep := Lib.hid (hrep (w.alloc (.cells #[iv (-1)] 3)) (by simp) (by rw [cell_of_row _ _ 0 _ _ _ (heap_alloc_new _ _)]; rfl))
  obtain ⟨j0, hji, hy0, hy1, hy2⟩ := info_parts info_int
  clear hv hN hg hw hmin h1 h2 hrep hs
  go_enter Try.func60, Try.ntmps60
  go_wp2_with fail
  refine Hrep.out.mono ?_
  rintro e w1 ⟨rfl, hB1, hb1⟩
  have hbw1 : Below w.heap.size w w1 := ((Below.refl _ _).alloc (Nat.le_refl _) _).trans (hb1.mono (by simp))
  have hsz0 : ∀ X, (w.alloc X).heap.size = w.heap.size + 1 := fun X => by simp
  have Hst := Lib.hid (show FarRel w rs a d d (.slice (some ⟨w.heap.size + 1, 0, none⟩) n n) (.int .i64 1) w1 from ⟨0, 1, rfl, rfl, by omega, ⟨_, _, _, rfl, by rw [farK_len]; exact HN.out, Nat.le_refl _, (fun h => by cases h), by
    rw [hsz0] at hB1
    refine ⟨by simp [farK, HN.out], fun _ => ⟨_, 0, rfl, hB1.lt, fun j u hu => ?_⟩⟩
    rw [Nat.zero_add]
    refine hB1.cell j u ?_
    simp only [farK, HN.out] at hu
    rw [List.getElem?_toArray]; exact hu⟩, hbw1⟩)
  clear Hrep hB1 hb1 hbw1 hsz0
  go_wp2_with fail
  go_loopg [5, 6] d (fun g f i wr => FarRel w rs a d g f i wr)
  case atStart => exact Hst.out
  case round =>
    obtain ⟨w0, rfl⟩ : ∃ w0, w0 = wr := ⟨_, rfl⟩
    obtain ⟨m, q, rfl, hqm, hmg, hf, hb⟩ := hrel
    have hzr := hb.size
    have hfa := farK_from Hg.out (by rw [HN.out]; exact han) Hw.out Hmin.out m
    obtain ⟨Af, nf, cf, rfl, hfl, hfc, hfA, hfr⟩ := id hf
    rw [farK_len, HN.out] at hfl
    subst hfl
    obtain ⟨bf, of, y, rfl, hbf, hy, hcf⟩ := hfr.one han
    rw [hfa] at hy
    have Hf := Lib.hid hf
    have Hqm := Lib.hid hqm
    clear hf hqm hfa hfA
    by_cases hmd : m < d
    · have hq64 : q ≤ 64 := by have := Hqm.out; omega
      have hq1 : 1 ≤ q := by have := Hqm.out; omega
      rw [if_neg (by omega)] at hy
      obtain rfl : (-1 : Int) = y := by simpa using hy
      clear hy
      have HC := Lib.hid (clone_ints w0 _ _ Hf.out (by rw [farK_len, HN.out]; omega))
      rw [farK_len, HN.out] at HC
      go_wp2_with fail
      refine HC.out.mono ?_
      rintro e w2 ⟨v2, rfl, hown2, hb2⟩
      obtain ⟨g2, c2, rfl, hc2n, hg2, hg2l⟩ := own_shape hown2 (by omega)
      have Hst2 := Lib.hid (show NowRel w0 rs a m (.slice (some ⟨g2, 0, none⟩) n c2) (.int .i64 0) w2 from ⟨0, Nat.zero_le _, rfl, by rw [midL_zero, HN.out]; exact hown2, hb2⟩)
      clear HC hown2 hb2
      go_wp2_with fail
      go_loopw [33] (fun i wx => NowRel w0 rs a m (.slice (some ⟨g2, 0, none⟩) n c2) i wx) (fun i _ => n - (intOf i).toNat)
      case atStart => exact Hst2.out
      case round =>
        obtain ⟨wx, rfl⟩ : ∃ wx, wx = wr := ⟨_, rfl⟩
        obtain ⟨k, hk, rfl, hown, hbx⟩ := hrel
        rw [HN.out] at hk hown
        have Hown := Lib.hid hown
        have hzx := hbx.size
        clear hown
        by_cases hlt : k < n
        · have hlt' : (k : Int) < (n : Int) := by omega
          have hbwx := hb.trans (hbx.mono hzr)
          obtain ⟨b, o, u, rfl, hbB, hu, hc⟩ := (hr.below hbwx).at_ hlt
          have hrk : rs[k]? = some (rs[k]'(by have := HN.out; omega)) := List.getElem?_eq_getElem _
          obtain ⟨r, hr0⟩ : ∃ r, r = rs[k]'(by have := HN.out; omega) := ⟨_, rfl⟩
          rw [← hr0] at hrk
          obtain ⟨Ar, mr, cr, rfl, hmr, _, _, hrr⟩ := Hs.out.2 k u r hu hrk
          obtain ⟨x, hx⟩ := farK_at (a := a) hrk m
          obtain ⟨b', o', x', he, hbf', hx', hcx⟩ := (hfr.below hbx).one hlt
          injection he with he
          injection he with he1 he2
          subst he1 he2
          rw [hx] at hx'
          obtain rfl : x = x' := by simpa using hx'
          have hpos := Hg.out.ok r (List.mem_of_getElem? hrk)
          have hmrb : mr ≤ 1000000000 := by rw [← hmr]; exact Hg.out.row (List.mem_of_getElem? hrk)
          have Hpos := Lib.hid hpos
          have Hrk := Lib.hid hrk
          have Hx := Lib.hid hx
          have Hmr := Lib.hid hmr
          have Hst3 := Lib.hid (show CellRel w0 rs a m k r x (.slice (some ⟨g2, 0, none⟩) n c2) (.int .i64 0) wx from ⟨0, Nat.zero_le _, rfl, by
            have : (midL rs a m k).set k (farAt (farK rs a m) a (m + 1) (r.take 0) x) = midL rs a m k := by
              simp only [farAt, List.take_zero, List.any_nil, Bool.and_false, Bool.false_eq_true, if_false]
              have h1 := midL_at (rs := rs) (a := a) (m := m) (show k < rs.length by rw [HN.out]; exact hlt)
              rw [hx] at h1
              obtain ⟨h2, h3⟩ := List.getElem?_eq_some_iff.1 h1
              rw [← h3]; exact List.set_getElem_self h2
            rw [this, HN.out]; exact Hown.out, hbx⟩)
          clear hu hr0 hrk hx hx' hpos hmr
          go_wp2_with fail
          go_loopw [40] (fun i wy => CellRel w0 rs a m k r x (.slice (some ⟨g2, 0, none⟩) n c2) i wy) (fun i _ => mr - (intOf i).toNat)
          case atStart => exact Hst3.out
          case round =>
            obtain ⟨wy, rfl⟩ : ∃ wy, wy = wr := ⟨_, rfl⟩
            obtain ⟨jj, hjj, rfl, hown, hby⟩ := hrel
            rw [HN.out] at hown
            rw [Hmr.out] at hjj
            have hky : k < ((midL rs a m k).set k (farAt (farK rs a m) a (m + 1) (r.take jj) x)).length := by rw [List.length_set, midL_len (by rw [HN.out]; exact hk), HN.out]; exact hlt
            have hcn := hown.cellAt k (by omega)
            rw [List.getElem?_map, List.getElem?_set_self (by simpa using hky)] at hcn
            have hfz := hown.frozenAt k
            have Hown3 := Lib.hid hown
            have hzy := hby.size
            clear hown hky
            by_cases hjl : jj < mr
            · have hjl' : (jj : Int) < (mr : Int) := by omega
              obtain ⟨bz, oz, z, rfl, hbz, hz, hcz⟩ := (hrr.below (hb.trans (hby.mono hzr))).one hjl
              have hzb := Hpos.out z (List.mem_of_getElem? hz)
              obtain ⟨kz, hkz⟩ : ∃ kz : Nat, (kz : Int) = z := ⟨z.toNat, by omega⟩
              subst hkz
              have hkzn : kz < n := by rw [HN.out] at hzb; omega
              obtain ⟨y, hy⟩ := farK_at (a := a) (List.getElem?_eq_getElem (show kz < rs.length by rw [HN.out]; exact hkzn)) m
              obtain ⟨bq, oq, y', heq, _, hy', hcy⟩ := (hfr.below hby).one hkzn
              injection heq with heq
              injection heq with he1 he2
              subst he1 he2
              rw [hy] at hy'
              obtain rfl : y = y' := by simpa using hy'
              obtain ⟨bk, ok, xk, hek, _, hxk, hcxk⟩ := (hfr.below hby).one hlt
              injection hek with hek
              injection hek with he1 he2
              subst he1 he2
              rw [Hx.out] at hxk
              obtain rfl : x = xk := by simpa using hxk
              have htk : r.take (jj + 1) = r.take jj ++ [(kz : Int)] := by rw [List.take_add_one, hz]; rfl
              have hhit : hit (farK rs a m) a (m + 1) (kz : Int) = ((decide (m + 1 = 1) && decide ((kz : Int) = (a : Int))) || (decide (1 < m + 1) && decide (y = ((m + 1 : Nat) : Int) - 1))) := by
                simp only [hit, Int.toNat_natCast, getD_of hy]
              have Htk := Lib.hid htk
              have Hhit := Lib.hid hhit
              have HNM := Lib.hid (show ∀ w', (farAt (farK rs a m) a (m + 1) (r.take jj ++ [(kz : Int)]) x = farAt (farK rs a m) a (m + 1) (r.take jj) x) → w' = wy → CellRel w0 rs a m k r x (.slice (some ⟨g2, 0, none⟩) n c2) (.int .i64 ((jj : Int) + 1)) w' from fun w' h1 h2 => by
                subst h2
                exact ⟨jj + 1, by rw [Hmr.out]; omega, by go_num, by rw [Htk.out, h1, HN.out]; exact Hown3.out, hby⟩)
              have HHT := Lib.hid (show (farAt (farK rs a m) a (m + 1) (r.take jj ++ [(kz : Int)]) x = (q : Int)) → CellRel w0 rs a m k r x (.slice (some ⟨g2, 0, none⟩) n c2) (.int .i64 ((jj : Int) + 1)) (wy.setCell ⟨g2, k, none⟩ (.int .i64 (q : Int))) from fun h1 => by
                refine ⟨jj + 1, by rw [Hmr.out]; omega, by go_num, ?_, hby.setCell hg2 _⟩
                rw [Htk.out, h1, HN.out]
                have h2 := Hown3.out.stored k (iv (q : Int))
                rw [map_set, List.set_set] at h2
                exact h2.1)
              clear hz hy hy' hxk htk hhit hzb
              by_cases hxn : x < 0
              · by_cases hq1' : q = 1
                · have hm0 : m = 0 := by have := Hqm.out; omega
                  by_cases hza : kz = a
                  · have Hz := Lib.hid (HHT.out (by rw [farAt_hit hxn (by rw [Hhit.out]; simp [hm0, hza]), Hqm.out]))
                    have e1 : ((q : Int) == 1) = true := by simp [hq1']
                    have e2 : ((kz : Int) == (a : Int)) = true := by simp [hza]
                    clear HHT HNM hq1' hza hm0
                    go_wp2_with fail
                    go_roundw
                    case rel => exact Hz.out
                    case measure => simp [intOf]; omega
                  · have Hz := Lib.hid (HNM.out wy (farAt_miss fun _ => by rw [Hhit.out]; simp [hm0]; omega) rfl)
                    have e1 : ((q : Int) == 1) = true := by simp [hq1']
                    have e2 : ((kz : Int) == (a : Int)) = false := by simp; omega
                    have e3 : ¬ (1 : Int) < (q : Int) := by omega
                    have e4 : ¬ (kz : Int) = (a : Int) := by omega
                    clear HHT HNM hq1' hza hm0
                    go_wp2_with fail
                    go_roundw
                    case rel => exact Hz.out
                    case measure => simp [intOf]; omega
                · have hm1 : 1 < m + 1 := by have := Hqm.out; omega
                  have e1 : ((q : Int) == 1) = false := by simp; omega
                  have e3 : (1 : Int) < (q : Int) := by omega
                  have e5 : ¬ (q : Int) = 1 := by omega
                  by_cases hyq : y = (q : Int) - 1
                  · have Hz := Lib.hid (HHT.out (by rw [farAt_hit hxn (by rw [Hhit.out]; simp only [Bool.or_eq_true, Bool.and_eq_true, decide_eq_true_eq]; right; have := Hqm.out; omega), Hqm.out]))
                    subst hyq
                    clear HHT HNM hq1' hm1
                    go_wp2_with fail
                    go_roundw
                    case rel => exact Hz.out
                    case measure => simp [intOf]; omega
                  · have Hz := Lib.hid (HNM.out wy (farAt_miss fun _ => by rw [Hhit.out]; simp only [Bool.or_eq_false_iff, Bool.and_eq_false_iff, decide_eq_false_iff_not]; have := Hqm.out; omega) rfl)
                    have e2 : (y == (q : Int) - 1) = false := by simp; omega
                    clear HHT HNM hq1' hm1
                    go_wp2_with fail
                    go_roundw
                    case rel => exact Hz.out
                    case measure => simp [intOf]; omega
              · have Hz := Lib.hid (HNM.out wy (farAt_miss fun h => absurd h hxn) rfl)
                clear HHT HNM
                go_wp2_with fail
                go_roundw
                case rel => exact Hz.out
                case measure => simp [intOf]; omega
            · obtain rfl : jj = mr := by omega
              have Hnx := Lib.hid (show NowRel w0 rs a m (.slice (some ⟨g2, 0, none⟩) n c2) (.int .i64 ((k : Int) + 1)) wy from ⟨k + 1, by rw [HN.out]; omega, by go_num, by
                have h1 := Hown3.out
                rw [List.take_of_length_le (by rw [Hmr.out]; omega), midL_next Hrk.out Hx.out] at h1
                rw [HN.out]; exact h1, hby⟩)
              go_wp2_with fail
              go_roundw
              case rel => exact Hnx.out
              case measure => simp [intOf]; omega
        · obtain rfl : k = n := by omega
          have HF := Lib.hid (show FarRel w rs a d (gk - 1) (.slice (some ⟨g2, 0, none⟩) k c2) (.int .i64 ((q : Int) + 1)) wx from ⟨m + 1, q + 1, by go_num, by have := Hqm.out; omega, by omega, by
            have h1 := Hown.out
            have h2 := midL_full rs a m
            rw [HN.out] at h2
            rw [h2] at h1
            exact SlI.own h1, hb.trans (hbx.mono hzr)⟩)
          go_wp2_with fail
          go_roundg (gk - 1)
          case measure => omega
          case rel => exact HF.out
    · obtain rfl : m = d := by omega
      rw [if_pos (Nat.le_refl _)] at hy
      obtain rfl : (m : Int) = y := by simpa using hy
      have hm64 : m ≤ 64 := by omega
      have hnd : ¬ (m : Int) < 0 := by omega
      have hcfd : ∀ X, (w0.alloc X).cell? ⟨bf, of + a, none⟩ = some (.int .i64 (m : Int)) := fun X => (World.cell?_alloc_lt w0 X ⟨bf, of + a, none⟩ hbf).trans hcf
      clear hy hmg hmd
      go_wp2_with fail
      go_quiet (fail)
      have Hst4 := Lib.hid (show OutRel w0 rs a m (m - 1) (.slice (some ⟨w0.heap.size, 0, none⟩) 1 1) (.int .i64 (a : Int)) (.int .i64 (m : Int)) ((w0.alloc (.cells #[.int .i64 (a : Int)] 3)).drewN nq) from by
        have h1 : m - 1 + 1 = m := by omega
        refine ⟨m - 1, a, m, [(a : Int)], rfl, rfl, rfl, by omega, by rw [HN.out]; exact han, by omega, by simp; omega, by rw [h1]; exact Hw.out, by rw [h1]; exact Hmin.out, rfl, ?_, ?_⟩
        · have h2 := World.ownsRow_lit (e := 3) (size := 1) (base := w0.heap.size) w0 #[.int .i64 (a : Int)] 1 (Nat.le_refl _) (by decide) rfl
          exact h2
        · exact below_drewN ((Below.refl _ _).alloc (Nat.le_refl _) _) _)
      go_wp2_with fail
      go_loopg [12, 13, 14] (m - 1) (fun g o i l wr => OutRel w0 rs a m g o i l wr)
      case atStart => exact Hst4.out
      case round =>
        obtain ⟨wq, rfl⟩ : ∃ wq, wq = wr := ⟨_, rfl⟩
        obtain ⟨c', k, q, pre, hgc, rfl, rfl, hqc, hkn, hcd, hpl, hwk, hmk, hfull, hown, hbq⟩ := hrel
        rw [HN.out] at hkn
        obtain ⟨ln, hln⟩ : ∃ ln, ln = pre.length := ⟨_, rfl⟩
        rw [← hln] at hown hpl
        obtain ⟨Ao, co, rfl, _, _, _⟩ := own_rd hown
        have hbwq := hb.trans (hbq.mono hzr)
        have Hown := Lib.hid hown
        have Hln := Lib.hid hln
        have hzq := hbq.size
        clear hown hln
        by_cases hc0 : c' = 0
        · subst hc0
          have hq1 : ¬ (1 : Int) < (q : Int) := by omega
          have HP := Lib.hid (show ShortPost w rs a m (.returned (.slice Ao ln co)) wq from ⟨_, _, rfl, rfl, by
            rw [← hfull]; simp only [wayK, List.append_nil, ← Hln.out]; exact own_mono Hown.out hzr, hbwq⟩)
          clear hfull hwk hmk hqc hgc hpl
          go_wp2_with fail
          go_ret
          exact HP.out
        · obtain ⟨c, rfl⟩ : ∃ c, c' = c + 1 := ⟨c' - 1, by omega⟩
          obtain ⟨k2, hbest, hk2, hed, hw2, hm2⟩ := step_ok Hg.out hwk hmk hcd
          have hq1 : (1 : Int) < (q : Int) := by omega
          have hqq : (q : Int) - 1 = ((c + 1 : Nat) : Int) := by omega
          obtain ⟨b, o, u, rfl, hbB, hu, hc⟩ := (hr.below hbwq).at_ hkn
          have hrk : rs[k]? = some (rs[k]'(by have := HN.out; omega)) := List.getElem?_eq_getElem _
          obtain ⟨r, hr0⟩ : ∃ r, r = rs[k]'(by have := HN.out; omega) := ⟨_, rfl⟩
          rw [← hr0] at hrk
          obtain ⟨Ar, mr, cr, rfl, hmr, _, _, hrr⟩ := Hs.out.2 k u r hu hrk
          have hmrb : mr ≤ 1000000000 := by rw [← hmr]; exact Hg.out.row (List.mem_of_getElem? hrk)
          have hgd : rs.getD k [] = r := by rw [List.getD_eq_getElem?_getD, hrk]; rfl
          rw [hgd] at hbest
          have Hgd := Lib.hid hgd
          have Hpos := Lib.hid (Hg.out.ok r (List.mem_of_getElem? hrk))
          have Hmr := Lib.hid hmr
          have Hbest := Lib.hid hbest
          have Hed := Lib.hid hed
          have Hw2 := Lib.hid hw2
          have Hm2 := Lib.hid hm2
          have Hfull := Lib.hid hfull
          have Hqq := Lib.hid hqq
          have Hqc := Lib.hid hqc
          have Hgc := Lib.hid hgc
          have Hpl := Lib.hid hpl
          have hq64 : q ≤ 64 := by omega
          have hln64 : ln ≤ 64 := by omega
          rw [HN.out] at hk2
          clear hu hr0 hrk hmr hgd hbest hed hw2 hm2 hfull hqq hwk hmk hqc hgc hpl hc0
          go_wp2_with fail
          go_loop [15, 94] (fun b i => ∃ (j : Nat) (x : Int), j ≤ mr ∧ i = .int .i64 (j : Int) ∧ b = .int .i64 x ∧ Hid (x = bestL (hitD (farK rs a m) (c + 1)) (r.take j))) (fun _ i => mr - (intOf i).toNat)
          case atStart => exact ⟨0, -1, Nat.zero_le _, rfl, rfl, Lib.hid rfl⟩
          case round =>
            obtain ⟨j, x, hj, rfl, rfl, hx⟩ := hrel
            by_cases hjl : j < mr
            · have hjl' : (j : Int) < (mr : Int) := by omega
              obtain ⟨bz, oz, z, rfl, hbz, hz, hcz⟩ := (hrr.below hbwq).one hjl
              have hzb := Hpos.out z (List.mem_of_getElem? hz)
              obtain ⟨kz, hkz⟩ : ∃ kz : Nat, (kz : Int) = z := ⟨z.toNat, by omega⟩
              subst hkz
              have hkzn : kz < n := by rw [HN.out] at hzb; omega
              obtain ⟨y, hy⟩ := farK_at (a := a) (List.getElem?_eq_getElem (show kz < rs.length by rw [HN.out]; exact hkzn)) m
              obtain ⟨bq, oq, y', heq, _, hy', hcy⟩ := (hfr.below hbq).one hkzn
              injection heq with heq
              injection heq with he1 he2
              subst he1 he2
              rw [hy] at hy'
              obtain rfl : y = y' := by simpa using hy'
              have hP : hitD (farK rs a m) (c + 1) (kz : Int) = decide (y = (q : Int) - 1) := by
                simp only [hitD, Int.toNat_natCast, getD_of hy, Hqq.out]
              have hnx := Lib.hid (show bestL (hitD (farK rs a m) (c + 1)) (r.take (j + 1)) = bestS (hitD (farK rs a m) (c + 1)) x (kz : Int) by
                rw [List.take_add_one, hz]; simp only [Option.toList_some]; rw [bestL_snoc, ← hx.out])
              have HP := Lib.hid hP
              clear hz hy hy' hP hzb
              by_cases hyq : y = (q : Int) - 1
              · by_cases hx0 : x < 0
                · have Hz := Lib.hid (show (kz : Int) = bestL (hitD (farK rs a m) (c + 1)) (r.take (j + 1)) by rw [hnx.out, bestS, HP.out]; simp [hyq, hx0])
                  subst hyq
                  go_wp2_with fail
                  go_round
                  case rel => exact ⟨j + 1, _, by omega, by go_num, rfl, Hz⟩
                  case measure => simp [intOf]; omega
                · by_cases hlx : (kz : Int) < x
                  · have Hz := Lib.hid (show (kz : Int) = bestL (hitD (farK rs a m) (c + 1)) (r.take (j + 1)) by rw [hnx.out, bestS, HP.out]; simp [hyq, hlx])
                    subst hyq
                    go_wp2_with fail
                    go_round
                    case rel => exact ⟨j + 1, _, by omega, by go_num, rfl, Hz⟩
                    case measure => simp [intOf]; omega
                  · have Hz := Lib.hid (show x = bestL (hitD (farK rs a m) (c + 1)) (r.take (j + 1)) by rw [hnx.out, bestS, HP.out]; simp [hyq]; omega)
                    subst hyq
                    go_wp2_with fail
                    go_round
                    case rel => exact ⟨j + 1, _, by omega, by go_num, rfl, Hz⟩
                    case measure => simp [intOf]; omega
              · have Hz := Lib.hid (show x = bestL (hitD (farK rs a m) (c + 1)) (r.take (j + 1)) by rw [hnx.out, bestS, HP.out]; simp [hyq])
                have e2 : (y == (q : Int) - 1) = false := by simp; omega
                go_wp2_with fail
                go_round
                case rel => exact ⟨j + 1, _, by omega, by go_num, rfl, Hz⟩
                case measure => simp [intOf]; omega
            · obtain rfl : j = mr := by omega
              have hx2 := hx.out
              rw [List.take_of_length_le (by rw [Hmr.out]; omega), Hbest.out] at hx2
              subst hx2
              have hlm : ln + 1 ≤ maxLen := by unfold maxLen; omega
              clear hx
              go_wp2_with (at_builtin; refine wpList_push rfl (.tmp 116) (.tmp 118) 22 rfl w0.heap.size 3 j0 (.int .i64 0) 1 8 Try.underlying22 hji hy0 hy1 hy2 rfl (by omega) _ ln _ rfl Hown.out [_] rfl rfl (by simp [Value.oneCell']) hlm (by omega) hzq ?_; intro v6 w6 hn6 hb6 _)
              have Hnew := Lib.hid (show OutRel w0 rs a m c v6 (.int .i64 (k2 : Int)) (.int .i64 ((q : Int) - 1)) w6 from ⟨c, k2, q - 1, pre ++ [(k2 : Int)], rfl, rfl, by rw [show ((q - 1 : Nat) : Int) = (q : Int) - 1 by omega], by have := Hqc.out; omega, by rw [HN.out]; exact hk2, by omega, by rw [List.length_append]; have := Hpl.out; have := Hln.out; simp; omega, Hw2.out, Hm2.out, by
                rw [← Hfull.out]
                simp only [wayK, Int.toNat_natCast, Hgd.out, Hbest.out, List.append_assoc, List.singleton_append], by
                rw [List.length_append, List.map_append, ← Hln.out]; exact hn6, hbq.trans hb6⟩)
              clear hn6 hb6
              go_roundg c
              case measure => have := Hgc.out; omega
              case rel => exact Hnew.out
end Go.Proofs.Ytambngbkegnghaa
/- ring.Find. Conditions: those typed. -/
namespace Go.Proofs.Ytambngbkegnghaa
open Go.RowKit Go.Gy
set_option linter.unusedVariables false
theorem stuckI_mem {p : Nat → Bool} {n : Nat} {x : Int} (h : x ∈ stuckI p n) : ∃ a : Nat, x = (a : Int) ∧ a < n ∧ p a = true := by
  unfold stuckI at h
  obtain ⟨a, ha, rfl⟩ := List.mem_map.1 h
  obtain ⟨h1, h2⟩ := List.mem_filter.1 ha
  exact ⟨a, rfl, List.mem_range.1 h1, h2⟩
theorem mem_stuckI {p : Nat → Bool} {n a : Nat} (h : a < n) (hp : p a = true) : (a : Int) ∈ stuckI p n := by
  unfold stuckI
  exact List.mem_map.2 ⟨a, List.mem_filter.2 ⟨List.mem_range.2 h, hp⟩, rfl⟩
def NoneIE (w : World) (c : Int) (e : Ending) (w' : World) : Prop := e = .returned (.tuple #[.slice none 0 0, .int .i64 c]) ∧ Below w.heap.size w w'
set_option maxRecDepth 100000 in
set_option maxHeartbeats 2000000 in
theorem find_none (w : World) (v : Value) (rs : List (List Int)) (hv : RowsI w w.heap.size v rs) (hg : GoodG rs) (p : Nat → Bool) (hp : ∀ i, p i = true ↔ Reach rs i i) (h0 : stuckI p rs.length = []) :
    Calls Try.prog 35 #[v] w (NoneIE w 4) := by
  have HS := Lib.hid (stuck_good w v rs hv hg p hp)
  rw [h0] at HS
  obtain ⟨A, n, c, vs, rfl, _⟩ := hv
  clear hg hp h0
  go_enter Try.func35, Try.ntmps35
  go_wp2_with fail
  refine HS.out.mono ?_
  rintro e w1 ⟨v1, rfl, hown, hb1⟩
  obtain ⟨A1, c1, rfl, _, _, _⟩ := own_rd hown
  have HP := Lib.hid (show NoneIE w 4 (.returned (.tuple #[.slice none 0 0, .int .i64 4])) w1 from ⟨rfl, hb1⟩)
  clear hown hb1 HS
  go_wp2_with fail
  go_ret2
  exact HP.out
set_option maxRecDepth 100000 in
set_option maxHeartbeats 2000000 in
theorem find_some (w : World) (v : Value) (rs : List (List Int)) (hv : RowsI w w.heap.size v rs) (hg : GoodG rs) (p : Nat → Bool) (hp : ∀ i, p i = true ↔ Reach rs i i) (a : Nat) (t : List Int) (hs : stuckI p rs.length = (a : Int) :: t)
    (d : Nat) (hd1 : 1 ≤ d) (hdn : d ≤ rs.length) (hw : Way rs a d a) (hmin : ∀ d', d' < d → ¬ Way rs a d' a) :
    Calls Try.prog 35 #[v] w (OwnIE w ((a : Int) :: wayK rs (farK rs a d) (d - 1) a)) := by
  have ha : a < rs.length := by
    obtain ⟨b, h1, h2, _⟩ := stuckI_mem (p := p) (n := rs.length) (x := (a : Int)) (by rw [hs]; simp)
    omega
  have HS := Lib.hid (stuck_good w v rs hv hg p hp)
  rw [hs] at HS
  have hH := fun w1 (hb : Below w.heap.size w w1) => shortest_any w1 v rs ((hv.below hb).more hb.size) hg a d ha hd1 hdn hw hmin
  have HH := Lib.hid hH
  obtain ⟨A, n, c, vs, rfl, _⟩ := hv
  clear hg hp hs hH hd1 hdn hw hmin ha
  go_enter Try.func35, Try.ntmps35
  go_wp2_with fail
  refine HS.out.mono ?_
  rintro e w1 ⟨v1, rfl, hown, hb1⟩
  obtain ⟨ln, hln⟩ : ∃ ln, ln = t.length := ⟨_, rfl⟩
  have hl1 : ((a : Int) :: t).length = ln + 1 := by rw [hln]; rfl
  rw [hl1] at hown
  obtain ⟨g1, c1, rfl, _, _, _⟩ := own_shape hown (by omega)
  have hc0 := hown.cellAt 0 (by omega)
  simp only [List.map_cons, List.getElem?_cons_zero] at hc0
  have HC := Lib.hid (HH.out w1 hb1)
  have hz1 := hb1.size
  have Hb1 := Lib.hid hb1
  clear hown HS hl1 hln HH hb1
  go_wp2_with fail
  refine HC.out.mono ?_
  rintro e w2 ⟨v2, l, rfl, rfl, hown2, hb2⟩
  have HP := Lib.hid (show OwnIE w ((a : Int) :: wayK rs (farK rs a d) (d - 1) a) (.returned (.tuple #[v2, .int .i64 0])) w2 from ⟨v2, rfl, own_mono hown2 hz1, Hb1.out.trans (hb2.mono hz1)⟩)
  obtain ⟨A2, c2, rfl, _, _, _⟩ := own_rd hown2
  clear hown2 hb2 HC
  go_wp2_with fail
  go_ret2
  exact HP.out
end Go.Proofs.Ytambngbkegnghaa
