/- gantmake.Cells: some valid cell set of at most 8 cells. Conditions: those typed. -/
import Derived.Test.YtaahpjjffggaiaaMakeSort
import Derived.Test.YtaahpjjffggaiaaMake
namespace Go.Proofs.Ytaahpjjffggaiaa
open Go.RowKit Go.Gy
set_option linter.unusedVariables false
theorem info_cells : (Try.prog.info? 24).map (fun i => (i.zero, i.size, i.bytes)) = some (some (.agg #[.int .i64 0, .int .i64 0]), 2, 16) := by kernel_rfl
theorem own_next {w w' : World} {base b : Nat} {e : TypeId} {size n : Nat} {v : Value} {xs : List Value} (h : w.ownsRow base e size v n xs) (hb : b < base) (hg : w.grownBy w' (some b)) : w'.ownsRow base e size v n xs :=
  h.kept hg (by
    cases hv : v.ownBlock with
    | none => exact .inl rfl
    | some g =>
      right
      intro he
      injection he with he
      have := (h.lt g hv).1
      omega)
theorem below_next {w w' w0 : World} {B b : Nat} (h : Below B w0 w) (hB : B ≤ b) (hw : B ≤ w.heap.size) (hg : w.grownBy w' (some b)) : Below B w0 w' := h.grown hg hw fun k hk => by injection hk with hk; omega
def CsRel (w : World) (r9 : Nat) (o i : Value) (wr : World) : Prop := ∃ (k n : Nat) (cs : List Cell), k ≤ r9 ∧ i = .int .i64 (k : Int) ∧ n ≤ k ∧ cs.length = n ∧ cs.Nodup ∧ (∀ c ∈ cs, (-4 ≤ c.1 ∧ c.1 ≤ 3) ∧ (-4 ≤ c.2 ∧ c.2 ≤ 3)) ∧ StrAt wr w.heap.size w.heap.size ∧ wr.ownsRow (w.heap.size + 1) 24 2 o n (cs.flatMap encC) ∧ Below w.heap.size w wr ∧ w.heap.size + 1 ≤ wr.heap.size
def CellsPost (w : World) (e : Ending) (w' : World) : Prop := ∃ (v' : Value) (cs : List Cell), e = .returned v' ∧ cs.length ≤ 8 ∧ cellsF cs = 0 ∧ w'.ownsRow w.heap.size 24 2 v' cs.length (cs.flatMap encC) ∧ Below w.heap.size w w'
theorem cells_right {cs : List Cell} (hn : cs.length ≤ 8) (hr : ∀ c ∈ cs, (-4 ≤ c.1 ∧ c.1 ≤ 3) ∧ (-4 ≤ c.2 ∧ c.2 ≤ 3)) (hs : SortC cs) : cellsF cs = 0 :=
  (cellsF_sorted cs).2 ⟨by omega, fun c hc => by have := hr c hc; unfold onC; omega, hs⟩
set_option maxRecDepth 100000 in
set_option maxHeartbeats 4000000 in
theorem cells_any (w : World) (v : Value) (l : List Int) (hv : SlI w w.heap.size v l) (hl : l.length ≤ 140737488355328) :
    Calls Try.prog 48 #[v] w (CellsPost w) := by
  obtain ⟨j0, hji, hy0, hy1, hy2⟩ := info_parts info_cells
  have hst : StrAt (w.alloc (.cells #[v] 111)) w.heap.size w.heap.size := ⟨v, l, Blk.new w _ _, hv.below ((Below.refl _ _).alloc (Nat.le_refl _) _), hl⟩
  have HN := Lib.hid (next_any _ w.heap.size w.heap.size 9 hst (Nat.le_refl _) (by omega) (by omega))
  have hb0 : Below w.heap.size w (w.alloc (.cells #[v] 111)) := (Below.refl _ _).alloc (Nat.le_refl _) _
  have Hb0 := Lib.hid hb0
  obtain ⟨A, n, c, rfl, _⟩ := id hv
  clear hst hb0 hv
  go_enter Try.func48, Try.ntmps48
  go_wp2_with fail
  refine HN.out.mono ?_
  rintro e w1 ⟨r, rfl, hr0, hr1, hst1, hg1, hs1⟩
  obtain ⟨r9, hr9⟩ : ∃ r9 : Nat, (r9 : Int) = r := ⟨r.toNat, by omega⟩
  subst hr9
  have hr8 : r9 ≤ 8 := by omega
  have Hst := Lib.hid (show CsRel w r9 (.slice none 0 0) (.int .i64 0) w1 from ⟨0, 0, [], Nat.zero_le _, rfl, Nat.le_refl _, rfl, by simp, by simp, hst1, World.ownsRow_nil _ _ _ _, below_next Hb0.out (Nat.le_refl _) (by simp) hg1, by rw [hs1]; simp⟩)
  clear HN hst1 hg1 hs1
  go_wp2_with fail
  go_loopw [4, 11] (fun o i wr => CsRel w r9 o i wr) (fun _ i _ => r9 - (intOf i).toNat)
  case atStart => exact Hst.out
  case round =>
    obtain ⟨wq, rfl⟩ : ∃ wq, wq = wr := ⟨_, rfl⟩
    obtain ⟨k, m, cs, hk, rfl, hmk, hcl, hnd, hrg, hsa, hown, hb, hz⟩ := hrel
    have Hown := Lib.hid hown
    have Hcl := Lib.hid hcl
    have Hnd := Lib.hid hnd
    have Hrg := Lib.hid hrg
    have hzq := hb.size
    obtain ⟨Ao, co, rfl, hmc, hcm, hrd⟩ := own_rd hown
    clear hown hcl hnd hrg
    by_cases hkr : k < r9
    · have hkr' : (k : Int) < (r9 : Int) := by omega
      have HN1 := Lib.hid (next_any wq w.heap.size w.heap.size 8 hsa (Nat.le_refl _) (by omega) (by omega))
      clear hsa hrd
      go_wp2_with fail
      refine HN1.out.mono ?_
      rintro e w2 ⟨x, rfl, hx0, hx1, hst2, hg2, hs2⟩
      have HN2 := Lib.hid (next_any w2 w.heap.size w.heap.size 8 hst2 (Nat.le_refl _) (by omega) (by omega))
      have Hb2 := Lib.hid (below_next hb (Nat.le_refl _) hzq hg2)
      have Hown2 := Lib.hid (own_next Hown.out (by omega) hg2)
      have hz2 : w.heap.size + 1 ≤ w2.heap.size := by omega
      clear HN1 hst2 hg2 hs2
      go_wp2_with fail
      refine HN2.out.mono ?_
      rintro e w3 ⟨y, rfl, hy0', hy1', hst3, hg3, hs3⟩
      have Hb3 := Lib.hid (below_next Hb2.out (Nat.le_refl _) (by omega) hg3)
      have hown3 := own_next Hown2.out (by omega) hg3
      have Hown3 := Lib.hid hown3
      have hz3 : w.heap.size + 1 ≤ w3.heap.size := by omega
      have Hst3 := Lib.hid hst3
      obtain ⟨_, _, he3, hmc3, _, hrd3⟩ := own_rd hown3
      injection he3 with e1 e2 e3
      subst e1 e3
      have hbox := Blk.new w3 24 #[.int .i64 (x - 4), .int .i64 (y - 4)]
      have hal : Below w3.heap.size w3 (w3.alloc (.cells #[.int .i64 (x - 4), .int .i64 (y - 4)] 24)) := (Below.refl _ _).alloc (Nat.le_refl _) _
      have HC := Lib.hid (contains_cells (w3.alloc (.cells #[.int .i64 (x - 4), .int .i64 (y - 4)] 24)) Ao m co w3.heap.size cs (x - 4) (y - 4) Hcl.out (by omega) (hrd3.alloc (Nat.le_refl _) _) (by simp))
      have Hbox := Lib.hid hbox
      have Hal := Lib.hid hal
      clear HN2 hst3 hg3 hs3 hown3 hrd3 hbox hal
      go_wp2_with fail
      refine HC.out.mono ?_
      rintro e w4 ⟨rfl, hb4⟩
      have hb34 := Hal.out.trans (hb4.mono (by simp))
      have Hown4 := Lib.hid (own_below Hown3.out hb34 (Nat.le_refl _))
      have hbox4 := Hbox.out.below hb4 (by simp)
      have hc0 := hbox4.cell 0 _ rfl
      have hc1 := hbox4.cell 1 _ rfl
      have hz4 : w.heap.size + 1 ≤ w4.heap.size := by have := hb34.size; omega
      have Hst4 := Lib.hid (show StrAt w4 w.heap.size w.heap.size from by
        obtain ⟨v', l', h1, h2, h3⟩ := Hst3.out
        exact ⟨v', l', h1.below hb34 (by omega), h2.below (hb34.mono (by omega)), h3⟩)
      have Hb4 := Lib.hid (Hb3.out.trans (hb34.mono (by omega)))
      clear HC hb4 hb34 hbox4
      by_cases hin : (x - 4, y - 4) ∈ cs
      · rw [decide_eq_true hin]
        have Hnx := Lib.hid (show CsRel w r9 (.slice Ao m co) (.int .i64 ((k : Int) + 1)) w4 from ⟨k + 1, m, cs, by omega, by go_num, by omega, Hcl.out, Hnd.out, Hrg.out, Hst4.out, Hown4.out, Hb4.out, hz4⟩)
        clear hin
        go_wp2_with fail
        go_roundw
        case rel => exact Hnx.out
        case measure => simp [intOf]; omega
      · rw [decide_eq_false hin]
        have Hin := Lib.hid hin
        have hlm : m + 1 ≤ maxLen := by unfold maxLen; omega
        clear hin
        go_wp2_with (at_builtin; refine wpList_push rfl (.tmp 24) (.tmp 26) 25 rfl (w.heap.size + 1) 24 j0 (.agg #[.int .i64 0, .int .i64 0]) 2 16 Try.underlying25 hji hy0 hy1 hy2 rfl (by omega) _ m _ rfl Hown4.out [.int .i64 (x - 4), .int .i64 (y - 4)] rfl rfl (by simp [Value.oneCell']) hlm (by omega) hz4 ?_; intro v6 w6 hn6 hb6 _)
        have Hnx := Lib.hid (show CsRel w r9 v6 (.int .i64 ((k : Int) + 1)) w6 from ⟨k + 1, m + 1, cs ++ [(x - 4, y - 4)], by omega, by go_num, by omega, by rw [List.length_append, Hcl.out]; rfl, by
          rw [List.nodup_append]
          refine ⟨Hnd.out, by simp, fun a ha b hb => ?_⟩
          simp at hb; subst hb
          rintro rfl; exact Hin.out ha, by
          intro c hc
          rcases List.mem_append.1 hc with h | h
          · exact Hrg.out c h
          · simp at h; subst h; simp only; omega, by
          obtain ⟨v', l', h1, h2, h3⟩ := Hst4.out
          exact ⟨v', l', h1.below hb6 (by omega), h2.below (hb6.mono (by omega)), h3⟩, by
          rw [List.flatMap_append]; exact hn6, Hb4.out.trans (hb6.mono (by omega)), by have := hb6.size; omega⟩)
        clear hn6 hb6
        go_roundw
        case rel => exact Hnx.out
        case measure => simp [intOf]; omega
    · obtain rfl : k = r9 := by omega
      by_cases hm0 : m = 0
      · subst hm0
        have HS := Lib.hid (sort_none wq Ao co (.func (.func 70) #[] #[]))
        have HP := Lib.hid (show CellsPost w (.returned (.slice Ao 0 co)) wq from ⟨_, [], rfl, Nat.zero_le _, rfl, by
          have hcs : cs = [] := List.eq_nil_of_length_eq_zero Hcl.out
          have h1 := Hown.out
          rw [hcs] at h1
          exact own_mono h1 (by omega), hb⟩)
        clear hsa hrd
        go_wp2_with fail
        refine HS.out.mono ?_
        rintro e w' ⟨rfl, rfl⟩
        clear HS
        go_wp2_with fail
        go_ret
        exact HP.out
      · obtain ⟨g, co', he, hmc', hgb, hgl⟩ := own_shape Hown.out (by omega)
        injection he with e1 e2 e3
        subst e1 e3
        have HS := Lib.hid (sort_make wq (w.heap.size + 1) g m co cs Hcl.out (by omega) Hrg.out Hnd.out hz Hown.out)
        clear hsa hrd
        go_wp2_with fail
        refine HS.out.mono ?_
        rintro e w5 ⟨rfl, l', hp, hs, hown5, hb5⟩
        have hl5 : l'.length = m := by rw [hp.length_eq, Hcl.out]
        have HP := Lib.hid (show CellsPost w (.returned (.slice (some ⟨g, 0, none⟩) m co)) w5 from ⟨_, l', rfl, by omega, cells_right (by omega) (fun c hc => Hrg.out c ((hp.mem_iff).1 hc)) hs, by rw [hl5]; exact own_mono hown5 (by omega), hb.trans (hb5.mono (by omega))⟩)
        clear HS hp hs hown5 hb5 hl5
        go_wp2_with fail
        go_ret
        exact HP.out
end Go.Proofs.Ytaahpjjffggaiaa
