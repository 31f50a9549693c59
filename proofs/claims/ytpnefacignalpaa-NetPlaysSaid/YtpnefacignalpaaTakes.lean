/- gantlaw5.takes, walked. Conditions: those typed. -/
import Derived.Test.YtpnefacignalpaaFlights
import Derived.Test.YtpnefacignalpaaEqMsg
import Derived.Test.YtpnefacignalpaaPlainN
import Derived.Test.YtpnefacignalpaaCapJ
namespace Go.Proofs.Ytpnefacignalpaa
open Go.RowKit Go.Gy
set_option linter.unusedVariables false
set_option linter.unusedSimpArgs false
theorem info_flight : (Try.prog.info? 86).map (fun i => (i.zero, i.size, i.bytes)) = some (some (.agg #[.int .i64 0, .int .i64 0, .int .i64 0, .int .i64 0, .int .i64 0, .int .u32 0, .slice none 0 0]), 7, 72) := by kernel_rfl
/-- the flights that the law keeps: the box of their slice at p; the messages' cells stand below base -/
structure WayAt (W : World) (base p : Nat) (v : Value) (ks : List SE) : Prop where
  lo : base ≤ p
  box : Blk W p 50 #[v]
  row : W.ownsRow base 86 7 v ks.length (ks.flatMap encS)
  ms : ∀ k ∈ ks, MsgAt W base k.2.m k.2.A k.2.n k.2.c
section
variable {P : Program} {ops : Array Oper} {rest : List Oper} {o : Oper} {a : Act} {w w' : World} {Q : Exit → Act → World → Prop}
/-- one operation, its value said -/
theorem wpList_val {v : Value} (hgd : o.guard = none) (h : (execOp a.eval o).run P w = .ok (.value v) w') (hk : wpList P ops Q rest (a.put o.dst v) w') : wpList P ops Q (o :: rest) a w :=
  wpList_plain hgd fun _ hK => by
    unfold Oper.wp
    rw [h]
    exact hK _ _ hk
end
/-- what loop 2 gathers -/
theorem takes_q {ks E Q : List SE} {tick rcv : Int} {D : Nat} (hD : D = 5001) (hE : E = ks.filter (goesS tick rcv)) (hQ : Q = (List.range D).flatMap (fun d => E.filter (fun x => decide (x.1 = ((d : Nat) : Int))))) : Q.map absK = takeL (ks.map absK) tick rcv := by
  subst hD
  rw [hQ, hE]
  unfold takeL dueSort
  rw [List.map_flatMap]
  congr 1
  funext d
  rw [List.filter_map, List.filter_map]
  rfl
theorem takes_rest {ks F : List SE} {tick rcv : Int} (hF : F = ks.filter (fun k => !goesS tick rcv k)) : F.map absK = restL (ks.map absK) tick rcv := by
  rw [hF]
  unfold restL
  rw [List.filter_map]
  rfl
theorem WayAt.below {W W' : World} {base p : Nat} {v : Value} {ks : List SE} (h : WayAt W base p v ks) (hb : Below W.heap.size W W') : WayAt W' base p v ks :=
  have hl : base ≤ W.heap.size := by have := h.lo; have := h.box.lt; omega
  ⟨h.lo, h.box.below hb h.box.lt, own_below h.row hb (Nat.le_refl _), fun k hk => (h.ms k hk).below (hb.mono hl)⟩
def W1Rel (w : World) (tick rcv : Int) (ks : List SE) (h r i : Value) (wr : World) : Prop := ∃ j : Nat, j ≤ ks.length ∧ i = .int .i64 j ∧ wr.ownsRow w.heap.size 86 7 h ((ks.take j).filter (goesS tick rcv)).length (((ks.take j).filter (goesS tick rcv)).flatMap encS) ∧
  wr.ownsRow w.heap.size 86 7 r ((ks.take j).filter (fun k => !goesS tick rcv k)).length (((ks.take j).filter (fun k => !goesS tick rcv k)).flatMap encS) ∧ (∀ g, h.ownBlock = some g → r.ownBlock ≠ some g) ∧ Below w.heap.size w wr
def W2Rel (w5 : World) (E : List SE) (want due : Value) (wr : World) : Prop := ∃ (D : Nat) (Q : List SE), D ≤ 5001 ∧ due = .int .i64 D ∧ Q = (List.range D).flatMap (fun d => E.filter (fun x => decide (x.1 = ((d : Nat) : Int)))) ∧ wr.ownsRow w5.heap.size 43 6 want Q.length ((Q.map (·.2)).flatMap encM) ∧ Below w5.heap.size w5 wr
def W3Rel (w5 : World) (E Q : List SE) (D : Nat) (want i : Value) (wr : World) : Prop := ∃ j : Nat, j ≤ E.length ∧ i = .int .i64 j ∧ wr.ownsRow w5.heap.size 43 6 want (Q ++ (E.take j).filter (fun x => decide (x.1 = (D : Int)))).length (((Q ++ (E.take j).filter (fun x => decide (x.1 = (D : Int)))).map (·.2)).flatMap encM) ∧ Below w5.heap.size w5 wr
def TakesPost (w : World) (base B p : Nat) (FS : List GF) (T : Int) (ks : List SE) (tick rcv : Int) (e : Ending) (w' : World) : Prop :=
  e = .returned (.bool true) ∧ (∃ v', NetAt w' base B FS T v' (restL (ks.map absK) tick rcv)) ∧ (∃ u' ks', WayAt w' base p u' ks' ∧ ks'.map absK = restL (ks.map absK) tick rcv) ∧ Below base w w'
set_option maxRecDepth 100000 in
set_option maxHeartbeats 8000000 in
theorem takes_any (w : World) (base B p : Nat) (FS : List GF) (T : Int) (v u : Value) (ks : List SE) (h : NetAt w base B FS T v (ks.map absK)) (hbase : base ≤ w.heap.size) (hw : WayAt w base p u ks) (tick rcv : Int) :
    Calls Try.prog 17 #[.pointer (some ⟨B, 0, none⟩), .pointer (some ⟨p, 0, none⟩), .int .i64 tick, .int .i64 rcv] w (TakesPost w base B p FS T ks tick rcv) := by
  have HN := Lib.hid h
  have HWY := Lib.hid hw
  have hkl : ks.length ≤ 1000 := by rw [← List.length_map (f := absK)]; exact h.ok.1
  have HOK := Lib.hid h.ok
  obtain ⟨Av, cv, rfl, _, _, hrv⟩ := own_rd hw.row
  obtain ⟨i0, hi0, hz0, hz1, hz2⟩ := info_parts info_flight
  obtain ⟨j0, hj0, hy0, hy1, hy2⟩ := info_parts info_msgI
  have c0 := hw.box.cell 0 _ rfl
  have HRV := Lib.hid hrv
  have hst := Lib.hid (show W1Rel w tick rcv ks (.slice none 0 0) (.slice none 0 0) (.int .i64 0) w from ⟨0, Nat.zero_le _, rfl, World.ownsRow_nil _ _ _ _, World.ownsRow_nil _ _ _ _, (fun g hg => by cases hg), Below.refl _ _⟩)
  clear h hw hrv
  go_enter Try.func17, Try.ntmps17
  go_wp2_with fail
  go_loopw [9, 10, 21] (fun h r i wr => W1Rel w tick rcv ks h r i wr) (fun _ _ i _ => ks.length - (intOf i).toNat)
  case atStart => exact hst.out
  case round =>
    clear hst c0
    obtain ⟨j, hj, rfl, hoh, hor, hap, hbr⟩ := hrel
    obtain ⟨Ah, ch, rfl, _, _, _⟩ := own_rd hoh
    obtain ⟨Ar, cr, rfl, _, _, _⟩ := own_rd hor
    obtain ⟨E, hE⟩ : ∃ E, E = (ks.take j).filter (goesS tick rcv) := ⟨_, rfl⟩
    obtain ⟨F, hF⟩ : ∃ F, F = (ks.take j).filter (fun k => !goesS tick rcv k) := ⟨_, rfl⟩
    rw [← hE] at hoh hap ⊢
    rw [← hF] at hor hap ⊢
    have hEl : E.length ≤ 1000 := by rw [hE]; exact Nat.le_trans (List.length_filter_le _ _) (by rw [List.length_take]; omega)
    have hFl : F.length ≤ 1000 := by rw [hF]; exact Nat.le_trans (List.length_filter_le _ _) (by rw [List.length_take]; omega)
    have HE := Lib.hid hE
    have HF := Lib.hid hF
    have hz := hbr.size
    by_cases hlt : j < ks.length
    · have hji : (j : Int) < (ks.length : Int) := by omega
      have hwj : IntKind.i64.wrap ((j : Int) + 1) = (j : Int) + 1 := by rw [IntKind.wrap_i64]; omega
      obtain ⟨bf, of, ⟨d, ⟨⟨mk, ms, mt, mq, mc, ml⟩, A, n, c⟩⟩, rfl, hbB, hg, hcc⟩ := (HRV.out.below hbr).elem encS_len rfl hlt
      have x0 : wr.cell? ⟨bf, of + j * 7, none⟩ = some (.int .i64 d) := hcc 0 _ rfl
      have x1 : wr.cell? ⟨bf, of + j * 7 + 1, none⟩ = some (.int .i64 mk) := hcc 1 _ rfl
      have x2 : wr.cell? ⟨bf, of + j * 7 + 2, none⟩ = some (.int .i64 ms) := hcc 2 _ rfl
      have x3 : wr.cell? ⟨bf, of + j * 7 + 3, none⟩ = some (.int .i64 mt) := hcc 3 _ rfl
      have x4 : wr.cell? ⟨bf, of + j * 7 + 4, none⟩ = some (.int .i64 mq) := hcc 4 _ rfl
      have x5 : wr.cell? ⟨bf, of + j * 7 + 5, none⟩ = some (.int .u32 mc) := hcc 5 _ rfl
      have x6 : wr.cell? ⟨bf, of + j * 7 + 6, none⟩ = some (.slice A n c) := hcc 6 _ rfl
      have htk : ks.take (j + 1) = ks.take j ++ [(d, ⟨⟨mk, ms, mt, mq, mc, ml⟩, A, n, c⟩)] := by
        obtain ⟨hj', e⟩ := List.getElem?_eq_some_iff.1 hg
        rw [List.take_succ_eq_append_getElem hj', e]
      have HYES := Lib.hid (fun (W : World) (u : Value) (hgo : goesS tick rcv (d, ⟨⟨mk, ms, mt, mq, mc, ml⟩, A, n, c⟩) = true) (h1 : W.ownsRow w.heap.size 86 7 u (E.length + 1) (E.flatMap encS ++ encS (d, ⟨⟨mk, ms, mt, mq, mc, ml⟩, A, n, c⟩))) (h2 : W.ownsRow w.heap.size 86 7 (.slice Ar F.length cr) F.length (F.flatMap encS)) (h3 : ∀ g, u.ownBlock = some g → (Value.slice Ar F.length cr).ownBlock ≠ some g) (h4 : Below w.heap.size w W) => show W1Rel w tick rcv ks u (.slice Ar F.length cr) (.int .i64 ((j : Int) + 1)) W from ⟨j + 1, hlt, by simp, by
        rw [htk, List.filter_append, ← HE.out, List.filter_cons_of_pos hgo, List.filter_nil, List.length_append, List.flatMap_append]
        simpa using h1, by
        rw [htk, List.filter_append, ← HF.out, List.filter_cons_of_neg (by simp [hgo]), List.filter_nil, List.append_nil]
        exact h2, h3, h4⟩)
      have HNO := Lib.hid (fun (W : World) (u : Value) (hgo : goesS tick rcv (d, ⟨⟨mk, ms, mt, mq, mc, ml⟩, A, n, c⟩) = false) (h1 : W.ownsRow w.heap.size 86 7 u (F.length + 1) (F.flatMap encS ++ encS (d, ⟨⟨mk, ms, mt, mq, mc, ml⟩, A, n, c⟩))) (h2 : W.ownsRow w.heap.size 86 7 (.slice Ah E.length ch) E.length (E.flatMap encS)) (h3 : ∀ g, (Value.slice Ah E.length ch).ownBlock = some g → u.ownBlock ≠ some g) (h4 : Below w.heap.size w W) => show W1Rel w tick rcv ks (.slice Ah E.length ch) u (.int .i64 ((j : Int) + 1)) W from ⟨j + 1, hlt, by simp, by
        rw [htk, List.filter_append, ← HE.out, List.filter_cons_of_neg (by simp [hgo]), List.filter_nil, List.append_nil]
        exact h2, by
        rw [htk, List.filter_append, ← HF.out, List.filter_cons_of_pos (by simp [hgo]), List.filter_nil, List.length_append, List.flatMap_append]
        simpa using h1, h3, h4⟩)
      have HAP := Lib.hid hap
      have HBR := Lib.hid hbr
      clear hcc hg htk hE hF hap hbr
      go_upto_region 5 with (fail)
      have hk3 := Blk.new wr 86 #[.int .i64 d, .int .i64 mk, .int .i64 ms, .int .i64 mt, .int .i64 mq, .int .u32 mc, .slice A n c]
      have hb3 : Below wr.heap.size wr (wr.alloc (.cells #[.int .i64 d, .int .i64 mk, .int .i64 ms, .int .i64 mt, .int .i64 mq, .int .u32 mc, .slice A n c] 86)) := (Below.refl _ _).alloc (Nat.le_refl _) _
      generalize wr.alloc (.cells #[.int .i64 d, .int .i64 mk, .int .i64 ms, .int .i64 mt, .int .i64 mq, .int .u32 mc, .slice A n c] 86) = w3 at hk3 hb3 ⊢
      have y0 := hk3.cell 0 _ rfl
      have y1 := hk3.cell 1 _ rfl
      have y2 := hk3.cell 2 _ rfl
      have y3 := hk3.cell 3 _ rfl
      have y4 := hk3.cell 4 _ rfl
      have y5 := hk3.cell 5 _ rfl
      have y6 := hk3.cell 6 _ rfl
      have hh3 := own_below hoh hb3 (Nat.le_refl _)
      have hr3 := own_below hor hb3 (Nat.le_refl _)
      have hz3 : w.heap.size ≤ w3.heap.size := Nat.le_trans hz hb3.size
      have HB3 := Lib.hid (HBR.out.trans (hb3.mono hz))
      have HH3 := Lib.hid hh3
      have HR3 := Lib.hid hr3
      clear hk3 hb3 x0 x1 x2 x3 x4 x5 x6 hoh hor hh3 hr3
      by_cases hto : mt = rcv
      · subst hto
        by_cases hd : d ≤ tick
        · have hgo : goesS tick mt (d, ⟨⟨mk, ms, mt, mq, mc, ml⟩, A, n, c⟩) = true := by simp [goesS, goesB, absK, hd]
          go_wp2_with (at_builtin; refine wpList_pushN rfl (.tmp 36) (.tmp 38) 50 rfl w.heap.size 86 i0 (.agg #[.int .i64 0, .int .i64 0, .int .i64 0, .int .i64 0, .int .i64 0, .int .u32 0, .slice none 0 0]) 7 72 Try.underlying50 hi0 hz0 hz1 hz2 rfl (by omega) _ E.length _ rfl HH3.out [.int .i64 d, .int .i64 mk, .int .i64 ms, .int .i64 mt, .int .i64 mq, .int .u32 mc, .slice A n c] rfl rfl (by simp [Value.oneCell']) (by unfold maxLen; omega) (by omega) hz3 ?_; intro v4 w4 hn4 hm4 hv4 hs4; have HX := Lib.hid (HYES.out w4 v4 hgo hn4 (hm4.own HR3.out (fun g cs hg _ hf => HAP.out g hf hg)) (fun g hg hf => (hv4 g hg).elim (fun h => HAP.out g h hf) (fun h => by have := (HR3.out.lt g hf).2; omega)) (HB3.out.trans (hm4.below (fun k hk hf => by have := (HH3.out.lt k hf).1; omega) hz3))); obtain ⟨g4, c4, rfl⟩ := hs4; clear hn4 hm4 hv4)
          go_roundw
          case rel => exact HX.out
          case measure => simp [intOf]; omega
        · have hgo : goesS tick mt (d, ⟨⟨mk, ms, mt, mq, mc, ml⟩, A, n, c⟩) = false := by simp [goesS, goesB, absK, hd]
          go_wp2_with (at_builtin; refine wpList_pushN rfl (.tmp 40) (.tmp 42) 50 rfl w.heap.size 86 i0 (.agg #[.int .i64 0, .int .i64 0, .int .i64 0, .int .i64 0, .int .i64 0, .int .u32 0, .slice none 0 0]) 7 72 Try.underlying50 hi0 hz0 hz1 hz2 rfl (by omega) _ F.length _ rfl HR3.out [.int .i64 d, .int .i64 mk, .int .i64 ms, .int .i64 mt, .int .i64 mq, .int .u32 mc, .slice A n c] rfl rfl (by simp [Value.oneCell']) (by unfold maxLen; omega) (by omega) hz3 ?_; intro v4 w4 hn4 hm4 hv4 hs4; have HX := Lib.hid (HNO.out w4 v4 hgo hn4 (hm4.own HH3.out (fun g cs hg _ hf => HAP.out g hg hf)) (fun g hg hf => (hv4 g hf).elim (fun h => HAP.out g hg h) (fun h => by have := (HH3.out.lt g hg).2; omega)) (HB3.out.trans (hm4.below (fun k hk hf => by have := (HR3.out.lt k hf).1; omega) hz3))); obtain ⟨g4, c4, rfl⟩ := hs4; clear hn4 hm4 hv4)
          go_roundw
          case rel => exact HX.out
          case measure => simp [intOf]; omega
      · have hq : (mt == rcv) = false := by simpa using hto
        have hgo : goesS tick rcv (d, ⟨⟨mk, ms, mt, mq, mc, ml⟩, A, n, c⟩) = false := by simp [goesS, goesB, absK, hto]
        go_wp2_with (at_builtin; refine wpList_pushN rfl (.tmp 40) (.tmp 42) 50 rfl w.heap.size 86 i0 (.agg #[.int .i64 0, .int .i64 0, .int .i64 0, .int .i64 0, .int .i64 0, .int .u32 0, .slice none 0 0]) 7 72 Try.underlying50 hi0 hz0 hz1 hz2 rfl (by omega) _ F.length _ rfl HR3.out [.int .i64 d, .int .i64 mk, .int .i64 ms, .int .i64 mt, .int .i64 mq, .int .u32 mc, .slice A n c] rfl rfl (by simp [Value.oneCell']) (by unfold maxLen; omega) (by omega) hz3 ?_; intro v4 w4 hn4 hm4 hv4 hs4; have HX := Lib.hid (HNO.out w4 v4 hgo hn4 (hm4.own HH3.out (fun g cs hg _ hf => HAP.out g hg hf)) (fun g hg hf => (hv4 g hf).elim (fun h => HAP.out g hg h) (fun h => by have := (HH3.out.lt g hg).2; omega)) (HB3.out.trans (hm4.below (fun k hk hf => by have := (HR3.out.lt k hf).1; omega) hz3))); obtain ⟨g4, c4, rfl⟩ := hs4; clear hn4 hm4 hv4)
        go_roundw
        case rel => exact HX.out
        case measure => simp [intOf]; omega
    · obtain rfl : j = ks.length := by omega
      have hji : ¬ (ks.length : Int) < (ks.length : Int) := by omega
      rw [List.take_length] at hE hF
      have hE0 : ∀ x ∈ E, 0 ≤ x.1 ∧ x.1 ≤ 4001 := fun x hx => by
        rw [hE] at hx
        have := HOK.out.2 (absK x) (List.mem_map_of_mem (List.mem_filter.1 hx).1)
        exact ⟨this.1, this.2.1⟩
      have HE0 := Lib.hid hE0
      have HBR := Lib.hid hbr
      have HOH := Lib.hid hoh
      have HOR := Lib.hid hor
      have HE2 := Lib.hid hE
      have HF2 := Lib.hid hF
      obtain ⟨w5, rfl⟩ : ∃ w5, w5 = wr := ⟨_, rfl⟩
      obtain ⟨_, _, hse, _, _, hrE⟩ := own_rd hoh
      injection hse with e1 e2 e3
      subst e1 e3
      have HRE := Lib.hid hrE
      have hst2 := Lib.hid (show W2Rel w5 E (.slice none 0 0) (.int .i64 0) w5 from ⟨0, [], by omega, rfl, rfl, World.ownsRow_nil _ _ _ _, Below.refl _ _⟩)
      clear hE hF HE HF hbr hoh hor hap hE0 hrE e2
      go_wp2_with fail
      go_loopw [13, 14] (fun want due wr => W2Rel w5 E want due wr) (fun _ due _ => 5001 - (intOf due).toNat)
      case atStart => exact hst2.out
      case round =>
        clear hst2
        obtain ⟨D, Q, hD, rfl, hQ, hwo, hbq⟩ := hrel
        obtain ⟨Aw, cw, rfl, _, _, _⟩ := own_rd hwo
        have hQp : (Q).Perm (E.filter (fun x => decide (x.1 < (D : Int)))) := by
          rw [hQ]
          exact split_due (fun x : SE => x.1) E (fun x hx => (HE0.out x hx).1) D
        have hQl : Q.length ≤ 1000 := by rw [hQp.length_eq]; exact Nat.le_trans (List.length_filter_le _ _) hEl
        have HQ := Lib.hid hQ
        clear hQ hQp
        by_cases hD5 : D ≤ 5000
        · as_aux_lemma =>
          have hDi : (D : Int) ≤ 5000 := by omega
          have hwD : IntKind.i64.wrap ((D : Int) + 1) = (D : Int) + 1 := by rw [IntKind.wrap_i64]; omega
          have hst3 := Lib.hid (show W3Rel w5 E Q D (.slice Aw Q.length cw) (.int .i64 0) wr from ⟨0, Nat.zero_le _, rfl, by
            rw [List.take_zero, List.filter_nil, List.append_nil]
            exact hwo, hbq⟩)
          clear hwo hbq
          go_wp2_with fail
          go_loopw [13, 51] (fun want i wr => W3Rel w5 E Q D want i wr) (fun _ i _ => E.length - (intOf i).toNat)
          case atStart => exact hst3.out
          case round =>
            clear hst3
            obtain ⟨j, hj, rfl, hou, hbr⟩ := hrel
            obtain ⟨N, hN⟩ : ∃ N, N = (Q ++ (E.take j).filter (fun x => decide (x.1 = (D : Int)))).length := ⟨_, rfl⟩
            obtain ⟨R, hR⟩ : ∃ R, R = ((Q ++ (E.take j).filter (fun x => decide (x.1 = (D : Int)))).map (·.2)).flatMap encM := ⟨_, rfl⟩
            have hNl : N ≤ 2000 := by
              rw [hN, List.length_append]
              have := List.length_filter_le (fun x : SE => decide (x.1 = (D : Int))) (E.take j)
              rw [List.length_take] at this
              omega
            rw [← hN, ← hR] at hou
            obtain ⟨Ao, co, rfl, _, _, _⟩ := own_rd hou
            have hz := hbr.size
            by_cases hlt : j < E.length
            · have hji : (j : Int) < (E.length : Int) := by omega
              have hwj : IntKind.i64.wrap ((j : Int) + 1) = (j : Int) + 1 := by rw [IntKind.wrap_i64]; omega
              obtain ⟨bf, of, ⟨d, ⟨⟨mk, ms, mt, mq, mc, ml⟩, A, n, c⟩⟩, rfl, hbB, hg, hcc⟩ := (HRE.out.below hbr).elem encS_len rfl hlt
              have x0 : wr.cell? ⟨bf, of + j * 7, none⟩ = some (.int .i64 d) := hcc 0 _ rfl
              have x1 : wr.cell? ⟨bf, of + j * 7 + 1, none⟩ = some (.int .i64 mk) := hcc 1 _ rfl
              have x2 : wr.cell? ⟨bf, of + j * 7 + 2, none⟩ = some (.int .i64 ms) := hcc 2 _ rfl
              have x3 : wr.cell? ⟨bf, of + j * 7 + 3, none⟩ = some (.int .i64 mt) := hcc 3 _ rfl
              have x4 : wr.cell? ⟨bf, of + j * 7 + 4, none⟩ = some (.int .i64 mq) := hcc 4 _ rfl
              have x5 : wr.cell? ⟨bf, of + j * 7 + 5, none⟩ = some (.int .u32 mc) := hcc 5 _ rfl
              have x6 : wr.cell? ⟨bf, of + j * 7 + 6, none⟩ = some (.slice A n c) := hcc 6 _ rfl
              have htk : E.take (j + 1) = E.take j ++ [(d, ⟨⟨mk, ms, mt, mq, mc, ml⟩, A, n, c⟩)] := by
                obtain ⟨hj', e⟩ := List.getElem?_eq_some_iff.1 hg
                rw [List.take_succ_eq_append_getElem hj', e]
              have HYES := Lib.hid (fun (W : World) (u : Value) (hd : d = (D : Int)) (h1 : W.ownsRow w5.heap.size 43 6 u (N + 1) (R ++ encM ⟨⟨mk, ms, mt, mq, mc, ml⟩, A, n, c⟩)) (h4 : Below w5.heap.size w5 W) => show W3Rel w5 E Q D u (.int .i64 ((j : Int) + 1)) W from ⟨j + 1, hlt, by simp, by
                rw [htk, List.filter_append, List.filter_cons_of_pos (by simpa using hd), List.filter_nil, ← List.append_assoc, List.length_append, ← hN, List.map_append, List.flatMap_append, ← hR]
                simpa using h1, h4⟩)
              have HNO := Lib.hid (fun (W : World) (u : Value) (hd : ¬ d = (D : Int)) (h1 : W.ownsRow w5.heap.size 43 6 u N R) (h4 : Below w5.heap.size w5 W) => show W3Rel w5 E Q D u (.int .i64 ((j : Int) + 1)) W from ⟨j + 1, hlt, by simp, by
                rw [htk, List.filter_append, List.filter_cons_of_neg (by simpa using hd), List.filter_nil, List.append_nil, ← hN, ← hR]
                exact h1, h4⟩)
              have HBQ := Lib.hid hbr
              clear hcc hg htk hbr hN hR
              go_upto_region 16 with (fail)
              have hk3 := Blk.new wr 86 #[.int .i64 d, .int .i64 mk, .int .i64 ms, .int .i64 mt, .int .i64 mq, .int .u32 mc, .slice A n c]
              have hb3 : Below wr.heap.size wr (wr.alloc (.cells #[.int .i64 d, .int .i64 mk, .int .i64 ms, .int .i64 mt, .int .i64 mq, .int .u32 mc, .slice A n c] 86)) := (Below.refl _ _).alloc (Nat.le_refl _) _
              generalize wr.alloc (.cells #[.int .i64 d, .int .i64 mk, .int .i64 ms, .int .i64 mt, .int .i64 mq, .int .u32 mc, .slice A n c] 86) = w6 at hk3 hb3 ⊢
              have y0 := hk3.cell 0 _ rfl
              have y1 := hk3.cell 1 _ rfl
              have y2 := hk3.cell 2 _ rfl
              have y3 := hk3.cell 3 _ rfl
              have y4 := hk3.cell 4 _ rfl
              have y5 := hk3.cell 5 _ rfl
              have y6 := hk3.cell 6 _ rfl
              have ho6 := own_below hou hb3 (Nat.le_refl _)
              have hz6 : w5.heap.size ≤ w6.heap.size := Nat.le_trans hz hb3.size
              have HB6 := Lib.hid (HBQ.out.trans (hb3.mono hz))
              have HO6 := Lib.hid ho6
              clear hk3 hb3 x0 x1 x2 x3 x4 x5 x6 hou ho6
              by_cases hdD : d = (D : Int)
              · subst hdD
                go_upto_region 17 with (fail)
                have HYZ := Lib.hid (fun v4 w4' hn4 hb4 => HYES.out w4' v4 rfl hn4 (HB6.out.trans hb4))
                clear HYES HNO hi0 hz0 hz1 hz2
                refine wp_region_lit ?_
                refine wpList_val rfl (v := .slice Ao N co) (w' := w6) ?_ ?_
                · go_simp
                simp only [Act.put, List.setIfInBounds_toArray, List.set_cons_zero, List.set_cons_succ]
                refine wpList_val rfl (v := .pointer (some ⟨wr.heap.size, 1, none⟩)) (w' := w6) ?_ ?_
                · go_simp
                simp only [Act.put, List.setIfInBounds_toArray, List.set_cons_zero, List.set_cons_succ]
                refine wpList_val rfl (v := .agg #[.int .i64 mk, .int .i64 ms, .int .i64 mt, .int .i64 mq, .int .u32 mc, .slice A n c]) (w' := w6) ?_ ?_
                · go_simp
                simp only [Act.put, List.setIfInBounds_toArray, List.set_cons_zero, List.set_cons_succ]
                refine wpList_val rfl (v := .slice (some ⟨w6.heap.size, 0, none⟩) 1 1) (w' := w6.alloc (.cells #[.int .i64 mk, .int .i64 ms, .int .i64 mt, .int .i64 mq, .int .u32 mc, .slice A n c] 43)) ?_ ?_
                · exact exec_lit (.tmp 61) rfl _ _ _ _ _ _ _ _ rfl
                simp only [Act.put, List.setIfInBounds_toArray, List.set_cons_zero, List.set_cons_succ]
                refine wpList_pushN rfl (.tmp 59) (.tmp 62) 23 rfl w5.heap.size 43 j0 (.agg #[.int .i64 0, .int .i64 0, .int .i64 0, .int .i64 0, .int .u32 0, .slice none 0 0]) 6 64 Try.underlying23 hj0 hy0 hy1 hy2 rfl (by omega) (.slice Ao N co) N R rfl HO6.out [.int .i64 mk, .int .i64 ms, .int .i64 mt, .int .i64 mq, .int .u32 mc, .slice A n c] rfl rfl (by simp [Value.oneCell']) (by unfold maxLen; omega) (by omega) hz6 ?_
                intro v4 w4' hn4 hm4 hv4 hs4
                have HX := Lib.hid (HYZ.out v4 w4' hn4 (hm4.below (fun k hk hf => by have := (HO6.out.lt k hf).1; omega) hz6))
                obtain ⟨g4, c4, rfl⟩ := hs4
                clear hn4 hm4 hv4
                simp only [Act.put, List.setIfInBounds_toArray, List.set_cons_zero, List.set_cons_succ]
                go_wp2_with fail
                go_roundw
                case rel => exact HX.out
                case measure => simp [intOf]; omega
              · have hdq : (d == (D : Int)) = false := by simpa using hdD
                have HX := Lib.hid (HNO.out w6 _ hdD HO6.out HB6.out)
                go_wp2
                go_roundw
                case rel => exact HX.out
                case measure => simp [intOf]; omega
            · obtain rfl : j = E.length := by omega
              have hji : ¬ (E.length : Int) < (E.length : Int) := by omega
              have HX := Lib.hid (show W2Rel w5 E (.slice Ao N co) (.int .i64 ((D : Int) + 1)) wr from ⟨D + 1, Q ++ E.filter (fun x => decide (x.1 = (D : Int))), by omega, by simp, by
                rw [List.range_succ, List.flatMap_append, List.flatMap_singleton, ← HQ.out], by
                rw [List.take_length] at hN hR
                rw [← hN, ← hR]
                exact hou, hbr⟩)
              clear hou hbr hN hR
              go_wp2_with fail
              go_roundw
              case rel => exact HX.out
              case measure => simp [intOf]; omega
        · have HD5 := Lib.hid (show D = 5001 by omega)
          have hDi : ¬ (D : Int) ≤ 5000 := by omega
          have HM := Lib.hid (takes_q HD5.out HE2.out HQ.out)
          have HR := Lib.hid (takes_rest HF2.out)
          have HB7 := Lib.hid (HBR.out.trans (hbq.mono HBR.out.size))
          have hbox := HWY.out.box.below HB7.out HWY.out.box.lt
          have p0 := hbox.cell 0 _ rfl
          have p1 := hbox.free 0
          have HWO := Lib.hid hwo
          have HOR7 := Lib.hid (own_below (own_mono HOR.out (Nat.le_refl _)) hbq (Nat.le_refl _))
          clear hbox hwo hbq hD5
          go_upto_region 20 with (fail)
          have hS := Mod.of_grow (GroW.set wr p 0 (.slice Ar F.length cr))
          have hbox := HWY.out.box.below HB7.out HWY.out.box.lt
          have hN7 := (HN.out.below HB7.out).keep hS (fun g ty cs hk e => by
            subst e
            rw [blk_type hk hbox]
            exact ⟨by decide, by decide, by decide, by decide⟩)
          have hM7 : Mod (fun k => k = p) w (wr.setCell ⟨p, 0, none⟩ (.slice Ar F.length cr)) := (Mod.of_below (F := fun k => k = p) HB7.out).set (g := p) (fun _ => rfl) 0 _
          have hF7 := hS.own HOR7.out (fun g cs _ hk e => by
            subst e
            exact absurd (blk_type hk hbox) (by decide))
          have hQ7 := hS.own HWO.out (fun g cs _ hk e => by
            subst e
            exact absurd (blk_type hk hbox) (by decide))
          have hk7 := hbox.set 0 (.slice Ar F.length cr)
          generalize wr.setCell ⟨p, 0, none⟩ (.slice Ar F.length cr) = w7 at hN7 hM7 hF7 hQ7 hk7 ⊢
          have hB7 : Below base w w7 := hM7.below (fun k hk e => by have := HWY.out.lo; omega) hbase
          have HTK := Lib.hid (take_any w7 base B FS T v _ hN7 (Nat.le_trans hbase hM7.size) tick rcv)
          have HN7 := Lib.hid hN7
          have HM7 := Lib.hid hM7
          have HF7 := Lib.hid hF7
          have HQ7 := Lib.hid hQ7
          have HK7 := Lib.hid hk7
          have HB7' := Lib.hid hB7
          have HQE := Lib.hid (show ∀ x ∈ Q, x ∈ ks from fun x hx => by
            rw [HQ.out] at hx
            obtain ⟨_, _, hx⟩ := List.mem_flatMap.1 hx
            have hx := (List.mem_filter.1 hx).1
            rw [HE2.out] at hx
            exact (List.mem_filter.1 hx).1)
          have HFE := Lib.hid (show ∀ x ∈ F, x ∈ ks from fun x hx => by
            rw [HF2.out] at hx
            exact (List.mem_filter.1 hx).1)
          clear p0 p1 hS hbox hN7 hM7 hF7 hQ7 hk7 hB7
          go_wp2_with fail
          refine HTK.out.mono ?_
          rintro e w8 ⟨out, Ls, v8, rfl, hLm, ho8, hLo, hN8, _, hm8⟩
          obtain ⟨A8, c8, rfl, _⟩ := own_rd ho8
          have hB8 : Below base w w8 := HB7'.out.trans (hm8.below (fun k hk e => by have := HN.out.lo; omega) (Nat.le_trans hbase HM7.out.size))
          have hkB : Blk w7 B 79 _ := HN7.out.is.choose_spec.choose_spec.choose_spec.choose_spec.2.1
          have hQ8 := hm8.own HQ7.out (fun g cs _ hk e => by
            subst e
            exact absurd (blk_type hk hkB) (by decide))
          have hF8 := hm8.own HF7.out (fun g cs _ hk e => by
            subst e
            exact absurd (blk_type hk hkB) (by decide))
          have hk8 := hm8.blk HK7.out (fun e => by
            have hk := HK7.out
            rw [e] at hk
            exact absurd (blk_type hk hkB) (by decide))
          have hW8 : WayAt w8 base p (.slice Ar F.length cr) F := ⟨HWY.out.lo, hk8, own_mono hF8 (by omega), fun k hk => (HWY.out.ms k (HFE.out k hk)).below hB8⟩
          have hEQ := eqmsgs_law w8 _ _ _ _ Ls (Q.map (·.2)) (MsgsAt.of ho8 hLo) ⟨Aw, Q.length, cw, rfl, by rw [List.length_map]; exact hQ8, fun s hs => by
            obtain ⟨x, hx, rfl⟩ := List.mem_map.1 hs
            exact ((HWY.out.ms x (HQE.out x hx)).below hB8).more (Nat.le_trans hbase hB8.size)⟩ (by
            rw [hLm, ← HM.out, List.map_map, List.map_map]
            rfl) (by
            have h1 := congrArg List.length hLm
            rw [List.length_map, ← HM.out, List.length_map, List.length_map] at h1
            omega)
          have HEQ := Lib.hid hEQ
          have HW8 := Lib.hid hW8
          have HN8 := Lib.hid hN8
          have HB8 := Lib.hid hB8
          clear hLm ho8 hLo hN8 hm8 hB8 hkB hQ8 hF8 hk8 hW8 hEQ HTK
          go_wp2_with fail
          refine HEQ.out.mono ?_
          rintro e w9 ⟨rfl, hb9⟩
          have hN9 := HN8.out.below hb9
          have HKP := Lib.hid (kept_any w9 base B FS T v8 _ hN9)
          rw [← HR.out, List.length_map] at HKP
          have HN9 := Lib.hid hN9
          have HW9 := Lib.hid (HW8.out.below hb9)
          have HB9 := Lib.hid (HB8.out.trans (hb9.mono (Nat.le_trans hbase HB8.out.size)))
          clear hb9 hN9 HEQ
          go_wp2_with fail
          refine HKP.out.mono ?_
          rintro e w10 ⟨rfl, hb10⟩
          have HX := Lib.hid (show TakesPost w base B p FS T ks tick rcv (.returned (.bool true)) w10 from ⟨rfl, ⟨v8, HN9.out.below hb10⟩, ⟨_, F, HW9.out.below hb10, HR.out⟩, HB9.out.trans (hb10.mono (Nat.le_trans hbase HB9.out.size))⟩)
          clear hb10
          go_wp2_with fail
          go_ret
          exact HX.out
end Go.Proofs.Ytpnefacignalpaa
