/- MsgShort's walk: it returns true. Conditions: the reach. -/
import Derived.Test.YtaahpjjffggaiaaMakeMsg
import Derived.Test.YtaahpjjffggaiaaRead
import Derived.Test.YtaahpjjffggaiaaConcatBig
namespace Go.Proofs.Ytaahpjjffggaiaa.msgShort
open Go.RowKit Go.Gy
set_option linter.unusedVariables false
theorem run_slice_to {P : Program} (t : TypeId) (s : Nat) (ht : P.underlying t = some (.slice (P.elem t))) (hs : ∀ w, (sizeOf (P.elem t)).run P w = .ok s w) (A : Option Addr) (N C k : Nat) (hk : k ≤ C) (w : World) :
    (Instr.slice t (.slice A N C) none (some (.int .i64 (k : Int))) none).run P w = .ok (.slice A k C) w := by
  rw [run_slice_h w t A N C ht .i64 k (by omega) (by omega), hs]
  simp only [Result.andThen, sliced, Nat.zero_mul, Int.toNat_natCast, Nat.sub_zero]
  split
  · rfl
  · cases A <;> rfl
section
variable {P : Program} {ops : Array Oper} {rest : List Oper} {o : Oper} {a : Act} {w : World} {Q : Exit → Act → World → Prop}
theorem wpList_slice_to (hgd : o.guard = none) (t : TypeId) (s x : Operand) (ho : o.op = .slice t s none (some x) none) (A : Option Addr) (N C k : Nat) (hs : a.eval s = .slice A N C) (hx : a.eval x = .int .i64 (k : Int))
    (hu : P.underlying t = some (.slice (P.elem t))) (hr : ∀ w, (Instr.slice t (.slice A N C) none (some (.int .i64 (k : Int))) none).run P w = .ok (.slice A k C) w)
    (h : wpList P ops Q rest (a.put o.dst (.slice A k C)) w) : wpList P ops Q (o :: rest) a w :=
  wpList_plain hgd fun _ hK => by
    unfold Oper.wp execOp
    simp only [ho, hs, hx, Option.map_none, Option.map_some, run_sliceAt_slice w t _ _ _ _ hu, hr, Sem.run_bind, Sem.run_pure, Result.andThen_ok]
    exact hK _ _ h
end
set_option maxRecDepth 100000 in
theorem size_byte (w : World) : (sizeOf (Try.prog.elem 33)).run Try.prog w = .ok 1 w := by
  obtain ⟨i, hi, _⟩ := info_parts info_byte
  exact (run_sizeOf (w := w) (show Try.prog.info? (Try.prog.elem 33) = some i from hi)).trans (congrArg (fun n => Result.ok n w) (by kernel_rfl))
theorem bytes_to (A : Option Addr) (N C k : Nat) (hk : k ≤ C) (w : World) : (Instr.slice 33 (.slice A N C) none (some (.int .i64 (k : Int))) none).run Try.prog w = .ok (.slice A k C) w :=
  run_slice_to 33 1 (by kernel_rfl) size_byte A N C k hk w

theorem SlB.take {w : World} {B n c k : Nat} {A : Option Addr} {l : List Nat} (h : SlB w B (.slice A n c) l) (hk : k ≤ n) : SlB w B (.slice A k c) (l.take k) := by
  obtain ⟨A', n', c', he, h1, h2, h3, h4⟩ := h
  injection he with e1 e2 e3
  subst e1 e2 e3
  refine ⟨A, k, c, rfl, by rw [List.length_take]; omega, by omega, h3, ?_⟩
  have := h4.take hk
  rw [Nat.mul_one, ← List.map_take] at this
  exact this
set_option maxRecDepth 100000 in
set_option maxHeartbeats 4000000 in
theorem walk (v0 : Value) (i : Int) (v2 : Value) (w : World) {b0 b2 : Nat} (f0 : IntsArg w v0 b0) (w1 : wfI .i64 i) (f2 : BytesArg w v2 b2) :
    Calls Try.prog 5 #[v0, .int .i64 i, v2] w fun e w' => e = .returned (.bool true) ∧ Below w.heap.size w w' := by
  obtain ⟨l, hl, _, _, hlb⟩ := f0
  obtain ⟨more, hm2, hm8, _, hmr⟩ := f2
  have hlb' : l.length ≤ 140737488355328 := by unfold reachBytes at hlb; omega
  have hmr' : more.length ≤ 140737488351232 := by unfold reachBytes at hmr; omega
  have Hl := Lib.hid hl
  have Hm2 := Lib.hid hm2
  have Hm8 := Lib.hid hm8
  have HR0 := Lib.hid (read_msg w (.slice none 0 0) [] ⟨none, 0, 0, rfl, rfl, Nat.le_refl _, fun _ => rfl, Rd.nil⟩ (by simp) (by simp))
  unfold ReadMPost at HR0
  rw [show readE [] = 14 by decide] at HR0
  obtain ⟨rm, hrm⟩ : ∃ rm, rm = readM [] := ⟨_, rfl⟩
  rw [← hrm] at HR0
  obtain ⟨k0, s0, d0, q0, t0, cs0⟩ := rm
  obtain ⟨A, n, c, rfl, _⟩ := id hl
  obtain ⟨A', n', c', rfl, _⟩ := id hm2
  clear hlb w1 hl hm2 hm8 hrm hmr
  go_enter Try.func5, Try.ntmps5
  go_wp2_with fail
  refine HR0.out.mono ?_
  rintro e w1 ⟨A0, n0, c0, rfl, _, hb1⟩
  obtain ⟨w2, hw2⟩ : ∃ w2, w2 = w1.alloc (.cells (row6 k0 s0 d0 q0 t0 (.slice A0 n0 c0)) 28) := ⟨_, rfl⟩
  have hbw2 : Below w.heap.size w w2 := by rw [hw2]; exact hb1.alloc hb1.size _
  have HM := Lib.hid (message_any w2 (.slice A n c) l ((Hl.out.below hbw2).more hbw2.size) hlb')
  have Hbw2 := Lib.hid hbw2
  clear hb1 HR0 hbw2
  go_wp2_with fail
  rw [← hw2]
  clear hw2
  refine HM.out.mono ?_
  rintro e w3 ⟨m, Am, nm, cm, rfl, hom, hml, hmc, hm8, hb3⟩
  have Hbw3 := Lib.hid (Hbw2.out.trans (hb3.mono Hbw2.out.size))
  have hat := MsgAt.of_own (m := m) hom hml (by omega)
  have HW4 := Lib.hid (write_any w3 m Am nm cm hat hmc)
  obtain ⟨F, hF⟩ : ∃ F, F = msgF m := ⟨_, rfl⟩
  have HF := Lib.hid hF
  have Hml := Lib.hid hml
  unfold WritePost at HW4
  rw [← hF] at HW4
  obtain ⟨k, s, d, q, t, cs⟩ := m
  clear HM hom hml hmc hb3 hat hF
  go_wp2_with fail
  refine HW4.out.mono ?_
  rintro e w5 ⟨v5, n5, rfl, hown5, hb5⟩
  have Hbw5 := Lib.hid (Hbw3.out.trans (hb5.mono Hbw3.out.size))
  obtain ⟨A5, c5, rfl, hnc5, _, _⟩ := own_rd hown5
  have Hown5 := Lib.hid hown5
  clear hb5 HW4 hown5
  by_cases hF0 : F = 0
  · subst hF0
    have hfr := HF.out.symm
    have h5 := Hown5.out
    rw [if_pos rfl] at h5
    have hn5 := h5.1
    rw [List.length_map, Nat.mul_one] at hn5
    have hfl := frameM_len ⟨k, s, d, q, t, cs⟩
    have hcsl : cs.length = nm := Hml.out
    have S5 := SlB.own (r := frameM ⟨k, s, d, q, t, cs⟩) h5
    have hf8 := frameM_lt (msgF_zero hfr).1
    have hfl2 : (frameM ⟨k, s, d, q, t, cs⟩).length ≤ 1000 := by rw [hfl]; simp only; omega
    obtain ⟨b, hbd⟩ : ∃ b, b = frameM ⟨k, s, d, q, t, cs⟩ := ⟨_, rfl⟩
    have HSh := Lib.hid (show ∀ j, j < b.length → readE (b.take j) = 14 from fun j hj => by rw [hbd] at hj ⊢; exact short_law hfr hj)
    have HLo := Lib.hid (show ∀ x t, readE (b ++ (x :: t)) = 3 from fun x t => by rw [hbd]; exact long_law hfr x t)
    rw [← hbd] at S5 hf8 hfl2 hfl hn5
    have HS5 := Lib.hid S5
    have H8 := Lib.hid hf8
    have Hn5 := Lib.hid hn5
    have hn17 : 17 ≤ n5 := by rw [← hn5, hfl]; omega
    have hn1000 : n5 ≤ 1000 := by rw [← hn5]; exact hfl2
    have hn17' : ¬ (n5 : Int) < 17 := by omega
    have HBl := Lib.hid (fun w => below_any i (n5 : Int) w (by omega) (by omega))
    obtain ⟨qi, hqi⟩ : ∃ qi : Nat, (qi : Int) = i % (n5 : Int) := ⟨(i % (n5 : Int)).toNat, by have := Int.emod_nonneg i (show (n5 : Int) ≠ 0 by omega); omega⟩
    have hq9 : qi < n5 := by have := Int.emod_lt_of_pos i (show (0 : Int) < (n5 : Int) by omega); omega
    rw [← hqi] at HBl
    have hqc : qi ≤ c5 := by omega
    have HRd := Lib.hid (read_msg w5 (.slice A5 qi c5) (b.take qi) (SlB.take S5 (by omega)) (fun x hx => hf8 x (List.mem_of_mem_take hx)) (by rw [List.length_take]; omega))
    unfold ReadMPost at HRd
    rw [HSh.out qi (by rw [hn5]; exact hq9)] at HRd
    obtain ⟨rm, hrm⟩ : ∃ rm, rm = readM (b.take qi) := ⟨_, rfl⟩
    rw [← hrm] at HRd
    obtain ⟨k1, s1, d1, q1, t1, cs1⟩ := rm
    clear hfr h5 hn5 hfl hcsl S5 hf8 hfl2 hbd Hown5 HF hqi hrm HSh
    go_wp2_with fail
    refine (HBl.out _).mono ?_
    rintro e w' ⟨rfl, rfl⟩
    clear HBl
    go_wp2_with (refine wpList_slice_to rfl 33 (.tmp 37) (.tmp 41) rfl A5 n5 c5 qi rfl rfl (by kernel_rfl) (fun w => bytes_to A5 n5 c5 qi hqc w) ?_)
    refine HRd.out.mono ?_
    rintro e w6 ⟨A6, n6, c6, rfl, _, hb6⟩
    obtain ⟨w7, hw7⟩ : ∃ w7, w7 = (w6.alloc (.cells (row6 k1 s1 d1 q1 t1 (.slice A6 n6 c6)) 28)).alloc (.cells #[.int .u8 1] 5) := ⟨_, rfl⟩
    have hb67 : Below w6.heap.size w6 w7 := by rw [hw7]; exact ((Below.refl _ _).alloc (Nat.le_refl _) _).alloc (by simp) _
    have hb57 := hb6.trans (hb67.mono hb6.size)
    have hbw7 := Hbw5.out.trans (hb57.mono Hbw5.out.size)
    have hone : SlB w7 w7.heap.size (.slice (some ⟨w6.heap.size + 1, 0, none⟩) 1 1) [1] := by
      have h1 := Rd.lit (w6.alloc (.cells (row6 k1 s1 d1 q1 t1 (.slice A6 n6 c6)) 28)) 5 [bv 1] 1 1 rfl
      rw [World.size_alloc] at h1
      refine ⟨_, 1, 1, rfl, rfl, Nat.le_refl _, (fun h => by cases h), ?_⟩
      rw [hw7, World.size_alloc, World.size_alloc]
      exact h1
    have HC := Lib.hid (concat_three w7 (.slice A5 n5 c5) (.slice (some ⟨w6.heap.size + 1, 0, none⟩) 1 1) (.slice A' n' c') b [1] more ((HS5.out.below hb57).more hb57.size) hone ((Hm2.out.below hbw7).more hbw7.size) (by rw [Hn5.out]; simp; omega))
    have hsz7 : w7.heap.size = w6.heap.size + 2 := by rw [hw7]; simp
    have Hbw7 := Lib.hid hbw7
    rw [hsz7] at HC
    clear HRd hb6 hb67 hb57 hone hbw7
    go_wp2_with fail
    rw [← hw7]
    clear hw7
    refine HC.out.mono ?_
    rintro e w8 ⟨v8, rfl, S8, hb8⟩
    rw [← hsz7] at hb8
    have Hbw8 := Lib.hid (Hbw7.out.trans (hb8.mono Hbw7.out.size))
    have HRd2 := Lib.hid (read_msg w8 v8 (b ++ ([1] ++ more)) S8 (fun x hx => by
      rcases List.mem_append.1 hx with h | h
      · exact H8.out x h
      · rcases List.mem_append.1 h with h | h
        · simp at h; omega
        · exact Hm8.out x h) (by rw [List.length_append, List.length_append, Hn5.out]; simp; omega))
    unfold ReadMPost at HRd2
    rw [show readE (b ++ ([1] ++ more)) = 3 from HLo.out 1 more] at HRd2
    obtain ⟨rm, hrm⟩ : ∃ rm, rm = readM (b ++ ([1] ++ more)) := ⟨_, rfl⟩
    rw [← hrm] at HRd2
    obtain ⟨k2, s2, d2, q2, t2, cs2⟩ := rm
    obtain ⟨A8, n8, c8, rfl, _⟩ := id S8
    clear HC S8 hb8 hrm HLo
    go_wp2_with fail
    refine HRd2.out.mono ?_
    rintro e w9 ⟨A9, n9, c9, rfl, _, hb9⟩
    have Hfin := Lib.hid (fun X => (Hbw8.out.trans (hb9.mono Hbw8.out.size)).alloc (Hbw8.out.trans (hb9.mono Hbw8.out.size)).size X)
    clear HRd2 hb9
    go_wp2_with fail
    go_ret
    exact ⟨rfl, Hfin.out _⟩
  · have e1 : ((F : Int) == 0) = false := by simpa using hF0
    have e2 : ((F : Int) != 0) = true := by simpa using hF0
    clear hF0
    go_wp2_with fail
    go_ret
    exact ⟨rfl, Hbw5.out⟩
end Go.Proofs.Ytaahpjjffggaiaa.msgShort
