/- LeaseFirst's walk: it returns true. Conditions: the reach. -/
import Derived.Test.YtambngbkegnghaaLeasePlain
namespace Go.Proofs.Ytambngbkegnghaa
open Go.RowKit Go.Gy
section
variable {P : Program} {ops : Array Oper} {rest : List Oper} {o : Oper} {a : Act} {w : World} {Q : Exit → Act → World → Prop}
theorem wpList_slice_toG (hw : Region.wanted o (yielded ops a.tmps) = true) (t : TypeId) (s x : Operand) (ho : o.op = .slice t s none (some x) none) (A : Option Addr) (N C k : Nat) (hs : a.eval s = .slice A N C) (hx : a.eval x = .int .i64 (k : Int))
    (hu : P.underlying t = some (.slice (P.elem t))) (hr : ∀ w, (Instr.slice t (.slice A N C) none (some (.int .i64 (k : Int))) none).run P w = .ok (.slice A k C) w)
    (h : wpList P ops Q rest (a.put o.dst (.slice A k C)) w) : wpList P ops Q (o :: rest) a w :=
  wpList_step fun _ hK => by
    rw [if_pos hw]
    unfold Oper.wp execOp
    simp only [ho, hs, hx, Option.map_none, Option.map_some, run_sliceAt_slice w t _ _ _ _ hu, hr, Sem.run_bind, Sem.run_pure, Result.andThen_ok]
    exact hK _ _ h
end
theorem size_cellE (w : World) : (sizeOf (Try.prog.elem 24)).run Try.prog w = .ok 2 w := by
  have : Try.prog.elem 24 = 39 := by kernel_rfl
  rw [this]
  exact size_cell w
theorem cells_to (A : Option Addr) (N C k : Nat) (hk : k ≤ C) (w : World) : (Instr.slice 24 (.slice A N C) none (some (.int .i64 (k : Int))) none).run Try.prog w = .ok (.slice A k C) w :=
  run_slice_to 24 2 (by kernel_rfl) size_cellE A N C k hk w
theorem SlC.one {w : World} {B n c : Nat} {A : Option Addr} {x : Cell} {l : List Cell} (h : SlC w B (.slice A n c) (x :: l)) : SlC w B (.slice A 1 c) [x] := by
  obtain ⟨A', n', c', he, h1, h2, h3, h4⟩ := h
  injection he with e1 e2 e3
  subst e1 e2 e3
  refine ⟨A, 1, c, rfl, rfl, by simp at h1; omega, h3, by simp [encC], fun _ => ?_⟩
  obtain ⟨b, o, e, hb, hc⟩ := h4.2 (by simp at h1; omega)
  refine ⟨b, o, e, hb, fun j u hu => hc j u ?_⟩
  rw [List.flatMap_cons, List.getElem?_append_left (by have := (List.getElem?_eq_some_iff.1 hu).1; simpa [encC] using this)]
  simpa [encC] using hu
end Go.Proofs.Ytambngbkegnghaa
namespace Go.Proofs.Ytambngbkegnghaa
open Go.RowKit Go.Gy
set_option linter.unusedVariables false
/-- a table since w0, and where it stands -/
def St (w0 : World) (p n : Nat) (st : Tab) (X : List (Value × List Cell)) (w : World) : Prop := TabAt w w0.heap.size p st X ∧ Good st n ∧ Below w0.heap.size w0 w
theorem St.fit {w0 w : World} {p n : Nat} {st : Tab} {X : List (Value × List Cell)} (h : St w0 p n st X w) : Fit st := h.2.1.1.fit
theorem St.slc {w0 w : World} {p n : Nat} {st : Tab} {X : List (Value × List Cell)} {v : Value} {cs : List Cell} (h : St w0 p n st X w) (hv : SlC w0 w0.heap.size v cs) : SlC w w.heap.size v cs := (hv.below h.2.2).more h.2.2.size
theorem St.slx {w0 w : World} {p n : Nat} {st : Tab} {X : List (Value × List Cell)} {v : Value} {cs : List Cell} (h : St w0 p n st X w) (hv : (v, cs) ∈ X) : SlC w w.heap.size v cs := h.1.slc hv
theorem step_ask {w0 w : World} {p n x : Nat} {st st' : Tab} {X : List (Value × List Cell)} {a : Int} {v : Value} {cs : List Cell} (h : St w0 p n st X w) (hv : SlC w w.heap.size v cs) (hl : cs.length ≤ 400) (he : askF st a cs = (x, st')) :
    Calls Try.prog 15 #[.pointer (some ⟨p, 0, none⟩), .int .i64 a, v] w fun e w' => e = .returned (.int .i64 (x : Int)) ∧ St w0 p n st' X w' :=
  (ask_any w _ p st X a v cs h.1 h.fit hv (by omega)).mono fun e w' ⟨h1, h2, h3⟩ => by
    have hg := h.2.1.ask a cs
    rw [he] at h1 h2 hg
    exact ⟨h1, h2, hg, h.2.2.trans h3⟩
theorem step_done {w0 w : World} {p n x : Nat} {st st' : Tab} {X : List (Value × List Cell)} {a : Int} {v : Value} {cs : List Cell} (h : St w0 p n st X w) (hv : SlC w w.heap.size v cs) (hl : cs.length ≤ 400) (he : doneF st a cs = (x, st')) :
    Calls Try.prog 17 #[.pointer (some ⟨p, 0, none⟩), .int .i64 a, v] w fun e w' => e = .returned (.int .i64 (x : Int)) ∧ St w0 p n st' X w' :=
  (done_any w _ p st X a v cs h.1 h.fit hv (by omega)).mono fun e w' ⟨h1, h2, h3⟩ => by
    have hg := h.2.1.done a cs
    rw [he] at h1 h2 hg
    exact ⟨h1, h2, hg, h.2.2.trans h3⟩
/-- what is handed over: a slice of these cells, made anew -/
def Took (w0 : World) (p n : Nat) (st : Tab) (X : List (Value × List Cell)) (l : List Cell) (e : Ending) (w' : World) : Prop := ∃ A c, e = .returned (.slice A l.length c) ∧ St w0 p n st X w' ∧ SlC w' w'.heap.size (.slice A l.length c) l
theorem step_cells {w0 w : World} {p n : Nat} {st : Tab} {X : List (Value × List Cell)} {a : Int} {l : List Cell} (h : St w0 p n st X w) (he : cellsT st a = l) :
    Calls Try.prog 16 #[.pointer (some ⟨p, 0, none⟩), .int .i64 a] w (Took w0 p n st X l) :=
  (cells_of w _ p st X a h.1 h.fit).mono fun e w' ⟨A, m, c, h1, h2, h3, h4⟩ => by
    rw [he] at h2 h3
    subst h2
    exact ⟨A, c, h1, ⟨h.1.below h4, h.2.1, h.2.2.trans (h4.mono h.2.2.size)⟩, SlC.own h3⟩
theorem step_waits {w0 w : World} {p n : Nat} {st : Tab} {X : List (Value × List Cell)} {a : Int} {l : List Cell} (h : St w0 p n st X w) (he : waitsT st a = l) :
    Calls Try.prog 18 #[.pointer (some ⟨p, 0, none⟩), .int .i64 a] w (Took w0 p n st X l) :=
  (waits_of w _ p st X a h.1 h.fit).mono fun e w' ⟨A, m, c, h1, h2, h3, h4⟩ => by
    rw [he] at h2 h3
    subst h2
    exact ⟨A, c, h1, ⟨h.1.below h4, h.2.1, h.2.2.trans (h4.mono h.2.2.size)⟩, SlC.own h3⟩
theorem step_check {w0 w : World} {p n : Nat} {st : Tab} {X : List (Value × List Cell)} (h : St w0 p n st X w) :
    Calls Try.prog 22 #[.pointer (some ⟨p, 0, none⟩)] w fun e w' => e = .returned (.bool true) ∧ St w0 p n st X w' :=
  (check_tab w _ p st X h.1 h.2.1.1).mono fun e w' ⟨h1, h4⟩ => ⟨h1, h.1.below h4, h.2.1, h.2.2.trans (h4.mono h.2.2.size)⟩
end Go.Proofs.Ytambngbkegnghaa
namespace Go.Proofs.Ytambngbkegnghaa.leaseFirst
open Go.RowKit Go.Gy
set_option linter.unusedVariables false
set_option maxRecDepth 100000 in
set_option maxHeartbeats 2000000 in
theorem walk (v : Value) (k : Int) (w : World) {b0 : Nat} (f0 : IntsArg w v b0) (w1 : wfI .i64 k) :
    Calls Try.prog 3 #[v, .int .i64 k] w fun e w' => e = .returned (.bool true) ∧ Below w.heap.size w w' := by
  obtain ⟨l, hl, hi, _, hlb⟩ := f0
  have hlb' : l.length ≤ 140737488355328 := by unfold reachBytes at hlb; omega
  have HL := Lib.hid (leases_any w)
  have HB := Lib.hid (fun w => below_any k 3 w (by decide) (by decide))
  have Hl := Lib.hid hl
  obtain ⟨A, c, len, rfl, hlx⟩ := id hl
  clear hl hi w1 hlb hlx
  go_enter Try.func3, Try.ntmps3
  go_wp2_with fail
  refine HL.out.mono ?_
  rintro e w1 ⟨rfl, hb1⟩
  have HC := Lib.hid (cells_any w1 _ l ((Hl.out.below hb1).more hb1.size) hlb')
  have Hb1 := Lib.hid hb1
  clear hb1 HL
  go_wp2_with fail
  refine HC.out.mono ?_
  rintro e w2 ⟨v2, cs, rfl, hcs8, hcs0, hown2, hb2⟩
  have Hb2 := Lib.hid (Hb1.out.trans (hb2.mono Hb1.out.size))
  obtain ⟨A2, c2, rfl, hnc2, _, _⟩ := own_rd hown2
  have Hown2 := Lib.hid hown2
  have Hcs0 := Lib.hid hcs0
  clear hown2 hb2 hcs0 HC
  cases cs with
  | nil =>
    go_wp2_with fail
    go_ret
    exact ⟨rfl, Hb2.out⟩
  | cons c0 ct =>
    obtain ⟨n2, hn2⟩ : ∃ n2, n2 = (c0 :: ct).length := ⟨_, rfl⟩
    have hn1 : 1 ≤ n2 := by rw [hn2]; simp
    have hV := SlC.own Hown2.out
    rw [← hn2] at hnc2 hcs8 hV ⊢
    have HV := Lib.hid hV
    have hn0 : ¬ (n2 : Int) = 0 := by omega
    have hn00 : ((n2 : Int) == 0) = false := by simpa using hn0
    have HN := Lib.hid (new_any w2 3 (by decide) (by decide))
    have hc1 : 1 ≤ c2 := by omega
    clear hV hn2
    go_wp2_with fail
    refine HN.out.mono ?_
    rintro e w3 ⟨rfl, hT3, hb3⟩
    have HT3 := Lib.hid hT3
    have Hb3 := Lib.hid hb3
    clear hT3 hb3 HN
    go_wp2_with fail
    refine (HB.out _).mono ?_
    rintro e w' ⟨rfl, rfl⟩
    obtain ⟨a, ha⟩ : ∃ a, a = k % 3 := ⟨_, rfl⟩
    rw [← ha]
    have ha0 : 0 ≤ a := by omega
    have ha3 : a < 3 := by omega
    obtain ⟨s1, s2, s3, s4, s5, hrun⟩ := first_run (Toy.mk' (c := c0) Hcs0.out (by simp)) a ha0 ha3
    have hr1 : IntKind.i64.wrap (a + 1) = a + 1 := IntWalk.i64_in _ (by omega)
    have hr2 : IntKind.i64.wrap (a + 2) = a + 2 := IntWalk.i64_in _ (by omega)
    obtain ⟨b, hb⟩ : ∃ b, b = (a + 1).tmod 3 := ⟨_, rfl⟩
    obtain ⟨c, hc⟩ : ∃ c, c = (a + 2).tmod 3 := ⟨_, rfl⟩
    rw [← hb, ← hc] at hrun
    have Hrun := Lib.hid hrun
    have hr3 : (a + 1).tmod 3 = b := hb.symm
    have hr4 : (a + 2).tmod 3 = c := hc.symm
    have hS := (show St w2 (w2.heap.size + 1) 3 (emptyT 3) [] w3 from ⟨HT3.out, ⟨(emptyT_safe 3 (by decide)).1, (emptyT_safe 3 (by decide)).2, rfl⟩, Hb3.out⟩)
    have Hcl := Lib.hid (cellsF_len Hcs0.out)
    have HV1 := Lib.hid (show SlC w2 w2.heap.size (.slice A2 1 c2) [c0] from HV.out.one)
    have HA := Lib.hid (step_ask hS (hS.slc HV.out) Hcl.out Hrun.out.e1)
    clear hS hrun ha hb hc HB
    go_wp2_with fail
    refine HA.out.mono ?_
    rintro e w4 ⟨rfl, hS⟩
    have HA := Lib.hid (step_ask hS (hS.slc HV1.out) (by simp) Hrun.out.e2)
    clear hS hr1 hr2 hr3 hr4
    go_wp2_with (refine wpList_slice_toG (by rfl) 24 _ _ rfl A2 n2 c2 1 rfl rfl (by kernel_rfl) (fun w => cells_to A2 n2 c2 1 hc1 w) ?_)
    refine HA.out.mono ?_
    rintro e w5 ⟨rfl, hS⟩
    have HA := Lib.hid (step_ask hS (hS.slc HV1.out) (by simp) Hrun.out.e3)
    clear hS
    go_wp2_with (refine wpList_slice_toG (by rfl) 24 _ _ rfl A2 n2 c2 1 rfl rfl (by kernel_rfl) (fun w => cells_to A2 n2 c2 1 hc1 w) ?_)
    refine HA.out.mono ?_
    rintro e w6 ⟨rfl, hS⟩
    have HA := Lib.hid (step_ask hS (hS.slc HV1.out) (by simp) Hrun.out.e4)
    clear hS
    go_wp2_with (refine wpList_slice_toG (by rfl) 24 _ _ rfl A2 n2 c2 1 rfl rfl (by kernel_rfl) (fun w => cells_to A2 n2 c2 1 hc1 w) ?_)
    refine HA.out.mono ?_
    rintro e w7 ⟨rfl, hS⟩
    have HA := Lib.hid (step_cells hS Hrun.out.k1)
    clear hS
    go_wp2_with fail
    refine HA.out.mono ?_
    rintro e w8 ⟨A8, c8, rfl, hS, _⟩
    have HA := Lib.hid (step_cells hS Hrun.out.k2)
    clear hS
    go_wp2_with fail
    refine HA.out.mono ?_
    rintro e w9 ⟨A9, c9, rfl, hS, _⟩
    have HA := Lib.hid (step_done hS (hS.slc HV.out) Hcl.out Hrun.out.d4)
    clear hS
    go_wp2_with fail
    refine HA.out.mono ?_
    rintro e w10 ⟨rfl, hS⟩
    have HA := Lib.hid (step_cells hS Hrun.out.k3)
    clear hS
    go_wp2_with fail
    refine HA.out.mono ?_
    rintro e w11 ⟨A11, c11, rfl, hS, _⟩
    have HA := Lib.hid (step_waits hS Hrun.out.k4)
    clear hS
    go_wp2_with fail
    refine HA.out.mono ?_
    rintro e w12 ⟨A12, c12, rfl, hS, _⟩
    have HA := Lib.hid (step_done hS (hS.slc HV1.out) (by simp) Hrun.out.d5)
    clear hS
    go_wp2_with (refine wpList_slice_toG (by rfl) 24 _ _ rfl A2 n2 c2 1 rfl rfl (by kernel_rfl) (fun w => cells_to A2 n2 c2 1 hc1 w) ?_)
    refine HA.out.mono ?_
    rintro e w13 ⟨rfl, hS⟩
    have HA := Lib.hid (step_cells hS Hrun.out.k5)
    clear hS
    go_wp2_with fail
    refine HA.out.mono ?_
    rintro e w14 ⟨A14, c14, rfl, hS, _⟩
    have HA := Lib.hid (step_waits hS Hrun.out.k6)
    clear hS
    go_wp2_with fail
    refine HA.out.mono ?_
    rintro e w15 ⟨A15, c15, rfl, hS, _⟩
    have HP := Lib.hid (Hb2.out.trans (hS.2.2.mono Hb2.out.size))
    clear hS
    go_wp2_with fail
    go_ret
    exact ⟨rfl, HP.out⟩
end Go.Proofs.Ytambngbkegnghaa.leaseFirst
