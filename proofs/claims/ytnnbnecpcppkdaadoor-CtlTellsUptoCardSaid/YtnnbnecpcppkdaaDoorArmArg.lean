/- Arms and their states as arguments. Conditions: those typed. -/
import Derived.Test.YtnnbnecpcppkdaaDoorPts
import Derived.Test.YtnnbnecpcppkdaaDoorArmChk
namespace Go.Proofs.YtnnbnecpcppkdaaDoor
open Go.RowKit Go.Gy Go.WideShapes
set_option linter.unusedVariables false
def LksArg (W : World) (v : Value) (b : Nat) : Prop := ∃ L : List (Lk × List P2), SlL W W.heap.size v (L.map (·.1)) ∧ (∀ x ∈ L, SlP W W.heap.size x.1.shape x.2 ∧ x.1.le b ∧ (∀ y ∈ x.2, y.le b) ∧ x.2.length ≤ b) ∧ L.length < b
set_option maxRecDepth 100000 in
theorem opens_links (W : World) : Opens Tryd.prog W 35 fun cs b => ∃ v, cs = [v] ∧ LksArg W v b := by
  refine (opens_slice Tryd.underlying35 (show Tryd.prog.cellsOf 28 = 16 by kernel_rfl) (by omega) (show Tryd.prog.bytesOf 28 = 224 by kernel_rfl) (opens_link W)).mono ?_
  rintro cs b ⟨A, n', c', xs, rfl, h1, h2, h3, h4, h5, h6, h7, h8⟩
  have hs2 : SliceOf W 16 224 (fun cs _ => ∃ x : Lk × List P2, cs = encK x.1 ∧ (SlP W W.heap.size x.1.shape x.2 ∧ x.1.le b ∧ (∀ y ∈ x.2, y.le b) ∧ x.2.length ≤ b)) (Value.slice A n' c').cells.toList b := ⟨A, n', c', xs, rfl, h1, h2, h3, h4, h5, h6, fun x hx => by
    obtain ⟨hl, m, ⟨k, e, hk, l, g1, g2, g3⟩, hm2⟩ := h7 x hx
    exact ⟨hl, m, ⟨(k, l), e, g1, hk.more (by omega), fun y hy => (g2 y hy).more (by omega), by show l.length ≤ b; omega⟩, hm2⟩, h8⟩
  obtain ⟨A, n, c, l, he, hl, hnc, _, _, hcb, hA, hrd, hq⟩ := hs2.arg (enc := fun x : Lk × List P2 => encK x.1) (Q := fun x : Lk × List P2 => SlP W W.heap.size x.1.shape x.2 ∧ x.1.le b ∧ (∀ y ∈ x.2, y.le b) ∧ x.2.length ≤ b) rfl (by omega) (fun x m hx => hx)
  refine ⟨_, rfl, l, ⟨A, n, c, he, by rw [List.length_map]; exact hl, hnc, hA, ?_⟩, hq, by omega⟩
  rw [List.flatMap_map]
  exact hrd
set_option maxRecDepth 100000 in
theorem opens_turn (W : World) : Opens Tryd.prog W 32 fun cs b => ∃ (h : Bool) (x : Q3), cs = .bool h :: encQ x ∧ x.le b := by
  refine (opens_struct Tryd.underlying32 (fun i cs b => match i with | 0 => ∃ h : Bool, cs = [.bool h] | _ => ∃ x : Q3, cs = encQ x ∧ x.le b) ?_).mono ?_
  · intro i f hi
    match i, hi with
    | 0, hi =>
      simp at hi; subst hi
      intro H enc fuel cs x hx _
      obtain ⟨b, h1, _⟩ := DataW.trod_bool Tryd.underlying4 hx
      exact ⟨b, h1⟩
    | 1, hi => simp at hi; subst hi; exact opens_quot W
    | i + 2, hi => simp at hi
  · rintro cs b ⟨hl, h⟩
    obtain ⟨b0, ⟨x, e0⟩, l0⟩ := h 0 _ rfl
    obtain ⟨b1, ⟨y, e1, h1⟩, l1⟩ := h 1 _ rfl
    have hcb : Tryd.prog.cellsOf 4 = 1 := by kernel_rfl
    have hc : Tryd.prog.cellsOf 25 = 3 := by kernel_rfl
    have hc2 : Tryd.prog.cellsOf 32 = 4 := by kernel_rfl
    have e0 : (cs.drop 0).take (Tryd.prog.cellsOf 4) = [.bool x] := e0
    have e1 : (cs.drop 1).take (Tryd.prog.cellsOf 25) = encQ y := e1
    rw [hcb] at e0
    rw [hc] at e1
    rw [hc2] at hl
    refine ⟨x, y, ?_, h1.more (by omega)⟩
    show cs = [.bool x] ++ encQ y
    rw [← e0, ← e1]
    match cs, hl with
    | [_, _, _, _], _ => rfl
set_option maxRecDepth 100000 in
theorem opens_frame (W : World) : Opens Tryd.prog W 34 fun cs b => ∃ (p : P2) (h : Bool) (x : Q3), cs = encP p ++ .bool h :: encQ x ∧ p.le b ∧ x.le b := by
  refine (opens_struct Tryd.underlying34 (fun i cs b => match i with | 0 => ∃ p : P2, cs = encP p ∧ p.le b | _ => ∃ (h : Bool) (x : Q3), cs = .bool h :: encQ x ∧ x.le b) ?_).mono ?_
  · intro i f hi
    match i, hi with
    | 0, hi => simp at hi; subst hi; exact opens_pt W
    | 1, hi => simp at hi; subst hi; exact opens_turn W
    | i + 2, hi => simp at hi
  · rintro cs b ⟨hl, h⟩
    obtain ⟨b0, ⟨x, e0, h0⟩, l0⟩ := h 0 _ rfl
    obtain ⟨b1, ⟨y, z, e1, h1⟩, l1⟩ := h 1 _ rfl
    have hcb : Tryd.prog.cellsOf 30 = 6 := by kernel_rfl
    have hc : Tryd.prog.cellsOf 32 = 4 := by kernel_rfl
    have hc2 : Tryd.prog.cellsOf 34 = 10 := by kernel_rfl
    have e0 : (cs.drop 0).take (Tryd.prog.cellsOf 30) = encP x := e0
    have e1 : (cs.drop 6).take (Tryd.prog.cellsOf 32) = .bool y :: encQ z := e1
    rw [hcb] at e0
    rw [hc] at e1
    rw [hc2] at hl
    refine ⟨x, y, z, ?_, h0.more (by omega), h1.more (by omega)⟩
    rw [← e0, ← e1]
    match cs, hl with
    | [_, _, _, _, _, _, _, _, _, _], _ => rfl
set_option maxRecDepth 100000 in
theorem opens_arm (W : World) : Opens Tryd.prog W 37 fun cs b => ∃ a : Ar, cs = [.string a.name, .bool a.p.x.neg, .string a.p.x.num, .string a.p.x.den, .bool a.p.y.neg, .string a.p.y.num, .string a.p.y.den, .bool a.half, .bool a.t.neg, .string a.t.num, .string a.t.den, a.v] ∧ a.At W W.heap.size ∧ a.le b := by
  refine (opens_struct Tryd.underlying37 (fun i cs b => match i with | 0 => ∃ s : ByteArray, cs = [.string s] ∧ s.size ≤ maxLen ∧ s.size ≤ reachBytes ∧ s.size < b | 1 => ∃ (p : P2) (h : Bool) (x : Q3), cs = encP p ++ .bool h :: encQ x ∧ p.le b ∧ x.le b | _ => ∃ v, cs = [v] ∧ LksArg W v b) ?_).mono ?_
  · intro i f hi
    match i, hi with
    | 0, hi => simp at hi; subst hi; exact opens_string Tryd.underlying9
    | 1, hi => simp at hi; subst hi; exact opens_frame W
    | 2, hi => simp at hi; subst hi; exact opens_links W
    | i + 3, hi => simp at hi
  · rintro cs b ⟨hl, h⟩
    obtain ⟨b0, ⟨s, e0, _, _, h0⟩, l0⟩ := h 0 _ rfl
    obtain ⟨b1, ⟨p, hf, t, e1, h1, h2⟩, l1⟩ := h 1 _ rfl
    obtain ⟨b2, ⟨v, e2, L, h3, h4, h5⟩, l2⟩ := h 2 _ rfl
    have hcs : Tryd.prog.cellsOf 9 = 1 := by kernel_rfl
    have hcf : Tryd.prog.cellsOf 34 = 10 := by kernel_rfl
    have hcl : Tryd.prog.cellsOf 35 = 1 := by kernel_rfl
    have hc2 : Tryd.prog.cellsOf 37 = 12 := by kernel_rfl
    have e0 : (cs.drop 0).take (Tryd.prog.cellsOf 9) = [.string s] := e0
    have e1 : (cs.drop 1).take (Tryd.prog.cellsOf 34) = encP p ++ .bool hf :: encQ t := e1
    have e2 : (cs.drop 11).take (Tryd.prog.cellsOf 35) = [v] := e2
    rw [hcs] at e0
    rw [hcf] at e1
    rw [hcl] at e2
    rw [hc2] at hl
    refine ⟨⟨s, p, hf, t, v, L⟩, ?_, ⟨h3, fun x hx => (h4 x hx).1⟩, h1.more (by omega), h2.more (by omega), by show s.size ≤ b; omega, fun x hx => ⟨(h4 x hx).2.1.more (by omega), fun y hy => ((h4 x hx).2.2.1 y hy).more (by omega), Nat.le_trans (h4 x hx).2.2.2 (by omega)⟩⟩
    show cs = [.string s] ++ (encP p ++ .bool hf :: encQ t) ++ [v]
    rw [← e0, ← e1, ← e2]
    match cs, hl with
    | [_, _, _, _, _, _, _, _, _, _, _, _], _ => rfl
def ArmArg (W : World) (v : Value) (b : Nat) : Prop := ∃ a : Ar, v = a.val ∧ a.At W W.heap.size ∧ a.le b
set_option maxRecDepth 100000 in
theorem arg_arm {H : Type} {enc : TypeId × Value → H} {W : World} {v : Value} {d : DataW H} {p : List MemPlace} {r : Reach} {b0 : Nat} (hv : Value.okWide Tryd.prog W r b0 37 v) (h : DataW.Trod enc Tryd.prog W 0 (fun _ => true) true 37 v d p)
    (hw : ∀ m ∈ d.weights Tryd.prog 37, m ≤ reachBytes) : ArmArg W v (bulk d) := by
  obtain ⟨cs, rfl, _⟩ := okWide_struct Tryd.underlying37 hv
  obtain ⟨a, he, h1, h2⟩ := view (opens_arm W) h hw
  have he : cs.toList = [.string a.name, .bool a.p.x.neg, .string a.p.x.num, .string a.p.x.den, .bool a.p.y.neg, .string a.p.y.num, .string a.p.y.den, .bool a.half, .bool a.t.neg, .string a.t.num, .string a.t.den, a.v] := he
  refine ⟨a, ?_, h1, h2⟩
  have : cs = ([.string a.name, .bool a.p.x.neg, .string a.p.x.num, .string a.p.x.den, .bool a.p.y.neg, .string a.p.y.num, .string a.p.y.den, .bool a.half, .bool a.t.neg, .string a.t.num, .string a.t.den, a.v] : List Value).toArray := by rw [← he]
  rw [this]; rfl
set_option maxRecDepth 100000 in
theorem opens_quots (W : World) : Opens Tryd.prog W 48 fun cs b => ∃ v, cs = [v] ∧ QuotsArg W v b := by
  refine (opens_slice Tryd.underlying48 (show Tryd.prog.cellsOf 25 = 3 by kernel_rfl) (by omega) (show Tryd.prog.bytesOf 25 = 40 by kernel_rfl) (opens_quot W)).mono ?_
  rintro cs b ⟨A, n', c', xs, rfl, h1, h2, h3, h4, h5, h6, h7, h8⟩
  have hs2 : SliceOf W 3 40 (fun cs _ => ∃ x : Q3, cs = encQ x ∧ x.le b) (Value.slice A n' c').cells.toList b := ⟨A, n', c', xs, rfl, h1, h2, h3, h4, h5, h6, fun x hx => by
    obtain ⟨hl, m, ⟨q, e, hq⟩, hm2⟩ := h7 x hx
    exact ⟨hl, m, ⟨q, e, hq.more (by omega)⟩, hm2⟩, h8⟩
  obtain ⟨A, n, c, l, he, hl, hnc, _, _, hcb, hA, hrd, hq⟩ := hs2.arg (enc := encQ) (Q := fun x : Q3 => x.le b) rfl (by omega) (fun x m hx => hx)
  exact ⟨_, rfl, l, ⟨A, n, c, he, hl, hnc, hA, hrd⟩, hq, by omega⟩
def StateArg (W : World) (v : Value) (b : Nat) : Prop := ∃ (vq vv : Value) (pw : Bool) (hd : Int), v = .agg #[vq, vv, .bool pw, .int .i64 hd] ∧ wfI .i64 hd ∧ QuotsArg W vq b ∧ QuotsArg W vv b
set_option maxRecDepth 100000 in
theorem opens_state (W : World) : Opens Tryd.prog W 61 fun cs b => ∃ (vq vv : Value) (pw : Bool) (hd : Int), cs = [vq, vv, .bool pw, .int .i64 hd] ∧ wfI .i64 hd ∧ QuotsArg W vq b ∧ QuotsArg W vv b := by
  refine (opens_struct Tryd.underlying61 (fun i cs b => match i with | 0 => ∃ v, cs = [v] ∧ QuotsArg W v b | 1 => ∃ v, cs = [v] ∧ QuotsArg W v b | 2 => ∃ h : Bool, cs = [.bool h] | _ => ∃ n, cs = [.int .i64 n] ∧ (Lit.int .i64 n).wf = true) ?_).mono ?_
  · intro i f hi
    match i, hi with
    | 0, hi => simp at hi; subst hi; exact opens_quots W
    | 1, hi => simp at hi; subst hi; exact opens_quots W
    | 2, hi =>
      simp at hi; subst hi
      intro H enc fuel cs x hx _
      obtain ⟨b, h1, _⟩ := DataW.trod_bool Tryd.underlying4 hx
      exact ⟨b, h1⟩
    | 3, hi => simp at hi; subst hi; exact opens_int Tryd.underlying3
    | i + 4, hi => simp at hi
  · rintro cs b ⟨hl, h⟩
    obtain ⟨b0, ⟨vq, e0, lq, q1, q2, q3⟩, l0⟩ := h 0 _ rfl
    obtain ⟨b1, ⟨vv, e1, lv, p1, p2, p3⟩, l1⟩ := h 1 _ rfl
    obtain ⟨b2, ⟨pw, e2⟩, l2⟩ := h 2 _ rfl
    obtain ⟨b3, ⟨hd, e3, h3⟩, l3⟩ := h 3 _ rfl
    have hcs : Tryd.prog.cellsOf 48 = 1 := by kernel_rfl
    have hcb : Tryd.prog.cellsOf 4 = 1 := by kernel_rfl
    have hci : Tryd.prog.cellsOf 3 = 1 := by kernel_rfl
    have hc2 : Tryd.prog.cellsOf 61 = 4 := by kernel_rfl
    have e0 : (cs.drop 0).take (Tryd.prog.cellsOf 48) = [vq] := e0
    have e1 : (cs.drop 1).take (Tryd.prog.cellsOf 48) = [vv] := e1
    have e2 : (cs.drop 2).take (Tryd.prog.cellsOf 4) = [.bool pw] := e2
    have e3 : (cs.drop 3).take (Tryd.prog.cellsOf 3) = [.int .i64 hd] := e3
    rw [hcs] at e0 e1
    rw [hcb] at e2
    rw [hci] at e3
    rw [hc2] at hl
    refine ⟨vq, vv, pw, hd, ?_, h3, ⟨lq, q1, fun x hx => (q2 x hx).more (by omega), by omega⟩, ⟨lv, p1, fun x hx => (p2 x hx).more (by omega), by omega⟩⟩
    show cs = [vq] ++ [vv] ++ [.bool pw] ++ [.int .i64 hd]
    rw [← e0, ← e1, ← e2, ← e3]
    match cs, hl with
    | [_, _, _, _], _ => rfl
set_option maxRecDepth 100000 in
theorem arg_state {H : Type} {enc : TypeId × Value → H} {W : World} {v : Value} {d : DataW H} {p : List MemPlace} {r : Reach} {b0 : Nat} (hv : Value.okWide Tryd.prog W r b0 61 v) (h : DataW.Trod enc Tryd.prog W 0 (fun _ => true) true 61 v d p)
    (hw : ∀ m ∈ d.weights Tryd.prog 61, m ≤ reachBytes) : StateArg W v (bulk d) := by
  obtain ⟨cs, rfl, _⟩ := okWide_struct Tryd.underlying61 hv
  obtain ⟨vq, vv, pw, hd, he, h1, h2, h3⟩ := view (opens_state W) h hw
  have he : cs.toList = [vq, vv, .bool pw, .int .i64 hd] := he
  refine ⟨vq, vv, pw, hd, ?_, h1, h2, h3⟩
  have : cs = ([vq, vv, .bool pw, .int .i64 hd] : List Value).toArray := by rw [← he]
  rw [this]
end Go.Proofs.YtnnbnecpcppkdaaDoor
