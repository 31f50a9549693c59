/- gantref5.EventFault, MemFault, EventBytes. gantref5.EventOf. gantref5.Happens. gantlaw5.FallTells returns true. Conditions: those typed. -/
import Derived.Test.YtaahpjjffggaiaaFallW
import Derived.Test.YtaahpjjffggaiaaRefBytes
import Derived.Test.YtaahpjjffggaiaaFallR
import Derived.Test.YtaahpjjffggaiaaSliceTo
import Derived.Test.YtaahpjjffggaiaaFallDo
import Derived.Test.YtaahpjjffggaiaaSetAllF
namespace Go.Proofs.Ytaahpjjffggaiaa
open Go.RowKit Go.Gy
set_option linter.unusedVariables false
set_option maxRecDepth 100000 in
set_option maxHeartbeats 4000000 in
theorem eventfault_any (w : World) (k v : Int) (l : List Cell) (A : Option Addr) (n c : Nat) (hm : SlC w w.heap.size (.slice A n c) l) :
    Calls Try.prog 23 #[.int .i64 k, .int .i64 v, .slice A n c] w (IntPost (checkF ⟨k, v, l⟩) w) := by
  obtain ⟨hm', _, _, hrd⟩ := hm.parts
  have Hm := Lib.hid (cellsfault_any w A n c l hm' hrd)
  clear hm hrd
  obtain ⟨r, hr⟩ : ∃ r, r = checkF ⟨k, v, l⟩ := ⟨_, rfl⟩
  rw [← hr]
  have hf := hr
  clear hr
  unfold checkF at hf
  simp only at hf
  by_cases h1 : k < 1 ∨ 6 < k
  · rw [if_pos h1] at hf
    subst hf
    have hc : k < 1 ∨ (1 ≤ k ∧ 6 < k) := by omega
    clear h1 hm'
    rcases hc with h | ⟨h, h'⟩
    all_goals
      go_enter Try.func23, Try.ntmps23
      go_wp2
      go_ret
      exact ⟨rfl, Below.refl _ _⟩
  · rw [if_neg h1] at hf
    have k1 : 1 ≤ k := by omega
    have k2 : k ≤ 6 := by omega
    clear h1
    by_cases h2 : (k = 1 ∧ (v < 0 ∨ 2147483647 < v)) ∨ (k ≠ 1 ∧ v ≠ 0)
    · rw [if_pos h2] at hf
      subst hf
      have hc : (k = 1 ∧ v < 0) ∨ (k = 1 ∧ 0 ≤ v ∧ 2147483648 ≤ v) ∨ ((k == 1) = false ∧ (k != 1) = true ∧ 1 < k ∧ (v == 0) = false ∧ (v != 0) = true) := by
        simp only [beq_eq_false_iff_ne, bne_iff_ne]; omega
      clear h2 hm'
      rcases hc with ⟨rfl, h⟩ | ⟨rfl, h, h'⟩ | ⟨h, h', h6, h'', h'''⟩
      all_goals
        go_enter Try.func23, Try.ntmps23
        go_wp2
        go_ret
        exact ⟨rfl, Below.refl _ _⟩
    · rw [if_neg h2] at hf
      have hc : (k = 1 ∧ 0 ≤ v ∧ v < 2147483648) ∨ ((k == 1) = false ∧ v = 0 ∧ k = 3) ∨ ((k == 1) = false ∧ v = 0 ∧ k = 5) ∨ ((k == 1) = false ∧ v = 0 ∧ (k == 3) = false ∧ (k == 5) = false ∧ 1 < k) := by
        simp only [beq_eq_false_iff_ne]; omega
      clear h2
      by_cases h3 : k ≠ 3 ∧ k ≠ 5 ∧ l ≠ []
      · rw [if_pos h3] at hf
        subst hf
        have hn : ((n : Int) != 0) = true := by
          rcases Nat.eq_zero_or_pos n with h0 | h0
          · exact absurd (List.eq_nil_of_length_eq_zero (hm'.trans h0)) h3.2.2
          · simp; omega
        have hq3 : (k == 3) = false := by simpa using h3.1
        have hq5 : (k == 5) = false := by simpa using h3.2.1
        obtain ⟨g3, g5, _⟩ := h3
        clear hm'
        rcases hc with ⟨rfl, h, h'⟩ | ⟨h, rfl, h'⟩ | ⟨h, rfl, h'⟩ | ⟨h, rfl, _, _, h7⟩
        · clear g3 g5
          go_enter Try.func23, Try.ntmps23
          go_wp2
          go_ret
          exact ⟨rfl, Below.refl _ _⟩
        · exact absurd h' g3
        · exact absurd h' g5
        · have g1 : (k != 1) = true := by simpa using h
          have g3' : (k != 3) = true := by simpa using g3
          have g5' : (k != 5) = true := by simpa using g5
          clear g3 g5
          go_enter Try.func23, Try.ntmps23
          go_wp2
          go_ret
          exact ⟨rfl, Below.refl _ _⟩
      · rw [if_neg h3] at hf
        have h4 : k = 3 ∨ k = 5 ∨ n = 0 := by
          rcases Nat.eq_zero_or_pos n with h0 | h0
          · exact .inr (.inr h0)
          · have : l ≠ [] := fun h => by subst h; simp at hm'; omega
            by_cases e3 : k = 3
            · exact .inl e3
            · by_cases e5 : k = 5
              · exact .inr (.inl e5)
              · exact absurd ⟨e3, e5, this⟩ h3
        subst hf
        clear h3 hm'
        have hc2 : (k = 1 ∧ 0 ≤ v ∧ v < 2147483648 ∧ n = 0) ∨ (v = 0 ∧ k = 3) ∨ (v = 0 ∧ k = 5) ∨ (((k == 1) = false ∧ (k == 3) = false ∧ (k == 5) = false) ∧ ((k != 1) = true ∧ (k != 3) = true ∧ (k != 5) = true) ∧ v = 0 ∧ n = 0 ∧ 1 < k) := by
          simp only [beq_eq_false_iff_ne, bne_iff_ne] at hc ⊢; omega
        clear hc h4
        rcases hc2 with ⟨rfl, h, h', rfl⟩ | ⟨rfl, rfl⟩ | ⟨rfl, rfl⟩ | ⟨⟨h, h', h''⟩, ⟨f, f', f''⟩, rfl, rfl, h7⟩
        all_goals
          go_enter Try.func23, Try.ntmps23
          go_wp2_with fail
          refine Hm.out.mono ?_
          rintro e w' ⟨rfl, hb⟩
          go_wp2
          go_ret
          exact ⟨rfl, hb⟩
/-- the reference's memory: the fields stand in another order -/
abbrev memR (m : GMem) (A : Option Addr) (n c : Nat) (A' : Option Addr) (n' c' : Nat) : Value := .agg #[.int .i64 m.goal, .int .i64 m.ticks, .int .i64 m.falls, .slice A n c, .slice A' n' c']
set_option maxRecDepth 100000 in
set_option maxHeartbeats 4000000 in
theorem memfault_any (w : World) (m : GMem) (A : Option Addr) (n c : Nat) (A' : Option Addr) (n' c' : Nat) (ha : SlC w w.heap.size (.slice A n c) m.asked) (hh : SlC w w.heap.size (.slice A' n' c') m.has) :
    Calls Try.prog 30 #[memR m A n c A' n' c'] w (IntPost (rightF m) w) := by
  obtain ⟨g, t, l, l', f⟩ := m
  have hb : ∀ X, Below w.heap.size w (w.alloc X) := fun X => (Below.refl _ _).alloc (Nat.le_refl _) _
  have Hb := Lib.hid hb
  obtain ⟨hm, _, _, hrd⟩ := ha.parts
  have Hm := Lib.hid (fun X => cellsfault_any (w.alloc X) A n c l hm ((hrd.below (hb X)).more (by simp)))
  obtain ⟨r, hr⟩ : ∃ r, r = rightF ⟨g, t, l, l', f⟩ := ⟨_, rfl⟩
  rw [← hr]
  have hf := hr
  clear hr
  unfold rightF at hf
  simp only at hf
  have Hhh := Lib.hid hh
  clear ha hh hm hrd hb
  by_cases h1 : g < 0 ∨ t < 0 ∨ f < 0
  · rw [if_pos h1] at hf
    subst hf
    have hc : g < 0 ∨ (0 ≤ g ∧ t < 0) ∨ (0 ≤ g ∧ 0 ≤ t ∧ f < 0) := by omega
    clear h1
    rcases hc with h | ⟨h, h'⟩ | ⟨h, h', h''⟩
    all_goals
      go_enter Try.func30, Try.ntmps30
      go_wp2_with fail
      go_ret
      exact ⟨rfl, Hb.out _⟩
  · rw [if_neg h1] at hf
    have o1 : 0 ≤ g := by omega
    have o2 : 0 ≤ t := by omega
    have o3 : 0 ≤ f := by omega
    clear h1
    by_cases h2 : cellsF l ≠ 0
    · rw [if_pos h2] at hf
      have hne : (((cellsF l : Nat) : Int) != 0) = true := by simp; omega
      rw [← hf] at hne Hm
      clear hf h2
      go_enter Try.func30, Try.ntmps30
      go_wp2_with fail
      refine (Hm.out _).mono ?_
      rintro e w1 ⟨rfl, hb1⟩
      go_wp2
      go_ret
      exact ⟨rfl, (Hb.out _).trans (hb1.mono (by simp))⟩
    · rw [if_neg h2] at hf
      have h0 : cellsF l = 0 := by omega
      rw [h0] at Hm
      rw [hf]
      clear hf h2 h0
      have hk : ∀ X, Blk (w.alloc (.cells X 60)) w.heap.size 60 X := fun X => Blk.new _ _ _
      have Hk := Lib.hid hk
      clear hk
      go_enter Try.func30, Try.ntmps30
      go_wp2_with fail
      refine (Hm.out _).mono ?_
      rintro e w1 ⟨rfl, hb1⟩
      have hk3 := ((Hk.out _).below hb1 (by simp)).cell 4 _ rfl
      obtain ⟨hm2, _, _, hrd2⟩ := Hhh.out.parts
      have hbw1 := (Hb.out _).trans (hb1.mono (by simp))
      have Hm2 := Lib.hid (cellsfault_any w1 A' n' c' l' hm2 ((hrd2.below hbw1).more hbw1.size))
      have Hbw1 := Lib.hid hbw1
      clear hm2 hrd2 hbw1 hb1
      go_wp2_with fail
      refine Hm2.out.mono ?_
      rintro e w2 ⟨rfl, hb2⟩
      go_wp2
      go_ret
      exact ⟨rfl, Hbw1.out.trans (hb2.mono Hbw1.out.size)⟩
def EbRel (w : World) (n : Nat) (hd : List Nat) (l : List Cell) (v i : Value) (wr : World) : Prop := ∃ k nn g c, k ≤ n ∧ i = .int .i64 (k : Nat) ∧ nn = 5 + 2 * k ∧ v = .slice (some ⟨g, 0, none⟩) nn c ∧ wr.ownsRow w.heap.size 5 1 v nn ((hd ++ (l.take k).flatMap cellB).map bv) ∧ Below w.heap.size w wr
set_option maxRecDepth 100000 in
set_option maxHeartbeats 4000000 in
theorem eventbytes_any (w : World) (k v : Int) (l : List Cell) (A : Option Addr) (n c : Nat) (hm : SlC w w.heap.size (.slice A n c) l) (hE : checkF ⟨k, v, l⟩ = 0) :
    Calls Try.prog 28 #[.int .i64 k, .int .i64 v, .slice A n c] w (BytesPost w (evB ⟨k, v, l⟩)) := by
  obtain ⟨i0, hi, hz0, hz1, hz2⟩ := info_parts info_byte
  have hb0 : ∀ X, Below w.heap.size w (w.alloc X) := fun X => (Below.refl _ _).alloc (Nat.le_refl _) _
  obtain ⟨hl, _, _, hrd⟩ := hm.parts
  have Hl := Lib.hid hl
  have Hrd := Lib.hid hrd
  have g0 := checkF_zero hE
  have H1 := Lib.hid (cellsF_zero g0.2.2.2.2.2.2).2
  have hn : n ≤ 400 := by rw [← Hl.out]; exact (cellsF_zero g0.2.2.2.2.2.2).1
  simp only at g0
  obtain ⟨K, rfl⟩ : ∃ K : Nat, k = (K : Int) := ⟨k.toNat, by omega⟩
  obtain ⟨Q, rfl⟩ : ∃ K : Nat, v = (K : Int) := ⟨v.toNat, by omega⟩
  have k1 : K ≤ 6 := by omega
  have q1 : Q ≤ 2147483647 := by omega
  have HB4 := Lib.hid (rbytes4 (w.alloc (.cells #[.int .u8 (K : Int)] 5)) Q (by omega))
  have h1l := World.ownsRow_lit (e := 5) (size := 1) (base := w.heap.size) w #[.int .u8 (K : Int)] 1 (Nat.le_refl _) (by decide) rfl
  have Hlen := Lib.hid (evB_len ⟨(K : Int), (Q : Int), l⟩)
  have Hhd := Lib.hid (show evB ⟨(K : Int), (Q : Int), l⟩ = (K :: be4 Q) ++ l.flatMap cellB by simp [evB])
  have H1l := Lib.hid h1l
  have Hb0 := Lib.hid hb0
  clear hb0 hm g0 hl hrd h1l hE
  go_enter Try.func28, Try.ntmps28
  go_wp2_with fail
  refine HB4.out.mono ?_
  rintro e w1 ⟨v1, rfl, hown1, hb1⟩
  obtain ⟨A1, c1, rfl, _, _, hr1⟩ := own_rd hown1
  have hA1 : A1 = none → c1 = 0 := fun h => (own_none hown1 h).2
  have hO1 := own_below H1l.out hb1 (Nat.le_refl _)
  have hbw1 := (Hb0.out (.cells #[.int .u8 (K : Int)] 5)).trans (hb1.mono (by simp))
  have hz1' := hbw1.size
  have h4 : (be4 Q).length = 4 := rfl
  have HO1 := Lib.hid hO1
  have HA1 := Lib.hid hA1
  have Hr1 := Lib.hid hr1
  have Hbw1 := Lib.hid hbw1
  clear hO1 hA1 hr1 hown1 hb1 hbw1 HB4
  go_wp2_with (at_builtin; refine wpList_extend rfl (.tmp 12) (.tmp 15) 33 rfl w.heap.size 5 i0 (.int .u8 0) 1 1 Try.underlying33 hi hz0 hz1 hz2 rfl (by omega) _ 1 _ rfl HO1.out A1 4 c1 _ ((be4 Q).map bv) rfl HA1.out Hr1.out (bv_one _) (by unfold maxLen; omega) (by omega) hz1' ?_; intro v2 w2 hn2 hb2; have Hn2 := Lib.hid hn2; have Hb2 := Lib.hid (Hbw1.out.trans hb2); obtain ⟨g2, c2, rfl, _⟩ := own_shape hn2 (by omega); clear hn2 hb2)
  go_loopw [7, 19] (fun v i wr => EbRel w n (K :: be4 Q) l v i wr) (fun _ i _ => n - (intOf i).toNat)
  case atStart => exact ⟨0, 5, g2, c2, Nat.zero_le _, rfl, rfl, rfl, by simpa [bv] using Hn2.out, Hb2.out⟩
  case round =>
    obtain ⟨k, nn, g, cc, hk, rfl, hnn, rfl, hown, hbr⟩ := hrel
    have hbase := hbr.size
    have hnn' : nn ≤ 813 := by omega
    by_cases hlt : k < n
    · obtain ⟨b, o, f, rfl, hbB, hf, hcl⟩ := (Hrd.out.below hbr).elem encC_len Hl.out hlt
      obtain ⟨x, y⟩ := f
      have c0 : wr.cell? ⟨b, o + k * 2, none⟩ = some (.int .i64 x) := hcl 0 _ rfl
      have c1 : wr.cell? ⟨b, o + k * 2 + 1, none⟩ = some (.int .i64 y) := hcl 1 _ rfl
      obtain ⟨x1, x2, y1, y2⟩ := H1.out (x, y) (List.mem_of_getElem? hf)
      simp only at x1 x2 y1 y2
      have hlt' : (k : Int) < (n : Int) := by omega
      have HL := Lib.hid (cell_lits (hd := K :: be4 Q) hf ⟨x1, x2⟩ ⟨y1, y2⟩)
      have Hnn := Lib.hid hnn
      clear hcl hf hnn
      go_wp2_with (at_builtin; refine wpList_lits rfl (.tmp 23) (.tmp 32) 33 rfl w.heap.size 5 i0 (.int .u8 0) 1 1 Try.underlying33 hi hz0 hz1 hz2 rfl (by omega) _ nn _ rfl (hown.alloc _) [.int .u8 (x + 64), .int .u8 (y + 64)] 2 (wr.heap.size + 1) (by simp) rfl rfl (by omega) (by simp [Value.oneCell']) (nn + 2) rfl (by unfold maxLen; omega) (by omega) (by simp; omega) ?_; intro v8 w8 hown8 hb8 hs8; obtain ⟨g8, c8, rfl, _, _⟩ := hs8)
      go_roundw
      case rel => exact ⟨k + 1, nn + 2, g8, c8, by omega, by go_num, by rw [Hnn.out]; omega, rfl, by rw [← HL.out]; exact hown8, (hbr.alloc hbase _).trans hb8⟩
      case measure => simp [intOf]; omega
    · obtain rfl : k = n := by omega
      rw [List.take_of_length_le (by rw [Hl.out]; omega), ← Hhd.out] at hown
      have HP := Lib.hid (show BytesPost w (evB ⟨(K : Int), (Q : Int), l⟩) (.returned (.slice (some ⟨g, 0, none⟩) nn cc)) wr from ⟨_, rfl, by rw [Hlen.out, show 5 + 2 * l.length = nn by rw [hnn, Hl.out]]; exact hown, hbr⟩)
      clear hown hnn hbr
      go_wp2
      go_ret
      exact HP.out
end Go.Proofs.Ytaahpjjffggaiaa
namespace Go.Proofs.Ytaahpjjffggaiaa
open Go.RowKit Go.Gy
set_option linter.unusedVariables false
theorem results_tmp4 {fn : Func} {t u v x : Tmp} (h : fn.results = #[.tmp t, .tmp u, .tmp v, .tmp x]) (tmps : Array Value) (P : Program) (w : World) :
    (results fn tmps).run P w = .ok (.tuple #[tmps.getD t undef, tmps.getD u undef, tmps.getD v undef, tmps.getD x undef]) w := by
  simp [results, h]
theorem SlB.drop {w : World} {B n c k : Nat} {A : Option Addr} {b : List Nat} (h : SlB w B (.slice A n c) b) (hk : k ≤ n) : SlB w B (.slice (if c = k then A else A.map (·.add k)) (n - k) (c - k)) (b.drop k) := by
  obtain ⟨_, _, _, he, hl, hnc, hA, hr⟩ := h
  injection he with e1 e2 e3
  subst e1 e2 e3
  have h1 := hr.cut (k := k) (cap := c) hk hnc
  simp only [Nat.mul_one, ← List.map_drop] at h1
  refine ⟨_, n - k, c - k, rfl, by rw [List.length_drop]; omega, by omega, fun h => ?_, h1⟩
  by_cases hc : c = k
  · omega
  · rw [if_neg hc] at h
    cases A with
    | none => have := hA rfl; omega
    | some a => cases h
section
variable {w : World} {ops : Array Oper} {rest : List Oper} {o : Oper} {a : Act} {Q : Exit → Act → World → Prop}
/-- x = b[k:] -/
theorem wpList_bytes_from (hgd : o.guard = none) (s x : Operand) (ho : o.op = .slice 33 s (some x) none none) (A : Option Addr) (n c k B : Nat) (b : List Nat) (hk : k ≤ n) (hs : a.eval s = .slice A n c) (hx : a.eval x = .int .i64 (k : Int)) (hl : SlB w B (.slice A n c) b)
    (h : ∀ A' n' c', SlB w B (.slice A' n' c') (b.drop k) → wpList Try.prog ops Q rest (a.put o.dst (.slice A' n' c')) w) : wpList Try.prog ops Q (o :: rest) a w :=
  wpList_plain hgd fun _ hK => by
    have hu : Try.prog.underlying 33 = some (.slice (Try.prog.elem 33)) := by kernel_rfl
    have hr := run_slice_l (P := Try.prog) (w := w) 33 A n c hu .i64 (k : Int) (by omega) (by omega)
    rw [size_byte w] at hr
    simp only [Result.andThen, sliced, Int.toNat_natCast, Nat.mul_one] at hr
    unfold Oper.wp execOp
    simp only [ho, hs, hx, Option.map_none, Option.map_some, run_sliceAt_slice w 33 _ _ _ _ hu, hr, Sem.run_bind, Sem.run_pure, Result.andThen_ok]
    exact hK _ _ (h _ _ _ (hl.drop hk))
end
/-- what EventOf says before the checks -/
def evOfE (b : List Nat) : Nat := if b.length < 5 then 14 else if b.length % 2 = 0 then 3 else 0
def evOfF (b : List Nat) : GEv := if evOfE b = 0 then readF0 b else zeroE
def OfPost (w : World) (b : List Nat) (e : Ending) (w' : World) : Prop := ∃ A n c, e = .returned (.tuple #[.int .i64 (evOfF b).kind, .int .i64 (evOfF b).n, .slice A n c, .int .i64 ((evOfE b : Nat) : Int)]) ∧ SlC w' w'.heap.size (.slice A n c) (evOfF b).cells ∧ n ≤ 70368744177664 ∧ Below w.heap.size w w'
theorem OfPost.bad {w : World} {b : List Nat} {x : Nat} (h : evOfE b = x) (hx : x ≠ 0) : OfPost w b (.returned (.tuple #[.int .i64 0, .int .i64 0, .slice none 0 0, .int .i64 (x : Int)])) w := by
  have hm : evOfF b = zeroE := by unfold evOfF; rw [if_neg (by omega)]
  refine ⟨none, 0, 0, ?_, ?_, by decide, Below.refl _ _⟩
  · rw [hm, h]
  · rw [hm]; exact SlC.nil _ _
def OfRel (w : World) (b : List Nat) (N : Nat) (o v : Value) (wr : World) : Prop := ∃ k, k ≤ N ∧ SlB wr w.heap.size v (b.drop (5 + 2 * k)) ∧ wr.ownsRow w.heap.size 24 2 o k ((cellsOf ((b.drop 5).take (2 * k))).flatMap encC) ∧ Below w.heap.size w wr
theorem SlB.len {w : World} {B n c : Nat} {A : Option Addr} {b : List Nat} (h : SlB w B (.slice A n c) b) : b.length = n := by
  obtain ⟨_, _, _, he, hl, _⟩ := h
  injection he with e1 e2 e3
  omega
set_option maxRecDepth 100000 in
set_option maxHeartbeats 4000000 in
theorem eventof_any (w : World) (v : Value) (b : List Nat) (hv : SlB w w.heap.size v b) (h8 : ∀ x ∈ b, x < 256) (hn : b.length ≤ 10000000000000) :
    Calls Try.prog 33 #[v] w (OfPost w b) := by
  obtain ⟨A, n, c, rfl, hbl, hnc, hA, hr⟩ := id hv
  rw [hbl] at hn
  have Hbl := Lib.hid hbl
  have H8 := Lib.hid h8
  have Hv := Lib.hid hv
  clear hbl h8 hv
  by_cases h5 : n < 5
  · have HP := Lib.hid (OfPost.bad (w := w) (b := b) (x := 14) (by unfold evOfE; rw [Hbl.out, if_pos h5]) (by decide))
    have h5' : (n : Int) < 5 := by omega
    clear hr hA
    go_enter Try.func33, Try.ntmps33
    go_wp2
    refine bodyPost_ret (results_tmp4 rfl _ _ _) rfl ?_
    exact HP.out
  by_cases hp : n % 2 = 0
  · have HP := Lib.hid (OfPost.bad (w := w) (b := b) (x := 3) (by unfold evOfE; rw [Hbl.out, if_neg h5, if_pos hp]) (by decide))
    have h5' : ¬ (n : Int) < 5 := by omega
    have hp' : (n : Int) % 2 = 0 := by omega
    clear hr hA hp h5
    go_enter Try.func33, Try.ntmps33
    go_wp2
    refine bodyPost_ret (results_tmp4 rfl _ _ _) rfl ?_
    exact HP.out
  have h5' : ¬ (n : Int) < 5 := by omega
  have hp' : ((n : Int) % 2 == 1) = true := by simp; omega
  have hp'' : (n : Int) % 2 = 1 := by omega
  obtain ⟨g, o, rfl⟩ : ∃ g o, A = some ⟨g, o, none⟩ := by
    obtain ⟨g, o, _, h, _⟩ := hr.at_ (show 0 < n by omega)
    exact ⟨g, o, h⟩
  obtain ⟨N, hN⟩ : ∃ N, n = 5 + 2 * N := ⟨(n - 5) / 2, by omega⟩
  have HN := Lib.hid hN
  have hn5 : 5 ≤ n := by omega
  have hc1 : ¬ c = 1 := by omega
  have hc5 : 5 ≤ c := by omega
  obtain ⟨j0, hj, hy0', hy1', hy2'⟩ := info_parts info_cell
  clear hr hA hN h5 hp
  go_enter Try.func33, Try.ntmps33
  go_wp2_with (refine wpList_bytes_from rfl (.tmp 14) (.const (.int .i64 5)) rfl (some ⟨g, o, none⟩) n c 5 w.heap.size b hn5 rfl rfl Hv.out ?_; intro A1 n1 c1 hs1; have Hs1 := Lib.hid hs1; clear hs1)
  go_loopw [4, 6] (fun o v wr => OfRel w b N o v wr) (fun _ v _ => match v with | .slice _ n _ => n | _ => 0)
  case atStart => exact ⟨0, Nat.zero_le _, Hs1.out, by simpa [cellsOf] using World.ownsRow_nil _ _ _ _, Below.refl _ _⟩
  case round =>
    obtain ⟨k, hk, hs, hown, hb⟩ := hrel
    obtain ⟨A2, n2, c2, rfl, hl2, hnc2, _, hr2⟩ := id hs
    rw [List.length_drop, Hbl.out] at hl2
    have hnN := HN.out
    have Hs := Lib.hid hs
    have Hown := Lib.hid hown
    have Hb := Lib.hid hb
    obtain ⟨A3, c3, rfl, _⟩ := own_rd hown
    clear hs hown hb
    by_cases hlt : k < N
    · obtain ⟨g2, o2, rfl⟩ : ∃ g o, A2 = some ⟨g, o, none⟩ := by
        obtain ⟨g, o, _, h, _⟩ := hr2.at_ (show 0 < n2 by omega)
        exact ⟨g, o, h⟩
      obtain ⟨z1, hz1, hg2, hd1⟩ := Hs.out.byte (k := 0) (by omega)
      obtain ⟨z2, hz2, _, hd2⟩ := Hs.out.byte (k := 1) (by omega)
      rw [List.getElem?_drop] at hz1 hz2
      have hb1 := H8.out _ (List.mem_of_getElem? hz1)
      have hb2 := H8.out _ (List.mem_of_getElem? hz2)
      have Hlst := Lib.hid (cellsOf_snoc k (b.drop 5) z1 z2 (by rw [List.getElem?_drop]; exact hz1) (by rw [List.getElem?_drop, show 5 + (2 * k + 1) = 5 + 2 * k + 1 by omega]; exact hz2))
      have q0 : (0 : Int) < (n2 : Int) := by omega
      have q1 : (1 : Int) < (n2 : Int) := by omega
      have q2 : 0 < n2 := by omega
      have q3 : 2 ≤ n2 := by omega
      have hzr := Hb.out.size
      have p1 : k + 1 ≤ maxLen := by unfold maxLen; omega
      have p2 : (k + 1) * 16 ≤ 140737488355328 := by omega
      have d1 : wr.cell? ⟨g2, o2, none⟩ = some (.int .u8 (z1 : Int)) := hd1
      have HC := Lib.hid (show ∀ w', Below w.heap.size wr w' → w'.cell? ⟨g2, o2, none⟩ = some (.int .u8 (z1 : Int)) ∧ w'.cell? ⟨g2, o2 + 1, none⟩ = some (.int .u8 (z2 : Int)) ∧ Below w.heap.size wr w' from fun w' h => ⟨(h.cell (p := ⟨g2, o2, none⟩) hg2).trans d1, (h.cell (p := ⟨g2, o2 + 1, none⟩) hg2).trans hd2, h⟩)
      have HbD := Lib.hid (fun X => (show Below w.heap.size wr ((wr.alloc X).drew) from ((Below.refl _ _).alloc hzr _).drew))
      have HbD0 := Lib.hid (show Below w.heap.size wr wr.drew from (Below.refl _ _).drew)
      have r3 : IntKind.i64.wrap (IntKind.i64.wrap (z1 : Int) - 64) = (z1 : Int) - 64 := by rw [IntWalk.i64_in (z1 : Int) (by omega)]; exact IntWalk.i64_in _ (by omega)
      have r4 : IntKind.i64.wrap (IntKind.i64.wrap (z2 : Int) - 64) = (z2 : Int) - 64 := by rw [IntWalk.i64_in (z2 : Int) (by omega)]; exact IntWalk.i64_in _ (by omega)
      clear hd1 hd2 d1 hz1 hz2 hr2 hnN hl2
      go_wp2_with fail
      go_region_held3 (fun w' => w'.cell? ⟨g2, o2, none⟩ = some (.int .u8 (z1 : Int)) ∧ w'.cell? ⟨g2, o2 + 1, none⟩ = some (.int .u8 (z2 : Int)) ∧ Below w.heap.size wr w') (first | exact HC.out _ hb4' | exact HC.out _ (HbD.out _) | exact HC.out _ HbD0.out)
        (first | (refine step_extend (by rfl) (.tmp 21) (.tmp 33) 25 (by rfl) w.heap.size 24 j0 (.agg #[.int .i64 0, .int .i64 0]) 2 16 Try.underlying25 hj hy0' hy1' hy2' rfl (by decide) _ k _ (by rfl) (by first | exact (Hown.out.alloc _).drew | exact Hown.out.drew.alloc _) ⟨wr.heap.size, 0, none⟩ 1 1 (wr.heap.size + 1) [.int .i64 ((z1 : Int) - 64), .int .i64 ((z2 : Int) - 64)] (by rfl) (by decide) (by first | exact (Rd.lit wr 24 [.int .i64 ((z1 : Int) - 64), .int .i64 ((z2 : Int) - 64)] 2 1 rfl).drew | exact (Rd.lit wr.drew 24 [.int .i64 ((z1 : Int) - 64), .int .i64 ((z2 : Int) - 64)] 2 1 rfl)) (by simp [Value.oneCell']) (k + 1) rfl p1 p2 (Nat.le_trans hzr (by simp)) ?_; intro v4 w4 hown4 hb4; have hb4' : Below w.heap.size wr w4 := (HbD.out _).trans hb4; obtain ⟨g4, c4, rfl, _, _⟩ := own_shape hown4 (by omega)))
      have HS4 := Lib.hid (Hs.out.below hb4')
      have HO4 := Lib.hid hown4
      have HB4 := Lib.hid (Hb.out.trans hb4')
      clear hown4 hb4 hb4'
      go_wp2_with (refine wpList_bytes_from rfl (.tmp 19) (.const (.int .i64 2)) rfl (some ⟨g2, o2, none⟩) n2 c2 2 w.heap.size (b.drop (5 + 2 * k)) q3 rfl rfl HS4.out ?_; intro A5 n5 c5 hs5; have Hs5 := Lib.hid hs5; clear hs5)
      go_roundw
      case rel => exact ⟨k + 1, hlt, by have := Hs5.out; rw [List.drop_drop] at this; rw [show 5 + 2 * (k + 1) = 5 + 2 * k + 2 by omega]; exact this, by rw [Hlst.out, List.flatMap_append]; exact HO4.out, HB4.out⟩
      case measure =>
        have h1 := Hs5.out.len
        have h2 := Hs.out.len
        rw [List.length_drop] at h1
        show n5 < n2
        omega
    · obtain rfl : k = N := by omega
      obtain rfl : n2 = 0 := by omega
      have HR9 := Lib.hid (show readF0 b = ⟨(b.getD 0 0 : Nat), (numAt b 1 : Nat), cellsOf ((b.drop 5).take (2 * k))⟩ by
        unfold readF0
        rw [List.take_of_length_le (by rw [List.length_drop, Hbl.out]; omega)])
      obtain ⟨z0, hz0, hg, hd0⟩ := (Hv.out.below Hb.out).byte (k := 0) (by omega)
      have hz0' := H8.out _ (List.mem_of_getElem? hz0)
      have d0 : wr.cell? ⟨g, o, none⟩ = some (.int .u8 (z0 : Int)) := hd0
      have HC := Lib.hid (show ∀ w', Below w.heap.size wr w' → w'.cell? ⟨g, o, none⟩ = some (.int .u8 (z0 : Int)) ∧ Below w.heap.size wr w' from fun w' h => ⟨(h.cell (p := ⟨g, o, none⟩) hg).trans d0, h⟩)
      have HbD0 := Lib.hid (show Below w.heap.size wr wr.drew from (Below.refl _ _).drew)
      have HVal := Lib.hid (fun (w' : World) (h : Below w.heap.size wr w') => show Calls Try.prog 64 #[.slice (some ⟨g, o + 1, none⟩) 4 (c - 1)] w' fun e w'' => e = .returned (.int .i64 ((numAt b 1 : Nat) : Int)) ∧ w' = w'' from value_any w' _ w.heap.size ((b.drop 1).take 4) (((Hv.out.below Hb.out).mid (i := 1) (m := 4) (by omega) hc1).below h) (by rw [List.length_take]; omega) fun x hx => H8.out x (List.mem_of_mem_drop (List.mem_of_mem_take hx)))
      have HP := Lib.hid (show OfPost w b (.returned (.tuple #[.int .i64 (IntKind.i64.wrap (z0 : Int)), .int .i64 ((numAt b 1 : Nat) : Int), .slice A3 k c3, .int .i64 0])) wr.drew from by
        rw [show IntKind.i64.wrap (z0 : Int) = (z0 : Int) from IntWalk.i64_in _ (by omega)]
        have e0 : evOfE b = 0 := by unfold evOfE; rw [Hbl.out, if_neg (by omega), if_neg (by omega)]
        have e1 : evOfF b = readF0 b := by unfold evOfF; rw [if_pos e0]
        refine ⟨A3, k, c3, ?_, ?_, by omega, Hb.out.trans HbD0.out⟩
        · rw [e1, HR9.out, e0, List.getD_eq_getElem?_getD, hz0]; rfl
        · rw [e1, HR9.out]; exact SlC.own Hown.out.drew)
      have hn1 : (1 : Int) < (n : Int) := by omega
      have i0 : (0 : Int) < (n : Int) := by omega
      have hc5' : (5 : Int) ≤ (c : Int) := by omega
      have hc6 : ¬ c < 5 := by omega
      have hn5' : (5 : Int) ≤ (n : Int) := by omega
      have i0' : 0 < n := by omega
      clear hd0 d0 hz0 hg hnN hl2 hr2
      go_wp2_with fail
      go_region_held3 (fun w' => w'.cell? ⟨g, o, none⟩ = some (.int .u8 (z0 : Int)) ∧ Below w.heap.size wr w') (first | exact HC.out _ HbD0.out)
        (first | (go_at_call 64; refine (HVal.out _ HbD0.out).mono ?_; rintro e w7 ⟨rfl, rfl⟩))
      go_wp2_with fail
      refine bodyPost_ret (results_tmp4 rfl _ _ _) rfl ?_
      exact HP.out
end Go.Proofs.Ytaahpjjffggaiaa
namespace Go.Proofs.Ytaahpjjffggaiaa
open Go.RowKit Go.Gy Go.Maps Go.WideMaps
set_option linter.unusedVariables false
abbrev zeroRv : Array Value := #[.int .i64 0, .int .i64 0, .int .i64 0, .slice none 0 0, .slice none 0 0]
/-- what Happens does with a right event -/
def hapF (m : GMem) (e : GEv) : Nat × GMem := if rightF m ≠ 0 then (rightF m, zeroMem) else doF0 m e
theorem doF_hap {m : GMem} {e : GEv} (h : checkF e = 0) : doF m e = hapF m e := by
  unfold doF hapF
  rw [if_neg (by omega)]
def HapPost (r : Nat × GMem) (w : World) (e : Ending) (w' : World) : Prop := ∃ A n c A' n' c', e = .returned (.tuple #[memR r.2 A n c A' n' c', .int .i64 ((r.1 : Nat) : Int)]) ∧ SlC w' w'.heap.size (.slice A n c) r.2.asked ∧ SlC w' w'.heap.size (.slice A' n' c') r.2.has ∧ n ≤ 1000 ∧ n' ≤ 1000 ∧ Below w.heap.size w w'
/-- a list that came in, unchanged, or one that is ours -/
def LstOk (w wx : World) (v0 : Value) (l0 : List Cell) (v : Value) (l : List Cell) : Prop := (v = v0 ∧ l = l0) ∨ ∃ n, wx.ownsRow (w.heap.size + 2) 24 2 v n (l.flatMap encC)
theorem LstOk.set {w wx : World} {v0 v : Value} {l0 l : List Cell} (h : LstOk w wx v0 l0 v l) {p : Addr} (hp : p.block < w.heap.size + 2) (u : Value) : LstOk w (wx.setCell p u) v0 l0 v l := by
  rcases h with h | ⟨n, h⟩
  · exact .inl h
  · exact .inr ⟨n, ownsRow_setCell_below h hp _⟩
theorem LstOk.slc {w wx : World} {v0 v : Value} {l0 l : List Cell} (h : LstOk w wx v0 l0 v l) (h0 : SlC w w.heap.size v0 l0) (hb : Below w.heap.size w wx) : SlC wx wx.heap.size v l := by
  rcases h with ⟨rfl, rfl⟩ | ⟨n, h⟩
  · exact (h0.below hb).more hb.size
  · obtain ⟨A, c, rfl, _⟩ := own_rd h
    exact SlC.own h
theorem LstOk.own {w wx : World} {v0 v : Value} {l0 l : List Cell} {B : Nat} (h : LstOk w wx v0 l0 v l) (h0 : ∃ n, w.ownsRow B 24 2 v0 n (l0.flatMap encC)) (hB : B ≤ w.heap.size) (hb : Below w.heap.size w wx) : ∃ n, wx.ownsRow B 24 2 v n (l.flatMap encC) := by
  rcases h with ⟨rfl, rfl⟩ | ⟨n, h⟩
  · obtain ⟨n, h0⟩ := h0
    exact ⟨n, own_below h0 hb (Nat.le_refl _)⟩
  · exact ⟨n, own_mono h (by omega)⟩
/-- as HapPost, but with whose the lists are -/
def HapOwn (r : Nat × GMem) (w : World) (v0 : Value) (l0 : List Cell) (v0' : Value) (l0' : List Cell) (e : Ending) (w' : World) : Prop := ∃ A n c A' n' c', e = .returned (.tuple #[memR r.2 A n c A' n' c', .int .i64 ((r.1 : Nat) : Int)]) ∧ LstOk w w' v0 l0 (.slice A n c) r.2.asked ∧ LstOk w w' v0' l0' (.slice A' n' c') r.2.has ∧ n ≤ 1000 ∧ n' ≤ 1000 ∧ Below w.heap.size w w'
theorem HapOwn.post {r : Nat × GMem} {w w' : World} {v0 v0' : Value} {l0 l0' : List Cell} {e : Ending} (h : HapOwn r w v0 l0 v0' l0' e w') (h0 : SlC w w.heap.size v0 l0) (h0' : SlC w w.heap.size v0' l0') : HapPost r w e w' := by
  obtain ⟨A, n, c, A', n', c', he, h1, h2, h3, h4, h5⟩ := h
  exact ⟨A, n, c, A', n', c', he, h1.slc h0 h5, h2.slc h0' h5, h3, h4, h5⟩
theorem HapOwn.bad {r : Nat × GMem} {x : Nat} {w w' : World} {v0 v0' : Value} {l0 l0' : List Cell} (h : r = (x, zeroMem)) (hb : Below w.heap.size w w') : HapOwn r w v0 l0 v0' l0' (.returned (.tuple #[.agg zeroRv, .int .i64 (x : Int)])) w' := by
  subst h
  exact ⟨none, 0, 0, none, 0, 0, rfl, .inr ⟨0, World.ownsRow_nil _ _ _ _⟩, .inr ⟨0, World.ownsRow_nil _ _ _ _⟩, by omega, by omega, hb⟩
theorem blk5 {w : World} {g : Nat} {t : TypeId} {a b c d e : Value} (h : Blk w g t #[a, b, c, d, e]) (a' b' c' d' e' : Value) : Blk (((((w.setCell ⟨g, 0, none⟩ a').setCell ⟨g, 1, none⟩ b').setCell ⟨g, 2, none⟩ c').setCell ⟨g, 3, none⟩ d').setCell ⟨g, 4, none⟩ e') g t #[a', b', c', d', e'] :=
  ((((h.set 0 a').set 1 b').set 2 c').set 3 d').set 4 e'
theorem HapOwn.good {r : Nat × GMem} {m : GMem} {w wx : World} {v0 v0' : Value} {l0 l0' : List Cell} {A A' : Option Addr} {n c n' c' : Nat} (h01 : SlC w w.heap.size v0 l0) (h02 : SlC w w.heap.size v0' l0') (h : r = (0, m)) (h1 : LstOk w wx v0 l0 (.slice A n c) m.asked) (h2 : LstOk w wx v0' l0' (.slice A' n' c') m.has)
    (hl1 : m.asked.length ≤ 1000) (hl2 : m.has.length ≤ 1000) (hb : Below w.heap.size w wx) (a b c3 d e : Value) : HapOwn r w v0 l0 v0' l0' (.returned (.tuple #[memR m A n c A' n' c', .int .i64 0])) (((((wx.setCell ⟨w.heap.size + 1, 0, none⟩ a).setCell ⟨w.heap.size + 1, 1, none⟩ b).setCell ⟨w.heap.size + 1, 2, none⟩ c3).setCell ⟨w.heap.size + 1, 3, none⟩ d).setCell ⟨w.heap.size + 1, 4, none⟩ e) := by
  subst h
  have hb' := below_set5 (g := w.heap.size + 1) hb (by omega) a b c3 d e
  have s1 := ((((h1.set (p := ⟨w.heap.size + 1, 0, none⟩) (by simp) a).set (p := ⟨w.heap.size + 1, 1, none⟩) (by simp) b).set (p := ⟨w.heap.size + 1, 2, none⟩) (by simp) c3).set (p := ⟨w.heap.size + 1, 3, none⟩) (by simp) d).set (p := ⟨w.heap.size + 1, 4, none⟩) (by simp) e
  have s2 := ((((h2.set (p := ⟨w.heap.size + 1, 0, none⟩) (by simp) a).set (p := ⟨w.heap.size + 1, 1, none⟩) (by simp) b).set (p := ⟨w.heap.size + 1, 2, none⟩) (by simp) c3).set (p := ⟨w.heap.size + 1, 3, none⟩) (by simp) d).set (p := ⟨w.heap.size + 1, 4, none⟩) (by simp) e
  have l1 := (s1.slc h01 hb').parts.1
  have l2 := (s2.slc h02 hb').parts.1
  exact ⟨A, n, c, A', n', c', rfl, s1, s2, by omega, by omega, hb'⟩
theorem sortC_nodup {l : List Cell} (h : SortC l) : l.Nodup := by
  unfold List.Nodup
  refine h.imp ?_
  intro a b hlt e
  subst e
  exact ltC_irrefl _ hlt
theorem cellsF_set {l : List Cell} (h : cellsF l = 0) : (∀ c ∈ l, WfC c) ∧ l.length ≤ 100000 ∧ l.Nodup := by
  have := (cellsF_sorted l).1 h
  exact ⟨fun c hc => onC_wf (this.2.1 c hc), by omega, sortC_nodup this.2.2⟩
theorem strike_iff {left : Lit → Bool} {c x : Cell} (hc : WfC c) (hx : WfC x) : ((left (litC c) && !(litC c).sameKey (litC x)) = false) ↔ (left (litC c) = false ∨ c = x) := by
  have hk := lawCell.key (key_cell x hx)
  rw [Bool.and_eq_false_iff, Bool.not_eq_false', WideAt.sameKey_iff hk]
  constructor
  · rintro (h | h)
    · exact .inl h
    · exact .inr (Classical.byContradiction fun hn => lit_ne hc hx hn h)
  · rintro (h | rfl)
    · exact .inl h
    · exact .inr rfl
/-- what is left of want while the range over has goes on -/
def AskRel (w4 : World) (bs b2 r n : Nat) (DM : DataW Unit) (ec l' : List Cell) (wr : World) : Prop := ∃ (left : Lit → Bool) (cnt : Nat) (L : List Cell), wr.ranges Try.prog 24 (plainElem Try.prog 4) bs r n DM left cnt ∧ SetL wr b2 L ∧ (∀ c, c ∈ L ↔ c ∈ ec ∧ ¬ (c ∈ l' ∧ left (litC c) = false)) ∧ Below w4.heap.size w4 wr ∧ r < wr.heap.size
theorem AskRel.minus {ec l' L : List Cell} (h : ∀ c, c ∈ L ↔ c ∈ ec ∧ ¬ c ∈ l') (hon : ∀ c ∈ ec, onC c) : listF L 16384 = minusC ec l' := by
  refine sort_unique _ _ (listF_sorted _ _) (List.Pairwise.filter _ (sorted_sortC _)) fun x => ?_
  rw [mem_listF, List.mem_filter, mem_sortC, h x]
  simp only [Bool.not_eq_true', decide_eq_false_iff_not]
  exact ⟨fun h => h.1, fun h1 => ⟨h1, hon x h1.1⟩⟩
def addAll (L xs : List Cell) : List Cell := xs.foldl addC L
def delAll (L xs : List Cell) : List Cell := xs.foldl delC L
theorem mem_addAll {x : Cell} : ∀ {xs L : List Cell}, x ∈ addAll L xs ↔ x ∈ L ∨ x ∈ xs
  | [], L => by simp [addAll]
  | y :: xs, L => by
    have := mem_addAll (x := x) (xs := xs) (L := addC L y)
    unfold addAll at this ⊢
    rw [List.foldl_cons, this, mem_addC]
    simp [or_assoc]
theorem mem_delAll {x : Cell} : ∀ {xs L : List Cell}, x ∈ delAll L xs ↔ x ∈ L ∧ x ∉ xs
  | [], L => by simp [delAll]
  | y :: xs, L => by
    have := mem_delAll (x := x) (xs := xs) (L := delC L y)
    unfold delAll at this ⊢
    rw [List.foldl_cons, this, mem_delC]
    simp [and_assoc]
theorem addAll_take {L xs : List Cell} {j : Nat} {x : Cell} (h : xs[j]? = some x) : addAll L (xs.take (j + 1)) = addC (addAll L (xs.take j)) x := by
  unfold addAll
  rw [List.take_add_one, h, List.foldl_append]; rfl
theorem delAll_take {L xs : List Cell} {j : Nat} {x : Cell} (h : xs[j]? = some x) : delAll L (xs.take (j + 1)) = delC (delAll L (xs.take j)) x := by
  unfold delAll
  rw [List.take_add_one, h, List.foldl_append]; rfl
theorem addAll_len : ∀ {xs L : List Cell}, (addAll L xs).length ≤ L.length + xs.length
  | [], L => by simp [addAll]
  | y :: xs, L => by
    have := addAll_len (xs := xs) (L := addC L y)
    have h2 : (addC L y).length ≤ L.length + 1 := by unfold addC; split <;> simp
    unfold addAll at this ⊢
    rw [List.foldl_cons, List.length_cons]
    omega
theorem addAll_nodup : ∀ {xs L : List Cell}, L.Nodup → (addAll L xs).Nodup
  | [], L, h => h
  | y :: xs, L, h => addAll_nodup (xs := xs) (nodup_addC h)
theorem give_law {l l' : List Cell} (h : ∀ c ∈ l, onC c) (h' : ∀ c ∈ l', onC c) (hn : l'.Nodup) : listF (addAll l' l) 16384 = joinC l' l ∧ (addAll l' l).length = (joinC l' l).length ∧ (cellsF (joinC l' l) = 0 ↔ (addAll l' l).length ≤ 400) := by
  have hm : ∀ x, x ∈ addAll l' l ↔ x ∈ joinC l' l := fun x => by rw [mem_addAll, mem_sortC, List.mem_append]
  have hon : ∀ c ∈ joinC l' l, onC c := fun c hc => by
    rw [← hm, mem_addAll] at hc
    rcases hc with hc | hc
    · exact h' c hc
    · exact h c hc
  have hl := perm_of_mem (addAll_nodup (xs := l) hn) (sortC_nodup (sorted_sortC _)) hm
  refine ⟨sort_unique _ _ (listF_sorted _ _) (sorted_sortC _) fun x => ?_, hl, ?_⟩
  · rw [mem_listF, hm x]
    exact ⟨fun h => h.1, fun h1 => ⟨h1, hon x h1⟩⟩
  · rw [cellsF_sorted, hl]
    exact ⟨fun h => h.1, fun h1 => ⟨h1, hon, sorted_sortC _⟩⟩
theorem done_law {l' ec : List Cell} (h' : ∀ c ∈ l', onC c) : listF (delAll l' ec) 16384 = minusC l' ec := by
  refine sort_unique _ _ (listF_sorted _ _) (List.Pairwise.filter _ (sorted_sortC _)) fun x => ?_
  rw [mem_listF, List.mem_filter, mem_sortC, mem_delAll]
  simp only [Bool.not_eq_true', decide_eq_false_iff_not]
  exact ⟨fun h => h.1, fun h1 => ⟨h1, h' x h1.1⟩⟩
set_option maxRecDepth 100000 in
set_option maxHeartbeats 8000000 in
theorem happens_own (w : World) (m : GMem) (k v : Int) (ec : List Cell) (A : Option Addr) (n c : Nat) (A' : Option Addr) (n' c' : Nat) (D : Option Addr) (p d : Nat)
    (ha : SlC w w.heap.size (.slice A n c) m.asked) (hh : SlC w w.heap.size (.slice A' n' c') m.has) (he : SlC w w.heap.size (.slice D p d) ec) (hE : checkF ⟨k, v, ec⟩ = 0) :
    Calls Try.prog 31 #[memR m A n c A' n' c', .int .i64 k, .int .i64 v, .slice D p d] w (HapOwn (hapF m ⟨k, v, ec⟩) w (.slice A n c) m.asked (.slice A' n' c') m.has) := by
  have HR := Lib.hid (fun (w' : World) (hb : Below w.heap.size w w') => memfault_any w' m A n c A' n' c' ((ha.below hb).more hb.size) ((hh.below hb).more hb.size))
  have Ha := Lib.hid ha
  have Hh := Lib.hid hh
  have He := Lib.hid he
  have HE := Lib.hid hE
  obtain ⟨G, hG⟩ : ∃ G, G = rightF m := ⟨_, rfl⟩
  rw [← hG] at HR
  have HG := Lib.hid hG
  obtain ⟨g, t, l, l', f⟩ := m
  have Hb2 := Lib.hid (show ∀ X Y, Below w.heap.size w ((w.alloc X).alloc Y) from fun X Y => ((Below.refl _ _).alloc (Nat.le_refl _) _).alloc (by simp) _)
  have HM2 := Lib.hid (show ∀ Y, Blk ((w.alloc (.cells #[.int .i64 g, .int .i64 t, .int .i64 f, .slice A n c, .slice A' n' c'] 60)).alloc Y) w.heap.size 60 #[.int .i64 g, .int .i64 t, .int .i64 f, .slice A n c, .slice A' n' c'] from fun Y => (Blk.new w _ _).alloc _)
  have HR2 := Lib.hid (show ∀ X, Blk ((w.alloc X).alloc (.cells zeroRv 60)) (w.heap.size + 1) 60 zeroRv from fun X => by
    have := Blk.new (w.alloc X) 60 zeroRv
    rw [World.size_alloc] at this
    exact this)
  clear ha hh he hE hG
  go_enter Try.func31, Try.ntmps31
  go_wp2_with fail
  refine (HR.out _ (Hb2.out _ _)).mono ?_
  rintro e w3 ⟨rfl, hb3⟩
  have hz3 := hb3.size
  simp only [World.size_alloc] at hz3
  have hM3 := (HM2.out _).below hb3 (by simp; omega)
  have hR3 := (HR2.out _).below hb3 (by simp)
  have HBw3 := Lib.hid ((Hb2.out _ _).trans (hb3.mono (by simp; omega)))
  clear hb3 HM2 HR2 Hb2 HR
  by_cases hG0 : G = 0
  rotate_left
  · have HP := Lib.hid (show hapF ⟨g, t, l, l', f⟩ ⟨k, v, ec⟩ = (G, zeroMem) from by unfold hapF; rw [← HG.out, if_pos hG0])
    have hGb : ((G : Int) != 0) = true := by simpa using hG0
    have r0 := hR3.cell 0 _ rfl
    have r1 := hR3.cell 1 _ rfl
    have r2 := hR3.cell 2 _ rfl
    have r3 := hR3.cell 3 _ rfl
    have r4 := hR3.cell 4 _ rfl
    have rf0 := hR3.free 0
    have rf1 := hR3.free 1
    have rf2 := hR3.free 2
    have rf3 := hR3.free 3
    have rf4 := hR3.free 4
    have HR3 := Lib.hid hR3
    clear hR3 hM3
    go_wp2
    refine bodyPost_ret (results_cell_two Try.results31 _ _ (w.heap.size + 1) 60 zeroRv (0, 0) _ (.int .i64 (G : Int)) rfl rfl (blk5 HR3.out _ _ _ _ _) Try.underlying60 rfl (by kernel_rfl)) rfl ?_
    exact HapOwn.bad (x := G) HP.out (below_set5 HBw3.out (by omega) _ _ _ _ _)
  subst hG0
  have HPP := Lib.hid (show hapF ⟨g, t, l, l', f⟩ ⟨k, v, ec⟩ = doF0 ⟨g, t, l, l', f⟩ ⟨k, v, ec⟩ from by unfold hapF; rw [← HG.out, if_neg (by omega)])
  have hrz := rightF_zero HG.out.symm
  have HSo := Lib.hid (setofl_any w3 (.slice A' n' c') l' ((Hh.out.below HBw3.out).more HBw3.out.size) (cellsF_set hrz.2.2.2.2).1 (cellsF_set hrz.2.2.2.2).2.1 (cellsF_set hrz.2.2.2.2).2.2)
  have hM34 := hM3.cell 4 _ rfl
  have Hrz := Lib.hid hrz
  have HM3 := Lib.hid hM3
  have HR3 := Lib.hid hR3
  clear hrz hM3 hR3
  go_wp2_with fail
  refine HSo.out.mono ?_
  rintro e w4 ⟨bs, rfl, hbs, hs4, hb4⟩
  have hz4 := hb4.size
  have hM4 := HM3.out.below hb4 (by omega)
  have hR4 := HR3.out.below hb4 (by omega)
  have HBw4 := Lib.hid (HBw3.out.trans (hb4.mono (by omega)))
  have HS4 := Lib.hid hs4
  have hs4l := hs4.lt
  have m0 := hM4.cell 0 _ rfl
  have m1 := hM4.cell 1 _ rfl
  have m2 := hM4.cell 2 _ rfl
  have m3 := hM4.cell 3 _ rfl
  have m4 := hM4.cell 4 _ rfl
  have mf0 := hM4.free 0
  have mf1 := hM4.free 1
  have mf2 := hM4.free 2
  have mf3 := hM4.free 3
  have mf4 := hM4.free 4
  have r0 := hR4.cell 0 _ rfl
  have r1 := hR4.cell 1 _ rfl
  have r2 := hR4.cell 2 _ rfl
  have r3 := hR4.cell 3 _ rfl
  have r4 := hR4.cell 4 _ rfl
  have rf0 := hR4.free 0
  have rf1 := hR4.free 1
  have rf2 := hR4.free 2
  have rf3 := hR4.free 3
  have rf4 := hR4.free 4
  have HM4 := Lib.hid hM4
  have HR4 := Lib.hid hR4
  have hek := checkF_zero HE.out
  have Hek := Lib.hid hek
  have k16 : 1 ≤ k ∧ k ≤ 6 := ⟨hek.1, hek.2.1⟩
  have HLa := Lib.hid (show ∀ wx, LstOk w wx (.slice A n c) l (.slice A n c) l from fun wx => .inl ⟨rfl, rfl⟩)
  have HLh := Lib.hid (show ∀ wx, LstOk w wx (.slice A' n' c') l' (.slice A' n' c') l' from fun wx => .inl ⟨rfl, rfl⟩)
  have HL4 := Lib.hid (show l.length ≤ 400 ∧ l'.length ≤ 400 from ⟨(cellsF_zero Hrz.out.2.2.2.1).1, (cellsF_zero Hrz.out.2.2.2.2).1⟩)
  clear hb4 hs4 hM4 hR4 hek hM34 HSo HM3 HR3
  by_cases k1 : k = 1
  · subst k1
    go_wp2
    refine bodyPost_ret (results_cell_two Try.results31 _ _ (w.heap.size + 1) 60 #[.int .i64 v, .int .i64 0, .int .i64 f, .slice A n c, .slice A' n' c'] (0, 0) _ (.int .i64 0) rfl rfl (blk5 ((HR4.out.far (p := ⟨w.heap.size, 0, none⟩) (by simp <;> omega) _).far (p := ⟨w.heap.size, 1, none⟩) (by simp <;> omega) _) _ _ _ _ _) Try.underlying60 rfl (by kernel_rfl)) rfl ?_
    exact HapOwn.good Ha.out Hh.out (m := ⟨v, 0, l, l', f⟩) (by rw [HPP.out]; rfl) (HLa.out _) (HLh.out _) (Nat.le_trans HL4.out.1 (by decide)) (Nat.le_trans HL4.out.2 (by decide)) ((HBw4.out.setCell (Nat.le_refl _) _).setCell (Nat.le_refl _) _) _ _ _ _ _
  have hk : k = 2 ∨ k = 3 ∨ k = 4 ∨ k = 5 ∨ k = 6 := by omega
  clear k1 k16
  rcases hk with rfl | rfl | rfl | rfl | rfl
  · by_cases ht : 2000 ≤ t
    · have HPX := Lib.hid (HPP.out.trans (show doF0 ⟨g, t, l, l', f⟩ ⟨2, v, ec⟩ = (19, zeroMem) by simp [doF0, ht]))
      have ht' : 1999 < t := by omega
      clear ht
      go_wp2
      refine bodyPost_ret (results_cell_two Try.results31 _ _ (w.heap.size + 1) 60 zeroRv (0, 0) _ (.int .i64 19) rfl rfl (blk5 HR4.out _ _ _ _ _) Try.underlying60 rfl (by kernel_rfl)) rfl ?_
      exact HapOwn.bad (x := 19) HPX.out (below_set5 HBw4.out (by omega) _ _ _ _ _)
    · have ht' : t ≤ 1999 := by omega
      have ht0 : 0 ≤ t := Hrz.out.2.1
      have HPX := Lib.hid (HPP.out.trans (show doF0 ⟨g, t, l, l', f⟩ ⟨2, v, ec⟩ = (0, ⟨g, t + 1, l, l', f⟩) by simp [doF0, ht]))
      clear ht
      go_wp2
      refine bodyPost_ret (results_cell_two Try.results31 _ _ (w.heap.size + 1) 60 #[.int .i64 g, .int .i64 (t + 1), .int .i64 f, .slice A n c, .slice A' n' c'] (0, 0) _ (.int .i64 0) rfl rfl (blk5 (HR4.out.far (p := ⟨w.heap.size, 1, none⟩) (by simp <;> omega) _) _ _ _ _ _) Try.underlying60 rfl (by kernel_rfl)) rfl ?_
      exact HapOwn.good Ha.out Hh.out (m := ⟨g, t + 1, l, l', f⟩) HPX.out (HLa.out _) (HLh.out _) (Nat.le_trans HL4.out.1 (by decide)) (Nat.le_trans HL4.out.2 (by decide)) (HBw4.out.setCell (Nat.le_refl _) _) _ _ _ _ _
  · have hl1 : l.length = n := Ha.out.parts.1
    by_cases hn0 : n = 0
    rotate_left
    · have hl0 : l ≠ [] := fun h => hn0 (by rw [← hl1, h]; rfl)
      have HPX := Lib.hid (HPP.out.trans (show doF0 ⟨g, t, l, l', f⟩ ⟨3, v, ec⟩ = (7, zeroMem) by simp [doF0, hl0]))
      have hn1 : ((n : Int) != 0) = true := by simpa using hn0
      clear hl1 hn0 hl0
      go_wp2
      refine bodyPost_ret (results_cell_two Try.results31 _ _ (w.heap.size + 1) 60 zeroRv (0, 0) _ (.int .i64 7) rfl rfl (blk5 HR4.out _ _ _ _ _) Try.underlying60 rfl (by kernel_rfl)) rfl ?_
      exact HapOwn.bad (x := 7) HPX.out (below_set5 HBw4.out (by omega) _ _ _ _ _)
    have hl0 : l = [] := List.eq_nil_of_length_eq_zero (hl1.trans hn0)
    have HPX := Lib.hid (HPP.out.trans (show doF0 ⟨g, t, l, l', f⟩ ⟨3, v, ec⟩ = (0, ⟨g, t, minusC ec l', l', f⟩) by simp [doF0, hl0]))
    subst hn0
    have hce := cellsF_set Hek.out.2.2.2.2.2.2
    have HSe := Lib.hid (setofl_any w4 (.slice D p d) ec ((He.out.below HBw4.out).more HBw4.out.size) hce.1 hce.2.1 hce.2.2)
    have Hon := Lib.hid (show ∀ c ∈ ec, onC c from ((cellsF_sorted ec).1 Hek.out.2.2.2.2.2.2).2.1)
    have Hwe := Lib.hid hce.1
    have hml : (minusC ec l').length ≤ 1000 := Nat.le_trans (List.length_filter_le _ _) (Nat.le_trans (sort_len _) (Nat.le_trans (cellsF_zero Hek.out.2.2.2.2.2.2).1 (by decide)))
    have Hml := Lib.hid hml
    clear hl1 hl0 hce hml
    go_wp2_with fail
    refine HSe.out.mono ?_
    rintro e w5 ⟨b2, rfl, hb2, hs5, hb5⟩
    have hsl5 := hs5.lt
    have hz5 := hb5.size
    have hS5 := HS4.out.below hb5 hs4l
    obtain ⟨_, hwl', DM, hDM, _, hct⟩ := id hS5
    have HDM := Lib.hid hDM
    have Hct := Lib.hid hct
    have Hwl := Lib.hid hwl'
    have Hs5 := Lib.hid hs5
    have Hb5 := Lib.hid hb5
    clear hs5 hS5 hDM hct hwl' hb5 HSe m0 m1 m2 m3 m4 mf0 mf1 mf2 mf3 mf4 r0 r1 r2 r3 r4 rf0 rf1 rf2 rf3 rf4
    have HG0 := Lib.hid (show ∀ c, c ∈ ec ↔ c ∈ ec ∧ ¬ (c ∈ l' ∧ Maps.has DM (litC c) = false) from fun c => ⟨fun h => ⟨h, fun h2 => by
      rcases Hct.out c (Hwl.out c h2.1) with ⟨_, h3⟩ | ⟨h3, _⟩
      · rw [has_true_of_atKey h3] at h2; cases h2.2
      · exact h3 h2.1⟩, fun h => h.1⟩)
    go_wp2_with (at_range; refine wpList_range_own _ rfl _ _ rfl 24 4 lawCell Try.underlying105 _ bs l'.length DM rfl HDM.out ?_; intro w0 hrg0 hg0 hz0; go_frame)
    have HR0 := Lib.hid (show AskRel w4 bs b2 w5.heap.size l'.length DM ec l' w0 from ⟨_, _, ec, hrg0, Hs5.out.kept hg0 (by simp), HG0.out, Hb5.out.grown hg0 Hb5.out.size (fun g hg => by cases hg), by omega⟩)
    clear hrg0 hg0 HG0
    go_loopw [13] (fun _ wr => AskRel w4 bs b2 w5.heap.size l'.length DM ec l' wr) (fun _ wr => wr.rangeLeft bs w5.heap.size)
    case atStart => exact HR0.out
    case round =>
      obtain ⟨left, cnt, L, hrg, hs, hL, hb, hz⟩ := hrel
      have Hrg := Lib.hid hrg
      have Hs := Lib.hid hs
      have HL := Lib.hid hL
      have Hb := Lib.hid hb
      clear hrg hs hL hb
      go_wp2_with (at_next; refine wpList_next_set rfl _ rfl bs w5.heap.size l'.length DM left cnt l' Hct.out rfl Hrg.out ?_ ?_)
      · intro _ hl0
        have hLm : listF L 16384 = minusC ec l' := AskRel.minus (fun c => by rw [HL.out c]; simp [hl0]) Hon.out
        have HLi := list_any wr b2 L Hs.out
        rw [hLm] at HLi
        have HLi := Lib.hid HLi
        have Hbw := Lib.hid (HBw4.out.trans (Hb.out.mono HBw4.out.size))
        have hzr := Hb.out.size
        clear hl0 hLm
        go_wp2_with fail
        refine HLi.out.mono ?_
        rintro e w8 ⟨v8, rfl, ho8, hb8⟩
        have hz8 := hb8.size
        have HM8 := Lib.hid ((HM4.out.below Hb.out (by omega)).below hb8 (by omega))
        have HR8 := Lib.hid ((HR4.out.below Hb.out (by omega)).below hb8 (by omega))
        have Hb8 := Lib.hid (Hbw.out.trans (hb8.mono Hbw.out.size))
        have HLo := Lib.hid (show LstOk w w8 (.slice A 0 c) l v8 (minusC ec l') from .inr ⟨_, own_mono ho8 (by omega)⟩)
        obtain ⟨A8, c8, rfl, _⟩ := own_rd ho8
        clear ho8 hb8 HLi
        have m0 := HM8.out.cell 0 _ rfl
        have m1 := HM8.out.cell 1 _ rfl
        have m2 := HM8.out.cell 2 _ rfl
        have m3 := HM8.out.cell 3 _ rfl
        have m4 := HM8.out.cell 4 _ rfl
        have mf3 := HM8.out.free 3
        have r0 := HR8.out.cell 0 _ rfl
        have r1 := HR8.out.cell 1 _ rfl
        have r2 := HR8.out.cell 2 _ rfl
        have r3 := HR8.out.cell 3 _ rfl
        have r4 := HR8.out.cell 4 _ rfl
        have rf0 := HR8.out.free 0
        have rf1 := HR8.out.free 1
        have rf2 := HR8.out.free 2
        have rf3 := HR8.out.free 3
        have rf4 := HR8.out.free 4
        go_wp2
        refine bodyPost_ret (results_cell_two Try.results31 _ _ (w.heap.size + 1) 60 #[.int .i64 g, .int .i64 t, .int .i64 f, .slice A8 (minusC ec l').length c8, .slice A' n' c'] (0, 0) _ (.int .i64 0) rfl rfl (blk5 (HR8.out.far (p := ⟨w.heap.size, 3, none⟩) (by simp <;> omega) _) _ _ _ _ _) Try.underlying60 rfl (by kernel_rfl)) rfl ?_
        exact HapOwn.good Ha.out Hh.out (m := ⟨g, t, minusC ec l', l', f⟩) HPX.out (HLo.out.set (by simp) _) (HLh.out _) Hml.out (Nat.le_trans HL4.out.2 (by decide)) (Hb8.out.setCell (Nat.le_refl _) _) _ _ _ _ _
      · intro x y w1 cnt1 H1 H2 hs1 hen
        have Hs1 := Lib.hid (fun X => (Hs.out.kept H2.out.2.2 (fun h => by injection h with h; omega)).below ((Below.refl w1.heap.size w1).alloc (Nat.le_refl _) X) (by omega))
        have Hb1 := Lib.hid (fun X => (Hb.out.grown H2.out.2.2 Hb.out.size (fun g hg => by injection hg with hg; omega)).alloc (by have := Hb.out.size; omega) X)
        have HrA := Lib.hid (fun X => H2.out.1.alloc X)
        have hne := H2.out.1.ne
        have hzb := Hb.out.size
        have HLn := Lib.hid (show ∀ c, c ∈ delC L (x, y) ↔ c ∈ ec ∧ ¬ (c ∈ l' ∧ (left (litC c) && !(litC c).sameKey (litC (x, y))) = false) from fun c => by
          rw [mem_delC, HL.out c]
          constructor
          · rintro ⟨⟨h1, h2⟩, h3⟩
            refine ⟨h1, fun h4 => ?_⟩
            rcases (strike_iff (Hwe.out c h1) H1.out.1).1 h4.2 with h5 | h5
            · exact h2 ⟨h4.1, h5⟩
            · exact h3 h5
          · rintro ⟨h1, h2⟩
            refine ⟨⟨h1, fun h4 => h2 ⟨h4.1, (strike_iff (Hwe.out c h1) H1.out.1).2 (.inl h4.2)⟩⟩, fun h3 => h2 ⟨h3 ▸ H1.out.2.1, (strike_iff (Hwe.out c h1) H1.out.1).2 (.inr h3)⟩⟩)
        go_wp2_with (at_delete; refine wpList_del_l rfl _ _ _ rfl Try.underlying105 b2 L (x, y) H1.out.1 rfl rfl (Hs1.out _) ?_; intro w6 hs6 hg6; have HR6 := Lib.hid (show AskRel w4 bs b2 w5.heap.size l'.length DM ec l' w6 ∧ w6.rangeLeft bs w5.heap.size = cnt1 from ⟨⟨_, cnt1, _, (HrA.out _).kept hg6 (fun h => by injection h with h; omega) (fun h => by injection h with h; omega), hs6, HLn.out, (Hb1.out _).grown hg6 (by simp; omega) (fun g hg => by injection hg with hg; omega), by have := hg6.size; simp at this; omega⟩, ((HrA.out _).kept hg6 (fun h => by injection h with h; omega) (fun h => by injection h with h; omega)).left_eq⟩); clear hs6 hg6; go_frame)
        go_roundw
        case rel => exact HR6.out.1
        case measure => rw [HR6.out.2, Hrg.out.left_eq]; exact H2.out.2.1
  · have hon1 := ((cellsF_sorted l).1 Hrz.out.2.2.2.1).2.1
    have hon2 := ((cellsF_sorted l').1 Hrz.out.2.2.2.2).2.1
    have Hgl := Lib.hid (give_law hon1 hon2 (cellsF_set Hrz.out.2.2.2.2).2.2)
    have Hon1 := Lib.hid hon1
    have HS0 := Lib.hid (show SetL w4 bs (addAll l' (l.take 0)) from HS4.out)
    have hl1 : l.length = n := Ha.out.parts.1
    have Hl1 := Lib.hid hl1
    have hn4 : n ≤ 400 := by rw [← hl1]; exact HL4.out.1
    clear hon1 hon2 hl1 mf0 mf1 mf2 mf4 r0 r1 r2 r3 r4 rf0 rf1 rf2 rf3 rf4
    go_wp2_with fail
    go_loopw [68] (fun i wr => ∃ j : Nat, j ≤ n ∧ i = .int .i64 (j : Int) ∧ SetL wr bs (addAll l' (l.take j)) ∧ Below w3.heap.size w4 wr) (fun i _ => n - (intOf i).toNat)
    case atStart => exact ⟨0, Nat.zero_le _, rfl, HS0.out, Below.refl _ _⟩
    case round =>
      obtain ⟨j, hj, rfl, hs, hb⟩ := hrel
      have Hs := Lib.hid hs
      have Hb := Lib.hid hb
      clear hs hb
      by_cases hjn : j < n
      · have Hbw := Lib.hid (HBw4.out.trans (Hb.out.mono (by omega)))
        obtain ⟨b, o, x, rfl, hbB, hxx, hcs⟩ := (Ha.out.parts.2.2.2.below Hbw.out).elem encC_len Hl1.out hjn
        obtain ⟨x, y⟩ := x
        have e0 : wr.cell? ⟨b, o + j * 2, none⟩ = some (.int .i64 x) := hcs 0 _ rfl
        have e1 : wr.cell? ⟨b, o + j * 2 + 1, none⟩ = some (.int .i64 y) := hcs 1 _ rfl
        have Hw := Lib.hid (onC_wf (Hon1.out (x, y) (List.mem_of_getElem? hxx)))
        have Hnx := Lib.hid (addAll_take (L := l') hxx)
        have hlt := Hs.out.lt
        have HsA := Lib.hid (fun X => Hs.out.below ((Below.refl wr.heap.size wr).alloc (Nat.le_refl _) X) hlt)
        have HbA := Lib.hid (fun X => Hb.out.alloc (Nat.le_trans hz4 Hb.out.size) X)
        have HN := Lib.hid (show (addAll l' (l.take j)).length < maxLen by have h1 := addAll_len (xs := l.take j) (L := l'); have h2 := HL4.out.2; rw [List.length_take] at h1; unfold maxLen; omega)
        clear hcs hxx hbB
        go_wp2_with (at_mapUpdate; refine wpList_put_l rfl _ _ _ _ rfl Try.underlying105 bs (addAll l' (l.take j)) HN.out (x, y) Hw.out rfl rfl rfl (HsA.out _) ?_; intro w6 hs6 hg6; have HR6 := Lib.hid (show SetL w6 bs (addAll l' (l.take (j + 1))) ∧ Below w3.heap.size w4 w6 from ⟨Hnx.out ▸ hs6, (HbA.out _).grown hg6 (Nat.le_trans hz4 (HbA.out _).size) (fun g hg => by injection hg with hg; omega)⟩); clear hs6 hg6)
        go_roundw
        case rel => exact ⟨j + 1, by omega, by go_num, HR6.out⟩
        case measure => simp [intOf]; omega
      · obtain rfl : j = n := by omega
        have hs := Hs.out
        rw [List.take_of_length_le (by rw [Hl1.out]; exact Nat.le_refl _)] at hs
        have Hs := Lib.hid hs
        clear hs
        obtain ⟨N, hN⟩ : ∃ N, N = (addAll l' l).length := ⟨_, rfl⟩
        by_cases hN4 : 400 < N
        · have HPX := Lib.hid (HPP.out.trans (show doF0 ⟨g, t, l, l', f⟩ ⟨4, v, ec⟩ = (6, zeroMem) by
            have : cellsF (joinC l' l) ≠ 0 := fun h => by have := Hgl.out.2.2.1 h; omega
            have h0 : doF0 ⟨g, t, l, l', f⟩ ⟨4, v, ec⟩ = if cellsF (joinC l' l) ≠ 0 then (6, zeroMem) else (0, ⟨g, t, [], joinC l' l, f⟩) := rfl
            rw [h0, if_pos this]))
          have HR8 := Lib.hid (HR4.out.below Hb.out (by omega))
          have Hb8 := Lib.hid (HBw4.out.trans (Hb.out.mono (by omega)))
          have HN := Lib.hid hN
          have r0 := HR8.out.cell 0 _ rfl
          have r1 := HR8.out.cell 1 _ rfl
          have r2 := HR8.out.cell 2 _ rfl
          have r3 := HR8.out.cell 3 _ rfl
          have r4 := HR8.out.cell 4 _ rfl
          have rf0 := HR8.out.free 0
          have rf1 := HR8.out.free 1
          have rf2 := HR8.out.free 2
          have rf3 := HR8.out.free 3
          have rf4 := HR8.out.free 4
          clear hN m0 m1 m2 m3 m4 mf3
          go_wp2_with (at_len; refine wpList_len_l rfl _ _ rfl Try.underlying105 bs (addAll l' l) rfl Hs.out ?_; rw [← HN.out])
          go_wp2
          refine bodyPost_ret (results_cell_two Try.results31 _ _ (w.heap.size + 1) 60 zeroRv (0, 0) _ (.int .i64 6) rfl rfl (blk5 HR8.out _ _ _ _ _) Try.underlying60 rfl (by kernel_rfl)) rfl ?_
          exact HapOwn.bad (x := 6) HPX.out (below_set5 Hb8.out (by omega) _ _ _ _ _)
        · have HPX := Lib.hid (HPP.out.trans (show doF0 ⟨g, t, l, l', f⟩ ⟨4, v, ec⟩ = (0, ⟨g, t, [], joinC l' l, f⟩) by
            have : ¬ cellsF (joinC l' l) ≠ 0 := fun h => h (Hgl.out.2.2.2 (by omega))
            have h0 : doF0 ⟨g, t, l, l', f⟩ ⟨4, v, ec⟩ = if cellsF (joinC l' l) ≠ 0 then (6, zeroMem) else (0, ⟨g, t, [], joinC l' l, f⟩) := rfl
            rw [h0, if_neg this]))
          have hml : (joinC l' l).length ≤ 1000 := by rw [← Hgl.out.2.1]; omega
          have Hml := Lib.hid hml
          have HN := Lib.hid hN
          have HLi := list_any wr bs (addAll l' l) Hs.out
          rw [Hgl.out.1] at HLi
          have HLi := Lib.hid HLi
          have Hbw := Lib.hid (HBw4.out.trans (Hb.out.mono (by omega)))
          have hzr := Hb.out.size
          clear hN hml m0 m1 m2 m3 m4 mf3
          go_wp2_with (at_len; refine wpList_len_l rfl _ _ rfl Try.underlying105 bs (addAll l' l) rfl Hs.out ?_; rw [← HN.out])
          refine HLi.out.mono ?_
          rintro e w8 ⟨v8, rfl, ho8, hb8⟩
          have hz8 := hb8.size
          have HM8 := Lib.hid ((HM4.out.below Hb.out (by omega)).below hb8 (by omega))
          have HR8 := Lib.hid ((HR4.out.below Hb.out (by omega)).below hb8 (by omega))
          have Hb8 := Lib.hid (Hbw.out.trans (hb8.mono Hbw.out.size))
          have HLo := Lib.hid (show LstOk w w8 (.slice A' n' c') l' v8 (joinC l' l) from .inr ⟨_, own_mono ho8 (by omega)⟩)
          obtain ⟨A8, c8, rfl, _⟩ := own_rd ho8
          clear ho8 hb8 HLi
          have m0 := HM8.out.cell 0 _ rfl
          have m1 := HM8.out.cell 1 _ rfl
          have m2 := HM8.out.cell 2 _ rfl
          have m3 := HM8.out.cell 3 _ rfl
          have m4 := HM8.out.cell 4 _ rfl
          have mf3 := HM8.out.free 3
          have mf4 := HM8.out.free 4
          have r0 := HR8.out.cell 0 _ rfl
          have r1 := HR8.out.cell 1 _ rfl
          have r2 := HR8.out.cell 2 _ rfl
          have r3 := HR8.out.cell 3 _ rfl
          have r4 := HR8.out.cell 4 _ rfl
          have rf0 := HR8.out.free 0
          have rf1 := HR8.out.free 1
          have rf2 := HR8.out.free 2
          have rf3 := HR8.out.free 3
          have rf4 := HR8.out.free 4
          go_wp2
          refine bodyPost_ret (results_cell_two Try.results31 _ _ (w.heap.size + 1) 60 #[.int .i64 g, .int .i64 t, .int .i64 f, .slice none 0 0, .slice A8 (joinC l' l).length c8] (0, 0) _ (.int .i64 0) rfl rfl (blk5 ((HR8.out.far (p := ⟨w.heap.size, 4, none⟩) (by simp <;> omega) _).far (p := ⟨w.heap.size, 3, none⟩) (by simp <;> omega) _) _ _ _ _ _) Try.underlying60 rfl (by kernel_rfl)) rfl ?_
          exact HapOwn.good Ha.out Hh.out (m := ⟨g, t, [], joinC l' l, f⟩) HPX.out (.inr ⟨0, World.ownsRow_nil _ _ _ _⟩) ((HLo.out.set (by simp) _).set (by simp) _) (by simp) Hml.out ((Hb8.out.setCell (Nat.le_refl _) _).setCell (Nat.le_refl _) _) _ _ _ _ _
  · have hon2 := ((cellsF_sorted l').1 Hrz.out.2.2.2.2).2.1
    have hec := (cellsF_sorted ec).1 Hek.out.2.2.2.2.2.2
    have Hon := Lib.hid hec.2.1
    have Hnd := Lib.hid (sortC_nodup hec.2.2)
    have Hdl := Lib.hid (done_law (ec := ec) hon2)
    have HS0 := Lib.hid (show SetL w4 bs (delAll l' (ec.take 0)) from HS4.out)
    have hl1 : ec.length = p := He.out.parts.1
    have Hl1 := Lib.hid hl1
    have hn4 : p ≤ 400 := by rw [← hl1]; exact hec.1
    clear hon2 hec hl1 mf0 mf1 mf2 mf3 r0 r1 r2 r3 r4 rf0 rf1 rf2 rf3 rf4 m0 m1 m2 m3 m4 mf4
    go_wp2_with fail
    go_loopw [87] (fun i wr => ∃ j : Nat, j ≤ p ∧ i = .int .i64 (j : Int) ∧ SetL wr bs (delAll l' (ec.take j)) ∧ (∀ c ∈ ec.take j, c ∈ l') ∧ Below w3.heap.size w4 wr) (fun i _ => p - (intOf i).toNat)
    case atStart => exact ⟨0, Nat.zero_le _, rfl, HS0.out, by simp, Below.refl _ _⟩
    case round =>
      obtain ⟨j, hj, rfl, hs, hin, hb⟩ := hrel
      have Hs := Lib.hid hs
      have Hb := Lib.hid hb
      have Hin := Lib.hid hin
      clear hs hb hin
      by_cases hjn : j < p
      · have Hbw := Lib.hid (HBw4.out.trans (Hb.out.mono (by omega)))
        obtain ⟨b, o, x, rfl, hbB, hxx, hcs⟩ := (He.out.parts.2.2.2.below Hbw.out).elem encC_len Hl1.out hjn
        obtain ⟨x, y⟩ := x
        have e0 : wr.cell? ⟨b, o + j * 2, none⟩ = some (.int .i64 x) := hcs 0 _ rfl
        have e1 : wr.cell? ⟨b, o + j * 2 + 1, none⟩ = some (.int .i64 y) := hcs 1 _ rfl
        have Hw := Lib.hid (onC_wf (Hon.out (x, y) (List.mem_of_getElem? hxx)))
        have Hnx := Lib.hid (delAll_take (L := l') hxx)
        have hlt := Hs.out.lt
        have HsA := Lib.hid (fun X => Hs.out.below ((Below.refl wr.heap.size wr).alloc (Nat.le_refl _) X) hlt)
        have HbA := Lib.hid (fun X => Hb.out.alloc (Nat.le_trans hz4 Hb.out.size) X)
        have hnt : (x, y) ∉ ec.take j := fun hm => by
          obtain ⟨i, hi, he⟩ := List.getElem_of_mem hm
          rw [List.getElem_take] at he
          have hi' : i < j := by simp at hi; omega
          obtain ⟨hkl, hke⟩ := List.getElem?_eq_some_iff.1 hxx
          exact List.pairwise_iff_getElem.1 Hnd.out i j (by omega) hkl hi' (he.trans hke.symm)
        have hiff : (x, y) ∈ delAll l' (ec.take j) ↔ (x, y) ∈ l' := by rw [mem_delAll]; exact ⟨fun h => h.1, fun h => ⟨h, hnt⟩⟩
        by_cases hm : (x, y) ∈ l'
        · have Hdec := Lib.hid (decide_eq_true (hiff.2 hm))
          have Hin1 := Lib.hid (show ∀ c ∈ ec.take (j + 1), c ∈ l' from fun c hc => by
            rw [List.take_add_one, hxx, List.mem_append] at hc
            rcases hc with hc | hc
            · exact Hin.out c hc
            · simp at hc; rw [hc]; exact hm)
          clear hcs hxx hbB hm hiff hnt
          go_wp2_with (first
            | (at_lookup; refine wpList_look_l rfl _ _ _ rfl Try.underlying105 bs (delAll l' (ec.take j)) (x, y) Hw.out rfl rfl (HsA.out _) ?_; rw [Hdec.out])
            | (at_delete; refine wpList_del_l rfl _ _ _ rfl Try.underlying105 bs (delAll l' (ec.take j)) (x, y) Hw.out rfl rfl (HsA.out _) ?_; intro w6 hs6 hg6; have HR6 := Lib.hid (show SetL w6 bs (delAll l' (ec.take (j + 1))) ∧ (∀ c ∈ ec.take (j + 1), c ∈ l') ∧ Below w3.heap.size w4 w6 from ⟨Hnx.out ▸ hs6, Hin1.out, (HbA.out _).grown hg6 (Nat.le_trans hz4 (HbA.out _).size) (fun g hg => by injection hg with hg; omega)⟩); clear hs6 hg6))
          go_roundw
          case rel => exact ⟨j + 1, by omega, by go_num, HR6.out⟩
          case measure => simp [intOf]; omega
        · have Hdec := Lib.hid (decide_eq_false (fun h => hm (hiff.1 h)))
          have HPX := Lib.hid (HPP.out.trans (show doF0 ⟨g, t, l, l', f⟩ ⟨5, v, ec⟩ = (4, zeroMem) by
            have : withinC ec l' = false := by
              rw [List.all_eq_false]
              exact ⟨(x, y), List.mem_of_getElem? hxx, by simpa using hm⟩
            have h0 : doF0 ⟨g, t, l, l', f⟩ ⟨5, v, ec⟩ = if withinC ec l' = false then (4, zeroMem) else (0, ⟨g, t, l, minusC l' ec, f⟩) := rfl
            rw [h0, if_pos this]))
          have HR8 := Lib.hid (fun X => (HR4.out.below Hb.out (by omega)).alloc X)
          have Hb8 := Lib.hid (fun X => HBw4.out.trans ((HbA.out X).mono (by omega)))
          have r0 := fun X => (HR8.out X).cell 0 _ rfl
          have r1 := fun X => (HR8.out X).cell 1 _ rfl
          have r2 := fun X => (HR8.out X).cell 2 _ rfl
          have r3 := fun X => (HR8.out X).cell 3 _ rfl
          have r4 := fun X => (HR8.out X).cell 4 _ rfl
          have rf0 := fun X => (HR8.out X).free 0
          have rf1 := fun X => (HR8.out X).free 1
          have rf2 := fun X => (HR8.out X).free 2
          have rf3 := fun X => (HR8.out X).free 3
          have rf4 := fun X => (HR8.out X).free 4
          clear hcs hxx hbB hm hiff hnt
          go_wp2_with (at_lookup; refine wpList_look_l rfl _ _ _ rfl Try.underlying105 bs (delAll l' (ec.take j)) (x, y) Hw.out rfl rfl (HsA.out _) ?_; rw [Hdec.out])
          refine bodyPost_ret (results_cell_two Try.results31 _ _ (w.heap.size + 1) 60 zeroRv (0, 0) _ (.int .i64 4) rfl rfl (blk5 (HR8.out _) _ _ _ _ _) Try.underlying60 rfl (by kernel_rfl)) rfl ?_
          exact HapOwn.bad (x := 4) HPX.out (below_set5 (Hb8.out _) (by omega) _ _ _ _ _)
      · obtain rfl : j = p := by omega
        have hs := Hs.out
        have hin := Hin.out
        rw [List.take_of_length_le (by rw [Hl1.out]; exact Nat.le_refl _)] at hs hin
        have Hs := Lib.hid hs
        have HPX := Lib.hid (HPP.out.trans (show doF0 ⟨g, t, l, l', f⟩ ⟨5, v, ec⟩ = (0, ⟨g, t, l, minusC l' ec, f⟩) by
          have : ¬ withinC ec l' = false := by
            rw [Bool.not_eq_false, List.all_eq_true]
            exact fun c hc => by simpa using hin c hc
          have h0 : doF0 ⟨g, t, l, l', f⟩ ⟨5, v, ec⟩ = if withinC ec l' = false then (4, zeroMem) else (0, ⟨g, t, l, minusC l' ec, f⟩) := rfl
          rw [h0, if_neg this]))
        have hml : (minusC l' ec).length ≤ 1000 := Nat.le_trans (List.length_filter_le _ _) (Nat.le_trans (sort_len _) (Nat.le_trans HL4.out.2 (by decide)))
        have Hml := Lib.hid hml
        have HLi := list_any wr bs (delAll l' ec) Hs.out
        rw [Hdl.out] at HLi
        have HLi := Lib.hid HLi
        have Hbw := Lib.hid (HBw4.out.trans (Hb.out.mono (by omega)))
        have hzr := Hb.out.size
        clear hs hin hml
        go_wp2_with fail
        refine HLi.out.mono ?_
        rintro e w8 ⟨v8, rfl, ho8, hb8⟩
        have hz8 := hb8.size
        have HM8 := Lib.hid ((HM4.out.below Hb.out (by omega)).below hb8 (by omega))
        have HR8 := Lib.hid ((HR4.out.below Hb.out (by omega)).below hb8 (by omega))
        have Hb8 := Lib.hid (Hbw.out.trans (hb8.mono Hbw.out.size))
        have HLo := Lib.hid (show LstOk w w8 (.slice A' n' c') l' v8 (minusC l' ec) from .inr ⟨_, own_mono ho8 (by omega)⟩)
        obtain ⟨A8, c8, rfl, _⟩ := own_rd ho8
        clear ho8 hb8 HLi
        have m0 := HM8.out.cell 0 _ rfl
        have m1 := HM8.out.cell 1 _ rfl
        have m2 := HM8.out.cell 2 _ rfl
        have m3 := HM8.out.cell 3 _ rfl
        have m4 := HM8.out.cell 4 _ rfl
        have mf4 := HM8.out.free 4
        have r0 := HR8.out.cell 0 _ rfl
        have r1 := HR8.out.cell 1 _ rfl
        have r2 := HR8.out.cell 2 _ rfl
        have r3 := HR8.out.cell 3 _ rfl
        have r4 := HR8.out.cell 4 _ rfl
        have rf0 := HR8.out.free 0
        have rf1 := HR8.out.free 1
        have rf2 := HR8.out.free 2
        have rf3 := HR8.out.free 3
        have rf4 := HR8.out.free 4
        go_wp2
        refine bodyPost_ret (results_cell_two Try.results31 _ _ (w.heap.size + 1) 60 #[.int .i64 g, .int .i64 t, .int .i64 f, .slice A n c, .slice A8 (minusC l' ec).length c8] (0, 0) _ (.int .i64 0) rfl rfl (blk5 (HR8.out.far (p := ⟨w.heap.size, 4, none⟩) (by simp <;> omega) _) _ _ _ _ _) Try.underlying60 rfl (by kernel_rfl)) rfl ?_
        exact HapOwn.good Ha.out Hh.out (m := ⟨g, t, l, minusC l' ec, f⟩) HPX.out (HLa.out _) (HLo.out.set (by simp) _) (Nat.le_trans HL4.out.1 (by decide)) Hml.out (Hb8.out.setCell (Nat.le_refl _) _) _ _ _ _ _
  · have HPX := Lib.hid (HPP.out.trans (show doF0 ⟨g, t, l, l', f⟩ ⟨6, v, ec⟩ = (0, ⟨g, t, l, l', wrap64 (f + 1)⟩) by simp [doF0, IntKind.wrap_i64, wrap64]))
    go_wp2
    refine bodyPost_ret (results_cell_two Try.results31 _ _ (w.heap.size + 1) 60 #[.int .i64 g, .int .i64 t, .int .i64 (wrap64 (f + 1)), .slice A n c, .slice A' n' c'] (0, 0) _ (.int .i64 0) rfl rfl (blk5 (HR4.out.far (p := ⟨w.heap.size, 2, none⟩) (by simp <;> omega) _) _ _ _ _ _) Try.underlying60 rfl (by kernel_rfl)) rfl ?_
    exact HapOwn.good Ha.out Hh.out (m := ⟨g, t, l, l', wrap64 (f + 1)⟩) HPX.out (HLa.out _) (HLh.out _) (Nat.le_trans HL4.out.1 (by decide)) (Nat.le_trans HL4.out.2 (by decide)) (HBw4.out.setCell (Nat.le_refl _) _) _ _ _ _ _
theorem happens_any (w : World) (m : GMem) (k v : Int) (ec : List Cell) (A : Option Addr) (n c : Nat) (A' : Option Addr) (n' c' : Nat) (D : Option Addr) (p d : Nat)
    (ha : SlC w w.heap.size (.slice A n c) m.asked) (hh : SlC w w.heap.size (.slice A' n' c') m.has) (he : SlC w w.heap.size (.slice D p d) ec) (hE : checkF ⟨k, v, ec⟩ = 0) :
    Calls Try.prog 31 #[memR m A n c A' n' c', .int .i64 k, .int .i64 v, .slice D p d] w (HapPost (hapF m ⟨k, v, ec⟩) w) :=
  (happens_own w m k v ec A n c A' n' c' D p d ha hh he hE).mono fun _ _ h => h.post ha hh
end Go.Proofs.Ytaahpjjffggaiaa
namespace Go.Proofs.Ytaahpjjffggaiaa
open Go.RowKit Go.Gy
set_option linter.unusedVariables false
/-- the law's own copies of the memory and the event -/
def TB (w wx : World) (m : GMem) (A : Option Addr) (n c : Nat) (A' : Option Addr) (n' c' : Nat) (k v : Int) (D : Option Addr) (p d : Nat) : Prop :=
  Blk wx w.heap.size 46 #[.int .i64 m.goal, .int .i64 m.ticks, .slice A n c, .slice A' n' c', .int .i64 m.falls] ∧ Blk wx (w.heap.size + 1) 48 #[.int .i64 k, .int .i64 v, .slice D p d] ∧ Below w.heap.size w wx ∧ w.heap.size + 2 ≤ wx.heap.size
theorem TB.below {w wx wy : World} {m : GMem} {A : Option Addr} {n c : Nat} {A' : Option Addr} {n' c' : Nat} {k v : Int} {D : Option Addr} {p d : Nat} (h : TB w wx m A n c A' n' c' k v D p d) (hb : Below wx.heap.size wx wy) : TB w wy m A n c A' n' c' k v D p d := by
  obtain ⟨h1, h2, h3, h4⟩ := h
  exact ⟨h1.below hb (by omega), h2.below hb (by omega), h3.trans (hb.mono (by omega)), Nat.le_trans h4 hb.size⟩
theorem TB.start (w : World) (m : GMem) (A : Option Addr) (n c : Nat) (A' : Option Addr) (n' c' : Nat) (k v : Int) (D : Option Addr) (p d : Nat) :
    TB w ((w.alloc (.cells #[.int .i64 m.goal, .int .i64 m.ticks, .slice A n c, .slice A' n' c', .int .i64 m.falls] 46)).alloc (.cells #[.int .i64 k, .int .i64 v, .slice D p d] 48)) m A n c A' n' c' k v D p d := by
  refine ⟨(Blk.new w _ _).alloc _, ?_, ((Below.refl _ _).alloc (Nat.le_refl _) _).alloc (by simp) _, by simp⟩
  have := Blk.new (w.alloc (.cells #[.int .i64 m.goal, .int .i64 m.ticks, .slice A n c, .slice A' n' c', .int .i64 m.falls] 46)) 48 #[.int .i64 k, .int .i64 v, .slice D p d]
  rw [World.size_alloc] at this
  exact this
theorem read_of (b : List Nat) : readFE b = if evOfE b ≠ 0 then evOfE b else checkF (readF0 b) := by
  unfold readFE evOfE
  split
  · rfl
  · split
    · rfl
    · rfl
set_option maxRecDepth 100000 in
set_option maxHeartbeats 8000000 in
theorem tells_any (w : World) (m : GMem) (A : Option Addr) (n c : Nat) (A' : Option Addr) (n' c' : Nat) (k v : Int) (ec : List Cell) (D : Option Addr) (p d : Nat) (vb : Value) (b : List Nat)
    (ha : SlC w w.heap.size (.slice A n c) m.asked) (hh : SlC w w.heap.size (.slice A' n' c') m.has) (he : SlC w w.heap.size (.slice D p d) ec) (hv : SlB w w.heap.size vb b) (h8 : ∀ x ∈ b, x < 256) (hbn : b.length ≤ 10000000000000) :
    Calls Try.prog 6 #[memV m A n c A' n' c', evV ⟨k, v, ec⟩ D p d, vb] w (BoolPost true w) := by
  have Ha := Lib.hid ha
  have Hh := Lib.hid hh
  have He := Lib.hid he
  have Hv := Lib.hid hv
  have H8 := Lib.hid h8
  have HT := Lib.hid (TB.start w m A n c A' n' c' k v D p d)
  have HD0 := Lib.hid (fun wx => do_any wx zeroMem ⟨1, 7, []⟩ none 0 0 none 0 0 none 0 0 (SlC.nil _ _) (SlC.nil _ _) (SlC.nil _ _))
  rw [show doF zeroMem ⟨1, 7, []⟩ = (0, ⟨7, 0, [], [], 0⟩) by simp [doF, doF0, checkF, rightF, cellsF, cellsG]] at HD0
  obtain ⟨Ab, nb, cb, rfl, hbl, _⟩ := id hv
  obtain ⟨mg, mt, ml, ml', mf⟩ := m
  clear ha hh he hv h8
  go_enter Try.func6, Try.ntmps6
  go_wp2_with fail
  refine (HD0.out _).mono ?_
  rintro e w1 ⟨v1, rfl, ⟨A1, n1, c1, A2, n2, c2, rfl, _, _, _, _⟩, hb1⟩
  have ht1 := HT.out.below hb1
  have hT1 : TB w (w1.alloc (.cells #[.int .i64 7, .int .i64 0, .slice A1 n1 c1, .slice A2 n2 c2, .int .i64 0] 46)) ⟨mg, mt, ml, ml', mf⟩ A n c A' n' c' k v D p d := ht1.below ((Below.refl _ _).alloc (Nat.le_refl _) _)
  have hx0 := (Blk.new w1 46 #[.int .i64 7, .int .i64 0, .slice A1 n1 c1, .slice A2 n2 c2, .int .i64 0]).cell 0 _ rfl
  clear hb1 ht1 HT HD0
  go_upto_region 2 with (fail)
  generalize w1.alloc (.cells #[.int .i64 7, .int .i64 0, .slice A1 n1 c1, .slice A2 n2 c2, .int .i64 0] 46) = w2 at hT1 hx0 ⊢
  have HT2 := Lib.hid hT1
  have m0 := HT2.out.1.cell 0 _ rfl
  have m1 := HT2.out.1.cell 1 _ rfl
  have m2 := HT2.out.1.cell 2 _ rfl
  have m3 := HT2.out.1.cell 3 _ rfl
  have m4 := HT2.out.1.cell 4 _ rfl
  have e0 := HT2.out.2.1.cell 0 _ rfl
  have e1 := HT2.out.2.1.cell 1 _ rfl
  have e2 := HT2.out.2.1.cell 2 _ rfl
  have HEF := Lib.hid (eventfault_any w2 k v ec D p d ((He.out.below hT1.2.2.1).more hT1.2.2.1.size))
  obtain ⟨F, hF⟩ : ∃ F, F = checkF ⟨k, v, ec⟩ := ⟨_, rfl⟩
  rw [← hF] at HEF
  have HF := Lib.hid hF
  clear hT1 hF hbl
  go_wp2_with fail
  refine HEF.out.mono ?_
  rintro e w3 ⟨rfl, hb3⟩
  have HT3 := Lib.hid (HT2.out.below hb3)
  clear hx0 m0 m1 m2 m3 m4 e0 e1 e2 HEF hb3 HT2
  have m0 := HT3.out.1.cell 0 _ rfl
  have m1 := HT3.out.1.cell 1 _ rfl
  have m2 := HT3.out.1.cell 2 _ rfl
  have m3 := HT3.out.1.cell 3 _ rfl
  have m4 := HT3.out.1.cell 4 _ rfl
  have e0 := HT3.out.2.1.cell 0 _ rfl
  have e1 := HT3.out.2.1.cell 1 _ rfl
  have e2 := HT3.out.2.1.cell 2 _ rfl
  have hCk := fcheck_any w3 ⟨k, v, ec⟩ D p d ((He.out.below HT3.out.2.2.1).more HT3.out.2.2.1.size)
  rw [← HF.out] at hCk
  have HCk := Lib.hid hCk
  clear hCk
  go_wp2_with fail
  refine HCk.out.mono ?_
  rintro e w4 ⟨rfl, hb4⟩
  have HT4 := Lib.hid (HT3.out.below hb4)
  clear m0 m1 m2 m3 m4 e0 e1 e2 HCk hb4 HT3
  have m0 := HT4.out.1.cell 0 _ rfl
  have m1 := HT4.out.1.cell 1 _ rfl
  have m2 := HT4.out.1.cell 2 _ rfl
  have m3 := HT4.out.1.cell 3 _ rfl
  have m4 := HT4.out.1.cell 4 _ rfl
  have e0 := HT4.out.2.1.cell 0 _ rfl
  have e1 := HT4.out.2.1.cell 1 _ rfl
  have e2 := HT4.out.2.1.cell 2 _ rfl
  have HDo := Lib.hid (do_any w4 ⟨mg, mt, ml, ml', mf⟩ ⟨k, v, ec⟩ A n c A' n' c' D p d ((Ha.out.below HT4.out.2.2.1).more HT4.out.2.2.1.size) ((Hh.out.below HT4.out.2.2.1).more HT4.out.2.2.1.size) ((He.out.below HT4.out.2.2.1).more HT4.out.2.2.1.size))
  go_wp2_with fail
  refine HDo.out.mono ?_
  obtain ⟨⟨R, ⟨xg, xt, xl, xl', xf⟩⟩, hR⟩ : ∃ R, R = doF ⟨mg, mt, ml, ml', mf⟩ ⟨k, v, ec⟩ := ⟨_, rfl⟩
  rw [← hR]
  have HR := Lib.hid hR
  rintro e w5 ⟨v5, rfl, ⟨A5, n5, c5, A6, n6, c6, rfl, ho5, ho6, hn5, hn6⟩, hb5⟩
  have hT5 := HT4.out.below hb5
  have hx5 := Blk.new w5 46 #[.int .i64 xg, .int .i64 xt, .slice A5 n5 c5, .slice A6 n6 c6, .int .i64 xf]
  have hba : Below w5.heap.size w5 (w5.alloc (.cells #[.int .i64 xg, .int .i64 xt, .slice A5 n5 c5, .slice A6 n6 c6, .int .i64 xf] 46)) := (Below.refl _ _).alloc (Nat.le_refl _) _
  have hT6 := hT5.below hba
  have hs5 := (SlC.own ho5).below hba
  have hs6 := (SlC.own ho6).below hba
  have hzx := hb5.size
  clear m0 m1 m2 m3 m4 e0 e1 e2 HDo hb5 HT4 ho5 ho6 hT5 hR
  go_upto_region 8 with (fail)
  generalize w5.alloc (.cells #[.int .i64 xg, .int .i64 xt, .slice A5 n5 c5, .slice A6 n6 c6, .int .i64 xf] 46) = w6 at hT6 hx5 hba hs5 hs6 ⊢
  have HT6 := Lib.hid hT6
  have HX6 := Lib.hid hx5
  have HS5 := Lib.hid (hs5.more hba.size)
  have HS6 := Lib.hid (hs6.more hba.size)
  have hx5l := hx5.lt
  have m0 := HT6.out.1.cell 0 _ rfl
  have m1 := HT6.out.1.cell 1 _ rfl
  have m2 := HT6.out.1.cell 2 _ rfl
  have m3 := HT6.out.1.cell 3 _ rfl
  have m4 := HT6.out.1.cell 4 _ rfl
  have e0 := HT6.out.2.1.cell 0 _ rfl
  have e1 := HT6.out.2.1.cell 1 _ rfl
  have e2 := HT6.out.2.1.cell 2 _ rfl
  have HWr := Lib.hid (fwrite_any w6 ⟨k, v, ec⟩ D p d ((He.out.below HT6.out.2.2.1).more HT6.out.2.2.1.size))
  clear hT6 hx5 hba hs5 hs6
  go_wp2_with fail
  refine HWr.out.mono ?_
  rintro e w7 ⟨v7, n7, rfl, ho7, hb7⟩
  rw [← HF.out] at ho7 ⊢
  have HT7 := Lib.hid (HT6.out.below hb7)
  have HX7 := Lib.hid (HX6.out.below hb7 hx5l)
  have HS57 := Lib.hid ((HS5.out.below hb7).more hb7.size)
  have HS67 := Lib.hid ((HS6.out.below hb7).more hb7.size)
  have Ho7 := Lib.hid ho7
  have hx7l := HX7.out.lt
  obtain ⟨A7, c7, rfl, hn7c, _⟩ := own_rd ho7
  clear m0 m1 m2 m3 m4 e0 e1 e2 HWr hb7 HT6 HX6 HS5 HS6 ho7 hx5l
  have m0 := HT7.out.1.cell 0 _ rfl
  have m1 := HT7.out.1.cell 1 _ rfl
  have m2 := HT7.out.1.cell 2 _ rfl
  have m3 := HT7.out.1.cell 3 _ rfl
  have m4 := HT7.out.1.cell 4 _ rfl
  have e0 := HT7.out.2.1.cell 0 _ rfl
  have e1 := HT7.out.2.1.cell 1 _ rfl
  have e2 := HT7.out.2.1.cell 2 _ rfl
  have x0 := HX7.out.cell 0 _ rfl
  have x1 := HX7.out.cell 1 _ rfl
  have x2 := HX7.out.cell 2 _ rfl
  have x3 := HX7.out.cell 3 _ rfl
  have x4 := HX7.out.cell 4 _ rfl
  by_cases hF0 : F = 0
  rotate_left
  · have hd : (R, (⟨xg, xt, xl, xl', xf⟩ : GMem)) = (F, zeroMem) := by rw [HR.out]; unfold doF; rw [← HF.out, if_pos hF0]
    injection hd with hd1 hd2
    injection hd2 with q1 q2 q3 q4 q5
    subst hd1 q1 q2 q3 q4 q5
    have hn0 : n7 = 0 := by have := Ho7.out.1; rw [if_neg hF0] at this; simpa using this.symm
    subst hn0
    have hFb : ((R : Int) != 0) = true := by simpa using hF0
    have hSm := fsame_any w7 zeroMem zeroMem A5 n5 c5 A6 n6 c6 none 0 0 none 0 0 HS57.out HS67.out (SlC.nil _ _) (SlC.nil _ _) (by omega) (by omega) (by omega) (by omega)
    rw [show sameF zeroMem zeroMem = true from rfl] at hSm
    have HSm := Lib.hid hSm
    have HB7 := Lib.hid HT7.out.2.2.1
    clear hSm
    go_wp2_with fail
    refine HSm.out.mono ?_
    rintro e w8 ⟨rfl, hb8⟩
    have HP := Lib.hid (HB7.out.trans (hb8.mono HB7.out.size))
    clear hb8 HSm
    go_wp2_with fail
    go_ret
    exact ⟨rfl, HP.out⟩
  subst hF0
  have hck : checkF ⟨k, v, ec⟩ = 0 := HF.out.symm
  have hrow := Ho7.out
  rw [if_pos rfl] at hrow
  have hn7 : (evB ⟨k, v, ec⟩).length = n7 := by have := hrow.1; simpa using this
  have hev5 : (evB ⟨k, v, ec⟩).length ≤ 805 := by
    rw [evB_len]
    have h4 : ec.length ≤ 400 := (cellsF_zero (checkF_zero hck).2.2.2.2.2.2).1
    show 5 + 2 * ec.length ≤ 805
    omega
  have HEB := Lib.hid (eventbytes_any w7 k v ec D p d ((He.out.below HT7.out.2.2.1).more HT7.out.2.2.1.size) hck)
  have Hck := Lib.hid hck
  have Hrow := Lib.hid hrow
  have Hev5 := Lib.hid hev5
  clear hck hrow hn7 hev5 Ho7 x0 x1 x2 x3 x4
  go_wp2_with fail
  refine HEB.out.mono ?_
  rintro e w8 ⟨v8, rfl, ho8, hb8⟩
  have hEq := equal_bytes w8 (.slice A7 n7 c7) v8 w8.heap.size _ _ (((SlB.own Hrow.out).below hb8).more hb8.size) (by obtain ⟨A8, c8, rfl, _⟩ := own_rd ho8; exact SlB.own ho8) (by have := Hev5.out; omega) (by have := Hev5.out; omega)
  rw [decide_eq_true rfl] at hEq
  have HEq := Lib.hid hEq
  have HT8 := Lib.hid (HT7.out.below hb8)
  have HX8 := Lib.hid (HX7.out.below hb8 hx7l)
  have HS58 := Lib.hid ((HS57.out.below hb8).more hb8.size)
  have HS68 := Lib.hid ((HS67.out.below hb8).more hb8.size)
  have hx8l := HX8.out.lt
  obtain ⟨A8, c8, rfl, _⟩ := own_rd ho8
  clear ho8 hb8 hEq HEB HT7 HX7 HS57 HS67 hx7l m0 m1 m2 m3 m4 e0 e1 e2 Hrow hn7c
  go_wp2_with fail
  refine HEq.out.mono ?_
  rintro e w9 ⟨rfl, qq, hw9⟩
  have hb9 : Below w8.heap.size w8 w9 := by rw [hw9]; exact below_drewN (Below.refl _ _) qq
  have HT9 := Lib.hid (HT8.out.below hb9)
  have HX9 := Lib.hid (HX8.out.below hb9 hx8l)
  have HS59 := Lib.hid ((HS58.out.below hb9).more hb9.size)
  have HS69 := Lib.hid ((HS68.out.below hb9).more hb9.size)
  have hx9l := HX9.out.lt
  clear hb9 hw9 HEq HT8 HX8 HS58 HS68 hx8l
  have m0 := HT9.out.1.cell 0 _ rfl
  have m1 := HT9.out.1.cell 1 _ rfl
  have m2 := HT9.out.1.cell 2 _ rfl
  have m3 := HT9.out.1.cell 3 _ rfl
  have m4 := HT9.out.1.cell 4 _ rfl
  have e0 := HT9.out.2.1.cell 0 _ rfl
  have e1 := HT9.out.2.1.cell 1 _ rfl
  have e2 := HT9.out.2.1.cell 2 _ rfl
  have HSk := Lib.hid (show ∀ w', Below w9.heap.size w9 w' → w'.cell? ⟨w.heap.size, 0, none⟩ = some (.int .i64 mg) ∧ w'.cell? ⟨w.heap.size, 1, none⟩ = some (.int .i64 mt) ∧ w'.cell? ⟨w.heap.size, 2, none⟩ = some (.slice A n c) ∧ w'.cell? ⟨w.heap.size, 3, none⟩ = some (.slice A' n' c') ∧ w'.cell? ⟨w.heap.size, 4, none⟩ = some (.int .i64 mf) ∧ Below w9.heap.size w9 w' from fun w' hb => by
    have h := (HT9.out.below hb).1
    exact ⟨h.cell 0 _ rfl, h.cell 1 _ rfl, h.cell 2 _ rfl, h.cell 3 _ rfl, h.cell 4 _ rfl, hb⟩)
  have HbD := Lib.hid (show Below w9.heap.size w9 w9.drew from (Below.refl _ _).drew)
  have HRt := Lib.hid (fun (w' : World) (hb : Below w9.heap.size w9 w') => right_any w' ⟨mg, mt, ml, ml', mf⟩ A n c A' n' c' ((Ha.out.below (HT9.out.below hb).2.2.1).more (HT9.out.below hb).2.2.1.size) ((Hh.out.below (HT9.out.below hb).2.2.1).more (HT9.out.below hb).2.2.1.size))
  have HMf := Lib.hid (fun (w' : World) (hb : Below w9.heap.size w9 w') => memfault_any w' ⟨mg, mt, ml, ml', mf⟩ A n c A' n' c' ((Ha.out.below (HT9.out.below hb).2.2.1).more (HT9.out.below hb).2.2.1.size) ((Hh.out.below (HT9.out.below hb).2.2.1).more (HT9.out.below hb).2.2.1.size))
  go_wp2_with fail
  go_region_held3 (fun w' => w'.cell? ⟨w.heap.size, 0, none⟩ = some (.int .i64 mg) ∧ w'.cell? ⟨w.heap.size, 1, none⟩ = some (.int .i64 mt) ∧ w'.cell? ⟨w.heap.size, 2, none⟩ = some (.slice A n c) ∧ w'.cell? ⟨w.heap.size, 3, none⟩ = some (.slice A' n' c') ∧ w'.cell? ⟨w.heap.size, 4, none⟩ = some (.int .i64 mf) ∧ Below w9.heap.size w9 w')
    (with_reducible (first | exact HSk.out _ hbM | exact HSk.out _ hbR | exact HSk.out _ HbD.out))
    (first
      | (go_at_call 30; refine (HMf.out _ hbR).mono ?_; rintro e wM ⟨rfl, hlM⟩; have hbM : Below w9.heap.size w9 wM := hbR.trans (hlM.mono hbR.size))
      | (go_at_call 29; refine (HRt.out _ HbD.out).mono ?_; rintro e wR ⟨rfl, hlR⟩; have hbR : Below w9.heap.size w9 wR := HbD.out.trans hlR))
  have HbM := Lib.hid hbM
  have HTM := Lib.hid (HT9.out.below hbM)
  have HXM := Lib.hid (HX9.out.below hbM hx9l)
  have HS5M := Lib.hid ((HS59.out.below hbM).more hbM.size)
  have HS6M := Lib.hid ((HS69.out.below hbM).more hbM.size)
  have hxMl := HXM.out.lt
  clear hbM hlM hlR hbR m0 m1 m2 m3 m4 e0 e1 e2 HSk HbD HRt HMf HT9 HX9 HS59 HS69 hx9l
  have m0 := HTM.out.1.cell 0 _ rfl
  have m1 := HTM.out.1.cell 1 _ rfl
  have m2 := HTM.out.1.cell 2 _ rfl
  have m3 := HTM.out.1.cell 3 _ rfl
  have m4 := HTM.out.1.cell 4 _ rfl
  have e0 := HTM.out.2.1.cell 0 _ rfl
  have e1 := HTM.out.2.1.cell 1 _ rfl
  have e2 := HTM.out.2.1.cell 2 _ rfl
  have hHp := happens_any wM ⟨mg, mt, ml, ml', mf⟩ k v ec A n c A' n' c' D p d ((Ha.out.below HTM.out.2.2.1).more HTM.out.2.2.1.size) ((Hh.out.below HTM.out.2.2.1).more HTM.out.2.2.1.size) ((He.out.below HTM.out.2.2.1).more HTM.out.2.2.1.size) Hck.out
  rw [← doF_hap Hck.out, ← HR.out] at hHp
  have HHp := Lib.hid hHp
  clear hHp
  go_wp2_with fail
  refine HHp.out.mono ?_
  rintro e wy ⟨A10, n10, c10, A11, n11, c11, rfl, hs10, hs11, hn10, hn11, hby⟩
  have hTy := HTM.out.below hby
  have hYx := Blk.new wy 60 #[.int .i64 xg, .int .i64 xt, .int .i64 xf, .slice A10 n10 c10, .slice A11 n11 c11]
  have hba : Below wy.heap.size wy (wy.alloc (.cells #[.int .i64 xg, .int .i64 xt, .int .i64 xf, .slice A10 n10 c10, .slice A11 n11 c11] 60)) := (Below.refl _ _).alloc (Nat.le_refl _) _
  have hbz := hby.trans (hba.mono hby.size)
  have hTz := hTy.below hba
  have hXz := HXM.out.below hbz hxMl
  have hs5 := (HS5M.out.below hbz).more hbz.size
  have hs6 := (HS6M.out.below hbz).more hbz.size
  have hs10' := (hs10.below hba).more hba.size
  have hs11' := (hs11.below hba).more hba.size
  clear hTy hby hbz hs10 hs11 HHp HTM HXM HS5M HS6M m0 m1 m2 m3 m4 e0 e1 e2 hxMl hba
  go_upto_region 16 with (fail)
  generalize wy.alloc (.cells #[.int .i64 xg, .int .i64 xt, .int .i64 xf, .slice A10 n10 c10, .slice A11 n11 c11] 60) = wz at hTz hYx hXz hs5 hs6 hs10' hs11' ⊢
  have l5 := hs5.parts
  have l6 := hs6.parts
  have l10 := hs10'.parts
  have l11 := hs11'.parts
  have hE1 := equal_cells wz A5 A10 n5 n10 c5 c10 wz.heap.size xl xl l5.1 l10.1 (by omega) (by omega) l5.2.2.2 l10.2.2.2
  have hE2 := fun (wq : World) (q1 : Nat) (h : wq = wz.drewN q1) => equal_cells wq A6 A11 n6 n11 c6 c11 wz.heap.size xl' xl' l6.1 l11.1 (by omega) (by omega) (h ▸ (l6.2.2.2 : Rd (wz.drewN q1) _ _ _ _ _)) (h ▸ (l11.2.2.2 : Rd (wz.drewN q1) _ _ _ _ _))
  rw [decide_eq_true rfl] at hE1
  simp only [decide_true] at hE2
  have HE1 := Lib.hid hE1
  have HE2 := Lib.hid hE2
  have HTz := Lib.hid hTz
  have HXz := Lib.hid hXz
  have HYz := Lib.hid hYx
  have hXl := hXz.lt
  have hYl := hYx.lt
  have x0 := HXz.out.cell 0 _ rfl
  have y0 := HYz.out.cell 0 _ rfl
  have x1 := HXz.out.cell 1 _ rfl
  have y1 := HYz.out.cell 1 _ rfl
  have x2 := HXz.out.cell 2 _ rfl
  have y2 := HYz.out.cell 2 _ rfl
  have x3 := HXz.out.cell 3 _ rfl
  have y3 := HYz.out.cell 3 _ rfl
  have x4 := HXz.out.cell 4 _ rfl
  have y4 := HYz.out.cell 4 _ rfl
  clear hTz hYx hXz hs5 hs6 hs10' hs11' l5 l6 l10 l11 hE1 hE2
  go_wp2_with fail
  refine HE1.out.mono ?_
  rintro e wq ⟨rfl, q1, hq1⟩
  have HE3 := Lib.hid (HE2.out wq q1 hq1)
  have hbq : Below wz.heap.size wz wq := by rw [hq1]; exact below_drewN (Below.refl _ _) q1
  have HTq := Lib.hid (HTz.out.below hbq)
  have hXq := HXz.out.below hbq hXl
  have hYq := HYz.out.below hbq hYl
  clear hq1 x0 x1 x2 x3 x4 y0 y1 y2 y3 y4 HE1 HE2 HTz HXz HYz hXl hYl hbq
  have x3 := hXq.cell 3 _ rfl
  have y4 := hYq.cell 4 _ rfl
  clear hXq hYq
  go_wp2_with fail
  refine HE3.out.mono ?_
  rintro e wp ⟨rfl, q2, hq2⟩
  have hbp : Below wq.heap.size wq wp := by rw [hq2]; exact below_drewN (Below.refl _ _) q2
  have HTp := Lib.hid (HTq.out.below hbp)
  clear hq2 x3 y4 HE3 HTq hbp
  have HOf := Lib.hid (eventof_any wp (.slice Ab nb cb) b ((Hv.out.below HTp.out.2.2.1).more HTp.out.2.2.1.size) H8.out hbn)
  go_wp2_with fail
  refine HOf.out.mono ?_
  rintro e wo ⟨A12, n12, c12, rfl, hs12, hn12, hbo⟩
  have HTo := Lib.hid (HTp.out.below hbo)
  have HS12 := Lib.hid hs12
  have HRd := Lib.hid (fread_any wo (.slice Ab nb cb) b ((Hv.out.below HTo.out.2.2.1).more HTo.out.2.2.1.size) H8.out hbn)
  clear hs12 hbo HOf HTp
  go_wp2_with fail
  refine HRd.out.mono ?_
  rintro e wr ⟨A13, n13, c13, rfl, hs13, hn13, hbr⟩
  obtain ⟨E, hE⟩ : ∃ E, E = evOfE b := ⟨_, rfl⟩
  rw [← hE]
  have hrd := read_of b
  rw [← hE] at hrd
  by_cases hE0 : E = 0
  rotate_left
  · rw [if_pos hE0] at hrd
    have hrf : readF b = zeroE := by unfold readF; rw [if_neg (by omega)]
    rw [hrf] at hs13 ⊢
    rw [hrd]
    have hl13 : n13 = 0 := by have := hs13.parts.1; simpa using this.symm
    subst hl13
    have hZ := Blk.new wr 48 #[.int .i64 0, .int .i64 0, .slice A13 0 c13]
    have hbz : Below wr.heap.size wr (wr.alloc (.cells #[.int .i64 0, .int .i64 0, .slice A13 0 c13] 48)) := (Below.refl _ _).alloc (Nat.le_refl _) _
    have HPz := Lib.hid ((HTo.out.below hbr).below hbz).2.2.1
    have hEb : ((E : Int) != 0) = true := by simpa using hE0
    have hEb' : ((E : Int) == 0) = false := by simpa using hE0
    have HZ := Lib.hid hZ
    clear hrd hrf hs13 hbr hE hZ hbz
    have z0 := HZ.out.cell 0 _ rfl
    have z1 := HZ.out.cell 1 _ rfl
    have z2 := HZ.out.cell 2 _ rfl
    go_wp2_with fail
    go_ret
    exact ⟨rfl, HPz.out⟩
  subst hE0
  rw [if_neg (by omega)] at hrd
  have hof : evOfF b = readF0 b := by unfold evOfF; rw [← hE, if_pos rfl]
  have hS12 := HS12.out
  rw [hof] at hS12 ⊢
  obtain ⟨G, hG⟩ : ∃ G, G = checkF (readF0 b) := ⟨_, rfl⟩
  rw [← hG] at hrd
  by_cases hG0 : G = 0
  rotate_left
  · have hrf : readF b = zeroE := by unfold readF; rw [if_neg (by omega)]
    rw [hrf] at hs13 ⊢
    rw [hrd]
    have hl13 : n13 = 0 := by have := hs13.parts.1; simpa using this.symm
    subst hl13
    have hZ := Blk.new wr 48 #[.int .i64 0, .int .i64 0, .slice A13 0 c13]
    have hbz : Below wr.heap.size wr (wr.alloc (.cells #[.int .i64 0, .int .i64 0, .slice A13 0 c13] 48)) := (Below.refl _ _).alloc (Nat.le_refl _) _
    have HPz := Lib.hid ((HTo.out.below hbr).below hbz).2.2.1
    have hGb : ((G : Int) != 0) = true := by simpa using hG0
    obtain ⟨⟨zk, zn, zc⟩, hz⟩ : ∃ z, z = readF0 b := ⟨_, rfl⟩
    rw [← hz] at hG hS12 ⊢
    have HG := Lib.hid hG
    clear hG
    have hZl := hZ.lt
    have HZ := Lib.hid hZ
    clear hrd hrf hs13 hE hof hz HS12
    go_upto_region 20 with (fail)
    have HZ := HZ
    generalize wr.alloc (.cells #[.int .i64 0, .int .i64 0, .slice A13 0 c13] 48) = wz at HZ HPz hbz hZl ⊢
    have hef := eventfault_any wz zk zn zc A12 n12 c12 (((hS12.below hbr).more hbr.size).below hbz |>.more hbz.size)
    rw [← HG.out] at hef
    have HEf := Lib.hid hef
    clear hef hS12 hbr hbz
    go_wp2_with fail
    refine HEf.out.mono ?_
    rintro e wf ⟨rfl, hbf⟩
    have hZf := HZ.out.below hbf hZl
    have HP := Lib.hid (HPz.out.trans (hbf.mono HPz.out.size))
    have z0 := hZf.cell 0 _ rfl
    have z1 := hZf.cell 1 _ rfl
    have z2 := hZf.cell 2 _ rfl
    clear hbf hZf HEf HZ
    go_wp2_with fail
    go_ret
    exact ⟨rfl, HP.out⟩
  subst hG0
  have hrf : readF b = readF0 b := by unfold readF; rw [hrd, if_pos rfl]
  rw [hrf] at hs13 ⊢
  rw [hrd]
  obtain ⟨⟨zk, zn, zc⟩, hz⟩ : ∃ z, z = readF0 b := ⟨_, rfl⟩
  rw [← hz] at hG hS12 hs13 ⊢
  have HG := Lib.hid hG
  clear hG
  have hZ := Blk.new wr 48 #[.int .i64 zk, .int .i64 zn, .slice A13 n13 c13]
  have hbz : Below wr.heap.size wr (wr.alloc (.cells #[.int .i64 zk, .int .i64 zn, .slice A13 n13 c13] 48)) := (Below.refl _ _).alloc (Nat.le_refl _) _
  have HPz := Lib.hid ((HTo.out.below hbr).below hbz).2.2.1
  have hZl := hZ.lt
  have HZ := Lib.hid hZ
  have hzc : zc.length ≤ 400 := (cellsF_zero (checkF_zero HG.out.symm).2.2.2.2.2.2).1
  clear hrd hrf hE hof hz HS12
  go_upto_region 20 with (fail)
  have HZ := HZ
  generalize wr.alloc (.cells #[.int .i64 zk, .int .i64 zn, .slice A13 n13 c13] 48) = wz at HZ HPz hbz hZl ⊢
  have hs12z := ((hS12.below hbr).more hbr.size).below hbz |>.more hbz.size
  have hs13z := (hs13.below hbz).more hbz.size
  have hef := eventfault_any wz zk zn zc A12 n12 c12 hs12z
  rw [← HG.out] at hef
  have HEf := Lib.hid hef
  have Hs12 := Lib.hid hs12z
  have Hs13 := Lib.hid hs13z
  clear hef hS12 hs13 hbr hbz hs12z hs13z
  go_wp2_with fail
  refine HEf.out.mono ?_
  rintro e wf ⟨rfl, hbf⟩
  have hZf := HZ.out.below hbf hZl
  have HP := Lib.hid (HPz.out.trans (hbf.mono HPz.out.size))
  have z0 := hZf.cell 0 _ rfl
  have z1 := hZf.cell 1 _ rfl
  have z2 := hZf.cell 2 _ rfl
  have l12 := ((Hs12.out.below hbf).more hbf.size).parts
  have l13 := ((Hs13.out.below hbf).more hbf.size).parts
  have hEq := equal_cells wf A13 A12 n13 n12 c13 c12 wf.heap.size zc zc l13.1 l12.1 (by omega) (by omega) l13.2.2.2 l12.2.2.2
  rw [decide_eq_true rfl] at hEq
  have HEq := Lib.hid hEq
  clear hbf hZf HEf HZ l12 l13 hEq
  go_wp2_with fail
  refine HEq.out.mono ?_
  rintro e wg ⟨rfl, q3, rfl⟩
  have HP2 := Lib.hid (below_drewN HP.out q3)
  clear HEq
  go_wp2_with fail
  go_ret
  exact ⟨rfl, HP2.out⟩
end Go.Proofs.Ytaahpjjffggaiaa
