/- msg.number, msg.Write. Conditions: those typed. -/
import Derived.Test.YtaahpjjffggaiaaMsgCheck
import Derived.Test.YtaahpjjffggaiaaMsgPlain
import Derived.Deep.AppendLies
namespace Go.Proofs.Ytaahpjjffggaiaa
open Go.RowKit Go.Gy
set_option linter.unusedVariables false

theorem u32_byte (m x : Nat) (hm : m < 16777216) (hx : x < 256) : bits .or .u32 ((m : Int) * 256) (x : Int) = ((256 * m + x : Nat) : Int) := by
  rw [show (m : Int) * 256 = ((m * 256 : Nat) : Int) by omega, u32_or_nat _ _ (by omega) (by omega), nat_join 8 _ _ (by omega) (by omega), Nat.mul_comm m 256]
set_option maxRecDepth 100000 in
set_option maxHeartbeats 2000000 in
theorem number_any (w : World) (v : Value) (B : Nat) (b : List Nat) (hv : SlB w B v b) (hn : b.length ≤ 4) (h8 : ∀ x ∈ b, x < 256) :
    Calls Try.prog 56 #[v] w fun e w' => e = .returned (.int .u32 (valN b : Nat)) ∧ w = w' := by
  obtain ⟨A, n, c, rfl, hbl, _, _, hr⟩ := hv
  rw [hbl] at hn
  have Hbl := Lib.hid hbl
  have H8 := Lib.hid h8
  clear hbl h8
  go_enter Try.func56, Try.ntmps56
  go_wp2
  go_loop [3, 8] (fun s i => ∃ k m : Nat, k ≤ n ∧ i = .int .i64 k ∧ s = .int .u32 m ∧ Hid (m = valN (b.take k))) (fun _ i => n - (intOf i).toNat)
  case atStart => exact ⟨0, 0, Nat.zero_le _, rfl, rfl, Lib.hid rfl⟩
  case round =>
    obtain ⟨k, m, hk, rfl, rfl, Hm⟩ := hrel
    by_cases hlt : k < n
    · obtain ⟨g, o, x, rfl, hg, hx, hc⟩ := bv_at hr hlt
      have x1 := H8.out x (List.mem_of_getElem? hx)
      have hm : m < 16777216 := by
        rw [Hm.out]
        exact Nat.lt_of_lt_of_le (valN_lt 3 _ (by rw [List.length_take, Hbl.out]; omega) fun y hy => H8.out y (List.mem_of_mem_take hy)) (by decide)
      have Hs := Lib.hid (show 256 * m + x = valN (b.take (k + 1)) by rw [List.take_add_one, hx, Hm.out]; exact (valN_snoc _ _).symm)
      have hor := u32_byte m x hm x1
      clear hx
      go_wp2
      go_round
      case rel => exact ⟨k + 1, 256 * m + x, by omega, by go_num, by go_num, Hs⟩
      case measure => simp [intOf]; omega
    · obtain rfl : k = n := by omega
      go_wp2
      go_ret
      refine ⟨ret_int ?_, rfl⟩
      rw [Hm.out, List.take_of_length_le (by rw [Hbl.out]; omega)]

section
variable {P : Program} {w : World} {ops : Array Oper} {o : Oper} {a : Act} {K : Act → World → Prop} {Q : Exit → Act → World → Prop} {E : Prop}
/-- append of a slice onto a row of the call's own, at a step of a region that draws its order -/
theorem step_extend (hgd : o.guard = none) (s x : Operand) (t : TypeId)
    (ho : o.op = .call { callee := .builtin .append, args := #[s, x], argTypes := #[t, t] })
    (base : Nat) (e : TypeId) (i : TypeInfo) (z : Value) (size bytes : Nat) (ht : P.underlying t = some (.slice e)) (hi : P.info? e = some i) (hz : i.zero = some z)
    (hsize : i.size = size) (hby : i.bytes = bytes) (hzs : z.cells.size = size) (hsz : 0 < size)
    (v : Value) (n : Nat) (xs : List Value) (hs : a.eval s = v) (hown : w.ownsRow base e size v n xs)
    (ad : Addr) (m c B : Nat) (news : List Value) (hx : a.eval x = .slice (some ad) m c) (hm : 0 < m) (hr : Rd w B size (some ad) m news) (h1 : ∀ u ∈ news, u.oneCell' = true)
    (k : Nat) (hk : n + m = k) (h63 : k ≤ maxLen) (hbytes : k * bytes ≤ 140737488355328) (hbase : base ≤ w.heap.size)
    (h : ∀ v' w', w'.ownsRow base e size v' k (xs ++ news) → Below base w w' → K (a.put o.dst v') w') :
    if Region.wanted o (yielded ops a.tmps) = true then Oper.wp P o a w K Q else E := by
  have hw : Region.wanted o (yielded ops a.tmps) = true := by simp [Region.wanted, hgd]
  rw [if_pos hw]
  subst hk
  refine wp_append_own w s x t ho base e i z size bytes ht hi hz hsize hby hzs hsz v n xs hs hown ad m c news hx hr.1 ?_ h1 h63 hbytes hbase fun v' w' h2 h3 _ => h v' w' h2 ((Below.refl base w).grown h3 hbase fun k hk => (hown.lt k hk).1)
  intro j u hu
  obtain ⟨b, q, he, _, hc⟩ := hr.2 hm
  injection he with he
  subst he
  rw [add_none]
  exact hc j u hu
end
section
variable {P : Program} {wr : World} {ops : Array Oper} {rest : List Oper} {o : Oper} {a : Act} {Q : Exit → Act → World → Prop}
/-- 'out = append(out, x, y, ..)': the elements (cells cs) have been laid in a block of their own -/
theorem wpList_lits (hgd : o.guard = none) (s x : Operand) (t : TypeId)
    (ho : o.op = .call { callee := .builtin .append, args := #[s, x], argTypes := #[t, t] })
    (base : Nat) (e : TypeId) (i : TypeInfo) (z : Value) (size bytes : Nat) (ht : P.underlying t = some (.slice e)) (hi : P.info? e = some i) (hz : i.zero = some z)
    (hsize : i.size = size) (hby : i.bytes = bytes) (hzs : z.cells.size = size) (hsz : 0 < size)
    (v : Value) (n : Nat) (xs : List Value) (hs : a.eval s = v) (hown : wr.ownsRow base e size v n xs)
    (cs : List Value) (m H : Nat) (hH : wr.heap.size = H) (hx : a.eval x = .slice (some ⟨H, 0, none⟩) m m) (hl : cs.length = m * size) (hm : 0 < m) (h1 : ∀ u ∈ cs, u.oneCell' = true)
    (k : Nat) (hk : n + m = k) (h63 : k ≤ maxLen) (hbytes : k * bytes ≤ 140737488355328) (hbase : base ≤ wr.heap.size)
    (h : ∀ v' w', w'.ownsRow base e size v' k (xs ++ cs) → Below base wr w' → (∃ g c, v' = .slice (some ⟨g, 0, none⟩) k c ∧ base ≤ g ∧ g < w'.heap.size) → wpList P ops Q rest (a.put o.dst v') w') :
    wpList P ops Q (o :: rest) a (wr.alloc (.cells cs.toArray e)) := by
  subst hk hH
  refine wpList_append_own _ hgd s x t ho base e i z size bytes ht hi hz hsize hby hzs hsz v n xs hs (hown.alloc _) ⟨wr.heap.size, 0, none⟩ m m cs hx hl ?_ h1 h63 hbytes (by simp; omega) ?_
  · intro j u hu
    rw [add_none, cell_of_row _ _ (0 + j) cs.toArray e (0, 0) (heap_alloc_new _ _)]
    simpa using hu
  · intro v' w' h2 h3 _
    refine h v' w' h2 ?_ ?_
    · exact ((Below.refl base wr).alloc hbase _).grown h3 (by simp; omega) fun k hk => (hown.lt k hk).1
    · obtain ⟨g, c, hv, _, hg, hgl⟩ := own_shape h2 (by omega)
      exact ⟨g, c, hv, hg, hgl⟩
end
def WritePost (w : World) (m : GMsg) (e : Ending) (w' : World) : Prop := ∃ v' n, e = .returned (.tuple #[v', .int .i64 ((msgF m : Nat) : Int)]) ∧ w'.ownsRow w.heap.size 5 1 v' n ((if msgF m = 0 then frameM m else []).map bv) ∧ Below w.heap.size w w'
/-- the loop over the cells: the row holds what stood there and the first cells -/
def WrRel (B n : Nat) (w1 : World) (hd : List Nat) (l : List Cell) (v i : Value) (wr : World) : Prop := ∃ k nn g c, k ≤ n ∧ i = .int .i64 (k : Nat) ∧ nn = 13 + 2 * k ∧ v = .slice (some ⟨g, 0, none⟩) nn c ∧ wr.ownsRow B 5 1 v nn ((hd ++ (l.take k).flatMap cellB).map bv) ∧ Below w1.heap.size w1 wr
theorem cell_lits {hd : List Nat} {l : List Cell} {k : Nat} {x y : Int} (h : l[k]? = some (x, y)) (hx : -64 ≤ x ∧ x < 64) (hy : -64 ≤ y ∧ y < 64) :
    (hd ++ (l.take k).flatMap cellB).map bv ++ [.int .u8 (x + 64), .int .u8 (y + 64)] = (hd ++ (l.take (k + 1)).flatMap cellB).map bv := by
  rw [List.take_add_one, h]
  have e1 : ((x + 64) % 256).toNat = x + 64 := by omega
  have e2 : ((y + 64) % 256).toNat = y + 64 := by omega
  simp [cellB, bv, e1, e2]
set_option maxRecDepth 100000 in
set_option maxHeartbeats 4000000 in
theorem write_any (w : World) (m : GMsg) (A : Option Addr) (n c : Nat) (hm : MsgAt w w.heap.size m A n c) (hc : 0 ≤ m.clock ∧ m.clock < 4294967296) :
    Calls Try.prog 16 #[msgV m A n c] w (WritePost w m) := by
  obtain ⟨i0, hi, hz0, hz1, hz2⟩ := info_parts info_byte
  have hb0 : ∀ X, Below w.heap.size w (w.alloc X) := fun X => (Below.refl _ _).alloc (Nat.le_refl _) _
  have Hb0 := Lib.hid hb0
  have hz0' : ∀ X, (w.alloc X).heap.size = w.heap.size + 1 := fun X => by simp
  have HZ0 := Lib.hid hz0'
  have HM := Lib.hid (fun X => (hm.below (hb0 X)).more (show w.heap.size ≤ (w.alloc X).heap.size by simp))
  have HC := Lib.hid (fun X => check_any (w.alloc X) m A n c (HM.out X))
  have Hl := Lib.hid hm.len
  have Hrd := Lib.hid hm.rd
  obtain ⟨k, s, d, q, t, l⟩ := m
  simp only at hc
  by_cases hE : msgF ⟨k, s, d, q, t, l⟩ = 0
  · have g0 := msgF0_zero (msgF_zero hE).1
    have H1 := Lib.hid (cellsF_zero (msgF_zero hE).2).2
    have hn : n ≤ 400 := by rw [← Hl.out]; exact (cellsF_zero (msgF_zero hE).2).1
    simp only at g0
    obtain ⟨K, rfl⟩ : ∃ K : Nat, k = (K : Int) := ⟨k.toNat, by omega⟩
    obtain ⟨S, rfl⟩ : ∃ K : Nat, s = (K : Int) := ⟨s.toNat, by omega⟩
    obtain ⟨D, rfl⟩ : ∃ K : Nat, d = (K : Int) := ⟨d.toNat, by omega⟩
    obtain ⟨Q, rfl⟩ : ∃ K : Nat, q = (K : Int) := ⟨q.toNat, by omega⟩
    obtain ⟨T, rfl⟩ : ∃ K : Nat, t = (K : Int) := ⟨t.toNat, by omega⟩
    have k1 : K ≤ 3 := by omega
    have s1 : S ≤ 4 := by omega
    have d1 : D ≤ 4 := by omega
    have q1 : Q ≤ 2147483647 := by omega
    have t1 : T < 4294967296 := by omega
    have HE := Lib.hid hE
    clear hb0 hz0' hm hE g0 hc
    go_enter Try.func16, Try.ntmps16
    go_wp2_with fail
    refine (HC.out _).mono ?_
    rintro e w1 ⟨he, hb1⟩
    rw [HE.out] at he
    subst he
    have hz1 := hb1.size
    rw [HZ0.out] at hz1
    have hk0 := (Blk.new w 28 #[.int .i64 (K : Int), .int .i64 (S : Int), .int .i64 (D : Int), .int .i64 (Q : Int), .int .u32 (T : Int), .slice A n c]).below hb1 (by simp)
    have a0 := hk0.cell 0 _ rfl
    have a1 := hk0.cell 1 _ rfl
    have a2 := hk0.cell 2 _ rfl
    have a3 := hk0.cell 3 _ rfl
    have a4 := hk0.cell 4 _ rfl
    have a5 := hk0.cell 5 _ rfl
    have HK0 := Lib.hid hk0
    have hbw1 := Lib.hid ((Hb0.out _).trans (hb1.mono (by simp)))
    have HZ1 := Lib.hid hz1
    clear hb1 hk0 hz1
    go_wp2_with fail
    have hown2 := World.ownsRow_lit (e := 5) (size := 1) (base := w1.heap.size) w1 #[.int .u8 (K : Int), .int .u8 (S : Int), .int .u8 (D : Int)] 3 (Nat.le_refl _) (by decide) rfl
    rw [show (#[Value.int .u8 (K : Int), .int .u8 (S : Int), .int .u8 (D : Int)] : Array Value).toList = [K, S, D].map bv from rfl] at hown2
    have hb12 : Below w1.heap.size w1 (w1.alloc (.cells #[.int .u8 (K : Int), .int .u8 (S : Int), .int .u8 (D : Int)] 5)) := (Below.refl _ _).alloc (Nat.le_refl _) _
    generalize (w1.alloc (.cells #[.int .u8 (K : Int), .int .u8 (S : Int), .int .u8 (D : Int)] 5)) = w2 at hown2 hb12 ⊢
    have hS : ∀ w', Below w1.heap.size w1 w' → (w'.cell? ⟨w.heap.size, 3, none⟩ = some (.int .i64 (Q : Int)) ∧ w'.cell? ⟨w.heap.size, 4, none⟩ = some (.int .u32 (T : Int)) ∧ Below w1.heap.size w1 w') := fun w' h =>
      ⟨(HK0.out.below h HZ1.out).cell 3 _ rfl, (HK0.out.below h HZ1.out).cell 4 _ rfl, h⟩
    have h4 : ∀ (x : Nat), x < 4294967296 → ∀ w', Below w1.heap.size w1 w' → Calls Try.prog 53 #[.int .u32 (x : Int)] w' fun e w'' => ∃ g c, e = .returned (.slice (some ⟨g, 0, none⟩) 4 c) ∧ Rd w'' w''.heap.size 1 (some ⟨g, 0, none⟩) 4 ((be4 x).map bv) ∧ Below w1.heap.size w1 w'' ∧ Below w'.heap.size w' w'' := fun x hx w' h =>
      (mfour_any w' x hx).mono fun e w'' ⟨v, h1, h2, h3⟩ => by
        obtain ⟨g, c, rfl, _, _, _⟩ := own_shape h2 (by omega)
        obtain ⟨A', c', he, _, _, hr⟩ := own_rd h2
        injection he with e1 e2 e3
        subst e1
        exact ⟨g, c, h1, hr, h.trans (h3.mono h.size), h3⟩
    have HS := Lib.hid hS
    have H4 := Lib.hid h4
    have HB12 := Lib.hid hb12
    have HO2 := Lib.hid hown2
    clear hS h4 a0 a1 a2 a3 a4 a5 hb12
    have hqw : IntKind.u32.wrap (Q : Int) = (Q : Int) := by rw [IntKind.wrap_u32']; omega
    go_region_held3 (fun w' => w'.cell? ⟨w.heap.size, 3, none⟩ = some (.int .i64 (Q : Int)) ∧ w'.cell? ⟨w.heap.size, 4, none⟩ = some (.int .u32 (T : Int)) ∧ Below w1.heap.size w1 w')
      (first | exact HS.out _ (by assumption) | exact HS.out _ HB12.out.drew | exact HS.out _ HB12.out)
      (first
        | (go_at_call_of 53 (Value.int .u32 (Q : Int)); refine (H4.out Q (by omega) _ (by first | assumption | exact HB12.out.drew)).mono ?_; rintro e w3 ⟨g3, c3, rfl, hr3, hbn, hb3⟩; have hown3 := own_below HO2.out.drew hb3 (Nat.le_refl _))
        | (go_at_call_of 53 (Value.int .u32 (T : Int)); refine (H4.out T (by omega) _ (by first | assumption | exact HB12.out.drew)).mono ?_; rintro e w5 ⟨g5, c5, rfl, hr5, hbn, hb5⟩)
        | (refine step_extend (by rfl) (.tmp 23) (.tmp 27) 33 (by rfl) w1.heap.size 5 i0 (.int .u8 0) 1 1 Try.underlying33 hi hz0 hz1 hz2 rfl (by omega) _ 3 _ (by rfl) hown3 ⟨g3, 0, none⟩ 4 c3 _ _ (by rfl) (by omega) hr3 (bv_one _) 7 rfl (by unfold maxLen; omega) (by omega) hbn.size ?_; intro v4 w4 hown4 hb4; have hbn := hbn.trans hb4; obtain ⟨g4, c4, rfl, _, _⟩ := own_shape hown4 (by omega))
        | (refine step_extend (by rfl) (.tmp 28) (.tmp 31) 33 (by rfl) w1.heap.size 5 i0 (.int .u8 0) 1 1 Try.underlying33 hi hz0 hz1 hz2 rfl (by omega) _ 7 _ (by rfl) (own_below hown4 hb5 (Nat.le_refl _)) ⟨g5, 0, none⟩ 4 c5 _ _ (by rfl) (by omega) hr5 (bv_one _) 11 rfl (by unfold maxLen; omega) (by omega) hbn.size ?_; intro v6 w6 hown6 hb6; have hbn := hbn.trans hb6; obtain ⟨g6, c6, rfl, _, _⟩ := own_shape hown6 (by omega)))
    clear hqw
    have hbase6 := hbn.size
    have a5 := (HK0.out.below hbn HZ1.out).cell 5 _ rfl
    have HB6 := Lib.hid (show Below w1.heap.size w1 w6 from hbn)
    clear hb3 hr3 hown3 hb4 hown4 hb5 hr5 hb6 hown2
    go_wp2_with (at_builtin; refine wpList_lits rfl (.tmp 33) (.tmp 43) 33 rfl w1.heap.size 5 i0 (.int .u8 0) 1 1 Try.underlying33 hi hz0 hz1 hz2 rfl (by omega) _ 11 _ rfl hown6 [.int .u8 ((n : Int) / 256), .int .u8 ((n : Int) % 256)] 2 _ rfl rfl rfl (by omega) (by simp [Value.oneCell']) 13 rfl (by unfold maxLen; omega) (by omega) hbase6 ?_; intro v7 w7 hown7 hb7 hs7; obtain ⟨g7, c7, rfl, _, _⟩ := hs7; have a5 := (HK0.out.below (HB6.out.trans hb7) HZ1.out).cell 5 _ rfl)
    obtain ⟨hd, hhd⟩ : ∃ hd : List Nat, hd = K :: S :: D :: (be4 Q ++ (be4 T ++ be2 n)) := ⟨_, rfl⟩
    have hrow : ([K, S, D].map bv ++ (be4 Q).map bv ++ (be4 T).map bv ++ [Value.int .u8 ((n : Int) / 256), .int .u8 ((n : Int) % 256)]) = (hd ++ (l.take 0).flatMap cellB).map bv := by
      have e1 : (n : Int) / 256 = ((n / 256 % 256 : Nat) : Int) := by omega
      have e2 : (n : Int) % 256 = ((n % 256 : Nat) : Int) := by omega
      rw [hhd, e1, e2]
      simp [bv, be2]
    have hhead : headM ⟨(K : Int), (S : Int), (D : Int), (Q : Int), (T : Int), l⟩ = hd ++ l.flatMap cellB := by
      rw [hhd]
      simp [headM, ← Hl.out]
    have hst := Lib.hid (show WrRel w1.heap.size n w1 hd l (.slice (some ⟨g7, 0, none⟩) 13 c7) (.int .i64 0) w7 from ⟨0, 13, g7, c7, Nat.zero_le _, rfl, rfl, rfl, by rw [← hrow]; exact hown7, HB6.out.trans hb7⟩)
    have Hhead := Lib.hid hhead
    clear hhd hrow hhead hown7 hb7 hown6
    go_loopw [5, 48] (fun v i wr => WrRel w1.heap.size n w1 hd l v i wr) (fun _ i _ => n - (intOf i).toNat)
    case atStart => exact hst.out
    case round =>
      obtain ⟨k, nn, g, cc, hk, rfl, hnn, rfl, hown, hbr⟩ := hrel
      have hbase := hbr.size
      have hnn' : nn ≤ 813 := by omega
      by_cases hlt : k < n
      · obtain ⟨b, o, f, rfl, hbB, hf, hcl⟩ := (Hrd.out.below (hbw1.out.trans (hbr.mono (by have := HZ1.out; omega)))).elem encC_len Hl.out hlt
        obtain ⟨x, y⟩ := f
        have c0 : wr.cell? ⟨b, o + k * 2, none⟩ = some (.int .i64 x) := hcl 0 _ rfl
        have c1 : wr.cell? ⟨b, o + k * 2 + 1, none⟩ = some (.int .i64 y) := hcl 1 _ rfl
        obtain ⟨x1, x2, y1, y2⟩ := H1.out (x, y) (List.mem_of_getElem? hf)
        simp only at x1 x2 y1 y2
        have hlt' : (k : Int) < (n : Int) := by omega
        have HL := Lib.hid (cell_lits (hd := hd) hf ⟨x1, x2⟩ ⟨y1, y2⟩)
        have Hnn := Lib.hid hnn
        clear hcl hf hnn a5
        go_wp2_with (at_builtin; refine wpList_lits rfl (.tmp 52) (.tmp 61) 33 rfl w1.heap.size 5 i0 (.int .u8 0) 1 1 Try.underlying33 hi hz0 hz1 hz2 rfl (by omega) _ nn _ rfl (hown.alloc _) [.int .u8 (x + 64), .int .u8 (y + 64)] 2 (wr.heap.size + 1) (by simp) rfl rfl (by omega) (by simp [Value.oneCell']) (nn + 2) rfl (by unfold maxLen; omega) (by omega) (by simp; omega) ?_; intro v8 w8 hown8 hb8 hs8; obtain ⟨g8, c8, rfl, _, _⟩ := hs8)
        go_roundw
        case rel => exact ⟨k + 1, nn + 2, g8, c8, by omega, by go_num, by rw [Hnn.out]; omega, rfl, by rw [← HL.out]; exact hown8, (hbr.alloc hbase _).trans hb8⟩
        case measure => simp [intOf]; omega
      · obtain rfl : k = n := by omega
        rw [List.take_of_length_le (by rw [Hl.out]; omega), ← Hhead.out] at hown
        obtain ⟨hL, hLd⟩ : ∃ L, L = headM ⟨(K : Int), (S : Int), (D : Int), (Q : Int), (T : Int), l⟩ := ⟨_, rfl⟩
        rw [← hLd] at hown
        have HLd := Lib.hid hLd
        have h8 := Lib.hid (show ∀ z ∈ hL, z < 256 by rw [hLd]; exact headM_lt (msgF_zero HE.out).1)
        have hlen : hL.length = nn := by have := hown.1; simpa using this
        have HS1 := Lib.hid (sum_any wr (some ⟨g, 0, none⟩) nn cc wr.heap.size hL hlen (by omega) (by obtain ⟨A', c', he, _, _, hr⟩ := own_rd hown; injection he with e1 e2 e3; subst e1; exact hr) h8.out)
        have hcrc := crc_lt hL h8.out
        obtain ⟨r, hr⟩ : ∃ r, r = crc hL := ⟨_, rfl⟩
        rw [← hr] at HS1 hcrc
        have Hr := Lib.hid hr
        have Hnn := Lib.hid hnn
        clear hlen hnn hr hLd a5
        go_wp2_with fail
        refine HS1.out.mono ?_
        rintro e w9 ⟨rfl, rfl⟩
        go_wp2_with fail
        refine (mfour_any _ r hcrc).mono ?_
        rintro e w9 ⟨v9, rfl, hown9, hb9⟩
        obtain ⟨A9, c9, rfl, hc9, _, hr9⟩ := own_rd hown9
        have hA9 := fun h => (own_none hown9 h).2
        have hown10 := own_below hown hb9 (Nat.le_refl _)
        have hbase9 := Nat.le_trans hbase hb9.size
        have HA9 := Lib.hid hA9
        clear hA9 hown9
        go_wp2_with (at_builtin; refine wpList_extend rfl (.tmp 64) (.tmp 67) 33 rfl w1.heap.size 5 i0 (.int .u8 0) 1 1 Try.underlying33 hi hz0 hz1 hz2 rfl (by omega) _ nn _ rfl hown10 A9 4 c9 _ _ rfl HA9.out hr9 (bv_one _) (by unfold maxLen; omega) (by omega) hbase9 ?_; intro v11 w11 hown11 hb11; obtain ⟨A11, c11, rfl, _, _, _⟩ := own_rd hown11)
        go_ret2
        refine ⟨.slice A11 (nn + 4) c11, nn + 4, ?_, ?_, ?_⟩
        · rw [HE.out]; rfl
        · rw [if_pos HE.out]
          unfold frameM
          rw [← HLd.out, ← Hr.out, List.map_append]
          exact own_mono hown11 (by have := HZ1.out; omega)
        · exact hbw1.out.trans (((hbr.trans (hb9.mono hbase)).trans hb11).mono (by have := HZ1.out; omega))
  · have hne : ¬ ((msgF ⟨k, s, d, q, t, l⟩ : Nat) : Int) = 0 := by omega
    have HE := Lib.hid hE
    obtain ⟨r, hr⟩ : ∃ r, r = msgF ⟨k, s, d, q, t, l⟩ := ⟨_, rfl⟩
    rw [← hr] at hne
    have Hr := Lib.hid hr
    have hnb : ((r : Int) == 0) = false := by simp; omega
    clear hb0 hz0' hm hE hr hc
    go_enter Try.func16, Try.ntmps16
    go_wp2_with fail
    refine (HC.out _).mono ?_
    rintro e w1 ⟨he, hb1⟩
    rw [← Hr.out] at he
    subst he
    have hbw1 := Lib.hid ((Hb0.out _).trans (hb1.mono (by simp)))
    clear hb1
    go_wp2_with fail
    go_ret2
    refine ⟨.slice none 0 0, 0, by rw [← Hr.out]; rfl, ?_, hbw1.out⟩
    rw [if_neg HE.out]
    exact World.ownsRow_nil _ _ _ _
end Go.Proofs.Ytaahpjjffggaiaa
