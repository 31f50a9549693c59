/- nat.less, nat.Sub: differences. Conditions: those typed. -/
import Derived.Test.YthmgcbpmfipfiaaDoorNatD
namespace Go.Proofs.YthmgcbpmfipfiaaDoor
open Go.RowKit Go.Gy
set_option linter.unusedVariables false
/-- only block g has changed -/
def Chg (g : Nat) (w w' : World) : Prop := w.grownBy w' (some g) ∧ w'.heap.size = w.heap.size
theorem Chg.refl (g : Nat) (w : World) : Chg g w w := ⟨⟨rfl, rfl, rfl, Nat.le_refl _, fun _ _ _ => rfl⟩, rfl⟩
theorem Chg.set {g : Nat} {w w' : World} (h : Chg g w w') (i : Nat) (v : Value) : Chg g w (w'.setCell ⟨g, i, none⟩ v) :=
  ⟨⟨h.1.os, h.1.tape, h.1.output, by simpa using h.1.size, fun k hk hne => (Below.heap_setCell w' ⟨g, i, none⟩ v k (fun e => hne (by rw [e]))).trans (h.1.block k hk hne)⟩, by simpa using h.2⟩
theorem Chg.drew {g : Nat} {w w' : World} (h : Chg g w w') : Chg g w w'.drew := ⟨⟨h.1.os, h.1.tape, h.1.output, h.1.size, h.1.block⟩, h.2⟩
theorem Chg.trans {g : Nat} {w w' w'' : World} (h : Chg g w w') (h' : Chg g w' w'') : Chg g w w'' :=
  ⟨⟨h'.1.os.trans h.1.os, h'.1.tape.trans h.1.tape, h'.1.output.trans h.1.output, Nat.le_trans h.1.size h'.1.size, fun k hk hne => (h'.1.block k (by have := h.1.size; omega) hne).trans (h.1.block k hk hne)⟩, h'.2.trans h.2⟩
theorem Chg.below {g B : Nat} {w w' : World} (h : Chg g w w') (hB : B ≤ g) (hw : B ≤ w.heap.size) : Below B w w' := (Below.refl B w).grown h.1 hw (fun k hk => by injection hk with hk; omega)
theorem Chg.blk {g g' : Nat} {w w' : World} {t : TypeId} {cs : Array Value} (h : Chg g w w') (hB : Blk w g' t cs) (hne : g' ≠ g) : Blk w' g' t cs := (h.1.block g' hB.lt (fun e => hne (by injection e))).trans hB
theorem Chg.cell {g g' o : Nat} {w w' : World} (h : Chg g w w') (hg : g' < w.heap.size) (hne : g' ≠ g) : w'.cell? ⟨g', o, none⟩ = w.cell? ⟨g', o, none⟩ := World.cell?_of_block (h.1.block g' hg (fun e => hne (by injection e)))
def LessRel (w : World) (gx : Nat) (X Y m : Nat) (c i : Value) (wr : World) : Prop := ∃ k : Nat, k ≤ m ∧ i = .int .i64 k ∧ c = .int .u64 ((subB 4294967296 X Y k : Nat) : Int) ∧ Blk wr gx 137 ((digs 4294967296 m (subN 4294967296 X Y k)).map wvn).toArray ∧ Chg gx w wr
theorem word_sub (x y c : Nat) (hx : x < 4294967296) (hy : y < 4294967296) (hc : c ≤ 1) : Value.int .u32 (IntKind.u64.wrap (IntKind.u64.wrap ((x : Int) - (c : Int)) - (y : Int)) % 4294967296) = wvn ((x + 4294967296 - y - c) % 4294967296) ∧ Value.int .u64 (IntKind.u64.wrap (IntKind.u64.wrap ((x : Int) - (c : Int)) - (y : Int)) / 9223372036854775808) = .int .u64 ((if x < y + c then 1 else 0 : Nat) : Int) := by
  unfold wvn
  rw [IntKind.wrap_u64, IntKind.wrap_u64]
  constructor
  · congr 1
    omega
  · congr 1
    by_cases h : x < y + c
    · rw [if_pos h]; omega
    · rw [if_neg h]; omega
theorem word_sub0 (x c : Nat) (hx : x < 4294967296) (hc : c ≤ 1) : Value.int .u32 (IntKind.u64.wrap ((x : Int) - (c : Int)) % 4294967296) = wvn ((x + 4294967296 - 0 - c) % 4294967296) ∧ Value.int .u64 (IntKind.u64.wrap ((x : Int) - (c : Int)) / 9223372036854775808) = .int .u64 ((if x < 0 + c then 1 else 0 : Nat) : Int) := by
  unfold wvn
  rw [IntKind.wrap_u64]
  constructor
  · congr 1
    omega
  · congr 1
    by_cases h : x < 0 + c
    · rw [if_pos h]; omega
    · rw [if_neg h]; omega
set_option maxRecDepth 100000 in
set_option maxHeartbeats 2000000 in
theorem less_any (w : World) (gx gy m n X Y : Nat) (hne : gy ≠ gx) (hnm : n ≤ m) (hm : m ≤ 35184372088832) (hX : Blk w gx 137 ((digs 4294967296 m X).map wvn).toArray) (hY : Blk w gy 137 ((digs 4294967296 n Y).map wvn).toArray) (hYl : Y < 4294967296 ^ n) :
    Calls Tryd.prog 108 #[.slice (some ⟨gx, 0, none⟩) m m, .slice (some ⟨gy, 0, none⟩) n n] w fun e w' => e = .returned (.tuple #[]) ∧ Blk w' gx 137 ((digs 4294967296 m (subN 4294967296 X Y m)).map wvn).toArray ∧ Chg gx w w' := by
  have Hy := Lib.hid (show ∀ k, k < n → ∀ wr, Chg gx w wr → wr.cell? ⟨gy, k, none⟩ = some (.int .u32 ((Y / 4294967296 ^ k % 4294967296 : Nat) : Int)) from fun k hk wr hb => (hb.cell hY.lt hne).trans (blk_dig hY hk))
  have HYl := Lib.hid hYl
  have Hst := Lib.hid (show LessRel w gx X Y m (.int .u64 0) (.int .i64 0) w from ⟨0, Nat.zero_le _, rfl, by rw [subB_zero]; rfl, by rw [subN_zero]; exact hX, Chg.refl _ _⟩)
  clear hY hYl hX
  go_enter Tryd.func108, Tryd.ntmps108
  go_wp2
  go_loopw [4, 10] (fun c i wr => LessRel w gx X Y m c i wr) (fun _ i _ => m - (intOf i).toNat)
  case atStart => exact Hst.out
  case round =>
    obtain ⟨k, hk, rfl, rfl, hB, hb3⟩ := hrel
    by_cases hlt : k < m
    · obtain ⟨x, hx⟩ : ∃ x, x = X / 4294967296 ^ k % 4294967296 := ⟨_, rfl⟩
      obtain ⟨y, hy⟩ : ∃ y, y = Y / 4294967296 ^ k % 4294967296 := ⟨_, rfl⟩
      obtain ⟨c, hc⟩ : ∃ c, c = subB 4294967296 X Y k := ⟨_, rfl⟩
      have hxl : x < 4294967296 := by rw [hx]; exact Nat.mod_lt _ (by omega)
      have hyl : y < 4294967296 := by rw [hy]; exact Nat.mod_lt _ (by omega)
      have hcl : c ≤ 1 := by rw [hc]; exact subB_le _ X Y k
      have hcx := blk_dig hB hlt
      rw [subN_dig (by omega), ← hx] at hcx
      have hset := subN_digs (B := 4294967296) (by omega) X Y k m hlt
      have hcar := subB_succ (B := 4294967296) (by omega) X Y k
      rw [← hx, ← hy, ← hc] at hset hcar
      have hfz := hB.free k
      have hst := blk_setn hB k ((x + 4294967296 - y - c) % 4294967296)
      rw [hset] at hst
      have Hst := Lib.hid hst
      have HC := Lib.hid hcar
      rw [← hc]
      by_cases hky : k < n
      · have hcy := Hy.out k hky wr hb3
        rw [← hy] at hcy
        have HE := Lib.hid (word_sub x y c hxl hyl hcl)
        clear hx hy hc hset hst hB hcar
        go_wp2
        go_roundw
        case rel => exact ⟨k + 1, by omega, by go_num, by rw [HE.out.2, HC.out], by rw [HE.out.1]; exact Hst.out, hb3.set _ _⟩
        case measure => simp [intOf]; omega
      · have hy0 : y = 0 := by
          rw [hy, Nat.div_eq_of_lt (Nat.lt_of_lt_of_le HYl.out (Nat.pow_le_pow_right (by omega) (by omega)))]
        subst hy0
        have HE := Lib.hid (word_sub0 x c hxl hcl)
        clear hx hy hc hset hst hB hcar
        go_wp2
        go_roundw
        case rel => exact ⟨k + 1, by omega, by go_num, by rw [HE.out.2, HC.out], by rw [HE.out.1]; exact Hst.out, hb3.set _ _⟩
        case measure => simp [intOf]; omega
    · obtain rfl : k = m := by omega
      go_wp2
      go_end0
      exact ⟨rfl, hB, hb3⟩
def subF (a b : Nat) : Nat × Nat := if a < b then (0, 1) else (a - b, 0)
set_option maxRecDepth 100000 in
set_option maxHeartbeats 2000000 in
theorem sub_any (w : World) (s t : ByteArray) (hs : s.size ≤ 8796093022208) (ht : t.size ≤ 8796093022208) :
    Calls Tryd.prog 92 #[.string s, .string t] w fun e w' => e = .returned (.tuple #[.string (natS (subF (sval s) (sval t)).1), .int .i64 ((subF (sval s) (sval t)).2 : Nat)]) ∧ Below w.heap.size w w' := by
  have H1 := Lib.hid (cmp_any w s t (by omega) (by omega))
  have W1 := Lib.hid (words_any w s (by omega))
  have W2 := Lib.hid (fun w' => words_any w' t (by omega))
  have hw1 := wlen_size s hs
  have hw2 := wlen_size t ht
  obtain ⟨A, hA⟩ : ∃ A, A = sval s := ⟨_, rfl⟩
  obtain ⟨B, hB⟩ : ∃ B, B = sval t := ⟨_, rfl⟩
  rw [← hA] at H1 W1 hw1 ⊢
  rw [← hB] at H1 W2 hw2 ⊢
  clear hA hB
  by_cases hlt : A < B
  · have e1 : cmpN A B = -1 := by unfold cmpN; rw [if_pos hlt]
    have e2 : subF A B = (0, 1) := by unfold subF; rw [if_pos hlt]
    rw [e1] at H1
    rw [e2]
    have Hz := Lib.hid (show natS 0 = { data := #[] } by unfold natS; rw [natL_zero])
    clear e1 e2 W1 W2
    go_enter Tryd.func92, Tryd.ntmps92
    go_wp2_with fail
    refine H1.out.mono ?_
    rintro e w' ⟨rfl, rfl⟩
    go_wp2
    go_ret2
    exact ⟨by rw [Hz.out]; rfl, Below.refl _ _⟩
  · have e2 : subF A B = (A - B, 0) := by unfold subF; rw [if_neg hlt]
    have e1 : 0 ≤ cmpN A B := by unfold cmpN; rw [if_neg hlt]; split <;> omega
    obtain ⟨c, hc⟩ : ∃ c, c = cmpN A B := ⟨_, rfl⟩
    rw [← hc] at e1 H1
    rw [e2]
    have hcn : ¬ c < 0 := by omega
    have hle : wlen B ≤ wlen A := by
      rw [wlen_le]
      exact Nat.lt_of_le_of_lt (by omega) (wlen_lt A)
    have Hend := Lib.hid (subN_end (B := 4294967296) (by omega) (wlen_lt A) (Nat.lt_of_lt_of_le (wlen_lt B) (Nat.pow_le_pow_right (by omega) hle)) (by omega))
    have Hlt := Lib.hid (show (A - B) % 4294967296 ^ wlen A = A - B from Nat.mod_eq_of_lt (Nat.lt_of_le_of_lt (Nat.sub_le _ _) (wlen_lt A)))
    have HBl := Lib.hid (wlen_lt B)
    obtain ⟨m, hm⟩ : ∃ m, m = wlen A := ⟨_, rfl⟩
    obtain ⟨n, hn⟩ : ∃ n, n = wlen B := ⟨_, rfl⟩
    have W1' := Lib.hid (show Calls Tryd.prog 98 #[.string s] w fun e w' => ∃ G, e = .returned (.slice (some ⟨G, 0, none⟩) m m) ∧ w.heap.size ≤ G ∧ Blk w' G 137 ((digs 4294967296 m A).map wvn).toArray ∧ Below w.heap.size w w' by rw [hm]; exact W1.out)
    have W2' := Lib.hid (show ∀ w, Calls Tryd.prog 98 #[.string t] w fun e w' => ∃ G, e = .returned (.slice (some ⟨G, 0, none⟩) n n) ∧ w.heap.size ≤ G ∧ Blk w' G 137 ((digs 4294967296 n B).map wvn).toArray ∧ Below w.heap.size w w' by rw [hn]; exact W2.out)
    rw [← hm] at hle hw1 Hend Hlt
    rw [← hn] at hle HBl
    clear hc e2 hm hn W1 W2 hw2 hlt
    go_enter Tryd.func92, Tryd.ntmps92
    go_wp2_with fail
    refine H1.out.mono ?_
    rintro e w' ⟨rfl, rfl⟩
    go_wp2_with fail
    refine W1'.out.mono ?_
    rintro e w1 ⟨gx, rfl, hgx, hX, hb1⟩
    go_wp2_with fail
    refine (W2'.out w1).mono ?_
    rintro e w2 ⟨gy, rfl, hgy, hY, hb2⟩
    have hgl := hX.lt
    have HL := Lib.hid (less_any w2 gx gy m n A B (by omega) hle (by omega) (hX.below hb2 hgl) hY HBl.out)
    have Hgx := Lib.hid hgx
    have Hb := Lib.hid (hb1.trans (hb2.mono hb1.size))
    clear hX hY hb1 hb2 hgx hgy hgl
    go_wp2_with fail
    refine HL.out.mono ?_
    rintro e w3 ⟨rfl, hB3, hc3⟩
    rw [Hend.out] at hB3
    have hb3 := hc3.below Hgx.out Hb.out.size
    have HT := Lib.hid (text_any w3 (some ⟨gx, 0, none⟩) m m (A - B) (by omega) (Rd.blk hB3 (by simp [digs_len])))
    have Hb3 := Lib.hid (Hb.out.trans hb3)
    clear hB3 hc3 hb3
    go_wp2_with fail
    refine HT.out.mono ?_
    rintro e w4 ⟨rfl, hb4⟩
    go_wp2
    go_ret2
    exact ⟨by rw [Hlt.out]; rfl, Hb3.out.trans (hb4.mono Hb3.out.size)⟩
end Go.Proofs.YthmgcbpmfipfiaaDoor
