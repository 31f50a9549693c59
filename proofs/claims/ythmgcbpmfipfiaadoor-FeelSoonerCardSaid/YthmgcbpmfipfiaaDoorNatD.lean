/- nat.Add: the sum of two numbers. Conditions: those typed. -/
import Derived.Test.YthmgcbpmfipfiaaDoorNatC
import Derived.Deep.DeepCutAuto
namespace Go.Proofs.YthmgcbpmfipfiaaDoor
open Go.RowKit Go.Gy
set_option linter.unusedVariables false
theorem Rd.blk {w : World} {g n : Nat} {T : TypeId} {l : List Value} (hB : Blk w g T l.toArray) (hn : l.length = n) : Rd w w.heap.size 1 (some ⟨g, 0, none⟩) n l :=
  ⟨by omega, fun _ => ⟨g, 0, rfl, hB.lt, fun j u hu => by rw [Nat.zero_add]; exact hB.cell j u (by simpa using hu)⟩⟩
theorem blk_dig {w : World} {g m N k : Nat} {T : TypeId} (hB : Blk w g T ((digs 4294967296 m N).map wvn).toArray) (hk : k < m) : w.cell? ⟨g, k, none⟩ = some (.int .u32 ((N / 4294967296 ^ k % 4294967296 : Nat) : Int)) :=
  hB.cell k _ (by simp [digs_get 4294967296 m N k hk, wvn])
def AddCut (A B : Nat) (w2 : World) (x y : Value) (wx : World) : Prop := ∃ gx gy X Y, x = .slice (some ⟨gx, 0, none⟩) (wlen X) (wlen X) ∧ y = .slice (some ⟨gy, 0, none⟩) (wlen Y) (wlen Y) ∧ X + Y = A + B ∧ wlen Y ≤ wlen X ∧ wlen X ≤ 2199023255552 ∧ Blk w2 gx 137 ((digs 4294967296 (wlen X) X).map wvn).toArray ∧ Blk w2 gy 137 ((digs 4294967296 (wlen Y) Y).map wvn).toArray ∧ wx = w2
def AddRel (w3 : World) (X Y lx : Nat) (c i : Value) (wr : World) : Prop := ∃ k : Nat, k ≤ lx ∧ i = .int .i64 k ∧ c = .int .u64 ((addS 4294967296 X Y k / 4294967296 ^ k : Nat) : Int) ∧ Blk wr w3.heap.size 137 ((digs 4294967296 (lx + 1) (addS 4294967296 X Y k % 4294967296 ^ k)).map wvn).toArray ∧ Below w3.heap.size w3 wr
theorem wlen_size (s : ByteArray) (h : s.size ≤ 8796093022208) : wlen (sval s) ≤ 2199023255552 := by
  have := sval_trim_le s
  rw [natS_size] at this
  unfold wlen
  omega
set_option maxRecDepth 100000 in
set_option maxHeartbeats 2000000 in
theorem add_any (w : World) (s t : ByteArray) (hs : s.size ≤ 8796093022208) (ht : t.size ≤ 8796093022208) :
    Calls Tryd.prog 74 #[.string s, .string t] w fun e w' => e = .returned (.string (natS (sval s + sval t))) ∧ Below w.heap.size w w' := by
  have H1 := Lib.hid (trim_any w s (by omega))
  have H2 := Lib.hid (trim_any w t (by omega))
  have hw1 := wlen_size s hs
  have hw2 := wlen_size t ht
  obtain ⟨A, hA⟩ : ∃ A, A = sval s := ⟨_, rfl⟩
  obtain ⟨B, hB⟩ : ∃ B, B = sval t := ⟨_, rfl⟩
  have hl1 := sval_trim_le s
  have hl2 := sval_trim_le t
  rw [← hA] at H1 hl1 hw1 ⊢
  rw [← hB] at H2 hl2 hw2 ⊢
  have hz1 : (natS A).size < 8 → A < 256 ^ 7 := fun h => (natL_len_le A 7).mp (by rw [natS_size] at h; omega)
  have hz2 : (natS B).size < 8 → B < 256 ^ 7 := fun h => (natL_len_le B 7).mp (by rw [natS_size] at h; omega)
  have hv1 := sval_natS A
  have hv2 := sval_natS B
  obtain ⟨a, ha⟩ : ∃ a, a = natS A := ⟨_, rfl⟩
  obtain ⟨b, hb⟩ : ∃ b, b = natS B := ⟨_, rfl⟩
  rw [← ha] at H1 hl1 hz1 hv1
  rw [← hb] at H2 hl2 hz2 hv2
  clear hA hB ha hb
  by_cases h8 : a.size < 8 ∧ b.size < 8
  · obtain ⟨h1, h2⟩ := h8
    have e1 := hz1 h1
    have e2 := hz2 h2
    have S1 := Lib.hid (short_any w a (by omega))
    have S2 := Lib.hid (short_any w b (by omega))
    rw [hv1] at S1
    rw [hv2] at S2
    have F := Lib.hid (fromShort_any w (A + B) (by omega))
    have hA : A < 72057594037927936 := by omega
    have hB : B < 72057594037927936 := by omega
    clear hz1 hz2 hv1 hv2 hl1 hl2 e1 e2
    go_enter Tryd.func74, Tryd.ntmps74
    go_wp2_with fail
    refine H1.out.mono ?_
    rintro e w' ⟨rfl, rfl⟩
    go_wp2_with fail
    refine H2.out.mono ?_
    rintro e w' ⟨rfl, rfl⟩
    go_wp2_with fail
    refine S1.out.mono ?_
    rintro e w' ⟨rfl, rfl⟩
    go_wp2_with fail
    refine S2.out.mono ?_
    rintro e w' ⟨rfl, rfl⟩
    go_wp2_with fail
    refine F.out.mono ?_
    rintro e w' ⟨rfl, hb⟩
    go_wp2
    go_ret
    exact ⟨rfl, hb⟩
  · have W1 := Lib.hid (words_any w a (by omega))
    have W2 := Lib.hid (fun w' => words_any w' b (by omega))
    rw [hv1] at W1
    rw [hv2] at W2
    have hg : a.size < 8 → ¬ b.size < 8 := fun h1 h2 => h8 ⟨h1, h2⟩
    clear hz1 hz2 hv1 hv2 hl1 hl2 h8
    go_enter Tryd.func74, Tryd.ntmps74
    go_wp2_with fail
    refine H1.out.mono ?_
    rintro e w' ⟨rfl, rfl⟩
    go_wp2_with fail
    refine H2.out.mono ?_
    rintro e w' ⟨rfl, rfl⟩
    have hor : (a.size < 8 ∧ ¬ b.size < 8) ∨ ¬ a.size < 8 := by omega
    clear hg
    rcases hor with ⟨ha8, hb8⟩ | ha8
    all_goals
      go_wp2_with fail
      refine W1.out.mono ?_
      rintro e w1 ⟨gx, rfl, hgx, hX, hb1⟩
      go_wp2_with fail
      refine (W2.out w1).mono ?_
      rintro e w2 ⟨gy, rfl, hgy, hY, hb2⟩
      have hgl := hX.lt
      have HX := Lib.hid (hX.below hb2 hgl)
      have HY := Lib.hid hY
      have Hb := Lib.hid (hb1.trans (hb2.mono hb1.size))
      clear hX hY hb1 hb2 hgx hgy hgl
      go_upto_if 37 with (fail)
      go_cut [5, 6] (fun x y wx => AddCut A B w2 x y wx)
      case first =>
        by_cases hc : wlen A < wlen B
        · go_wp2
          go_meet
          exact ⟨gy, gx, B, A, rfl, rfl, Nat.add_comm _ _, by omega, hw2, HY.out, HX.out, rfl⟩
        · go_wp2
          go_meet
          exact ⟨gx, gy, A, B, rfl, rfl, rfl, by omega, hw1, HX.out, HY.out, rfl⟩
      case rest =>
        obtain ⟨gx, gy, X, Y, rfl, rfl, hXY, hle, hlx, hBx, hBy, rfl⟩ := hcut
        clear HX HY W1 W2 H1 H2
        obtain ⟨lx, hlxe⟩ : ∃ lx, lx = wlen X := ⟨_, rfl⟩
        obtain ⟨ly, hlye⟩ : ∃ ly, ly = wlen Y := ⟨_, rfl⟩
        have hXl : X < 4294967296 ^ lx := by rw [hlxe]; exact wlen_lt X
        have hYl : Y < 4294967296 ^ ly := by rw [hlye]; exact wlen_lt Y
        rw [← hlxe] at hle hlx hBx ⊢
        rw [← hlye] at hle hBy ⊢
        have hmk := make_u32 (lx + 1) (by omega) wc
        have hc1 : ((lx + 1 : Nat) : Int) = (lx : Int) + 1 := by omega
        rw [hc1] at hmk
        have Hx := Lib.hid (show ∀ k, k < lx → ∀ wr, Below wc.heap.size wc wr → wr.cell? ⟨gx, k, none⟩ = some (.int .u32 ((X / 4294967296 ^ k % 4294967296 : Nat) : Int)) from fun k hk wr hb => (hb.cell (p := ⟨gx, k, none⟩) hBx.lt).trans (blk_dig hBx hk))
        have Hy := Lib.hid (show ∀ k, k < ly → ∀ wr, Below wc.heap.size wc wr → wr.cell? ⟨gy, k, none⟩ = some (.int .u32 ((Y / 4294967296 ^ k % 4294967296 : Nat) : Int)) from fun k hk wr hb => (hb.cell (p := ⟨gy, k, none⟩) hBy.lt).trans (blk_dig hBy hk))
        have HXl := Lib.hid hXl
        have HYl := Lib.hid hYl
        have HXY := Lib.hid hXY
        clear hBx hBy hlxe hlye hXl hYl hXY hc1
        go_wp2
        go_loopw [8, 46] (fun c i wr => AddRel wc X Y lx c i wr) (fun _ i _ => lx - (intOf i).toNat)
        case atStart =>
          refine ⟨0, Nat.zero_le _, rfl, ?_, ?_, (Below.refl _ _).alloc (Nat.le_refl _) _⟩
          · simp [addS_zero]
          · rw [addS_zero, Nat.zero_mod, digs_zero]
            have := Blk.new wc 137 ((List.replicate (lx + 1) 0).map wvn).toArray
            simpa using this
        case round =>
          obtain ⟨k, hk, rfl, rfl, hB, hb3⟩ := hrel
          by_cases hlt : k < lx
          · have hcx := Hx.out k hlt wr hb3
            obtain ⟨x, hx⟩ : ∃ x, x = X / 4294967296 ^ k % 4294967296 := ⟨_, rfl⟩
            obtain ⟨y, hy⟩ : ∃ y, y = Y / 4294967296 ^ k % 4294967296 := ⟨_, rfl⟩
            obtain ⟨c, hc⟩ : ∃ c, c = addS 4294967296 X Y k / 4294967296 ^ k := ⟨_, rfl⟩
            have hxl : x < 4294967296 := by rw [hx]; exact Nat.mod_lt _ (by omega)
            have hyl : y < 4294967296 := by rw [hy]; exact Nat.mod_lt _ (by omega)
            have hcl : c ≤ 1 := by rw [hc]; exact addS_carry_le (by omega) X Y k
            have Hcar := Lib.hid (show addS 4294967296 X Y (k + 1) / 4294967296 ^ (k + 1) = (c + x + y) / 4294967296 by rw [addS_carry (by omega), ← hx, ← hy, ← hc])
            have hset := addS_digs (B := 4294967296) (by omega) X Y k (lx + 1) (by omega)
            rw [← hx, ← hy, ← hc] at hset
            have hfz := hB.free k
            have hck := blk_dig hB (k := k) (by omega)
            have hst := blk_setn hB k ((c + x + y) % 4294967296)
            rw [hset] at hst
            rw [← hx] at hcx
            rw [← hc]
            have Hst := Lib.hid hst
            by_cases hky : k < ly
            · have hcy := Hy.out k hky wr hb3
              rw [← hy] at hcy
              clear hx hy hc hset hst hB
              go_wp2
              go_roundw
              case rel => exact ⟨k + 1, by omega, by go_num, by rw [Hcar.out]; go_num, Hst.out, hb3.setCell (Nat.le_refl _) _⟩
              case measure => simp [intOf]; omega
            · have hy0 : y = 0 := by
                rw [hy, Nat.div_eq_of_lt (Nat.lt_of_lt_of_le HYl.out (Nat.pow_le_pow_right (by omega) (by omega)))]
              subst hy0
              clear hx hy hc hset hst hB
              go_wp2
              go_roundw
              case rel => exact ⟨k + 1, by omega, by go_num, by rw [Hcar.out]; go_num, Hst.out, hb3.setCell (Nat.le_refl _) _⟩
              case measure => simp [intOf]; omega
          · obtain rfl : k = lx := by omega
            have hcl := addS_carry_le (B := 4294967296) (by omega) X Y k
            have hst := blk_setn hB k (addS 4294967296 X Y k / 4294967296 ^ k)
            rw [addS_last (by omega) HXl.out (Nat.lt_of_lt_of_le HYl.out (Nat.pow_le_pow_right (by omega) hle))] at hst
            obtain ⟨c, hc⟩ : ∃ c, c = addS 4294967296 X Y k / 4294967296 ^ k := ⟨_, rfl⟩
            rw [← hc] at hcl hst ⊢
            have hfz := hB.free k
            have hck := blk_dig hB (k := k) (by omega)
            rw [show wvn c = Value.int .u32 (c : Int) from rfl] at hst
            have HT := Lib.hid (text_any _ (some ⟨wc.heap.size, 0, none⟩) (k + 1) (k + 1) (X + Y) (by omega) (Rd.blk hst (by simp [digs_len])))
            have Hv := Lib.hid (show (X + Y) % 4294967296 ^ (k + 1) = A + B by
              rw [HXY.out]
              apply Nat.mod_eq_of_lt
              rw [← HXY.out, Nat.pow_succ]
              have h1 := HXl.out
              have h2 := Nat.lt_of_lt_of_le HYl.out (Nat.pow_le_pow_right (show 0 < 4294967296 by omega) hle)
              omega)
            have Hbb := Lib.hid (show Below wc.heap.size wc (wr.setCell ⟨wc.heap.size, k, none⟩ (.int .u32 (c : Int))) from hb3.setCell (Nat.le_refl _) _)
            clear hc hst hB
            go_wp2_with fail
            refine HT.out.mono ?_
            rintro e w4 ⟨rfl, hb4⟩
            go_wp2
            go_ret
            exact ⟨ret_str (by rw [Hv.out]), Hb.out.trans ((Hbb.out.trans (hb4.mono Hbb.out.size)).mono Hb.out.size)⟩
end Go.Proofs.YthmgcbpmfipfiaaDoor
