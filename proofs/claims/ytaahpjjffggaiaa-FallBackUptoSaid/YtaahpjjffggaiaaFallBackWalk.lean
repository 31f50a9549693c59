/- FallBack's walk: it returns true, for arguments of at most 1048576. Conditions: those typed. -/
import Derived.Test.YtaahpjjffggaiaaBackAll
import Derived.Test.YtaahpjjffggaiaaLogOpen
namespace Go.Proofs.Ytaahpjjffggaiaa.fallBack
open Go.RowKit Go.Gy
set_option linter.unusedVariables false
set_option maxRecDepth 100000 in
theorem size_ev (w : World) : (sizeOf (Try.prog.elem 70)).run Try.prog w = .ok 3 w := by
  obtain ⟨i, hi, _⟩ := info_parts info_ev
  exact (run_sizeOf (w := w) (show Try.prog.info? (Try.prog.elem 70) = some i from hi)).trans (congrArg (fun n => Result.ok n w) (by kernel_rfl))
theorem evs_to (A : Option Addr) (N C k : Nat) (hk : k ≤ C) (w : World) : (Instr.slice 70 (.slice A N C) none (some (.int .i64 (k : Int))) none).run Try.prog w = .ok (.slice A k C) w :=
  run_slice_to 70 3 (by kernel_rfl) size_ev A N C k hk w
theorem back_nil : backF [] = (zeroMem, 0, 0) := by
  have h : (scanL ([] : List Nat)).1 = [] := List.length_eq_zero_iff.1 (by have := scan_few (b := []) (by simp); simpa using this)
  unfold backF
  rw [h]
  rfl
theorem same_zero : sameF zeroMem zeroMem = true := by decide
def RowsO (w : World) (B : Nat) (vs : List Value) (rs : List (List Nat)) : Prop := vs.length = rs.length ∧ ∀ (i : Nat) (u : Value) (q : List Nat), vs[i]? = some u → rs[i]? = some q → w.ownsRow B 5 1 u q.length (q.map bv)
theorem RowsO.nil (w : World) (B : Nat) : RowsO w B [] [] := ⟨rfl, fun i u q h => by simp at h⟩
theorem RowsO.below {w w' : World} {B : Nat} {vs : List Value} {rs : List (List Nat)} (h : RowsO w B vs rs) (hb : Below w.heap.size w w') : RowsO w' B vs rs := ⟨h.1, fun i u q h1 h2 => own_below (h.2 i u q h1 h2) hb (Nat.le_refl _)⟩
theorem RowsO.kept {w w' : World} {B B' size n : Nat} {vs : List Value} {rs : List (List Nat)} {e : TypeId} {r : Value} {xs : List Value} (h : RowsO w B vs rs) (ho : w.ownsRow B' e size r n xs) (hne : 5 ≠ e) (hg : w.grownBy w' r.ownBlock) : RowsO w' B vs rs := ⟨h.1, fun i u q h1 h2 => (h.2 i u q h1 h2).kept hg (own_apart (h.2 i u q h1 h2) ho hne)⟩
theorem RowsO.snoc {w : World} {B : Nat} {vs : List Value} {rs : List (List Nat)} {v : Value} {r : List Nat} (h : RowsO w B vs rs) (ho : w.ownsRow B 5 1 v r.length (r.map bv)) : RowsO w B (vs ++ [v]) (rs ++ [r]) := by
  refine ⟨by simp [h.1], fun i u q h1 h2 => ?_⟩
  by_cases hi : i < vs.length
  · rw [List.getElem?_append_left hi] at h1
    rw [List.getElem?_append_left (by rw [← h.1]; exact hi)] at h2
    exact h.2 i u q h1 h2
  · rw [List.getElem?_append_right (by omega)] at h1
    rw [List.getElem?_append_right (by rw [← h.1]; omega)] at h2
    have h0 : i - vs.length = 0 := by
      rcases Nat.eq_zero_or_pos (i - vs.length) with h0 | h0
      · exact h0
      · rw [List.getElem?_eq_none (by simp; omega)] at h1; cases h1
    rw [h0] at h1
    rw [← h.1, h0] at h2
    simp at h1 h2
    subst h1 h2
    exact ho
theorem RowsO.slsB {w : World} {B : Nat} {vs : List Value} {rs : List (List Nat)} (h : RowsO w B vs rs) : SlsB w w.heap.size vs rs := ⟨h.1, fun i u q h1 h2 => by
  have h := h.2 i u q h1 h2
  obtain ⟨A, c, rfl, _⟩ := own_rd h
  exact SlB.own h⟩
def FbRel (w1 : World) (K : Nat) (v i : Value) (wr : World) : Prop := ∃ (u : Value) (k : Nat) (vs : List Value) (rs : List (List Nat)), u = v ∧ k ≤ K ∧ i = .int .i64 (k : Int) ∧ rs.length ≤ k ∧ wr.ownsRow w1.heap.size 33 1 v rs.length vs ∧ RowsO wr w1.heap.size vs rs ∧ (∀ r ∈ rs, r.length ≤ 805 ∧ ∀ x ∈ r, x < 256) ∧ Below w1.heap.size w1 wr
theorem nilB (w : World) (B : Nat) : SlB w B (.slice none 0 0) [] := ⟨none, 0, 0, rfl, rfl, Nat.le_refl _, fun _ => rfl, ⟨rfl, fun h => by omega⟩⟩
set_option maxRecDepth 100000 in
set_option maxHeartbeats 4000000 in
theorem walk (v0 v1 : Value) (w : World) {b0 b1 : Nat} (f0 : BytesArg w v0 b0) (f1 : EvsArg w v1 b1) (hk : b0 ≤ 1048576 ∧ b1 ≤ 1048576) :
    Calls Try.prog 8 #[v0, v1] w fun e w' => e = .returned (.bool true) ∧ Below w.heap.size w w' := by
  obtain ⟨b, hv, h8, hb, _⟩ := f0
  obtain ⟨ss, A, n, c, rfl, hl, hnc, hc62, hAc, hrd, hin⟩ := f1
  have HB0 := Lib.hid (back_any w (.slice none 0 0) [] (nilB _ _) (by simp) (by simp))
  rw [back_nil] at HB0
  have HBb := Lib.hid (fun (w' : World) (hb' : Below w.heap.size w w') => backs_any w' v0 b ((hv.below hb').more hb'.size) (by omega) h8)
  obtain ⟨VA, Vn, Vc, rfl, _⟩ := id hv
  have Hrd := Lib.hid hrd
  have Hin := Lib.hid hin
  have Hl := Lib.hid hl
  obtain ⟨K, hK⟩ : ∃ K, K = min n 20 := ⟨_, rfl⟩
  have hmin : min (n : Int) 20 = (K : Int) := by omega
  have hto := evs_to A n c K (by omega)
  have Hto := Lib.hid hto
  have hK20 : K ≤ 20 := by omega
  have hKn : K ≤ n := by omega
  have Hmin := Lib.hid hmin
  have hu70 := Lib.hid (show Try.prog.underlying 70 = some (.slice (Try.prog.elem 70)) by kernel_rfl)
  obtain ⟨j0, hj, hy0, hy1, hy2⟩ := info_parts info_bytes
  clear hv h8 hb hrd hin hl hK hmin hto hk
  go_enter Try.func8, Try.ntmps8
  go_wp2_with fail
  refine HB0.out.mono ?_
  rintro e w9 ⟨v9, rfl, ⟨A5, n5, c5, A6, n6, c6, rfl, ho5, ho6, h5, h6⟩, hb9⟩
  have hz9 := hb9.size
  have Hb9 := Lib.hid hb9
  have Ho5 := Lib.hid ho5
  have Ho6 := Lib.hid ho6
  clear ho5 ho6 hb9 HB0
  go_upto_region 2 with (fail)
  have hN := Blk.new w9 46 (memRow zeroMem A5 n5 c5 A6 n6 c6)
  have hb910 : Below w9.heap.size w9 (w9.alloc (.cells (memRow zeroMem A5 n5 c5 A6 n6 c6) 46)) := (Below.refl _ _).alloc (Nat.le_refl _) _
  change Code.wp _ _ _ _ (w9.alloc (.cells (memRow zeroMem A5 n5 c5 A6 n6 c6) 46))
  generalize w9.alloc (.cells (memRow zeroMem A5 n5 c5 A6 n6 c6) 46) = w10 at hN hb910 ⊢
  have hz10 := hN.lt
  have HS := Lib.hid (fsame_any w10 zeroMem zeroMem A5 n5 c5 A6 n6 c6 none 0 0 none 0 0 (SlC.own (own_below Ho5.out hb910 (Nat.le_refl _))) (SlC.own (own_below Ho6.out hb910 (Nat.le_refl _))) (SlC.nil' _ _) (SlC.nil' _ _) (by omega) (by omega) (by omega) (by omega))
  rw [same_zero] at HS
  have Hb10 := Lib.hid (Hb9.out.trans (hb910.mono hz9))
  have m0 := hN.cell 0 _ rfl
  have m1 := hN.cell 1 _ rfl
  have m2 := hN.cell 2 _ rfl
  have m3 := hN.cell 3 _ rfl
  have m4 := hN.cell 4 _ rfl
  clear hN hb910
  go_wp2_with fail
  refine HS.out.mono ?_
  rintro e w11 ⟨rfl, hb11⟩
  have Hb11 := Lib.hid (Hb10.out.trans (hb11.mono Hb10.out.size))
  have HT := Lib.hid (tells_any w11 zeroMem none 0 0 none 0 0 6 0 [] none 0 0 (.slice none 0 0) [] (SlC.nil' _ _) (SlC.nil' _ _) (SlC.nil' _ _) (nilB _ _) (by simp) (by simp))
  clear HS hb11 m0 m1 m2 m3 m4
  go_wp2_with fail
  refine HT.out.mono ?_
  rintro e w12 ⟨rfl, hb12⟩
  have Hb12 := Lib.hid (Hb11.out.trans (hb12.mono Hb11.out.size))
  have HB12 := Lib.hid (HBb.out w12 Hb12.out)
  clear HT hb12 HBb
  go_wp2_with fail
  refine HB12.out.mono ?_
  rintro e w1 ⟨rfl, hb1⟩
  have Hb1 := Lib.hid (Hb12.out.trans (hb1.mono Hb12.out.size))
  clear hb1 HB12
  have hst := Lib.hid (show FbRel w1 K (.slice none 0 0) (.int .i64 0) w1 from ⟨_, 0, [], [], rfl, Nat.zero_le _, rfl, Nat.le_refl _, World.ownsRow_nil _ _ _ _, RowsO.nil _ _, by simp, Below.refl _ _⟩)
  go_wp2_with (first
    | (refine wpList_min2 rfl (.tmp 39) (.const (.int .i64 20)) _ rfl n 20 rfl rfl K Hmin.out ?_)
    | (refine wpList_slice_to rfl 70 (.tmp 37) (.tmp 40) rfl A n c K rfl rfl hu70.out Hto.out ?_))
  go_loopw [8, 43] (fun v i wr => FbRel w1 K v i wr) (fun _ i _ => K - (intOf i).toNat)
  case atStart => exact hst.out
  case round =>
    obtain ⟨u, k, vs, rs, rfl, hk, rfl, hrk, hown, hsb, hrs, hb⟩ := hrel
    have hzr := hb.size
    have Hb := Lib.hid hb
    have Hown := Lib.hid hown
    have Hsb := Lib.hid hsb
    have Hrs := Lib.hid hrs
    clear hb hown hsb hrs
    by_cases hlt : k < K
    · have hlt' : (k : Int) < (K : Int) := by omega
      have hwr := Hb1.out.trans (Hb.out.mono Hb1.out.size)
      obtain ⟨gb, o, s, rfl, hbb, hs, hc⟩ := (Hrd.out.below hwr).elem encE_len Hl.out (show k < n by omega)
      have hsl := ((Hin.out s (List.mem_of_getElem? hs)).1.below hwr).more hwr.size
      obtain ⟨⟨ek, en, ec⟩, A7, n7, c7⟩ := s
      have c0 : wr.cell? ⟨gb, o + k * 3, none⟩ = some (.int .i64 ek) := hc 0 _ rfl
      have c1 : wr.cell? ⟨gb, o + k * 3 + 1, none⟩ = some (.int .i64 en) := hc 1 _ rfl
      have c2 : wr.cell? ⟨gb, o + k * 3 + 2, none⟩ = some (.slice A7 n7 c7) := hc 2 _ rfl
      have Hsl := Lib.hid hsl
      clear hs hc hsl hwr
      go_upto_region 10 with (fail)
      have hN := Blk.new wr 48 #[.int .i64 ek, .int .i64 en, .slice A7 n7 c7]
      have hb6 : Below wr.heap.size wr (wr.alloc (.cells #[.int .i64 ek, .int .i64 en, .slice A7 n7 c7] 48)) := (Below.refl _ _).alloc (Nat.le_refl _) _
      generalize wr.alloc (.cells #[.int .i64 ek, .int .i64 en, .slice A7 n7 c7] 48) = w6 at hN hb6 ⊢
      have hz6 := hN.lt
      have Hsl6 := Lib.hid ((Hsl.out.below hb6).more hb6.size)
      have Hown6 := Lib.hid (own_below Hown.out hb6 (Nat.le_refl _))
      have Hsb6 := Lib.hid (Hsb.out.below hb6)
      have Hb16 := Lib.hid (Hb.out.trans (hb6.mono hzr))
      have hG := eventfault_any w6 ek en ec A7 n7 c7 Hsl6.out
      obtain ⟨X, hXe⟩ : ∃ X, X = checkF ⟨ek, en, ec⟩ := ⟨_, rfl⟩
      rw [← hXe] at hG
      have HG := Lib.hid hG
      have HX := Lib.hid hXe
      have HN := Lib.hid hN
      have e0 := hN.cell 0 _ rfl
      have e1 := hN.cell 1 _ rfl
      have e2 := hN.cell 2 _ rfl
      clear hG hXe hN hb6 Hown Hsb c0 c1 c2
      go_wp2_with fail
      refine HG.out.mono ?_
      rintro e w7 ⟨rfl, hb7⟩
      have hz7 := hb7.size
      have HN7 := Lib.hid (HN.out.below hb7 hz6)
      have Hsl7 := Lib.hid ((Hsl6.out.below hb7).more hb7.size)
      have Hown7 := Lib.hid (own_below Hown6.out hb7 (Nat.le_refl _))
      have Hsb7 := Lib.hid (Hsb6.out.below hb7)
      have Hb17 := Lib.hid (Hb16.out.trans (hb7.mono (by omega)))
      clear hb7 HG Hsl6 Hown6 Hsb6 Hb16 e0 e1 e2 HN
      by_cases hX0 : X = 0
      · subst hX0
        have HE := Lib.hid (eventbytes_any w7 ek en ec A7 n7 c7 Hsl7.out HX.out.symm)
        have e0 := HN7.out.cell 0 _ rfl
        have e1 := HN7.out.cell 1 _ rfl
        have e2 := HN7.out.cell 2 _ rfl
        go_wp2_with fail
        refine HE.out.mono ?_
        rintro e w8 ⟨v8, rfl, ho8, hb8⟩
        have hz8 := hb8.size
        have Hown8 := Lib.hid (own_below Hown7.out hb8 (Nat.le_refl _))
        have Hsb8 := Lib.hid (Hsb7.out.below hb8)
        have Hb18 := Lib.hid (Hb17.out.trans (hb8.mono (by omega)))
        obtain ⟨A8, c8, rfl, _, _, _⟩ := own_rd ho8
        have HB8 := Lib.hid (own_mono ho8 (show w1.heap.size ≤ w7.heap.size from Hb17.out.size))
        have hel : (evB ⟨ek, en, ec⟩).length ≤ 805 := by
          rw [evB_len]
          have := (cellsF_zero (checkF_zero HX.out.symm).2.2.2.2.2.2).1
          omega
        have hlt8 := Lib.hid (evB_lt HX.out.symm)
        clear ho8 hb8 HE e0 e1 e2
        have hz8' : w1.heap.size ≤ w8.heap.size := Hb18.out.size
        go_wp2_with (at_builtin; refine wpList_pushG rfl (.tmp 55) (.tmp 63) 77 rfl w1.heap.size 33 j0 (.slice none 0 0) 1 24 Try.underlying77 hj hy0 hy1 hy2 rfl (by omega) _ _ _ rfl Hown8.out [_] rfl rfl (by simp [Value.oneCell']) (by unfold maxLen; omega) (by omega) hz8' ?_; intro v9 w9' hn9 hb9 hg9 _; have HN9 := Lib.hid hn9; have HB9 := Lib.hid hb9; have hg9' : w8.grownBy w9' u.ownBlock := hg9; have HR9 := Lib.hid ((Hsb8.out.snoc HB8.out).kept Hown8.out (by decide) hg9'); clear hn9 hb9 hg9 hg9')
        go_roundw
        case rel =>
          exact ⟨v9, k + 1, _, _, rfl, by omega, by go_num, by rw [List.length_append]; simpa using hrk, by rw [List.length_append]; exact HN9.out, HR9.out, fun r hr => by
            rcases List.mem_append.1 hr with hr | hr
            · exact Hrs.out r hr
            · rw [List.mem_singleton.1 hr]; exact ⟨hel, hlt8.out⟩, Hb18.out.trans HB9.out⟩
        case measure => simp [intOf]; omega
      · have hXb : ((X : Int) == 0) = false := by simp; omega
        have Hnx := Lib.hid (show FbRel w1 K u (.int .i64 ((k : Int) + 1)) w7 from ⟨u, k + 1, vs, rs, rfl, by omega, by go_num, by omega, Hown7.out, Hsb7.out, Hrs.out, Hb17.out⟩)
        go_wp2_with fail
        go_roundw
        case rel => exact Hnx.out
        case measure => simp [intOf]; omega
    · obtain rfl : k = K := by omega
      have HBk := Lib.hid (book_any wr u rs (SlSs.own Hown.out Hsb.out.slsB) (by omega) (fun r hr => ⟨Nat.le_trans (Hrs.out r hr).1 (by omega), (Hrs.out r hr).2⟩))
      have hbl := book_len 0 rs (fun r hr => Nat.le_trans (Hrs.out r hr).1 (by omega))
      have Hlt := Lib.hid (bookF_lt 0 rs (fun r hr => (Hrs.out r hr).2))
      go_wp2_with fail
      refine HBk.out.mono ?_
      rintro e w6 ⟨v6, rfl, hs6, hb6⟩
      have HBb := Lib.hid (backs_any w6 v6 (bookF 0 rs) hs6 (by omega) Hlt.out)
      obtain ⟨B6, N6, C6, rfl, _⟩ := hs6
      have Hb16 := Lib.hid (Hb1.out.trans ((Hb.out.trans (hb6.mono hzr)).mono Hb1.out.size))
      clear hb6 HBk
      go_wp2_with fail
      refine HBb.out.mono ?_
      rintro e w7 ⟨rfl, hb7⟩
      have HP := Lib.hid (Hb16.out.trans (hb7.mono Hb16.out.size))
      clear hb7 HBb
      go_wp2_with fail
      go_ret
      exact ⟨rfl, HP.out⟩
end Go.Proofs.Ytaahpjjffggaiaa.fallBack
