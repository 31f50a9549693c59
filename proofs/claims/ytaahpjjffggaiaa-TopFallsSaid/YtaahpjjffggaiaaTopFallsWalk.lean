/- TopFalls's walk: it returns true. Conditions: the reach. -/
import Derived.Test.YtaahpjjffggaiaaTopPlain
import Derived.Test.YtaahpjjffggaiaaIntsOpen
import Derived.Deep.CutBlock
import Derived.RegionTactic
namespace Go.Proofs.Ytaahpjjffggaiaa.topFalls
open Go.RowKit Go.Gy
set_option linter.unusedVariables false
def TfRel (w3 : World) (Ga Gb B n : Nat) (vb i : Value) (wr : World) : Prop := ∃ (k nb cb : Nat) (Ab : Option Addr) (es : List GEv) (a b : GMem), k ≤ n ∧ i = .int .i64 (k : Int) ∧ vb = .slice Ab nb cb ∧ TopI es a b k ∧ MemBlk wr Ga B a ∧ MemBlk wr Gb B b ∧ wr.ownsRow B 5 1 (.slice Ab nb cb) nb ((bookE es).map bv) ∧ Below Ga w3 wr ∧ B ≤ wr.heap.size
def TfCut (wr : World) (B : Nat) (K : Int) (wx : World) : Prop := ∃ (n : Int) (cs : List Cell) (A : Option Addr) (p c : Nat), Blk wx wr.heap.size 48 #[.int .i64 K, .int .i64 n, .slice A p c] ∧ wx.ownsRow B 24 2 (.slice A p c) p (cs.flatMap encC) ∧ Below wr.heap.size wr wx ∧ wr.heap.size < wx.heap.size
/-- behind the event: a and b know what has happened, and the log says so -/
def TfMid (wr : World) (Ga Gb B : Nat) (a' b' : GMem) (Ab : Option Addr) (nb cb : Nat) (bk : List Nat) (s9 : Value) (wx : World) : Prop := s9 = .slice Ab nb cb ∧ MemBlk wx Ga B a' ∧ MemBlk wx Gb B b' ∧ wx.ownsRow B 5 1 (.slice Ab nb cb) nb (bk.map bv) ∧ Below Ga wr wx ∧ B ≤ wx.heap.size
theorem TfMid.drew {wr wx : World} {Ga Gb B : Nat} {a' b' : GMem} {Ab : Option Addr} {nb cb : Nat} {bk : List Nat} {s9 : Value} (h : TfMid wr Ga Gb B a' b' Ab nb cb bk s9 wx) : TfMid wr Ga Gb B a' b' Ab nb cb bk s9 wx.drew := by
  obtain ⟨h1, ⟨A, n, c, A', n', c', p1, p2, p3, p4⟩, ⟨D, m, d, D', m', d', q1, q2, q3, q4⟩, h4, h5, h6⟩ := h
  exact ⟨h1, ⟨A, n, c, A', n', c', p1.drew, p2, p3, p4⟩, ⟨D, m, d, D', m', d', q1.drew, q2, q3, q4⟩, h4, h5.drew, h6⟩
theorem mid_mk {wr w8 : World} {Ga Gb B nb cb n5 c5 n6 c6 n8 c8 n9 c9 : Nat} {a' b' : GMem} {Ab A5 A6 A8 A9 : Option Addr} {bk : List Nat} {x0 x1 x2 x3 x4 y0 y1 y2 y3 y4 : Value} (g2 : Ga < Gb) (g3 : Gb < B)
    (hMa : Blk w8 Ga 46 #[x0, x1, x2, x3, x4]) (hMb : Blk w8 Gb 46 #[y0, y1, y2, y3, y4])
    (h5 : w8.ownsRow B 24 2 (.slice A5 n5 c5) n5 (a'.asked.flatMap encC)) (h6 : w8.ownsRow B 24 2 (.slice A6 n6 c6) n6 (a'.has.flatMap encC)) (h8 : w8.ownsRow B 24 2 (.slice A8 n8 c8) n8 (b'.asked.flatMap encC)) (h9 : w8.ownsRow B 24 2 (.slice A9 n9 c9) n9 (b'.has.flatMap encC))
    (hob : w8.ownsRow B 5 1 (.slice Ab nb cb) nb (bk.map bv)) (hb : Below Ga wr w8) (hz : B ≤ w8.heap.size) (l5 : n5 ≤ 1000) (l6 : n6 ≤ 1000) (l8 : n8 ≤ 1000) (l9 : n9 ≤ 1000) :
    TfMid wr Ga Gb B a' b' Ab nb cb bk (.slice Ab nb cb) ((((((((((w8.setCell ⟨Ga, 0, none⟩ (.int .i64 a'.goal)).setCell ⟨Ga, 1, none⟩ (.int .i64 a'.ticks)).setCell ⟨Ga, 2, none⟩ (.slice A5 n5 c5)).setCell ⟨Ga, 3, none⟩ (.slice A6 n6 c6)).setCell ⟨Ga, 4, none⟩ (.int .i64 a'.falls)).setCell ⟨Gb, 0, none⟩ (.int .i64 b'.goal)).setCell ⟨Gb, 1, none⟩ (.int .i64 b'.ticks)).setCell ⟨Gb, 2, none⟩ (.slice A8 n8 c8)).setCell ⟨Gb, 3, none⟩ (.slice A9 n9 c9)).setCell ⟨Gb, 4, none⟩ (.int .i64 b'.falls)) ∧ TfMid wr Ga Gb B a' b' Ab nb cb bk (.slice Ab nb cb) ((((((((((w8.setCell ⟨Gb, 0, none⟩ (.int .i64 b'.goal)).setCell ⟨Gb, 1, none⟩ (.int .i64 b'.ticks)).setCell ⟨Gb, 2, none⟩ (.slice A8 n8 c8)).setCell ⟨Gb, 3, none⟩ (.slice A9 n9 c9)).setCell ⟨Gb, 4, none⟩ (.int .i64 b'.falls)).setCell ⟨Ga, 0, none⟩ (.int .i64 a'.goal)).setCell ⟨Ga, 1, none⟩ (.int .i64 a'.ticks)).setCell ⟨Ga, 2, none⟩ (.slice A5 n5 c5)).setCell ⟨Ga, 3, none⟩ (.slice A6 n6 c6)).setCell ⟨Ga, 4, none⟩ (.int .i64 a'.falls)) := by
  constructor
  · refine ⟨rfl, ⟨A5, n5, c5, A6, n6, c6, blk_far5 (g := Gb) (blk_set5 hMa (.int .i64 a'.goal) (.int .i64 a'.ticks) (.slice A5 n5 c5) (.slice A6 n6 c6) (.int .i64 a'.falls)) (by omega) (.int .i64 b'.goal) (.int .i64 b'.ticks) (.slice A8 n8 c8) (.slice A9 n9 c9) (.int .i64 b'.falls), ?_, ?_, l5, l6⟩, ⟨A8, n8, c8, A9, n9, c9, blk_set5 (blk_far5 (g := Ga) hMb (by omega) (.int .i64 a'.goal) (.int .i64 a'.ticks) (.slice A5 n5 c5) (.slice A6 n6 c6) (.int .i64 a'.falls)) (.int .i64 b'.goal) (.int .i64 b'.ticks) (.slice A8 n8 c8) (.slice A9 n9 c9) (.int .i64 b'.falls), ?_, ?_, l8, l9⟩, ?_, below_set5 (below_set5 hb (Nat.le_refl _) (.int .i64 a'.goal) (.int .i64 a'.ticks) (.slice A5 n5 c5) (.slice A6 n6 c6) (.int .i64 a'.falls)) (by omega) (.int .i64 b'.goal) (.int .i64 b'.ticks) (.slice A8 n8 c8) (.slice A9 n9 c9) (.int .i64 b'.falls), by rw [size_set5, size_set5]; exact hz⟩
    · exact own_set5 (own_set5 h5 (by omega) (.int .i64 a'.goal) (.int .i64 a'.ticks) (.slice A5 n5 c5) (.slice A6 n6 c6) (.int .i64 a'.falls)) g3 (.int .i64 b'.goal) (.int .i64 b'.ticks) (.slice A8 n8 c8) (.slice A9 n9 c9) (.int .i64 b'.falls)
    · exact own_set5 (own_set5 h6 (by omega) (.int .i64 a'.goal) (.int .i64 a'.ticks) (.slice A5 n5 c5) (.slice A6 n6 c6) (.int .i64 a'.falls)) g3 (.int .i64 b'.goal) (.int .i64 b'.ticks) (.slice A8 n8 c8) (.slice A9 n9 c9) (.int .i64 b'.falls)
    · exact own_set5 (own_set5 h8 (by omega) (.int .i64 a'.goal) (.int .i64 a'.ticks) (.slice A5 n5 c5) (.slice A6 n6 c6) (.int .i64 a'.falls)) g3 (.int .i64 b'.goal) (.int .i64 b'.ticks) (.slice A8 n8 c8) (.slice A9 n9 c9) (.int .i64 b'.falls)
    · exact own_set5 (own_set5 h9 (by omega) (.int .i64 a'.goal) (.int .i64 a'.ticks) (.slice A5 n5 c5) (.slice A6 n6 c6) (.int .i64 a'.falls)) g3 (.int .i64 b'.goal) (.int .i64 b'.ticks) (.slice A8 n8 c8) (.slice A9 n9 c9) (.int .i64 b'.falls)
    · exact own_set5 (own_set5 hob (by omega) (.int .i64 a'.goal) (.int .i64 a'.ticks) (.slice A5 n5 c5) (.slice A6 n6 c6) (.int .i64 a'.falls)) g3 (.int .i64 b'.goal) (.int .i64 b'.ticks) (.slice A8 n8 c8) (.slice A9 n9 c9) (.int .i64 b'.falls)
  · refine ⟨rfl, ⟨A5, n5, c5, A6, n6, c6, blk_set5 (blk_far5 (g := Gb) hMa (by omega) (.int .i64 b'.goal) (.int .i64 b'.ticks) (.slice A8 n8 c8) (.slice A9 n9 c9) (.int .i64 b'.falls)) (.int .i64 a'.goal) (.int .i64 a'.ticks) (.slice A5 n5 c5) (.slice A6 n6 c6) (.int .i64 a'.falls), ?_, ?_, l5, l6⟩, ⟨A8, n8, c8, A9, n9, c9, blk_far5 (g := Ga) (blk_set5 hMb (.int .i64 b'.goal) (.int .i64 b'.ticks) (.slice A8 n8 c8) (.slice A9 n9 c9) (.int .i64 b'.falls)) (by omega) (.int .i64 a'.goal) (.int .i64 a'.ticks) (.slice A5 n5 c5) (.slice A6 n6 c6) (.int .i64 a'.falls), ?_, ?_, l8, l9⟩, ?_, below_set5 (below_set5 hb (by omega) (.int .i64 b'.goal) (.int .i64 b'.ticks) (.slice A8 n8 c8) (.slice A9 n9 c9) (.int .i64 b'.falls)) (Nat.le_refl _) (.int .i64 a'.goal) (.int .i64 a'.ticks) (.slice A5 n5 c5) (.slice A6 n6 c6) (.int .i64 a'.falls), by rw [size_set5, size_set5]; exact hz⟩
    · exact own_set5 (own_set5 h5 g3 (.int .i64 b'.goal) (.int .i64 b'.ticks) (.slice A8 n8 c8) (.slice A9 n9 c9) (.int .i64 b'.falls)) (by omega) (.int .i64 a'.goal) (.int .i64 a'.ticks) (.slice A5 n5 c5) (.slice A6 n6 c6) (.int .i64 a'.falls)
    · exact own_set5 (own_set5 h6 g3 (.int .i64 b'.goal) (.int .i64 b'.ticks) (.slice A8 n8 c8) (.slice A9 n9 c9) (.int .i64 b'.falls)) (by omega) (.int .i64 a'.goal) (.int .i64 a'.ticks) (.slice A5 n5 c5) (.slice A6 n6 c6) (.int .i64 a'.falls)
    · exact own_set5 (own_set5 h8 g3 (.int .i64 b'.goal) (.int .i64 b'.ticks) (.slice A8 n8 c8) (.slice A9 n9 c9) (.int .i64 b'.falls)) (by omega) (.int .i64 a'.goal) (.int .i64 a'.ticks) (.slice A5 n5 c5) (.slice A6 n6 c6) (.int .i64 a'.falls)
    · exact own_set5 (own_set5 h9 g3 (.int .i64 b'.goal) (.int .i64 b'.ticks) (.slice A8 n8 c8) (.slice A9 n9 c9) (.int .i64 b'.falls)) (by omega) (.int .i64 a'.goal) (.int .i64 a'.ticks) (.slice A5 n5 c5) (.slice A6 n6 c6) (.int .i64 a'.falls)
    · exact own_set5 (own_set5 hob g3 (.int .i64 b'.goal) (.int .i64 b'.ticks) (.slice A8 n8 c8) (.slice A9 n9 c9) (.int .i64 b'.falls)) (by omega) (.int .i64 a'.goal) (.int .i64 a'.ticks) (.slice A5 n5 c5) (.slice A6 n6 c6) (.int .i64 a'.falls)
def AdPost (w10 : World) (b : List Nat) (e : Ending) (w' : World) : Prop := ∃ v' n, e = .returned (.tuple #[v', .int .i64 ((0 : Nat) : Int)]) ∧ w'.ownsRow w10.heap.size 5 1 v' n (b.map bv) ∧ Below w10.heap.size w10 w'
set_option maxRecDepth 100000 in
set_option maxHeartbeats 8000000 in
theorem walk (v0 v1 : Value) (w : World) {b0 b1 : Nat} (f0 : IntsArg w v0 b0) (f1 : IntsArg w v1 b1) :
    Calls Try.prog 12 #[v0, v1] w fun e w' => e = .returned (.bool true) ∧ Below w.heap.size w w' := by
  obtain ⟨l, ⟨A, N, C, rfl, hln, hNC, hA, hr⟩, _, _, _⟩ := f0
  obtain ⟨l2, hl2, _, _, hlb2⟩ := f1
  have hlb2' : l2.length ≤ 140737488355328 := by unfold reachBytes at hlb2; omega
  obtain ⟨A2, N2, C2, rfl, hln2, hNC2, hA2, hr2⟩ := id hl2
  obtain ⟨n, hn⟩ : ∃ n, n = min N 30 := ⟨_, rfl⟩
  have hnN : n ≤ N := by omega
  have hn30 : n ≤ 30 := by omega
  have hmin : min (N : Int) 30 = (n : Int) := by omega
  have hto := Lib.hid (ints_to A N C n (by omega))
  have hr := hr.take hnN
  rw [Nat.mul_one, ← List.map_take] at hr
  obtain ⟨xs, hxs⟩ : ∃ xs, xs = l.take n := ⟨_, rfl⟩
  rw [← hxs] at hr
  have Hr := Lib.hid hr
  have Hr2 := Lib.hid hr2
  have hN2 : N2 ≤ 140737488355328 := by omega
  have Hu := Lib.hid (show Try.prog.underlying 22 = some (.slice (Try.prog.elem 22)) by kernel_rfl)
  have HD := Lib.hid (do_any w zeroMem ⟨6, 0, []⟩ none 0 0 none 0 0 none 0 0 (SlC.nil' _ _) (SlC.nil' _ _) (SlC.nil' _ _))
  rw [show doF zeroMem ⟨6, 0, []⟩ = (0, ⟨0, 0, [], [], 1⟩) by simp [doF, doF0, checkF, rightF, cellsF, cellsG, IntKind.wrap_i64]] at HD
  clear hr hr2 hxs hn hln hA hln2 hA2 hl2 hlb2 hlb2'
  go_enter Try.func12, Try.ntmps12
  go_wp2_with fail
  refine HD.out.mono ?_
  rintro e w1 ⟨v, rfl, ⟨D1, d1, e1, D2, d2, e2, rfl, _, _, _, _⟩, hb1⟩
  have Hb1 := Lib.hid hb1
  have hz1 := hb1.size
  clear hb1 HD
  go_upto_region 6 with (fail)
  obtain ⟨Ga, hGa⟩ : ∃ Ga, Ga = w1.heap.size + 1 := ⟨_, rfl⟩
  obtain ⟨Gb, hGb⟩ : ∃ Gb, Gb = w1.heap.size + 1 + 1 := ⟨_, rfl⟩
  obtain ⟨B, hB⟩ : ∃ B, B = w1.heap.size + 3 := ⟨_, rfl⟩
  have g1 : w.heap.size < Ga := by omega
  have g2 : Ga < Gb := by omega
  have g3 : Gb < B := by omega
  obtain ⟨w3, hw3⟩ : ∃ w3, w3 = (((w1.alloc (.cells (memRow ⟨0, 0, [], [], 1⟩ D1 d1 e1 D2 d2 e2) 46)).alloc (.cells zeroMv 46)).alloc (.cells zeroMv 46)) := ⟨_, rfl⟩
  have hst : Below w.heap.size w w3 ∧ TfRel w3 Ga Gb B n (.slice none 0 0) (.int .i64 0) w3 := by
    rw [hw3]
    have k1 := Blk.new (w1.alloc (.cells (memRow ⟨0, 0, [], [], 1⟩ D1 d1 e1 D2 d2 e2) 46)) 46 zeroMv
    have k2 := Blk.new ((w1.alloc (.cells (memRow ⟨0, 0, [], [], 1⟩ D1 d1 e1 D2 d2 e2) 46)).alloc (.cells zeroMv 46)) 46 zeroMv
    simp only [World.size_alloc] at k1 k2
    rw [← hGa] at k1
    rw [← hGb] at k2
    exact ⟨((Hb1.out.alloc hz1 _).alloc (by simp; omega) _).alloc (by simp; omega) _, 0, 0, 0, none, [], zeroMem, zeroMem, Nat.zero_le _, rfl, rfl, TopI.nil,
      ⟨none, 0, 0, none, 0, 0, k1.alloc _, World.ownsRow_nil _ _ _ _, World.ownsRow_nil _ _ _ _, by decide, by decide⟩, ⟨none, 0, 0, none, 0, 0, k2, World.ownsRow_nil _ _ _ _, World.ownsRow_nil _ _ _ _, by decide, by decide⟩, World.ownsRow_nil _ _ _ _, Below.refl _ _, by simp; omega⟩
  have Hst := Lib.hid hst.2
  have Hbw3 := Lib.hid hst.1
  change Code.wp _ _ _ _ (((w1.alloc (.cells (memRow ⟨0, 0, [], [], 1⟩ D1 d1 e1 D2 d2 e2) 46)).alloc (.cells zeroMv 46)).alloc (.cells zeroMv 46))
  rw [← hw3, ← hGb, ← hGa]
  clear hw3 hGa hGb hB hst Hb1
  go_wp2_with (first
    | (refine wpList_min2 rfl (.tmp 41) (.const (.int .i64 30)) _ rfl N 30 rfl rfl n hmin ?_)
    | (refine wpList_slice_to rfl 22 (.tmp 39) (.tmp 42) rfl A N C n rfl rfl Hu.out hto.out ?_))
  go_loopw [9, 45] (fun vb i wr => TfRel w3 Ga Gb B n vb i wr) (fun _ i _ => n - (intOf i).toNat)
  case atStart => exact Hst.out
  case round =>
    obtain ⟨k, nb, cb, Ab, es, a, b, hk, rfl, rfl, hI, ⟨MA, Mn, Mc, HA, Hn, Hc, hMa, hMo1, hMo2, hMn, hHn⟩, ⟨PA, Pn, Pc, QA, Qn, Qc, hMb, hPo1, hPo2, hPn, hQn⟩, hob, hb, hz⟩ := hrel
    have HI := Lib.hid hI
    have HMa := Lib.hid hMa
    have HMo1 := Lib.hid hMo1
    have HMo2 := Lib.hid hMo2
    have HMb := Lib.hid hMb
    have HPo1 := Lib.hid hPo1
    have HPo2 := Lib.hid hPo2
    have Hob := Lib.hid hob
    have Hb := Lib.hid hb
    have hzr := hb.size
    have hwr := Hbw3.out.trans (hb.mono (by omega))
    have Hwr := Lib.hid hwr
    clear hI hMa hMo1 hMo2 hMb hPo1 hPo2 hob hb hwr
    by_cases hlt : k < n
    · obtain ⟨bb, o, x, rfl, hbb, hx, hc⟩ := (Hr.out.below Hwr.out).one hlt
      have hlt' : (k : Int) < (n : Int) := by omega
      obtain ⟨r, hr⟩ : ∃ r : Int, r = x % 5 := ⟨_, rfl⟩
      have hr0 : 0 ≤ r := by omega
      have hr5 : r < 5 := by omega
      have HB5 := Lib.hid (show ∀ W, Calls Try.prog 20 #[.int .i64 x, .int .i64 5] W fun e w' => e = .returned (.int .i64 r) ∧ W = w' from fun W => by rw [hr]; exact below_any x 5 W (by omega) (by omega))
      clear hr hx
      go_wp2_with fail
      refine (HB5.out _).mono ?_
      rintro e w' ⟨rfl, rfl⟩
      go_upto_block 2 with (fail)
      have hE := Blk.new wr 48 #[.int .i64 (1 + r), .int .i64 0, .slice none 0 0]
      have hbE : Below wr.heap.size wr (wr.alloc (.cells #[.int .i64 (1 + r), .int .i64 0, .slice none 0 0] 48)) := (Below.refl _ _).alloc (Nat.le_refl _) _
      generalize wr.alloc (.cells #[.int .i64 (1 + r), .int .i64 0, .slice none 0 0] 48) = w4 at hE hbE ⊢
      have hEl := hE.lt
      have HE := Lib.hid hE
      have HbE := Lib.hid hbE
      have HMa4 := Lib.hid (HMa.out.below hbE HMa.out.lt)
      have hMal := HMa.out.lt
      have hMbl := HMb.out.lt
      have HB3 := Lib.hid (show ∀ y W, Calls Try.prog 20 #[.int .i64 y, .int .i64 100] W fun e w' => e = .returned (.int .i64 (y % 100)) ∧ W = w' from fun y W => below_any y 100 W (by omega) (by omega))
      have HCl := Lib.hid (show ∀ a b W, Below w4.heap.size w4 W → Calls Try.prog 48 #[.slice (some ⟨W.heap.size, 0, none⟩) 2 2] (W.alloc (.cells #[.int .i64 a, .int .i64 b] 3)) (ClPost w4) from fun a b W hb => by
        have h1 := Rd.lit W 3 [.int .i64 a, .int .i64 b] 1 2 rfl
        refine (cells_any (W.alloc (.cells #[.int .i64 a, .int .i64 b] 3)) (.slice (some ⟨W.heap.size, 0, none⟩) 2 2) [a, b] ⟨_, 2, 2, rfl, rfl, Nat.le_refl _, (fun h => by cases h), by simpa using h1⟩ (by simp)).mono ?_
        rintro e w' ⟨v', cs, h1, h2, h3, h4, h5⟩
        obtain ⟨A', c', rfl, _, _, _⟩ := own_rd h4
        exact ⟨A', _, c', cs, h1, h2, h3, own_mono h4 (by have := hb.size; simp; omega), (hb.alloc hb.size _).trans (h5.mono (by have := hb.size; simp; omega))⟩)
      clear hE hbE
      go_cut [] (fun wx => TfCut wr B (1 + r) wx)
      case first =>
        have hr : r = 0 ∨ r = 1 ∨ r = 2 ∨ r = 3 ∨ r = 4 := by omega
        have e0 := HE.out.cell 0 _ rfl
        have e1 := HE.out.cell 1 _ rfl
        have e2 := HE.out.cell 2 _ rfl
        have f1 := HE.out.free 1
        have f2 := HE.out.free 2
        rcases hr with rfl | rfl | rfl | rfl | rfl
        · go_wp2_with fail
          refine (HB3.out _ _).mono ?_
          rintro e w' ⟨rfl, rfl⟩
          go_wp2_with fail
          go_meet
          exact ⟨_, [], none, 0, 0, HE.out.set 1 _, World.ownsRow_nil _ _ _ _, HbE.out.setCell (Nat.le_refl _) _, by simp [World.setCell]; omega⟩
        · go_wp2_with fail
          go_meet
          exact ⟨0, [], none, 0, 0, HE.out, World.ownsRow_nil _ _ _ _, HbE.out, hEl⟩
        · go_wp2_with fail
          refine (HCl.out _ _ _ (Below.refl _ _)).mono ?_
          rintro e w2 ⟨A2', n2, c2, cs, rfl, h8, h0, ho2, hb2⟩
          have hE2 := HE.out.below hb2 hEl
          have e0 := hE2.cell 0 _ rfl
          have e2 := hE2.cell 2 _ rfl
          have f2 := hE2.free 2
          have HE2 := Lib.hid hE2
          have Hb2 := Lib.hid hb2
          have Ho2 := Lib.hid ho2
          clear hE2 hb2 ho2 h0
          go_wp2_with fail
          go_meet
          exact ⟨0, cs, A2', n2, c2, HE2.out.set 2 _, own_mono (ownsRow_setCell_below Ho2.out (by show wr.heap.size < _; omega) _) (by omega), (HbE.out.trans (Hb2.out.mono (by omega))).setCell (Nat.le_refl _) _, by have := Hb2.out.size; simp [World.setCell]; omega⟩
        · go_wp2_with fail
          go_meet
          exact ⟨0, [], none, 0, 0, HE.out, World.ownsRow_nil _ _ _ _, HbE.out, hEl⟩
        · go_wp2_with fail
          refine (HCl.out _ _ _ (Below.refl _ _)).mono ?_
          rintro e w2 ⟨A2', n2, c2, cs, rfl, h8, h0, ho2, hb2⟩
          have hE2 := HE.out.below hb2 hEl
          have e0 := hE2.cell 0 _ rfl
          have e2 := hE2.cell 2 _ rfl
          have f2 := hE2.free 2
          have HE2 := Lib.hid hE2
          have Hb2 := Lib.hid hb2
          have Ho2 := Lib.hid ho2
          have hz2 := hb2.size
          have HMa2 := Lib.hid (HMa4.out.below hb2 (by omega))
          clear hE2 hb2 ho2 h0
          go_upto_region 17 with (fail)
          have hE5 := HE2.out.set 2 (.slice A2' n2 c2)
          have hM5 := HMa2.out.far (p := ⟨wr.heap.size, 2, none⟩) (by show Ga ≠ wr.heap.size; omega) (.slice A2' n2 c2)
          have ho5 := ownsRow_setCell_below Ho2.out (a := ⟨wr.heap.size, 2, none⟩) (by show wr.heap.size < _; omega) (.slice A2' n2 c2)
          have hb5 : Below wr.heap.size wr (w2.setCell ⟨wr.heap.size, 2, none⟩ (.slice A2' n2 c2)) := (HbE.out.trans (Hb2.out.mono (by omega))).setCell (Nat.le_refl _) _
          have hz5 : (w2.setCell ⟨wr.heap.size, 2, none⟩ (.slice A2' n2 c2)).heap.size = w2.heap.size := by simp [World.setCell]
          generalize w2.setCell ⟨wr.heap.size, 2, none⟩ (.slice A2' n2 c2) = w5 at hE5 hM5 ho5 hb5 hz5 ⊢
          have hE5 : Blk w5 wr.heap.size 48 #[.int .i64 (1 + 4), .int .i64 0, .slice A2' n2 c2] := hE5
          have hs5 := SlC.own (own_below HMo2.out hb5 (Nat.le_refl _))
          have HMt := Lib.hid (meet_any w5 _ _ a.has cs hs5 (SlC.own ho5) (by rw [hs5.parts.1]; omega) (by omega))
          have m3 := hM5.cell 3 _ rfl
          have e2 := hE5.cell 2 _ rfl
          have e0 := hE5.cell 0 _ rfl
          have HE5 := Lib.hid hE5
          have Hb5 := Lib.hid hb5
          clear hE5 hM5 ho5 hb5 hs5
          go_wp2_with fail
          refine HMt.out.mono ?_
          rintro e w6 ⟨A6, n6, c6, rfl, hl6, ho6, hb6⟩
          have hE6 := HE5.out.below hb6 (by omega)
          have e2 := hE6.cell 2 _ rfl
          have f2 := hE6.free 2
          have HE6 := Lib.hid hE6
          have Hb6 := Lib.hid (Hb5.out.trans (hb6.mono (by omega)))
          have Ho6 := Lib.hid ho6
          have hz6 := hb6.size
          clear hE6 hb6 ho6 hl6
          go_wp2_with fail
          go_meet
          exact ⟨0, _, A6, n6, c6, HE6.out.set 2 _, own_mono (ownsRow_setCell_below Ho6.out (by show wr.heap.size < _; omega) _) (by omega), Hb6.out.setCell (Nat.le_refl _) _, by simp [World.setCell]; omega⟩
      case rest =>
        obtain ⟨vn, cs, A1, p, c1, hE, hco, hbc, hz1⟩ := hcut
        have hMa := HMa.out.below hbc HMa.out.lt
        have hMb := HMb.out.below hbc HMb.out.lt
        have HDo := do_any wc a ⟨1 + r, vn, cs⟩ MA Mn Mc HA Hn Hc A1 p c1 (SlC.own (own_below HMo1.out hbc (Nat.le_refl _))) (SlC.own (own_below HMo2.out hbc (Nat.le_refl _))) (SlC.own hco)
        obtain ⟨X, a', hX, hcase⟩ := top_step HI.out (by omega) ⟨1 + r, vn, cs⟩ (by show 1 + r ≠ 6; omega)
        rw [hX] at HDo
        have HDo := Lib.hid HDo
        have m0 := hMa.cell 0 _ rfl
        have m1 := hMa.cell 1 _ rfl
        have m2 := hMa.cell 2 _ rfl
        have m3 := hMa.cell 3 _ rfl
        have m4 := hMa.cell 4 _ rfl
        have e0 := hE.cell 0 _ rfl
        have e1 := hE.cell 1 _ rfl
        have e2 := hE.cell 2 _ rfl
        have HEc := Lib.hid hE
        have Hco := Lib.hid hco
        have Hbc := Lib.hid hbc
        have Hcase := Lib.hid hcase
        have HMac := Lib.hid hMa
        have HMbc := Lib.hid hMb
        clear hE hco hbc hX hMa hMb HE HMa4 HbE HB3 HCl HB5 hcase
        go_wp2_with fail
        refine HDo.out.mono ?_
        rintro e w5 ⟨v5, rfl, ⟨A5, n5, c5, A6, n6, c6, rfl, ho5, ho6, h5, h6⟩, hb5⟩
        have hz5 := hb5.size
        have HEc5 := Lib.hid (HEc.out.below hb5 hz1)
        have Hco5 := Lib.hid (own_below Hco.out hb5 (Nat.le_refl _))
        have Hbr5 := Lib.hid (Hbc.out.trans (hb5.mono (Nat.le_of_lt hz1)))
        have HMb5 := Lib.hid (HMbc.out.below hb5 (by omega))
        have Ho5 := Lib.hid ho5
        have Ho6 := Lib.hid ho6
        clear hb5 ho5 ho6 HDo m0 m1 m2 m3 m4 e0 e1 e2 HEc Hco Hbc HMac HMbc
        go_upto_region 19 with (fail)
        have hN6 := Blk.new w5 46 (memRow a' A5 n5 c5 A6 n6 c6)
        have hbn : Below w5.heap.size w5 (w5.alloc (.cells (memRow a' A5 n5 c5 A6 n6 c6) 46)) := (Below.refl _ _).alloc (Nat.le_refl _) _
        change Code.wp _ _ _ _ (w5.alloc (.cells (memRow a' A5 n5 c5 A6 n6 c6) 46))
        generalize w5.alloc (.cells (memRow a' A5 n5 c5 A6 n6 c6) 46) = w6 at hN6 hbn ⊢
        have hz6 := hbn.size
        have hNl := hN6.lt
        have HN6 := Lib.hid hN6
        have hE6 := HEc5.out.below hbn (by omega)
        have hMb6 := HMb5.out.below hbn (by omega)
        have HMb6 := Lib.hid hMb6
        have Hbr6 := Lib.hid (Hbr5.out.trans (hbn.mono (by omega)))
        have Ho5 := Lib.hid (own_below Ho5.out hbn (Nat.le_refl _))
        have Ho6 := Lib.hid (own_below Ho6.out hbn (Nat.le_refl _))
        have hs6 := SlC.own (own_below Hco5.out hbn (Nat.le_refl _))
        have hbl := bookE_len HI.out.good (by have := HI.out.few; omega)
        have hK := keep_any w6 b ⟨1 + r, vn, cs⟩ PA Pn Pc QA Qn Qc A1 p c1 (.slice Ab nb cb) (bookE es) (SlC.own (own_below HPo1.out Hbr6.out (Nat.le_refl _))) (SlC.own (own_below HPo2.out Hbr6.out (Nat.le_refl _))) hs6 (SlB.own (own_below Hob.out Hbr6.out (Nat.le_refl _))) (by omega) (bookF_lt 0 _ (fun r hr => (recs_fit HI.out.good r hr).2))
        have HK := Lib.hid hK
        have m0 := hMb6.cell 0 _ rfl
        have m1 := hMb6.cell 1 _ rfl
        have m2 := hMb6.cell 2 _ rfl
        have m3 := hMb6.cell 3 _ rfl
        have m4 := hMb6.cell 4 _ rfl
        have e0 := hE6.cell 0 _ rfl
        have e1 := hE6.cell 1 _ rfl
        have e2 := hE6.cell 2 _ rfl
        clear hN6 hbn hE6 hMb6 hs6 hbl hK HEc5 HMb5 Hco5 Hbr5
        rcases Hcase.out with ⟨hX0, hkf⟩ | ⟨hX0, b', hkf, hge, hfo, hsa, hfl, hri⟩
        · rw [hkf] at HK
          have hXb : ((X : Int) != 0) = true := by simp; omega
          have hXs : ((X : Int) != (X : Int)) = false := by simp
          clear hkf hX0 Hcase
          go_wp2_with fail
          refine HK.out.mono ?_
          rintro e w7 ⟨v7, vb7, nb7, rfl, ⟨A8, n8, c8, A9, n9, c9, rfl, _, _, _, _⟩, hob7, hb7⟩
          obtain ⟨Ab7, cb7, rfl, _, _, _⟩ := own_rd hob7
          have Hbr7 := Lib.hid (Hbr6.out.trans (hb7.mono (by omega)))
          have hz7 := hb7.size
          have hnx := show ∀ Y, TfRel w3 Ga Gb B n (.slice Ab nb cb) (.int .i64 ((k : Int) + 1)) (w7.alloc Y) from fun Y => by
            have hY := Hbr7.out.alloc (show wr.heap.size ≤ w7.heap.size by omega) Y
            exact ⟨k + 1, nb, cb, Ab, es, a, b, by omega, by go_num, rfl, HI.out.more, ⟨MA, Mn, Mc, HA, Hn, Hc, HMa.out.below hY HMa.out.lt, own_below HMo1.out hY (Nat.le_refl _), own_below HMo2.out hY (Nat.le_refl _), hMn, hHn⟩, ⟨PA, Pn, Pc, QA, Qn, Qc, HMb.out.below hY HMb.out.lt, own_below HPo1.out hY (Nat.le_refl _), own_below HPo2.out hY (Nat.le_refl _), hPn, hQn⟩, own_below Hob.out hY (Nat.le_refl _), Hb.out.trans (hY.mono (by omega)), by have := hY.size; omega⟩
          have Hnx := Lib.hid hnx
          clear hob7 hb7 HK m0 m1 m2 m3 m4 e0 e1 e2 hnx
          go_wp2_with fail
          go_roundw
          case rel => exact Hnx.out _
          case measure => simp [intOf]; omega
        · subst hX0
          rw [hkf] at HK
          have Hkf := Lib.hid (And.intro hge (And.intro hfo (And.intro hsa (And.intro hfl hri))))
          clear hkf hge hfo hsa hfl hri Hcase
          go_wp2_with fail
          refine HK.out.mono ?_
          rintro e w7 ⟨v7, vb7, nb7, rfl, ⟨A8, n8, c8, A9, n9, c9, rfl, ho8, ho9, h8, h9⟩, hob7, hb7⟩
          simp only at ho8 ho9 hob7 ⊢
          obtain ⟨Ab7, cb7, rfl, _, _, _⟩ := own_rd hob7
          have hz7 := hb7.size
          have HN7 := Lib.hid (HN6.out.below hb7 hNl)
          have Hbr7 := Lib.hid (Hbr6.out.trans (hb7.mono (by omega)))
          have Ho5 := Lib.hid (own_below Ho5.out hb7 (Nat.le_refl _))
          have Ho6 := Lib.hid (own_below Ho6.out hb7 (Nat.le_refl _))
          have Ho8 := Lib.hid ho8
          have Ho9 := Lib.hid ho9
          have Hob7 := Lib.hid hob7
          clear ho8 ho9 hob7 hb7 HK m0 m1 m2 m3 m4 e0 e1 e2 HN6
          go_upto_region 23 with (fail)
          have hN8 := Blk.new w7 46 (memRow b' A8 n8 c8 A9 n9 c9)
          have hbn : Below w7.heap.size w7 (w7.alloc (.cells (memRow b' A8 n8 c8 A9 n9 c9) 46)) := (Below.refl _ _).alloc (Nat.le_refl _) _
          change Code.wp _ _ _ _ (w7.alloc (.cells (memRow b' A8 n8 c8 A9 n9 c9) 46))
          generalize w7.alloc (.cells (memRow b' A8 n8 c8 A9 n9 c9) 46) = w8 at hN8 hbn ⊢
          have hz8 := hbn.size
          have hN8l := hN8.lt
          have hN5 := HN7.out.below hbn (by omega)
          have hb8 := Hbr7.out.trans (hbn.mono (by omega))
          have hMa8 := HMa.out.below hb8 HMa.out.lt
          have hMb8 := HMb.out.below hb8 HMb.out.lt
          have hmid := mid_mk (bk := bookE (es ++ [⟨1 + r, vn, cs⟩])) (wr := wr) g2 g3 hMa8 hMb8 (own_mono (own_below Ho5.out hbn (Nat.le_refl _)) (by omega)) (own_mono (own_below Ho6.out hbn (Nat.le_refl _)) (by omega)) (own_mono (own_below Ho8.out hbn (Nat.le_refl _)) (by omega)) (own_mono (own_below Ho9.out hbn (Nat.le_refl _)) (by omega)) (own_mono (own_below Hob7.out hbn (Nat.le_refl _)) (by omega)) (hb8.mono (by omega)) (by omega) h5 h6 h8 h9
          have Hmid := Lib.hid hmid
          have HN8 := Lib.hid hN8
          have HN5 := Lib.hid hN5
          have HMa8 := Lib.hid hMa8
          have HMb8 := Lib.hid hMb8
          clear hN8 hbn hN5 hb8 hMa8 hMb8 hmid HN7 Hbr6 Hbr7 HMb6 Ho5 Ho6 Ho8 Ho9 Hob7
          go_cut [9] (fun s9 wx => TfMid wr Ga Gb B a' b' Ab7 nb7 cb7 (bookE (es ++ [⟨1 + r, vn, cs⟩])) s9 wx)
          case first =>
            have n0 := HN8.out.cell 0 _ rfl
            have n1 := HN8.out.cell 1 _ rfl
            have n2 := HN8.out.cell 2 _ rfl
            have n3 := HN8.out.cell 3 _ rfl
            have n4 := HN8.out.cell 4 _ rfl
            have p0 := HN5.out.cell 0 _ rfl
            have p1 := HN5.out.cell 1 _ rfl
            have p2 := HN5.out.cell 2 _ rfl
            have p3 := HN5.out.cell 3 _ rfl
            have p4 := HN5.out.cell 4 _ rfl
            have m0 := HMa8.out.cell 0 _ rfl
            have m1 := HMa8.out.cell 1 _ rfl
            have m2 := HMa8.out.cell 2 _ rfl
            have m3 := HMa8.out.cell 3 _ rfl
            have m4 := HMa8.out.cell 4 _ rfl
            have mf0 := HMa8.out.free 0
            have mf1 := HMa8.out.free 1
            have mf2 := HMa8.out.free 2
            have mf3 := HMa8.out.free 3
            have mf4 := HMa8.out.free 4
            have q0 := HMb8.out.cell 0 _ rfl
            have q1 := HMb8.out.cell 1 _ rfl
            have q2 := HMb8.out.cell 2 _ rfl
            have q3 := HMb8.out.cell 3 _ rfl
            have q4 := HMb8.out.cell 4 _ rfl
            have qf0 := HMb8.out.free 0
            have qf1 := HMb8.out.free 1
            have qf2 := HMb8.out.free 2
            have qf3 := HMb8.out.free 3
            have qf4 := HMb8.out.free 4
            go_region
            all_goals
              go_wp2_with fail
              go_meet
              first
                | exact Hmid.out.1.drew
                | exact Hmid.out.2.drew
          case rest =>
            obtain ⟨rfl, ⟨A5', n5', c5', A6', n6', c6', hMa, hp1, hp2, hp3, hp4⟩, ⟨A8', n8', c8', A9', n9', c9', hMb, hq1, hq2, hq3, hq4⟩, hob, hb, hz'⟩ := hcut
            obtain ⟨hge, hfo, hsa, hfl, hri⟩ := Hkf.out
            obtain ⟨es', hes'⟩ : ∃ es', es' = es ++ [(⟨1 + r, vn, cs⟩ : GEv)] := ⟨_, rfl⟩
            rw [← hes'] at hge hfo hob
            have hlen : es'.length ≤ 2 * k + 1 := by rw [hes', List.length_append]; have := HI.out.few; simp; omega
            have hlow : 0 ≤ b'.falls := by rw [hfl]; exact HI.out.low
            have hhigh : b'.falls ≤ k := by rw [hfl]; exact HI.out.high
            have hwc := Hwr.out.trans ((hb.mono (by omega : w.heap.size ≤ Ga)))
            have hbc3 := Hb.out.trans hb
            have hi2 : TopI es' a' b' (k + 1) := ⟨hge, by omega, hfo, hsa, hlow, by omega⟩
            have hnx := show TfRel w3 Ga Gb B n (.slice Ab7 nb7 cb7) (.int .i64 ((k : Int) + 1)) wc from
              ⟨k + 1, nb7, cb7, Ab7, es', a', b', by omega, by go_num, rfl, hi2, ⟨A5', n5', c5', A6', n6', c6', hMa, hp1, hp2, hp3, hp4⟩, ⟨A8', n8', c8', A9', n9', c9', hMb, hq1, hq2, hq3, hq4⟩, hob, hbc3, hz'⟩
            have Hnx := Lib.hid hnx
            have Hge := Lib.hid hge
            have Hfo := Lib.hid hfo
            have Hsa := Lib.hid hsa
            have Hri := Lib.hid hri
            have Hob' := Lib.hid hob
            have HMa' := Lib.hid hMa
            have HMb' := Lib.hid hMb
            have Hp1 := Lib.hid hp1
            have Hp2 := Lib.hid hp2
            have Hq1 := Lib.hid hq1
            have Hq2 := Lib.hid hq2
            have Hbc3 := Lib.hid hbc3
            have Hwc := Lib.hid hwc
            have hzc : B ≤ wc.heap.size := hz'
            clear hMa hp1 hp2 hMb hq1 hq2 hob hb hz' hge hfo hsa hri hfl hwc hbc3 hi2 hnx hes' Hkf HN8 HN5 HMa8 HMb8 Hmid HMa HMb HMo1 HMo2 HPo1 HPo2 Hob
            by_cases hN20 : N2 = 0
            · subst hN20
              go_wp2_with fail
              go_roundw
              case rel => exact Hnx.out
              case measure => simp [intOf]; omega
            · obtain ⟨y, hy⟩ : ∃ y, y = k % N2 := ⟨_, rfl⟩
              have hyN : y < N2 := by rw [hy]; exact Nat.mod_lt _ (by omega)
              have hy1 : (k : Int) % (N2 : Int) = (y : Int) := by omega
              have hy2 : (k : Int).tmod (N2 : Int) = (y : Int) := by rw [hy]; exact (Int.ofNat_tmod k N2).symm
              have hN2p : (0 : Int) < (N2 : Int) := by omega
              have hN2n : ((N2 : Int) == 0) = false := by simp; omega
              have hyi : (y : Int) < (N2 : Int) := by omega
              obtain ⟨gb2, go2, z, rfl, hgb2, hz2, hc2⟩ := (Hr2.out.below Hwc.out).one hyN
              obtain ⟨q, hq⟩ : ∃ q : Int, q = z % 3 := ⟨_, rfl⟩
              have HB3 := Lib.hid (show ∀ W, Calls Try.prog 20 #[.int .i64 z, .int .i64 3] W fun e w' => e = .returned (.int .i64 q) ∧ W = w' from fun W => by rw [hq]; exact below_any z 3 W (by omega) (by omega))
              clear hy hz2 hN20 hq
              go_wp2_with fail
              refine (HB3.out _).mono ?_
              rintro e w' ⟨rfl, rfl⟩
              by_cases hq0 : q = 0
              · subst hq0
                clear hc2 hy1 hy2 HB3
                have hbl := bookE_len Hge.out (by omega)
                have hbk8 : ∀ x ∈ bookE es', x < 256 := bookF_lt 0 _ (fun r hr => (recs_fit Hge.out r hr).2)
                obtain ⟨bk, hbk⟩ : ∃ bk, bk = bookE es' := ⟨_, rfl⟩
                rw [← hbk] at hbl hbk8 Hob'
                have hnb7 : bk.length = nb7 := by have := Hob'.out.1; simpa using this
                have HCl := Lib.hid (clone_bytes wc (.slice Ab7 nb7 cb7) bk (SlB.own Hob'.out) (by omega))
                rw [hnb7] at HCl hbl
                have Hnb7 := Lib.hid hnb7
                have Hbk := Lib.hid hbk
                have Hbk8 := Lib.hid hbk8
                obtain ⟨i0, hi, hz0, hz1', hz2⟩ := info_parts info_byte
                have hl48 : nb7 + 3 ≤ maxLen := by unfold maxLen; omega
                clear hbk8 hnb7 hbk
                go_wp2_with fail
                refine HCl.out.mono ?_
                rintro e w5 ⟨v5, rfl, ho5, hb5⟩
                have hz5 := hb5.size
                have Hb5 := Lib.hid hb5
                have Ho5 := Lib.hid ho5
                clear hb5 ho5 HCl
                go_wp2_with (at_builtin; refine wpList_lits rfl (.tmp 118) (.tmp 119) 33 rfl wc.heap.size 5 i0 (.int .u8 0) 1 1 Try.underlying33 hi hz0 hz1' hz2 rfl (by omega) _ nb7 _ rfl Ho5.out [.int .u8 0, .int .u8 9, .int .u8 1] 3 _ rfl rfl rfl (by omega) (by simp [Value.oneCell']) (nb7 + 3) rfl hl48 (by omega) hz5 ?_; intro v6 w6 hown6 hb6 hs6; obtain ⟨g6, c6, rfl, hg6, hg6'⟩ := hs6)
                have hb6' := Hb5.out.trans (hb6.mono (Nat.le_refl _))
                have hz6 := hb6'.size
                have hrow6 : w6.ownsRow wc.heap.size 5 1 (.slice (some ⟨g6, 0, none⟩) (nb7 + 3) c6) (nb7 + 3) ((bk ++ [0, 9, 1]).map bv) := by
                  have := hown6
                  rw [List.map_append]
                  exact this
                have hBk := back_any w6 _ (bk ++ [0, 9, 1]) (SlB.own hrow6) (by rw [List.length_append, Hnb7.out]; simp; omega) (fun x hx => by
                  rcases List.mem_append.1 hx with h | h
                  · exact Hbk8.out x h
                  · simp at h; omega)
                rw [Hbk.out, back_torn Hge.out, ← Hfo.out] at hBk
                have HBk := Lib.hid hBk
                have Hrow6 := Lib.hid hrow6
                have Hb6 := Lib.hid hb6'
                clear hown6 hb6 hb6' hrow6 hBk Hb5 Ho5
                refine HBk.out.mono ?_
                rintro e w7 ⟨v7, rfl, ⟨D1', k1, j1, D2', k2, j2, rfl, hd1, hd2, hd3, hd4⟩, hb7⟩
                simp only at hd1 hd2 ⊢
                have hz7 := hb7.size
                have Hd1 := Lib.hid hd1
                have Hd2 := Lib.hid hd2
                have Hrow7 := Lib.hid (own_below Hrow6.out hb7 (Nat.le_refl _))
                have Hb7 := Lib.hid (Hb6.out.trans (hb7.mono hz6))
                clear hd1 hd2 hb7 HBk Hrow6 Hb6
                go_upto_region 27 with (fail)
                have hN := Blk.new w7 46 (memRow b' D1' k1 j1 D2' k2 j2)
                have hbn : Below w7.heap.size w7 (w7.alloc (.cells (memRow b' D1' k1 j1 D2' k2 j2) 46)) := (Below.refl _ _).alloc (Nat.le_refl _) _
                change Code.wp _ _ _ _ (w7.alloc (.cells (memRow b' D1' k1 j1 D2' k2 j2) 46))
                generalize w7.alloc (.cells (memRow b' D1' k1 j1 D2' k2 j2) 46) = w8 at hN hbn ⊢
                have hz8 := hbn.size
                have hNl := hN.lt
                have hb8 := Hb7.out.trans (hbn.mono (by omega))
                have hMb8 := HMb'.out.below hb8 HMb'.out.lt
                have s1 := SlC.own (own_below Hd1.out hbn (Nat.le_refl _))
                have s2 := SlC.own (own_below Hd2.out hbn (Nat.le_refl _))
                have s3 := SlC.own (own_below Hq1.out hb8 (Nat.le_refl _))
                have s4 := SlC.own (own_below Hq2.out hb8 (Nat.le_refl _))
                have hS := fsame_any w8 b' b' D1' k1 j1 D2' k2 j2 A8' n8' c8' A9' n9' c9' s1 s2 s3 s4 (by omega) (by omega) (by omega) (by omega)
                rw [show sameF b' b' = true by simp [sameF]] at hS
                have HS := Lib.hid hS
                have HN := Lib.hid hN
                have HMb8 := Lib.hid hMb8
                have Hb8 := Lib.hid hb8
                have Hd1 := Lib.hid (own_below Hd1.out hbn (Nat.le_refl _))
                have Hd2 := Lib.hid (own_below Hd2.out hbn (Nat.le_refl _))
                have Hrow8 := Lib.hid (own_below Hrow7.out hbn (Nat.le_refl _))
                have a0 := hN.cell 0 _ rfl
                have a1 := hN.cell 1 _ rfl
                have a2 := hN.cell 2 _ rfl
                have a3 := hN.cell 3 _ rfl
                have a4 := hN.cell 4 _ rfl
                have q0 := hMb8.cell 0 _ rfl
                have q1 := hMb8.cell 1 _ rfl
                have q2 := hMb8.cell 2 _ rfl
                have q3 := hMb8.cell 3 _ rfl
                have q4 := hMb8.cell 4 _ rfl
                clear hN hbn hb8 hMb8 s1 s2 s3 s4 hS Hrow7 Hb7
                go_wp2_with fail
                refine HS.out.mono ?_
                rintro e w9 ⟨rfl, hb9⟩
                have hz9 := hb9.size
                have hN9 := HN.out.below hb9 hNl
                have hM9 := HMb8.out.below hb9 (by omega)
                have HN9 := Lib.hid hN9
                have HMb9 := Lib.hid hM9
                have Hb9 := Lib.hid (Hb8.out.trans (hb9.mono (by omega)))
                have Hd1 := Lib.hid (own_below Hd1.out hb9 (Nat.le_refl _))
                have Hd2 := Lib.hid (own_below Hd2.out hb9 (Nat.le_refl _))
                have Hrow9 := Lib.hid (own_below Hrow8.out hb9 (Nat.le_refl _))
                clear a0 a1 a2 a3 a4 q0 q1 q2 q3 q4 hb9 HS HN HMb8 Hb8 Hrow8
                have a0 := hN9.cell 0 _ rfl
                have a1 := hN9.cell 1 _ rfl
                have a2 := hN9.cell 2 _ rfl
                have a3 := hN9.cell 3 _ rfl
                have a4 := hN9.cell 4 _ rfl
                have q0 := hM9.cell 0 _ rfl
                have q1 := hM9.cell 1 _ rfl
                have q2 := hM9.cell 2 _ rfl
                have q3 := hM9.cell 3 _ rfl
                have q4 := hM9.cell 4 _ rfl
                have qf0 := hM9.free 0
                have qf1 := hM9.free 1
                have qf2 := hM9.free 2
                have qf3 := hM9.free 3
                have qf4 := hM9.free 4
                clear hN9 hM9
                go_upto_region 30 with (fail)
                have hM10 := blk_set5 HMb9.out (.int .i64 b'.goal) (.int .i64 b'.ticks) (.slice D1' k1 j1) (.slice D2' k2 j2) (.int .i64 b'.falls)
                have hbW := below_set5 (g := Gb) (Hb9.out.mono (show Gb ≤ wc.heap.size by omega)) (Nat.le_refl _) (.int .i64 b'.goal) (.int .i64 b'.ticks) (.slice D1' k1 j1) (.slice D2' k2 j2) (.int .i64 b'.falls)
                have hMa10 := blk_far5 (g := Gb) (HMa'.out.below Hb9.out HMa'.out.lt) (by omega) (.int .i64 b'.goal) (.int .i64 b'.ticks) (.slice D1' k1 j1) (.slice D2' k2 j2) (.int .i64 b'.falls)
                have hp110 := own_set5 (g := Gb) (own_below Hp1.out Hb9.out (Nat.le_refl _)) (by omega) (.int .i64 b'.goal) (.int .i64 b'.ticks) (.slice D1' k1 j1) (.slice D2' k2 j2) (.int .i64 b'.falls)
                have hp210 := own_set5 (g := Gb) (own_below Hp2.out Hb9.out (Nat.le_refl _)) (by omega) (.int .i64 b'.goal) (.int .i64 b'.ticks) (.slice D1' k1 j1) (.slice D2' k2 j2) (.int .i64 b'.falls)
                have hd110 := own_set5 (g := Gb) (own_mono Hd1.out (show B ≤ w6.heap.size by omega)) (by omega) (.int .i64 b'.goal) (.int .i64 b'.ticks) (.slice D1' k1 j1) (.slice D2' k2 j2) (.int .i64 b'.falls)
                have hd210 := own_set5 (g := Gb) (own_mono Hd2.out (show B ≤ w6.heap.size by omega)) (by omega) (.int .i64 b'.goal) (.int .i64 b'.ticks) (.slice D1' k1 j1) (.slice D2' k2 j2) (.int .i64 b'.falls)
                have hrow10 := own_set5 (g := Gb) Hrow9.out (by omega) (.int .i64 b'.goal) (.int .i64 b'.ticks) (.slice D1' k1 j1) (.slice D2' k2 j2) (.int .i64 b'.falls)
                have hz10 := size_set5 w9 Gb (.int .i64 b'.goal) (.int .i64 b'.ticks) (.slice D1' k1 j1) (.slice D2' k2 j2) (.int .i64 b'.falls)
                generalize (((((w9.setCell ⟨Gb, 0, none⟩ (.int .i64 b'.goal)).setCell ⟨Gb, 1, none⟩ (.int .i64 b'.ticks)).setCell ⟨Gb, 2, none⟩ (.slice D1' k1 j1)).setCell ⟨Gb, 3, none⟩ (.slice D2' k2 j2)).setCell ⟨Gb, 4, none⟩ (.int .i64 b'.falls)) = w10 at hM10 hbW hMa10 hp110 hp210 hd110 hd210 hrow10 hz10 ⊢
                have hz10' : w9.heap.size ≤ w10.heap.size := by omega
                clear hz10
                have HM10 := Lib.hid hM10
                have HbW := Lib.hid hbW
                have HMa10 := Lib.hid hMa10
                have Hp110 := Lib.hid hp110
                have Hp210 := Lib.hid hp210
                have Hd110 := Lib.hid hd110
                have Hd210 := Lib.hid hd210
                have Hrow10 := Lib.hid hrow10
                clear a0 a1 a2 a3 a4 q0 q1 q2 q3 q4 qf0 qf1 qf2 qf3 qf4 hM10 hbW hMa10 hp110 hp210 hd110 hd210 hrow10 HMb9 HN9 Hd1 Hd2 Hb9 Hrow9
                obtain ⟨hmd, hma, hmb, hmg, hmf⟩ := mark_step Hge.out Hfo.out Hri.out (by omega) (by omega)
                rw [← Hbk.out] at hma hmb
                have HAdd := Lib.hid (show Calls Try.prog 50 #[.slice (some ⟨g6, 0, none⟩) nb7 c6, .slice (some ⟨w10.heap.size, 0, none⟩) 5 5] (w10.alloc (.cells #[.int .u8 6, .int .u8 0, .int .u8 0, .int .u8 0, .int .u8 0] 5)) (AdPost w10 (bookE (es' ++ [⟨6, 0, []⟩]))) from by
                  have hb1 : Below w10.heap.size w10 (w10.alloc (.cells #[.int .u8 6, .int .u8 0, .int .u8 0, .int .u8 0, .int .u8 0] 5)) := (Below.refl _ _).alloc (Nat.le_refl _) _
                  have h1 := (SlB.own Hrow10.out).head (m := nb7) (by omega)
                  rw [List.take_append_of_le_length (by rw [Hnb7.out]; exact Nat.le_refl _), List.take_of_length_le (by rw [Hnb7.out]; exact Nat.le_refl _)] at h1
                  have h2 : SlB (w10.alloc (.cells #[.int .u8 6, .int .u8 0, .int .u8 0, .int .u8 0, .int .u8 0] 5)) (w10.heap.size + 1) (.slice (some ⟨w10.heap.size, 0, none⟩) 5 5) [6, 0, 0, 0, 0] := ⟨_, 5, 5, rfl, rfl, Nat.le_refl _, (fun h => by cases h), Rd.lit w10 5 [.int .u8 6, .int .u8 0, .int .u8 0, .int .u8 0, .int .u8 0] 1 5 rfl⟩
                  refine (add_any _ _ _ bk [6, 0, 0, 0, 0] ((h1.below hb1).more (by simp)) (by simpa using h2) (by rw [Hnb7.out]; omega) Hbk8.out (by simp)).mono ?_
                  rintro e w' ⟨v', n', q1, q2, q3⟩
                  rw [hma] at q1
                  rw [hmb] at q2
                  exact ⟨v', n', q1, own_mono q2 (by simp), hb1.trans (q3.mono (by simp))⟩)
                have Hmd := Lib.hid hmd
                have Hmg := Lib.hid hmg
                have Hmf := Lib.hid hmf
                have hc6 : nb7 + 3 ≤ c6 := by
                  obtain ⟨A', c', he, hcap, _, _⟩ := own_rd Hrow10.out
                  injection he with _ _ e3
                  omega
                have hto7 := Lib.hid (bytes_to (some ⟨g6, 0, none⟩) (nb7 + 3) c6 nb7 (by omega))
                have Hu26 := Lib.hid (show Try.prog.underlying 33 = some (.slice (Try.prog.elem 33)) by kernel_rfl)
                clear hma hmb hmd hmg hmf
                go_wp2_with (refine wpList_slice_to rfl 33 (.tmp 137) (.tmp 139) rfl (some ⟨g6, 0, none⟩) (nb7 + 3) c6 nb7 rfl rfl Hu26.out hto7.out ?_)
                refine HAdd.out.mono ?_
                rintro e w11 ⟨v11, n11, rfl, ho11, hb11⟩
                obtain ⟨A11, c11, rfl, _, _, _⟩ := own_rd ho11
                have hz11 := hb11.size
                have hM11 := HM10.out.below hb11 (by omega)
                have hD := do_any w11 b' ⟨6, 0, []⟩ D1' k1 j1 D2' k2 j2 none 0 0 (SlC.own (own_below Hd110.out hb11 (Nat.le_refl _))) (SlC.own (own_below Hd210.out hb11 (Nat.le_refl _))) (SlC.nil' _ _)
                rw [Hmd.out] at hD
                have HD := Lib.hid hD
                have HM11 := Lib.hid hM11
                have HMa11 := Lib.hid (HMa10.out.below hb11 (by omega))
                have Hp111 := Lib.hid (own_below Hp110.out hb11 (Nat.le_refl _))
                have Hp211 := Lib.hid (own_below Hp210.out hb11 (Nat.le_refl _))
                have HbX := Lib.hid (HbW.out.trans (hb11.mono (by omega)))
                have Ho11 := Lib.hid ho11
                have q0 := hM11.cell 0 _ rfl
                have q1 := hM11.cell 1 _ rfl
                have q2 := hM11.cell 2 _ rfl
                have q3 := hM11.cell 3 _ rfl
                have q4 := hM11.cell 4 _ rfl
                clear hM11 hb11 ho11 hD HAdd HM10 HMa10 Hp110 Hp210 HbW
                go_wp2_with fail
                refine HD.out.mono ?_
                rintro e w12 ⟨v12, rfl, ⟨F1, m1, i1, F2, m2, i2, rfl, hf1, hf2, hf3, hf4⟩, hb12⟩
                simp only at hf1 hf2 ⊢
                have hz12 := hb12.size
                have hM12 := HM11.out.below hb12 (by omega)
                have hnx := show TfRel w3 Ga Gb B n (.slice A11 n11 c11) (.int .i64 ((k : Int) + 1)) (((((w12.setCell ⟨Gb, 0, none⟩ (.int .i64 b'.goal)).setCell ⟨Gb, 1, none⟩ (.int .i64 b'.ticks)).setCell ⟨Gb, 2, none⟩ (.slice F1 m1 i1)).setCell ⟨Gb, 3, none⟩ (.slice F2 m2 i2)).setCell ⟨Gb, 4, none⟩ (.int .i64 (b'.falls + 1))) from
                  ⟨k + 1, n11, c11, A11, es' ++ [⟨6, 0, []⟩], a', { b' with falls := b'.falls + 1 }, by omega, by go_num, rfl, ⟨Hmg.out, by rw [List.length_append]; simp; omega, Hmf.out, by rw [Hsa.out], by show 0 ≤ b'.falls + 1; omega, by show b'.falls + 1 ≤ ((k + 1 : Nat) : Int); omega⟩,
                    ⟨A5', n5', c5', A6', n6', c6', blk_far5 (g := Gb) (HMa11.out.below hb12 (by omega)) (by omega) (.int .i64 b'.goal) (.int .i64 b'.ticks) (.slice F1 m1 i1) (.slice F2 m2 i2) (.int .i64 (b'.falls + 1)), own_set5 (own_below Hp111.out hb12 (Nat.le_refl _)) (by omega) (.int .i64 b'.goal) (.int .i64 b'.ticks) (.slice F1 m1 i1) (.slice F2 m2 i2) (.int .i64 (b'.falls + 1)), own_set5 (own_below Hp211.out hb12 (Nat.le_refl _)) (by omega) (.int .i64 b'.goal) (.int .i64 b'.ticks) (.slice F1 m1 i1) (.slice F2 m2 i2) (.int .i64 (b'.falls + 1)), hp3, hp4⟩,
                    ⟨F1, m1, i1, F2, m2, i2, blk_set5 hM12 (.int .i64 b'.goal) (.int .i64 b'.ticks) (.slice F1 m1 i1) (.slice F2 m2 i2) (.int .i64 (b'.falls + 1)), own_set5 (own_mono hf1 (by omega)) (by omega) (.int .i64 b'.goal) (.int .i64 b'.ticks) (.slice F1 m1 i1) (.slice F2 m2 i2) (.int .i64 (b'.falls + 1)), own_set5 (own_mono hf2 (by omega)) (by omega) (.int .i64 b'.goal) (.int .i64 b'.ticks) (.slice F1 m1 i1) (.slice F2 m2 i2) (.int .i64 (b'.falls + 1)), hf3, hf4⟩,
                    own_set5 (own_mono (own_below Ho11.out hb12 (Nat.le_refl _)) (by omega)) (by omega) (.int .i64 b'.goal) (.int .i64 b'.ticks) (.slice F1 m1 i1) (.slice F2 m2 i2) (.int .i64 (b'.falls + 1)), below_set5 (Hbc3.out.trans ((HbX.out.trans (hb12.mono (by omega))).mono (by omega))) (by omega) (.int .i64 b'.goal) (.int .i64 b'.ticks) (.slice F1 m1 i1) (.slice F2 m2 i2) (.int .i64 (b'.falls + 1)), by rw [size_set5]; omega⟩
                have Hnx2 := Lib.hid hnx
                clear hnx q0 q1 q2 q3 q4 HD hb12 hf1 hf2 HMa11 Hp111 Hp211 HM11 HbX Ho11
                have q0 := hM12.cell 0 _ rfl
                have q1 := hM12.cell 1 _ rfl
                have q2 := hM12.cell 2 _ rfl
                have q3 := hM12.cell 3 _ rfl
                have q4 := hM12.cell 4 _ rfl
                have qf0 := hM12.free 0
                have qf1 := hM12.free 1
                have qf2 := hM12.free 2
                have qf3 := hM12.free 3
                have qf4 := hM12.free 4
                clear hM12
                go_wp2_with fail
                go_roundw
                case rel => exact Hnx2.out
                case measure => simp [intOf]; omega
              · have hqb : (q == 0) = false := by simpa using hq0
                clear hc2
                go_wp2_with fail
                go_roundw
                case rel => exact Hnx.out
                case measure => simp [intOf]; omega
    · obtain rfl : k = n := by omega
      have hbl := bookE_len HI.out.good (by have := HI.out.few; omega)
      have hBk := back_any wr (.slice Ab nb cb) (bookE es) (SlB.own Hob.out) (by omega) (bookF_lt 0 _ (fun r hr => (recs_fit HI.out.good r hr).2))
      rw [back_good HI.out.good, ← HI.out.fold] at hBk
      have HBk := Lib.hid hBk
      have Hsa := Lib.hid HI.out.same
      obtain ⟨el, hel⟩ : ∃ el, el = es.length := ⟨_, rfl⟩
      rw [← hel] at HBk
      have hMal := HMa.out.lt
      have hMbl := HMb.out.lt
      clear hbl hBk HI hel
      go_wp2_with fail
      refine HBk.out.mono ?_
      rintro e w7 ⟨v7, rfl, ⟨A8, n8, c8, A9, n9, c9, rfl, ho8, ho9, h8, h9⟩, hb7⟩
      simp only at ho8 ho9 ⊢
      have hz7 := hb7.size
      have Ho8 := Lib.hid ho8
      have Ho9 := Lib.hid ho9
      have Hb7 := Lib.hid hb7
      clear ho8 ho9 hb7 HBk
      go_upto_region 38 with (fail)
      have hN := Blk.new w7 46 (memRow b A8 n8 c8 A9 n9 c9)
      have hbn : Below w7.heap.size w7 (w7.alloc (.cells (memRow b A8 n8 c8 A9 n9 c9) 46)) := (Below.refl _ _).alloc (Nat.le_refl _) _
      change Code.wp _ _ _ _ (w7.alloc (.cells (memRow b A8 n8 c8 A9 n9 c9) 46))
      generalize w7.alloc (.cells (memRow b A8 n8 c8 A9 n9 c9) 46) = w8 at hN hbn ⊢
      have hz8 := hbn.size
      have hNl := hN.lt
      have hb8 := Hb7.out.trans (hbn.mono (by omega))
      have hMb8 := HMb.out.below hb8 HMb.out.lt
      have HN := Lib.hid hN
      have HMb8 := Lib.hid hMb8
      have Hb8 := Lib.hid hb8
      have Ho8 := Lib.hid (own_below Ho8.out hbn (Nat.le_refl _))
      have Ho9 := Lib.hid (own_below Ho9.out hbn (Nat.le_refl _))
      have q0 := hMb8.cell 0 _ rfl
      have q1 := hMb8.cell 1 _ rfl
      have q2 := hMb8.cell 2 _ rfl
      have q3 := hMb8.cell 3 _ rfl
      have q4 := hMb8.cell 4 _ rfl
      have qf0 := hMb8.free 0
      have qf1 := hMb8.free 1
      have qf2 := hMb8.free 2
      have qf3 := hMb8.free 3
      have qf4 := hMb8.free 4
      clear hN hbn hb8 hMb8 Hb7
      go_upto_region 39 with (fail)
      have hN9 := HN.out.far (p := ⟨Gb, 4, none⟩) (by show w7.heap.size ≠ Gb; omega) (.int .i64 0)
      have hMb9 := HMb8.out.set 4 (.int .i64 0)
      have hMa9 := (HMa.out.below Hb8.out HMa.out.lt).far (p := ⟨Gb, 4, none⟩) (by show Ga ≠ Gb; omega) (.int .i64 0)
      have ho8 := ownsRow_setCell_below Ho8.out (a := ⟨Gb, 4, none⟩) (by show Gb < _; omega) (.int .i64 0)
      have ho9 := ownsRow_setCell_below Ho9.out (a := ⟨Gb, 4, none⟩) (by show Gb < _; omega) (.int .i64 0)
      have om1 := ownsRow_setCell_below (own_below HMo1.out Hb8.out (Nat.le_refl _)) (a := ⟨Gb, 4, none⟩) (by show Gb < _; omega) (.int .i64 0)
      have om2 := ownsRow_setCell_below (own_below HMo2.out Hb8.out (Nat.le_refl _)) (a := ⟨Gb, 4, none⟩) (by show Gb < _; omega) (.int .i64 0)
      have op1 := ownsRow_setCell_below (own_below HPo1.out Hb8.out (Nat.le_refl _)) (a := ⟨Gb, 4, none⟩) (by show Gb < _; omega) (.int .i64 0)
      have op2 := ownsRow_setCell_below (own_below HPo2.out Hb8.out (Nat.le_refl _)) (a := ⟨Gb, 4, none⟩) (by show Gb < _; omega) (.int .i64 0)
      have hbw9 : Below w.heap.size w (w8.setCell ⟨Gb, 4, none⟩ (.int .i64 0)) := (Hwr.out.trans (Hb8.out.mono Hwr.out.size)).setCell (by show w.heap.size ≤ Gb; omega) _
      have hz9 : w8.heap.size ≤ (w8.setCell ⟨Gb, 4, none⟩ (.int .i64 0)).heap.size := by simp [World.setCell]
      generalize w8.setCell ⟨Gb, 4, none⟩ (.int .i64 0) = w9 at hN9 hMb9 hMa9 ho8 ho9 om1 om2 op1 op2 hbw9 hz9 ⊢
      have hMb9 : Blk w9 Gb 46 (memRow ⟨b.goal, b.ticks, b.asked, b.has, 0⟩ PA Pn Pc QA Qn Qc) := hMb9
      have HN9 := Lib.hid hN9
      have HMb9 := Lib.hid hMb9
      have HMa9 := Lib.hid hMa9
      have Hrows := Lib.hid (And.intro ho8 (And.intro ho9 (And.intro om1 (And.intro om2 (And.intro op1 op2)))))
      have Hbw9 := Lib.hid hbw9
      clear q0 q1 q2 q3 q4 qf0 qf1 qf2 qf3 qf4
      have q0 := hN9.cell 0 _ rfl
      have q1 := hN9.cell 1 _ rfl
      have q2 := hN9.cell 2 _ rfl
      have q3 := hN9.cell 3 _ rfl
      have q4 := hN9.cell 4 _ rfl
      clear hN9 hMb9 hMa9 ho8 ho9 om1 om2 op1 op2 hbw9 HN HMb8 Hb8 Ho8 Ho9
      go_upto_region 41 with (fail)
      have hY := Blk.new w9 46 (memRow ⟨b.goal, b.ticks, b.asked, b.has, 0⟩ A8 n8 c8 A9 n9 c9)
      have hb10 : Below w9.heap.size w9 (w9.alloc (.cells (memRow ⟨b.goal, b.ticks, b.asked, b.has, 0⟩ A8 n8 c8 A9 n9 c9) 46)) := (Below.refl _ _).alloc (Nat.le_refl _) _
      change Code.wp _ _ _ _ (w9.alloc (.cells (memRow ⟨b.goal, b.ticks, b.asked, b.has, 0⟩ A8 n8 c8 A9 n9 c9) 46))
      generalize w9.alloc (.cells (memRow ⟨b.goal, b.ticks, b.asked, b.has, 0⟩ A8 n8 c8 A9 n9 c9) 46) = w10 at hY hb10 ⊢
      have hz10 := hb10.size
      have hYl := hY.lt
      have hMa10 := HMa9.out.below hb10 (by omega)
      have hMb10 := HMb9.out.below hb10 (by omega)
      obtain ⟨h1, h2, h3, h4, h5', h6'⟩ := Hrows.out
      have s8 := SlC.own (own_below h1 hb10 (Nat.le_refl _))
      have s9 := SlC.own (own_below h2 hb10 (Nat.le_refl _))
      have sm1 := SlC.own (own_below h3 hb10 (Nat.le_refl _))
      have sm2 := SlC.own (own_below h4 hb10 (Nat.le_refl _))
      have sp1 := SlC.own (own_below h5' hb10 (Nat.le_refl _))
      have sp2 := SlC.own (own_below h6' hb10 (Nat.le_refl _))
      have hsf : sameF a ⟨b.goal, b.ticks, b.asked, b.has, 0⟩ = true := by rw [Hsa.out]; simp [sameF]
      have hS1 := fsame_any w10 a ⟨b.goal, b.ticks, b.asked, b.has, 0⟩ MA Mn Mc HA Hn Hc PA Pn Pc QA Qn Qc sm1 sm2 sp1 sp2 (by omega) (by omega) (by omega) (by omega)
      rw [hsf] at hS1
      have HS1 := Lib.hid hS1
      have HS2 := Lib.hid (show ∀ w', Below w10.heap.size w10 w' → Calls Try.prog 26 #[memV a MA Mn Mc HA Hn Hc, memV ⟨b.goal, b.ticks, b.asked, b.has, 0⟩ A8 n8 c8 A9 n9 c9] w' (BoolPost true w') from fun w' h => by
        have := fsame_any w' a ⟨b.goal, b.ticks, b.asked, b.has, 0⟩ MA Mn Mc HA Hn Hc A8 n8 c8 A9 n9 c9 ((sm1.below h).more h.size) ((sm2.below h).more h.size) ((s8.below h).more h.size) ((s9.below h).more h.size) (by omega) (by omega) (by omega) (by omega)
        rwa [hsf] at this)
      have HY := Lib.hid hY
      have HMa10 := Lib.hid hMa10
      have Hbw10 := Lib.hid (Hbw9.out.trans (hb10.mono Hbw9.out.size))
      clear q0 q1 q2 q3 q4
      have q0 := hMa10.cell 0 _ rfl
      have q1 := hMa10.cell 1 _ rfl
      have q2 := hMa10.cell 2 _ rfl
      have q3 := hMa10.cell 3 _ rfl
      have q4 := hMa10.cell 4 _ rfl
      have p0 := hMb10.cell 0 _ rfl
      have p1 := hMb10.cell 1 _ rfl
      have p2 := hMb10.cell 2 _ rfl
      have p3 := hMb10.cell 3 _ rfl
      have p4 := hMb10.cell 4 _ rfl
      clear hY hb10 hMa10 hMb10 h1 h2 h3 h4 h5' h6' s8 s9 sm1 sm2 sp1 sp2 hsf hS1 HMa9 HMb9 HN9 Hrows Hbw9
      go_wp2_with fail
      refine HS1.out.mono ?_
      rintro e w11 ⟨rfl, hb11⟩
      have hz11 := hb11.size
      have hMa11 := HMa10.out.below hb11 (by omega)
      have hY11 := HY.out.below hb11 hYl
      have HS3 := Lib.hid (HS2.out w11 hb11)
      have Hbw11 := Lib.hid (Hbw10.out.trans (hb11.mono Hbw10.out.size))
      clear q0 q1 q2 q3 q4 p0 p1 p2 p3 p4 HS1 HS2
      have q0 := hMa11.cell 0 _ rfl
      have q1 := hMa11.cell 1 _ rfl
      have q2 := hMa11.cell 2 _ rfl
      have q3 := hMa11.cell 3 _ rfl
      have q4 := hMa11.cell 4 _ rfl
      have p0 := hY11.cell 0 _ rfl
      have p1 := hY11.cell 1 _ rfl
      have p2 := hY11.cell 2 _ rfl
      have p3 := hY11.cell 3 _ rfl
      have p4 := hY11.cell 4 _ rfl
      clear hMa11 hY11 hb11
      go_wp2_with fail
      refine HS3.out.mono ?_
      rintro e w12 ⟨rfl, hb12⟩
      have HP := Lib.hid (Hbw11.out.trans (hb12.mono Hbw11.out.size))
      clear hb12 q0 q1 q2 q3 q4 p0 p1 p2 p3 p4
      go_wp2_with fail
      go_ret
      exact ⟨rfl, HP.out⟩
end Go.Proofs.Ytaahpjjffggaiaa.topFalls
