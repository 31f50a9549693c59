/- MsgSame's walk: it returns true. Conditions: the reach. -/
import Derived.Test.YtbeemdlgjiclcaaMsgOpen
import Derived.Test.YtbeemdlgjiclcaaTable
import Derived.Deep.RegionHeld3
import Derived.Lib.SlBytesConst
namespace Go.Proofs.Ytbeemdlgjiclcaa.msgSame
open Go.RowKit Go.Gy
set_option linter.unusedVariables false

theorem nats_of (zs : List Int) (h : ∀ z ∈ zs, wfI .u8 z) : ∃ l : List Nat, zs.map (Value.int .u8) = l.map bv ∧ l.length = zs.length ∧ ∀ x ∈ l, x < 256 := by
  induction zs with
  | nil => exact ⟨[], rfl, rfl, by simp⟩
  | cons z zs ih =>
    obtain ⟨l, h1, h2, h3⟩ := ih fun z hz => h z (by simp [hz])
    have := wf_u8 (h z (by simp))
    refine ⟨z.toNat :: l, ?_, by simp [h2], ?_⟩
    · simp only [List.map_cons, h1]
      congr 1
      show Value.int .u8 z = .int .u8 (z.toNat : Int)
      rw [Int.toNat_of_nonneg this.1]
    · intro x hx
      simp only [List.mem_cons] at hx
      rcases hx with rfl | hx
      · omega
      · exact h3 x hx

theorem blk3 (w : World) (X Y Z : Obj) : (((w.alloc X).alloc Y).alloc Z).heap[w.heap.size + 1 + 1]? = some Z := by
  have h : ((w.alloc X).alloc Y).heap.size = w.heap.size + 1 + 1 := by simp
  rw [← h]; exact heap_alloc_new _ _
set_option maxRecDepth 100000 in
set_option maxHeartbeats 4000000 in
theorem walk (v0 v1 v2 : Value) (w : World) {b0 b1 b2 : Nat} (f0 : MsgArg w v0 b0) (f1 : MsgArg w v1 b1) (f2 : SlArg (encI .u8) (wfI .u8) 1 1 w v2 b2) :
    Calls Try.prog 3 #[v0, v1, v2] w fun e w' => e = .returned (.bool true) ∧ Below w.heap.size w w' := by
  obtain ⟨a, A, n, c, rfl, ha, _, _, _⟩ := f0
  obtain ⟨b, A', n', c', rfl, hb, _, _, _⟩ := f1
  obtain ⟨A2, n2, c2, zs, rfl, hl, hnc, hcm, hre, _, _, hr, hwf⟩ := f2
  rw [flat_int] at hr
  obtain ⟨l, hzl, hl', h8⟩ := nats_of zs hwf
  rw [hzl] at hr
  rw [hl] at hl'
  have hn2 : n2 ≤ 140737488355328 := by simp only [reachBytes] at hre; omega
  clear hre hcm hwf hzl hl
  have H8 := Lib.hid h8
  have Hl := Lib.hid hl'
  clear h8 hl'
  have d1 : (((crc [49, 50, 51, 52, 53, 54, 55, 56, 57] : Nat) : Int) != 3421780262) = false := by rw [crc_example]; rfl
  have kc := fun (X Y : Obj) (C : Array Value) => Joins.run_convert_bytes_const_at (P := Try.prog) ((w.alloc X).alloc Y) 26 5 C 9 9 (w.heap.size + 1 + 1) (by simp) Try.underlying26 Try.underlying5
  go_enter Try.func3, Try.ntmps3
  go_wp2_with fail
  refine (sum_any _ _ 9 9 (w.heap.size + 3) [49, 50, 51, 52, 53, 54, 55, 56, 57] rfl (by omega) ?_ (by decide)).mono ?_
  · refine ⟨rfl, fun _ => ⟨_, 0, rfl, by omega, fun j u hu => ?_⟩⟩
    rw [Nat.zero_add, cell_of_row _ (w.heap.size + 1 + 1) j #[.int .u8 49, .int .u8 50, .int .u8 51, .int .u8 52, .int .u8 53, .int .u8 54, .int .u8 55, .int .u8 56, .int .u8 57] 5 (9, 10) (blk3 _ _ _ _)]
    rw [show ([49, 50, 51, 52, 53, 54, 55, 56, 57] : List Nat).map bv = [Value.int .u8 49, .int .u8 50, .int .u8 51, .int .u8 52, .int .u8 53, .int .u8 54, .int .u8 55, .int .u8 56, .int .u8 57] from rfl] at hu
    rw [← hu, List.getElem?_toArray]
  rintro e w' ⟨rfl, rfl⟩
  go_wp2_with fail
  have hB3 : Below w.heap.size w (((w.alloc (.cells #[.int .i64 a.kind, .int .i64 a.src, .int .i64 a.dst, .int .i64 a.seq, .int .u32 a.clock, .slice A n c] 25)).alloc (.cells #[.int .i64 b.kind, .int .i64 b.src, .int .i64 b.dst, .int .i64 b.seq, .int .u32 b.clock, .slice A' n' c'] 25)).alloc (.cells #[.int .u8 49, .int .u8 50, .int .u8 51, .int .u8 52, .int .u8 53, .int .u8 54, .int .u8 55, .int .u8 56, .int .u8 57] 5 (9, 10))) :=
    (((Below.refl _ _).alloc (Nat.le_refl _) _).alloc (by simp) _).alloc (by simp; omega) _
  have hk0 : Blk (((w.alloc (.cells #[.int .i64 a.kind, .int .i64 a.src, .int .i64 a.dst, .int .i64 a.seq, .int .u32 a.clock, .slice A n c] 25)).alloc (.cells #[.int .i64 b.kind, .int .i64 b.src, .int .i64 b.dst, .int .i64 b.seq, .int .u32 b.clock, .slice A' n' c'] 25)).alloc (.cells #[.int .u8 49, .int .u8 50, .int .u8 51, .int .u8 52, .int .u8 53, .int .u8 54, .int .u8 55, .int .u8 56, .int .u8 57] 5 (9, 10))) w.heap.size 25 #[.int .i64 a.kind, .int .i64 a.src, .int .i64 a.dst, .int .i64 a.seq, .int .u32 a.clock, .slice A n c] :=
    ((Blk.new w 25 _).alloc _).alloc _
  have hk1 : Blk (((w.alloc (.cells #[.int .i64 a.kind, .int .i64 a.src, .int .i64 a.dst, .int .i64 a.seq, .int .u32 a.clock, .slice A n c] 25)).alloc (.cells #[.int .i64 b.kind, .int .i64 b.src, .int .i64 b.dst, .int .i64 b.seq, .int .u32 b.clock, .slice A' n' c'] 25)).alloc (.cells #[.int .u8 49, .int .u8 50, .int .u8 51, .int .u8 52, .int .u8 53, .int .u8 54, .int .u8 55, .int .u8 56, .int .u8 57] 5 (9, 10))) (w.heap.size + 1) 25 #[.int .i64 b.kind, .int .i64 b.src, .int .i64 b.dst, .int .i64 b.seq, .int .u32 b.clock, .slice A' n' c'] :=
    (by simpa using Blk.new (w.alloc _) 25 _ : Blk _ (w.heap.size + 1) 25 _).alloc _
  have hs3 : w.heap.size + 3 ≤ (((w.alloc (.cells #[.int .i64 a.kind, .int .i64 a.src, .int .i64 a.dst, .int .i64 a.seq, .int .u32 a.clock, .slice A n c] 25)).alloc (.cells #[.int .i64 b.kind, .int .i64 b.src, .int .i64 b.dst, .int .i64 b.seq, .int .u32 b.clock, .slice A' n' c'] 25)).alloc (.cells #[.int .u8 49, .int .u8 50, .int .u8 51, .int .u8 52, .int .u8 53, .int .u8 54, .int .u8 55, .int .u8 56, .int .u8 57] 5 (9, 10))).heap.size := by simp
  generalize (((w.alloc (.cells #[.int .i64 a.kind, .int .i64 a.src, .int .i64 a.dst, .int .i64 a.seq, .int .u32 a.clock, .slice A n c] 25)).alloc (.cells #[.int .i64 b.kind, .int .i64 b.src, .int .i64 b.dst, .int .i64 b.seq, .int .u32 b.clock, .slice A' n' c'] 25)).alloc (.cells #[.int .u8 49, .int .u8 50, .int .u8 51, .int .u8 52, .int .u8 53, .int .u8 54, .int .u8 55, .int .u8 56, .int .u8 57] 5 (9, 10))) = w3 at hB3 hk0 hk1 hs3 ⊢
  have hS : ∀ w', Below w3.heap.size w3 w' → (w'.cell? ⟨w.heap.size, 0, none⟩ = some (.int .i64 a.kind) ∧ w'.cell? ⟨w.heap.size, 1, none⟩ = some (.int .i64 a.src) ∧ w'.cell? ⟨w.heap.size, 2, none⟩ = some (.int .i64 a.dst) ∧ w'.cell? ⟨w.heap.size, 3, none⟩ = some (.int .i64 a.seq) ∧ w'.cell? ⟨w.heap.size, 4, none⟩ = some (.int .u32 a.clock) ∧ w'.cell? ⟨w.heap.size, 5, none⟩ = some (.slice A n c) ∧
      w'.cell? ⟨w.heap.size + 1, 0, none⟩ = some (.int .i64 b.kind) ∧ w'.cell? ⟨w.heap.size + 1, 1, none⟩ = some (.int .i64 b.src) ∧ w'.cell? ⟨w.heap.size + 1, 2, none⟩ = some (.int .i64 b.dst) ∧ w'.cell? ⟨w.heap.size + 1, 3, none⟩ = some (.int .i64 b.seq) ∧ w'.cell? ⟨w.heap.size + 1, 4, none⟩ = some (.int .u32 b.clock) ∧ w'.cell? ⟨w.heap.size + 1, 5, none⟩ = some (.slice A' n' c') ∧ Below w3.heap.size w3 w') := fun w' h =>
    ⟨(hk0.below h (by omega)).cell 0 _ rfl, (hk0.below h (by omega)).cell 1 _ rfl, (hk0.below h (by omega)).cell 2 _ rfl, (hk0.below h (by omega)).cell 3 _ rfl, (hk0.below h (by omega)).cell 4 _ rfl, (hk0.below h (by omega)).cell 5 _ rfl,
     (hk1.below h (by omega)).cell 0 _ rfl, (hk1.below h (by omega)).cell 1 _ rfl, (hk1.below h (by omega)).cell 2 _ rfl, (hk1.below h (by omega)).cell 3 _ rfl, (hk1.below h (by omega)).cell 4 _ rfl, (hk1.below h (by omega)).cell 5 _ rfl, h⟩
  have h25 : ∀ w', Below w3.heap.size w3 w' → Calls Try.prog 25 #[msgV a A n c, msgV b A' n' c'] w' fun e w'' => e = .returned (.bool (sameM a b)) ∧ Below w3.heap.size w3 w'' := fun w' h =>
    (same_any w' a b A A' n n' c c' ((ha.below (hB3.trans (h.mono hB3.size))).more (Nat.le_trans hB3.size h.size)) ((hb.below (hB3.trans (h.mono hB3.size))).more (Nat.le_trans hB3.size h.size))).mono fun e w'' ⟨h1, h2⟩ => ⟨h1, h.trans (h2.mono h.size)⟩
  have h26 : ∀ w', Below w3.heap.size w3 w' → Calls Try.prog 26 #[msgV a A n c, msgV b A' n' c'] w' fun e w'' => e = .returned (.bool (sameM a b)) ∧ Below w3.heap.size w3 w'' := fun w' h =>
    (same26_any w' a b A A' n n' c c' ((ha.below (hB3.trans (h.mono hB3.size))).more (Nat.le_trans hB3.size h.size)) ((hb.below (hB3.trans (h.mono hB3.size))).more (Nat.le_trans hB3.size h.size))).mono fun e w'' ⟨h1, h2⟩ => ⟨h1, h.trans (h2.mono h.size)⟩
  have h27 : ∀ w', Below w3.heap.size w3 w' → Calls Try.prog 27 #[msgV a A n c] w' fun e w'' => ∃ A1 c1, e = .returned (msgV a A1 n c1) ∧ MsgAt w'' w''.heap.size a A1 n c1 ∧ Below w3.heap.size w3 w'' := fun w' h =>
    (copy_any w' a A n c ((ha.below (hB3.trans (h.mono hB3.size))).more (Nat.le_trans hB3.size h.size))).mono fun e w'' ⟨A1, c1, h1, h2, h3⟩ => ⟨A1, c1, h1, h2, h.trans (h3.mono h.size)⟩
  have haa : sameM a a = true := by simp [sameM]
  have h26' : ∀ w' A1 c1, Below w3.heap.size w3 w' → MsgAt w' w'.heap.size a A1 n c1 → Calls Try.prog 26 #[msgV a A1 n c1, msgV a A n c] w' fun e w'' => e = .returned (.bool true) ∧ Below w3.heap.size w3 w'' := fun w' A1 c1 h h1 =>
    (same26_any w' a a A1 A n n c1 c h1 ((ha.below (hB3.trans (h.mono hB3.size))).more (Nat.le_trans hB3.size h.size))).mono fun e w'' ⟨h1, h2⟩ => ⟨by rw [← haa]; exact h1, h.trans (h2.mono h.size)⟩
  have h24 : ∀ w', Below w3.heap.size w3 w' → Calls Try.prog 24 #[.slice A2 n2 c2] w' fun e w'' => e = .returned (.int .u32 (crc l : Nat)) ∧ Below w3.heap.size w3 w'' := fun w' h =>
    (sum_any w' A2 n2 c2 _ l Hl.out hn2 (hr.below (hB3.trans (h.mono hB3.size))) H8.out).mono fun e w'' ⟨h1, h2⟩ => ⟨h1, by rw [← h2]; exact h⟩
  have h28 : ∀ w', Below w3.heap.size w3 w' → Calls Try.prog 28 #[.slice A2 n2 c2] w' fun e w'' => e = .returned (.int .u32 (crc l : Nat)) ∧ Below w3.heap.size w3 w'' := fun w' h =>
    (crc_any w' A2 n2 c2 l Hl.out hn2 ((hr.below (hB3.trans (h.mono hB3.size))).more (Nat.le_trans hB3.size h.size)) H8.out).mono fun e w'' ⟨h1, h2⟩ => ⟨h1, h.trans (h2.mono h.size)⟩
  have HS := Lib.hid hS
  have H25 := Lib.hid h25
  have H26 := Lib.hid h26
  have H26' := Lib.hid h26'
  have H27 := Lib.hid h27
  have H24 := Lib.hid h24
  have H28 := Lib.hid h28
  have HB := Lib.hid hB3
  obtain ⟨q, hq⟩ : ∃ q, q = sameM a b := ⟨_, rfl⟩
  rw [← hq] at H25 H26
  clear hS h25 h26 h26' h27 h24 h28 hk0 hk1 ha hb haa hr hq hB3 d1
  go_region_held3 (fun w' => w'.cell? ⟨w.heap.size, 0, none⟩ = some (.int .i64 a.kind) ∧ w'.cell? ⟨w.heap.size, 1, none⟩ = some (.int .i64 a.src) ∧ w'.cell? ⟨w.heap.size, 2, none⟩ = some (.int .i64 a.dst) ∧ w'.cell? ⟨w.heap.size, 3, none⟩ = some (.int .i64 a.seq) ∧ w'.cell? ⟨w.heap.size, 4, none⟩ = some (.int .u32 a.clock) ∧ w'.cell? ⟨w.heap.size, 5, none⟩ = some (.slice A n c) ∧
      w'.cell? ⟨w.heap.size + 1, 0, none⟩ = some (.int .i64 b.kind) ∧ w'.cell? ⟨w.heap.size + 1, 1, none⟩ = some (.int .i64 b.src) ∧ w'.cell? ⟨w.heap.size + 1, 2, none⟩ = some (.int .i64 b.dst) ∧ w'.cell? ⟨w.heap.size + 1, 3, none⟩ = some (.int .i64 b.seq) ∧ w'.cell? ⟨w.heap.size + 1, 4, none⟩ = some (.int .u32 b.clock) ∧ w'.cell? ⟨w.heap.size + 1, 5, none⟩ = some (.slice A' n' c') ∧ Below w3.heap.size w3 w')
    (first | exact HS.out _ (Below.refl _ _).drew | exact HS.out _ (by assumption))
    (first
      | (go_at_call 25; refine (H25.out _ (by simp [*])).mono ?_; rintro e w' ⟨rfl, hbn⟩)
      | (go_at_call_of 26 A'; refine (H26.out _ (by simp [*])).mono ?_; rintro e w' ⟨rfl, hbn⟩)
      | (go_at_call 27; refine (H27.out _ (by simp [*])).mono ?_; rintro e w' ⟨A1, c1, rfl, hm1, hbn⟩)
      | (go_at_call 26; refine (H26'.out _ _ _ (by simp [*]) (by assumption)).mono ?_; rintro e w' ⟨rfl, hbn⟩)
      | (go_at_call 24; refine (H24.out _ (by simp [*])).mono ?_; rintro e w' ⟨rfl, hbn⟩)
      | (go_at_call 28; refine (H28.out _ (by simp [*])).mono ?_; rintro e w' ⟨rfl, hbn⟩))
  go_wp2
  go_ret
  refine ⟨rfl, HB.out.trans (Below.mono (B := w3.heap.size) ?_ HB.out.size)⟩
  assumption
end Go.Proofs.Ytbeemdlgjiclcaa.msgSame
