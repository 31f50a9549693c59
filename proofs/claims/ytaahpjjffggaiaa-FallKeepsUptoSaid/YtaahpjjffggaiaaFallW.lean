/- fall.Write. Conditions: those typed. -/
import Derived.Test.YtaahpjjffggaiaaFallA
import Derived.Test.YtaahpjjffggaiaaWrite
namespace Go.Proofs.Ytaahpjjffggaiaa
open Go.RowKit Go.Gy
set_option linter.unusedVariables false
/-- the bytes of an event -/
def evB (e : GEv) : List Nat := e.kind.toNat :: (be4 e.n.toNat ++ e.cells.flatMap cellB)
theorem evB_len (e : GEv) : (evB e).length = 5 + 2 * e.cells.length := by
  unfold evB
  rw [List.length_cons, List.length_append, cellB_len]
  simp [be4]; omega
theorem checkF_zero {e : GEv} (h : checkF e = 0) : 1 ≤ e.kind ∧ e.kind ≤ 6 ∧ 0 ≤ e.n ∧ e.n ≤ 2147483647 ∧ (e.kind ≠ 1 → e.n = 0) ∧ (e.kind ≠ 3 → e.kind ≠ 5 → e.cells = []) ∧ cellsF e.cells = 0 := by
  unfold checkF at h
  split at h
  · cases h
  split at h
  · cases h
  split at h
  · cases h
  rename_i h1 h2 h3
  refine ⟨by omega, by omega, by omega, by omega, by omega, fun a b => ?_, h⟩
  exact Classical.byContradiction fun hc => h3 ⟨a, b, hc⟩
theorem evB_lt {e : GEv} (h : checkF e = 0) : ∀ x ∈ evB e, x < 256 := by
  have := checkF_zero h
  intro x hx
  unfold evB at hx
  rw [List.mem_cons, List.mem_append] at hx
  rcases hx with rfl | hx | hx
  · omega
  · exact be4_lt _ x hx
  · exact cellB_lt _ x hx
def FWPost (w : World) (m : GEv) (e : Ending) (w' : World) : Prop := ∃ v' n, e = .returned (.tuple #[v', .int .i64 ((checkF m : Nat) : Int)]) ∧ w'.ownsRow w.heap.size 5 1 v' n ((if checkF m = 0 then evB m else []).map bv) ∧ Below w.heap.size w w'
def FwRel (B n : Nat) (w1 : World) (hd : List Nat) (l : List Cell) (v i : Value) (wr : World) : Prop := ∃ k nn g c, k ≤ n ∧ i = .int .i64 (k : Nat) ∧ nn = 5 + 2 * k ∧ v = .slice (some ⟨g, 0, none⟩) nn c ∧ wr.ownsRow B 5 1 v nn ((hd ++ (l.take k).flatMap cellB).map bv) ∧ Below w1.heap.size w1 wr
set_option maxRecDepth 100000 in
set_option maxHeartbeats 4000000 in
theorem fwrite_any (w : World) (m : GEv) (A : Option Addr) (n c : Nat) (hm : SlC w w.heap.size (.slice A n c) m.cells) :
    Calls Try.prog 25 #[evV m A n c] w (FWPost w m) := by
  obtain ⟨i0, hi, hz0, hz1, hz2⟩ := info_parts info_byte
  have hb0 : ∀ X, Below w.heap.size w (w.alloc X) := fun X => (Below.refl _ _).alloc (Nat.le_refl _) _
  have Hb0 := Lib.hid hb0
  have HC := Lib.hid (fun X => fcheck_any (w.alloc X) m A n c ((hm.below (hb0 X)).more (show w.heap.size ≤ (w.alloc X).heap.size by simp)))
  obtain ⟨hl, _, _, hrd⟩ := hm.parts
  have Hl := Lib.hid hl
  have Hrd := Lib.hid hrd
  obtain ⟨k, v, l⟩ := m
  by_cases hE : checkF ⟨k, v, l⟩ = 0
  · have g0 := checkF_zero hE
    have H1 := Lib.hid (cellsF_zero g0.2.2.2.2.2.2).2
    have hn : n ≤ 400 := by rw [← Hl.out]; exact (cellsF_zero g0.2.2.2.2.2.2).1
    simp only at g0
    obtain ⟨K, rfl⟩ : ∃ K : Nat, k = (K : Int) := ⟨k.toNat, by omega⟩
    obtain ⟨Q, rfl⟩ : ∃ K : Nat, v = (K : Int) := ⟨v.toNat, by omega⟩
    have k1 : K ≤ 6 := by omega
    have q1 : Q ≤ 2147483647 := by omega
    have HE := Lib.hid hE
    clear hb0 hm hE g0 hl hrd
    go_enter Try.func25, Try.ntmps25
    go_wp2_with fail
    refine (HC.out _).mono ?_
    rintro e w1 ⟨he, hb1⟩
    rw [HE.out] at he
    subst he
    have hz1 := hb1.size
    simp only [World.size_alloc] at hz1
    have hk0 := (Blk.new w 48 #[.int .i64 (K : Int), .int .i64 (Q : Int), .slice A n c]).below hb1 (by simp)
    have a0 := hk0.cell 0 _ rfl
    have a1 := hk0.cell 1 _ rfl
    have a2 := hk0.cell 2 _ rfl
    have HK0 := Lib.hid hk0
    have hz1' : w.heap.size < w1.heap.size := by omega
    have a2' : ∀ X, (w1.alloc X).cell? ⟨w.heap.size, 2, none⟩ = some (.slice A n c) := fun X => (World.cell?_alloc_lt _ _ _ hz1').trans a2
    have hbw1 := Lib.hid ((Hb0.out _).trans (hb1.mono (by simp)))
    clear hb1 hk0 hz1
    obtain ⟨hd, hhd⟩ : ∃ hd : List Nat, hd = K :: be4 Q := ⟨_, rfl⟩
    have hrow : [Value.int .u8 (K : Int), .int .u8 ((Q : Int) / 16777216), .int .u8 ((Q : Int) / 65536 % 256), .int .u8 ((Q : Int) / 256 % 256), .int .u8 ((Q : Int) % 256)] = (hd ++ (l.take 0).flatMap cellB).map bv := by
      have e1 : (Q : Int) / 16777216 = ((Q / 16777216 % 256 : Nat) : Int) := by omega
      have e2 : (Q : Int) / 65536 % 256 = ((Q / 65536 % 256 : Nat) : Int) := by omega
      have e3 : (Q : Int) / 256 % 256 = ((Q / 256 % 256 : Nat) : Int) := by omega
      have e4 : (Q : Int) % 256 = ((Q % 256 : Nat) : Int) := by omega
      rw [hhd, e1, e2, e3, e4]
      simp [bv, be4]
    have hown2 := World.ownsRow_lit (e := 5) (size := 1) (base := w1.heap.size) w1 #[.int .u8 (K : Int), .int .u8 ((Q : Int) / 16777216), .int .u8 ((Q : Int) / 65536 % 256), .int .u8 ((Q : Int) / 256 % 256), .int .u8 ((Q : Int) % 256)] 5 (Nat.le_refl _) (by decide) rfl
    rw [show (#[Value.int .u8 (K : Int), .int .u8 ((Q : Int) / 16777216), .int .u8 ((Q : Int) / 65536 % 256), .int .u8 ((Q : Int) / 256 % 256), .int .u8 ((Q : Int) % 256)] : Array Value).toList = (hd ++ (l.take 0).flatMap cellB).map bv from hrow] at hown2
    have hhead : evB ⟨(K : Int), (Q : Int), l⟩ = hd ++ l.flatMap cellB := by
      rw [hhd]
      simp [evB]
    have hst := Lib.hid (show ∀ wr, wr = (w1.alloc (.cells #[.int .u8 (K : Int), .int .u8 ((Q : Int) / 16777216), .int .u8 ((Q : Int) / 65536 % 256), .int .u8 ((Q : Int) / 256 % 256), .int .u8 ((Q : Int) % 256)] 5)) → FwRel w1.heap.size n w1 hd l (.slice (some ⟨w1.heap.size, 0, none⟩) 5 5) (.int .i64 0) wr from fun wr h => by
      subst h
      exact ⟨0, 5, w1.heap.size, 5, Nat.zero_le _, rfl, rfl, rfl, hown2, (Below.refl _ _).alloc (Nat.le_refl _) _⟩)
    have Hhead := Lib.hid hhead
    clear hown2 hhead hrow hhd
    go_wp2_with fail
    go_loopw [5, 35] (fun v i wr => FwRel w1.heap.size n w1 hd l v i wr) (fun _ i _ => n - (intOf i).toNat)
    case atStart => exact hst.out _ rfl
    case round =>
      obtain ⟨k, nn, g, cc, hk, rfl, hnn, rfl, hown, hbr⟩ := hrel
      have hbase := hbr.size
      have hnn' : nn ≤ 813 := by omega
      by_cases hlt : k < n
      · obtain ⟨b, o, f, rfl, hbB, hf, hcl⟩ := (Hrd.out.below (hbw1.out.trans (hbr.mono (by omega)))).elem encC_len Hl.out hlt
        obtain ⟨x, y⟩ := f
        have c0 : wr.cell? ⟨b, o + k * 2, none⟩ = some (.int .i64 x) := hcl 0 _ rfl
        have c1 : wr.cell? ⟨b, o + k * 2 + 1, none⟩ = some (.int .i64 y) := hcl 1 _ rfl
        obtain ⟨x1, x2, y1, y2⟩ := H1.out (x, y) (List.mem_of_getElem? hf)
        simp only at x1 x2 y1 y2
        have hlt' : (k : Int) < (n : Int) := by omega
        have HL := Lib.hid (cell_lits (hd := hd) hf ⟨x1, x2⟩ ⟨y1, y2⟩)
        have Hnn := Lib.hid hnn
        clear hcl hf hnn a0 a1 a2 a2'
        go_wp2_with (at_builtin; refine wpList_lits rfl (.tmp 39) (.tmp 48) 33 rfl w1.heap.size 5 i0 (.int .u8 0) 1 1 Try.underlying33 hi hz0 hz1 hz2 rfl (by omega) _ nn _ rfl (hown.alloc _) [.int .u8 (x + 64), .int .u8 (y + 64)] 2 (wr.heap.size + 1) (by simp) rfl rfl (by omega) (by simp [Value.oneCell']) (nn + 2) rfl (by unfold maxLen; omega) (by omega) (by simp; omega) ?_; intro v8 w8 hown8 hb8 hs8; obtain ⟨g8, c8, rfl, _, _⟩ := hs8)
        go_roundw
        case rel => exact ⟨k + 1, nn + 2, g8, c8, by omega, by go_num, by rw [Hnn.out]; omega, rfl, by rw [← HL.out]; exact hown8, (hbr.alloc hbase _).trans hb8⟩
        case measure => simp [intOf]; omega
      · obtain rfl : k = n := by omega
        rw [List.take_of_length_le (by rw [Hl.out]; omega), ← Hhead.out] at hown
        have HO := Lib.hid hown
        clear hown hnn a0 a1 a2 a2'
        go_wp2
        go_ret2
        refine ⟨.slice (some ⟨g, 0, none⟩) nn cc, nn, ?_, ?_, ?_⟩
        · rw [HE.out]; rfl
        · rw [if_pos HE.out]
          exact own_mono HO.out (by omega)
        · exact hbw1.out.trans (hbr.mono (by omega))
  · have HE := Lib.hid hE
    obtain ⟨r, hr⟩ : ∃ r, r = checkF ⟨k, v, l⟩ := ⟨_, rfl⟩
    have hnb : ((r : Int) != 0) = true := by rw [hr]; simp; omega
    rw [← hr] at HC
    have Hr := Lib.hid hr
    clear hb0 hm hE hr hl hrd
    go_enter Try.func25, Try.ntmps25
    go_wp2_with fail
    refine (HC.out _).mono ?_
    rintro e w1 ⟨rfl, hb1⟩
    have hbw1 := Lib.hid ((Hb0.out _).trans (hb1.mono (by simp)))
    clear hb1
    go_wp2_with fail
    go_ret2
    refine ⟨.slice none 0 0, 0, by rw [← Hr.out]; rfl, ?_, hbw1.out⟩
    rw [if_neg HE.out]
    exact World.ownsRow_nil _ _ _ _
end Go.Proofs.Ytaahpjjffggaiaa
