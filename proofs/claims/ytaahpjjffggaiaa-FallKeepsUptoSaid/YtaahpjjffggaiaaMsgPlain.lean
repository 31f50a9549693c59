/- Messages as bytes, as plain data: the checks, the frame, its reading, and what one changed byte does. No condition but those typed. -/
import Derived.Test.YtaahpjjffggaiaaCellPlain
import Derived.Test.YtaahpjjffggaiaaRefBytes
import Derived.Test.YtaahpjjffggaiaaCutPlain
namespace Go.Proofs.Ytaahpjjffggaiaa
open Go.RowKit Go.Gy
set_option linter.unusedVariables false

/-- the bytes of a message -/
def cellB (c : Cell) : List Nat := [((c.1 + 64) % 256).toNat, ((c.2 + 64) % 256).toNat]
def headM (m : GMsg) : List Nat := m.kind.toNat :: m.src.toNat :: m.dst.toNat :: (be4 m.seq.toNat ++ (be4 m.clock.toNat ++ (be2 m.cells.length ++ m.cells.flatMap cellB)))
def frameM (m : GMsg) : List Nat := headM m ++ be4 (crc (headM m))
theorem cellB_len (l : List Cell) : (l.flatMap cellB).length = 2 * l.length := by
  induction l with
  | nil => rfl
  | cons c l ih => rw [List.flatMap_cons, List.length_append, ih]; simp [cellB]; omega
theorem cellB_lt (l : List Cell) : ∀ x ∈ l.flatMap cellB, x < 256 := by
  intro x hx
  obtain ⟨c, _, h⟩ := List.mem_flatMap.1 hx
  simp only [cellB, List.mem_cons, List.not_mem_nil, or_false] at h
  omega
theorem headM_len (m : GMsg) : (headM m).length = 13 + 2 * m.cells.length := by
  unfold headM
  simp only [List.length_cons, List.length_append, cellB_len, be4, be2, List.length_nil]
  omega
theorem frameM_len (m : GMsg) : (frameM m).length = 17 + 2 * m.cells.length := by
  simp [frameM, headM_len, be4]; omega
theorem headM_lt {m : GMsg} (h : msgF0 m = 0) : ∀ x ∈ headM m, x < 256 := by
  have h0 := msgF0_zero h
  intro x hx
  simp only [headM, List.mem_cons, List.mem_append] at hx
  rcases hx with rfl | rfl | rfl | hx | hx | hx | hx
  · omega
  · omega
  · omega
  · exact be4_lt _ x hx
  · exact be4_lt _ x hx
  · exact be2_lt _ x hx
  · exact cellB_lt _ x hx
theorem frameM_lt {m : GMsg} (h : msgF0 m = 0) : ∀ x ∈ frameM m, x < 256 := by
  intro x hx
  simp only [frameM, List.mem_append] at hx
  rcases hx with hx | hx
  · exact headM_lt h x hx
  · exact be4_lt _ x hx

/-- reading -/
def manyB (b : List Nat) : Nat := valN ((b.drop 11).take 2)
def readE0 (b : List Nat) : Nat :=
  if b.length < 17 then 14 else
  if b.length < 17 + 2 * manyB b then 14 else
  if b.length ≠ 17 + 2 * manyB b then 3 else
  if valN (b.drop (13 + 2 * manyB b)) ≠ crc (b.take (13 + 2 * manyB b)) then 13 else 0
def cellsOf : List Nat → List Cell
  | x :: y :: l => ((x : Int) - 64, (y : Int) - 64) :: cellsOf l
  | _ => []
def readM0 (b : List Nat) : GMsg := ⟨(b.getD 0 0 : Nat), (b.getD 1 0 : Nat), (b.getD 2 0 : Nat), (valN ((b.drop 3).take 4) : Nat), (valN ((b.drop 7).take 4) : Nat), cellsOf ((b.drop 13).take (2 * manyB b))⟩
def zeroM : GMsg := ⟨0, 0, 0, 0, 0, []⟩
def readE (b : List Nat) : Nat := if readE0 b = 0 then msgF (readM0 b) else readE0 b
def readM (b : List Nat) : GMsg := if readE b = 0 then readM0 b else zeroM

theorem valN_be4 (n : Nat) (h : n < 4294967296) : valN (be4 n) = n := by simp [valN, be4]; omega
theorem valN_be2 (n : Nat) (h : n < 65536) : valN (be2 n) = n := by simp [valN, be2]; omega
theorem manyB_frame {m : GMsg} (hl : m.cells.length < 65536) (t : List Nat) : manyB (headM m ++ t) = m.cells.length := by
  unfold manyB
  have : (headM m ++ t).drop 11 = be2 m.cells.length ++ (m.cells.flatMap cellB ++ t) := by simp [headM, be4]
  rw [this, List.take_append_of_le_length (by simp [be2])]
  rw [show (be2 m.cells.length).take 2 = be2 m.cells.length from rfl]
  exact valN_be2 _ hl
theorem cellsOf_flat : ∀ (l : List Cell), (∀ c ∈ l, -64 ≤ c.1 ∧ c.1 < 64 ∧ -64 ≤ c.2 ∧ c.2 < 64) → cellsOf (l.flatMap cellB) = l
  | [], _ => rfl
  | c :: l, h => by
    have h1 := h c (by simp)
    rw [List.flatMap_cons]
    show cellsOf (((c.1 + 64) % 256).toNat :: ((c.2 + 64) % 256).toNat :: (l.flatMap cellB)) = _
    rw [cellsOf, cellsOf_flat l fun d hd => h d (by simp [hd])]
    obtain ⟨x, y⟩ := c
    simp only at h1 ⊢
    congr 2 <;> omega
theorem readM0_frame {m : GMsg} (h : msgF m = 0) (hc : 0 ≤ m.clock ∧ m.clock < 4294967296) (t : List Nat) : readM0 (headM m ++ t) = m := by
  obtain ⟨h0, h1⟩ := msgF_zero h
  have h0 := msgF0_zero h0
  have h1 := cellsF_zero h1
  have hm := manyB_frame (m := m) (by omega) t
  unfold readM0
  rw [hm]
  have e3 : ((headM m ++ t).drop 3).take 4 = be4 m.seq.toNat := by simp [headM, be4]
  have e7 : ((headM m ++ t).drop 7).take 4 = be4 m.clock.toNat := by simp [headM, be4]
  have e13 : ((headM m ++ t).drop 13).take (2 * m.cells.length) = m.cells.flatMap cellB := by
    have : (headM m ++ t).drop 13 = m.cells.flatMap cellB ++ t := by simp [headM, be4, be2]
    rw [this, List.take_append_of_le_length (by rw [cellB_len]; omega), List.take_of_length_le (by rw [cellB_len]; omega)]
  rw [e3, e7, e13, valN_be4 _ (by omega), valN_be4 _ (by omega), cellsOf_flat _ h1.2]
  obtain ⟨k, s, d, q, c, l⟩ := m
  simp only [headM, List.cons_append, List.getD_cons_zero, List.getD_cons_succ] at *
  congr 1 <;> omega
theorem readE0_frame {m : GMsg} (h : msgF m = 0) : readE0 (frameM m) = 0 := by
  obtain ⟨h0, h1⟩ := msgF_zero h
  have h8 := headM_lt h0
  have h1 := cellsF_zero h1
  have hm : manyB (frameM m) = m.cells.length := manyB_frame (by omega) _
  have hl := headM_len m
  unfold readE0
  rw [hm, frameM_len, if_neg (by omega), if_neg (by omega), if_neg (by omega)]
  have e1 : (frameM m).drop (13 + 2 * m.cells.length) = be4 (crc (headM m)) := by rw [← hl]; exact List.drop_left
  have e2 : (frameM m).take (13 + 2 * m.cells.length) = headM m := by rw [← hl]; exact List.take_left
  rw [e1, e2, valN_be4 _ (crc_lt _ h8), if_neg (by simp)]
/-- what is written is read -/
theorem back_law {m : GMsg} (h : msgF m = 0) (hc : 0 ≤ m.clock ∧ m.clock < 4294967296) : readE (frameM m) = 0 ∧ readM (frameM m) = m := by
  have h1 : readE (frameM m) = 0 := by
    unfold readE
    rw [if_pos (readE0_frame h)]
    show msgF (readM0 (headM m ++ _)) = 0
    rw [readM0_frame h hc, h]
  refine ⟨h1, ?_⟩
  unfold readM
  rw [if_pos h1]
  exact readM0_frame h hc _
theorem valN_one {p q : List Nat} {x y : Nat} (h : valN (p ++ x :: q) = valN (p ++ y :: q)) : x = y := by
  rcases Nat.lt_trichotomy x y with h1 | h1 | h1
  all_goals try exact h1
  all_goals
    exfalso
    have key : ∀ (q : List Nat) (a b : Nat), a < b → q.foldl (fun n x => 256 * n + x) a < q.foldl (fun n x => 256 * n + x) b := by
      intro q
      induction q with
      | nil => intro a b h; exact h
      | cons z q ih => intro a b h; exact ih _ _ (show 256 * a + z < 256 * b + z by omega)
    unfold valN at h
    rw [List.foldl_append, List.foldl_append, List.foldl_cons, List.foldl_cons] at h
  · have := key q (256 * p.foldl (fun n x => 256 * n + x) 0 + x) (256 * p.foldl (fun n x => 256 * n + x) 0 + y) (by omega)
    omega
  · have := key q (256 * p.foldl (fun n x => 256 * n + x) 0 + y) (256 * p.foldl (fun n x => 256 * n + x) 0 + x) (by omega)
    omega
/-- with one byte changed it is refused -/
theorem flip_msg {m : GMsg} (h : msgF m = 0) {i z y : Nat} (hz : (frameM m)[i]? = some z) (hy : y < 256) (hne : z ≠ y) : readE ((frameM m).set i y) ≠ 0 := by
  obtain ⟨h0, h1⟩ := msgF_zero h
  have h8 := headM_lt h0
  have hf8 := frameM_lt h0
  have h1 := cellsF_zero h1
  have hl := headM_len m
  have hfl := frameM_len m
  have hm : manyB (frameM m) = m.cells.length := manyB_frame (by omega) _
  have hi : i < (frameM m).length := (List.getElem?_eq_some_iff.1 hz).1
  have e1 : (frameM m).drop (13 + 2 * m.cells.length) = be4 (crc (headM m)) := by rw [← hl]; exact List.drop_left
  have e2 : (frameM m).take (13 + 2 * m.cells.length) = headM m := by rw [← hl]; exact List.take_left
  suffices hE : readE0 ((frameM m).set i y) ≠ 0 by
    unfold readE
    rw [if_neg hE]
    exact hE
  intro hE
  unfold readE0 at hE
  rw [List.length_set] at hE
  split at hE
  · cases hE
  split at hE
  · cases hE
  split at hE
  · cases hE
  split at hE
  · cases hE
  rename_i _ _ hn hv
  have hn : manyB ((frameM m).set i y) = m.cells.length := by omega
  rw [hn] at hv
  have hv : valN (((frameM m).set i y).drop (13 + 2 * m.cells.length)) = crc (((frameM m).set i y).take (13 + 2 * m.cells.length)) := Classical.byContradiction hv
  by_cases hin : i < 13 + 2 * m.cells.length
  · rw [List.drop_set_of_lt (by omega), e1, valN_be4 _ (crc_lt _ h8), List.take_set, e2] at hv
    have hz' : (headM m)[i]? = some z := by rw [← e2, List.getElem?_take, if_pos hin]; exact hz
    obtain ⟨p, q, hpq, hp⟩ := parted hz'
    rw [hpq] at hv h8
    rw [List.set_append_right _ _ (by omega), hp, Nat.sub_self, List.set_cons_zero] at hv
    have := crc_one (fun x hx => h8 x (by simp [hx])) (fun x hx => h8 x (by simp [hx])) (h8 z (by simp)) hy hv
    exact hne this
  · rw [List.drop_set, if_neg (by omega), e1, List.take_set_of_le (by omega), e2] at hv
    have hz' : (be4 (crc (headM m)))[i - (13 + 2 * m.cells.length)]? = some z := by rw [← e1, List.getElem?_drop, ← hz]; congr 1; omega
    obtain ⟨p, q, hpq, hp⟩ := parted hz'
    have hb := valN_be4 _ (crc_lt _ h8)
    rw [hpq] at hv hb
    rw [List.set_append_right _ _ (by omega), hp, Nat.sub_self, List.set_cons_zero] at hv
    exact hne (valN_one (hb.trans hv.symm))
theorem manyB_take {b : List Nat} {k : Nat} (hk : 13 ≤ k) : manyB (b.take k) = manyB b := by
  unfold manyB
  rw [List.drop_take, List.take_take, Nat.min_eq_left (by omega)]
/-- no beginning of it, and nothing behind it -/
theorem short_law {m : GMsg} (h : msgF m = 0) {k : Nat} (hk : k < (frameM m).length) : readE ((frameM m).take k) = 14 := by
  obtain ⟨h0, h1⟩ := msgF_zero h
  have h1 := cellsF_zero h1
  have hfl := frameM_len m
  have hm : manyB (frameM m) = m.cells.length := manyB_frame (by omega) _
  have hE : readE0 ((frameM m).take k) = 14 := by
    unfold readE0
    have hlen : ((frameM m).take k).length = k := by rw [List.length_take]; omega
    rw [hlen]
    by_cases h17 : k < 17
    · rw [if_pos h17]
    · rw [if_neg h17, manyB_take (by omega), hm, if_pos (by omega)]
  unfold readE
  rw [if_neg (by rw [hE]; omega), hE]
theorem long_law {m : GMsg} (h : msgF m = 0) (x : Nat) (t : List Nat) : readE (frameM m ++ (x :: t)) = 3 := by
  obtain ⟨h0, h1⟩ := msgF_zero h
  have h1 := cellsF_zero h1
  have hfl := frameM_len m
  have hm : manyB (frameM m ++ (x :: t)) = m.cells.length := by
    unfold frameM
    rw [List.append_assoc]
    exact manyB_frame (by omega) _
  have hE : readE0 (frameM m ++ (x :: t)) = 3 := by
    unfold readE0
    rw [hm]
    simp only [List.length_append, List.length_cons, hfl]
    rw [if_neg (by omega), if_neg (by omega), if_pos (by omega)]
  unfold readE
  rw [if_neg (by rw [hE]; omega), hE]
end Go.Proofs.Ytaahpjjffggaiaa
