/- gantmake.digits. Conditions: those typed. -/
import Derived.Test.YthmgcbpmfipfiaaDoorRatA
import Derived.Test.YthmgcbpmfipfiaaDoorShelfRev
namespace Go.Proofs.YthmgcbpmfipfiaaDoor
open Go.RowKit Go.Gy Go.Sort
set_option linter.unusedVariables false
theorem natL_rev {m : Nat} (h : m ≠ 0) (l : List Nat) : natL m ++ (l.map UInt8.ofNat).reverse = natL (m / 256) ++ ((l ++ [m % 256]).map UInt8.ofNat).reverse := by
  rw [natL_pos h]
  simp
/-- a row of bytes of the call's own, turned about -/
theorem rev_own {w : World} {base g cap : Nat} {e : TypeId} {l : List Nat} (h : w.ownsRow base e 1 (.slice (some ⟨g, 0, none⟩) l.length cap) l.length (l.map bvn)) (n : Nat) :
    Holds bvn w g 0 l.toArray ∧ ∃ cs, Blk (putRow bvn (Sort.ahead w n) g 0 l.reverse.toArray) g e cs ∧ cs.toList.take l.length = l.reverse.map bvn ∧ Below base w (putRow bvn (Sort.ahead w n) g 0 l.reverse.toArray) := by
  refine ⟨fun j hj => ⟨?_, by rw [Nat.zero_add]; exact h.frozenAt j⟩, ?_⟩
  · rw [Nat.zero_add, h.cellAt j (by simpa using hj)]
    rw [getElem!_pos _ j hj]
    simp at hj
    simp [hj]
  · obtain ⟨hl, ⟨hv, _⟩ | ⟨g', cap', cur, hv, hg, hh, hnc, hcm, hcs, htk⟩⟩ := h
    · cases hv
    · injection hv with hv1 _ hv3
      injection hv1 with hv1
      injection hv1 with hv1
      subst hv1 hv3
      refine ⟨putCells bvn 0 l.reverse.toArray cur, ?_, ?_, ⟨rfl, rfl, rfl, by simp [putRow, mapBlock, Sort.ahead], fun q hq => ?_⟩⟩
      · show ((w.heap.modify g (onCells (putCells bvn 0 l.reverse.toArray))))[g]? = _
        rw [Array.getElem?_modify, if_pos rfl, hh]
        rfl
      · apply List.ext_getElem?
        intro t
        rw [List.getElem?_take]
        by_cases ht : t < l.length
        · rw [if_pos ht]
          have h2 : t < cur.size := by omega
          simp only [putCells, Array.getElem?_toList, Array.getElem?_mapIdx]
          rw [Array.getElem?_eq_getElem h2]
          simp only [Option.map_some, Nat.sub_zero, Nat.zero_add]
          rw [if_pos ⟨Nat.zero_le _, by simpa using ht⟩, getElem!_pos _ t (by simpa using ht)]
          simp [ht]
        · rw [if_neg ht, List.getElem?_eq_none (by simpa using ht)]
      · show ((w.heap.modify g (onCells (putCells bvn 0 l.reverse.toArray))))[q]? = _
        rw [Array.getElem?_modify, if_neg (by omega)]
def DgRel (w : World) (N : Nat) (x v : Value) (wr : World) : Prop := ∃ (m : Nat) (l : List Nat), x = .int .i64 m ∧ m ≤ N ∧ wr.ownsRow w.heap.size 5 1 v l.length (l.map bvn) ∧ Hid (natL N = natL m ++ (l.map UInt8.ofNat).reverse) ∧ Below w.heap.size w wr
set_option maxRecDepth 100000 in
set_option maxHeartbeats 4000000 in
theorem digits_any (w : World) (N : Nat) (hN : N ≤ 9223372036854775807) :
    Calls Tryd.prog 100 #[.int .i64 N] w fun e w' => e = .returned (.string (natS N)) ∧ Below w.heap.size w w' := by
  obtain ⟨i0, hi, hz0, hz1, hz2⟩ := info_parts info_u8
  have hlen : (natL N).length ≤ 8 := (natL_len_le N 8).mpr (by omega)
  have Hst := Lib.hid (show DgRel w N (.int .i64 N) (.slice none 0 0) w from ⟨N, [], rfl, Nat.le_refl _, ⟨rfl, .inl ⟨rfl, rfl⟩⟩, Lib.hid (by simp), Below.refl _ _⟩)
  go_enter Tryd.func100, Tryd.ntmps100
  go_wp2
  go_loopg [0, 3] N (fun k x v wr => DgRel w N x v wr ∧ ∃ m : Nat, x = .int .i64 m ∧ m ≤ k)
  case atStart => exact ⟨Hst.out, N, rfl, Nat.le_refl _⟩
  case round =>
    obtain ⟨⟨m, l, rfl, hmN, hown, HL, hbw⟩, m', hm', hmk⟩ := hrel
    injection hm' with _ hm'
    have : m = m' := by omega
    subst this
    clear hm'
    have hl8 : l.length ≤ 8 := by
      have := congrArg List.length HL.out
      simp at this
      omega
    by_cases h0 : m = 0
    · subst h0
      have HL0 := Lib.hid (show natL N = (l.map UInt8.ofNat).reverse by have := HL.out; rw [natL_zero] at this; simpa using this)
      clear HL
      have hcase := hown.2
      rcases hcase with ⟨rfl, hl0⟩ | ⟨g, cap, cur, rfl, hg, hh, hnc, hcm, hcs, htk⟩
      · have hN0 := Lib.hid (show natS N = { data := #[] } by
          have h1 := HL0.out
          rw [List.eq_nil_of_length_eq_zero hl0] at h1
          rw [natL_nil.mp h1, natS_zero])
        have HR := Lib.hid (fun w => Tryd.slices_Reverse_empty (α := Nat) none 0 w)
        clear HL0 hown hl0 hlen hmN hmk Hst hl8
        go_wp2_with fail
        refine (HR.out _).mono ?_
        rintro e w' ⟨rfl, rfl⟩
        have hcv := run_convert_bytes_nil (P := Tryd.prog) (w := w') 153 5 Tryd.underlying153 Tryd.underlying5 0 0 9 Tryd.underlying9
        go_wp2
        go_ret
        exact ⟨ret_str (by rw [hN0.out]; rfl), hbw⟩
      · have HR := Lib.hid (Tryd.slices_Reverse bvn (fun _ => rfl) g 0 cap l wr (rev_own hown 0).1 (by omega))
        have hrev := Lib.hid (fun n => (rev_own hown n).2)
        have HS := Lib.hid (show strOf l.reverse = natS N by
          apply ByteArray.ext
          apply Array.toList_inj.mp
          rw [natS_list, HL0.out]
          simp [strOf])
        clear HL0 hown hlen hmN hmk Hst hl8 hg hh hnc hcm hcs htk cur
        go_wp2_with fail
        refine HR.out.mono ?_
        rintro e w' ⟨rfl, n, rfl⟩
        obtain ⟨cs, hB, hc, hb⟩ := hrev.out n
        generalize putRow bvn (Sort.ahead wr n) g 0 l.reverse.toArray = w5 at hB hb ⊢
        have hcv := conv_blk (cap := cap) (l := l.reverse) hB (by rw [List.length_reverse]; exact hc)
        rw [List.length_reverse, HS.out] at hcv
        clear hc hB HR hrev
        go_wp2
        go_ret
        exact ⟨rfl, hbw.trans hb⟩
    · have h1 : (m : Int) > 0 := by omega
      have hzr := hbw.size
      have Hown := Lib.hid hown
      have hc : ((m : Int) % 256) = ((m % 256 : Nat) : Int) := by omega
      have HN := Lib.hid (show ∀ v' w', w'.ownsRow w.heap.size 5 1 v' (l.length + 1) (l.map bvn ++ [.int .u8 ((m : Int) % 256)]) → Below w.heap.size wr w' → DgRel w N (.int .i64 ((m : Int) / 256)) v' w' ∧ ∃ m' : Nat, Value.int .i64 ((m : Int) / 256) = .int .i64 m' ∧ m' ≤ gk - 1 from fun v' w' ho hb => by
        have hq : ((m : Int) / 256) = ((m / 256 : Nat) : Int) := by omega
        rw [hq]
        refine ⟨⟨m / 256, l ++ [m % 256], rfl, Nat.le_trans (Nat.div_le_self _ _) hmN, ?_, Lib.hid (HL.out.trans (natL_rev h0 l)), hbw.trans hb⟩, m / 256, rfl, by omega⟩
        rw [hc] at ho
        rw [List.length_append, List.map_append]
        exact ho)
      have hwd : IntKind.i64.wrap ((m : Int) / 256) = (m : Int) / 256 := by rw [IntKind.wrap_i64]; omega
      have hwc : IntKind.u8.wrap ((m : Int) % 256) = (m : Int) % 256 := by rw [IntKind.wrap_u8]; omega
      have hgk : gk - 1 < gk := by omega
      clear hc h0 hmk hmN HL hown hbw Hst
      go_wp2_with (at_builtin; refine wpList_push rfl (.tmp 8) (.tmp 12) 153 rfl w.heap.size 5 i0 (.int .u8 0) 1 1 Tryd.underlying153 hi hz0 hz1 hz2 rfl (by omega) _ l.length _ rfl Hown.out [_] rfl rfl (by simp [Value.oneCell']) (by unfold maxLen; omega) (by omega) hzr ?_; intro v6 w6 hn6 hb6 _)
      go_roundg (gk - 1)
      case measure => exact hgk
      case rel => exact HN.out _ _ hn6 hb6
end Go.Proofs.YthmgcbpmfipfiaaDoor
