/- slices.EqualFunc at messages: equal ones. Conditions: those typed. -/
import Derived.Test.YtpnefacignalpaaNetT
namespace Go.Proofs.Ytpnefacignalpaa
open Go.RowKit Go.Gy
set_option linter.unusedVariables false
theorem encM_len (s : SM) : (encM s).length = 6 := rfl
/-- a list of messages, own -/
def MsgsAt (w : World) (base : Nat) (v : Value) (L : List SM) : Prop := ∃ A N C, v = .slice A N C ∧ w.ownsRow base 43 6 v L.length (L.flatMap encM) ∧ ∀ s ∈ L, MsgAt w w.heap.size s.m s.A s.n s.c
theorem MsgsAt.below {w w' : World} {base : Nat} {v : Value} {L : List SM} (h : MsgsAt w base v L) (hb : Below w.heap.size w w') : MsgsAt w' base v L := by
  obtain ⟨A, N, C, h1, h2, h3⟩ := h
  exact ⟨A, N, C, h1, own_below h2 hb (Nat.le_refl _), fun s hs => ((h3 s hs).below hb).more hb.size⟩
theorem MsgsAt.of {w : World} {base base' : Nat} {v : Value} {L : List SM} (h : w.ownsRow base 43 6 v L.length (L.flatMap encM)) (ho : ∀ s ∈ L, MOwn w base' s) : MsgsAt w base v L := by
  obtain ⟨A, c, rfl, _⟩ := own_rd h
  exact ⟨A, _, c, rfl, h, fun s hs => (ho s hs).at_⟩
def EqRel (w : World) (i : Value) (wr : World) (N : Nat) : Prop := ∃ k : Nat, k ≤ N ∧ i = .int .i64 (k : Int) ∧ Below w.heap.size w wr
set_option maxRecDepth 100000 in
set_option maxHeartbeats 4000000 in
theorem eqmsgs_law (w : World) (b b' : Nat) (v v' : Value) (L L' : List SM) (hv : MsgsAt w b v L) (hv' : MsgsAt w b' v' L') (h : L.map (·.m) = L'.map (·.m)) (hl : L.length ≤ 1000) :
    Calls Try.prog 22 #[v, v', .func (.func 31) #[] #[]] w (fun e w' => e = .returned (.bool true) ∧ Below w.heap.size w w') := by
  obtain ⟨A, N, C, rfl, ho, hm⟩ := hv
  obtain ⟨A', N', C', rfl, ho', hm'⟩ := hv'
  obtain ⟨A5, c5, e5, _, _, hr⟩ := own_rd ho
  injection e5 with e5 e6 e7
  obtain ⟨A6, c6, e8, _, _, hr'⟩ := own_rd ho'
  injection e8 with e8 e9 e10
  have hlen : L.length = L'.length := by have := congrArg List.length h; simpa using this
  rw [← e5, ← e6] at hr
  rw [← e8, ← e9] at hr'
  obtain rfl : N = N' := by omega
  have Hr := Lib.hid hr
  have Hr' := Lib.hid hr'
  have Hm := Lib.hid hm
  have Hm' := Lib.hid hm'
  have Hh := Lib.hid h
  have HN := Lib.hid e6
  have HN' := Lib.hid e9
  clear e5 e6 e7 e8 e9 e10 ho ho' hr hr' hm hm' h hlen
  go_enter Try.func22, Try.ntmps22
  have hn100 : N ≤ 1000 := by have := HN.out; omega
  go_wp2_with fail
  go_loopw [17] (fun i wr => EqRel w i wr N) (fun i _ => N - (intOf i).toNat)
  case atStart => exact ⟨0, Nat.zero_le _, rfl, Below.refl _ _⟩
  case round =>
    obtain ⟨k, hk, rfl, hbr⟩ := hrel
    have Hbr := Lib.hid hbr
    have hzr := hbr.size
    clear hbr
    by_cases hlt : k < N
    · have hlt' : (k : Int) < (N : Int) := by omega
      obtain ⟨b1, o1, s, rfl, hbb, hs, hc⟩ := (Hr.out.below Hbr.out).elem encM_len HN.out.symm hlt
      obtain ⟨b2, o2, s', rfl, hbb', hs', hc'⟩ := (Hr'.out.below Hbr.out).elem encM_len HN'.out.symm hlt
      have hms := ((Hm.out s (List.mem_of_getElem? hs)).below Hbr.out).more hzr
      have hms' := ((Hm'.out s' (List.mem_of_getElem? hs')).below Hbr.out).more hzr
      have hss : s.m = s'.m := by
        have h1 : (L.map (·.m))[k]? = some s.m := by rw [List.getElem?_map, hs]; rfl
        have h2 : (L'.map (·.m))[k]? = some s'.m := by rw [List.getElem?_map, hs']; rfl
        rw [Hh.out, h2] at h1
        injection h1 with h1
        exact h1.symm
      obtain ⟨⟨mk, ms, md, mq, mt, ml⟩, A7, n7, c7⟩ := s
      obtain ⟨m', A8, n8, c8⟩ := s'
      simp only at hss
      subst hss
      have c0 : wr.cell? ⟨b1, o1 + k * 6, none⟩ = some (.int .i64 mk) := hc 0 _ rfl
      have c1 : wr.cell? ⟨b1, o1 + k * 6 + 1, none⟩ = some (.int .i64 ms) := hc 1 _ rfl
      have c2 : wr.cell? ⟨b1, o1 + k * 6 + 2, none⟩ = some (.int .i64 md) := hc 2 _ rfl
      have c3 : wr.cell? ⟨b1, o1 + k * 6 + 3, none⟩ = some (.int .i64 mq) := hc 3 _ rfl
      have c4 : wr.cell? ⟨b1, o1 + k * 6 + 4, none⟩ = some (.int .u32 mt) := hc 4 _ rfl
      have c5 : wr.cell? ⟨b1, o1 + k * 6 + 5, none⟩ = some (.slice A7 n7 c7) := hc 5 _ rfl
      have Hd := Lib.hid (show ∀ wy, Below wr.heap.size wr wy → wy.cell? ⟨b2, o2 + k * 6, none⟩ = some (.int .i64 mk) ∧ wy.cell? ⟨b2, o2 + k * 6 + 1, none⟩ = some (.int .i64 ms) ∧ wy.cell? ⟨b2, o2 + k * 6 + 2, none⟩ = some (.int .i64 md) ∧ wy.cell? ⟨b2, o2 + k * 6 + 3, none⟩ = some (.int .i64 mq) ∧ wy.cell? ⟨b2, o2 + k * 6 + 4, none⟩ = some (.int .u32 mt) ∧ wy.cell? ⟨b2, o2 + k * 6 + 5, none⟩ = some (.slice A8 n8 c8) from fun wy hy =>
        ⟨(hy.cell (by show b2 < _; omega)).trans (hc' 0 _ rfl), (hy.cell (by show b2 < _; omega)).trans (hc' 1 _ rfl), (hy.cell (by show b2 < _; omega)).trans (hc' 2 _ rfl), (hy.cell (by show b2 < _; omega)).trans (hc' 3 _ rfl), (hy.cell (by show b2 < _; omega)).trans (hc' 4 _ rfl), (hy.cell (by show b2 < _; omega)).trans (hc' 5 _ rfl)⟩)
      have Hm1 := Lib.hid hms
      have Hm2 := Lib.hid hms'
      clear hs hs' hc hc' hms hms'
      go_upto_region 6 with (fail)
      have hN6 := Blk.new wr 43 #[.int .i64 mk, .int .i64 ms, .int .i64 md, .int .i64 mq, .int .u32 mt, .slice A7 n7 c7]
      have hb6 : Below wr.heap.size wr (wr.alloc (.cells #[.int .i64 mk, .int .i64 ms, .int .i64 md, .int .i64 mq, .int .u32 mt, .slice A7 n7 c7] 43)) := (Below.refl _ _).alloc (Nat.le_refl _) _
      generalize wr.alloc (.cells #[.int .i64 mk, .int .i64 ms, .int .i64 md, .int .i64 mq, .int .u32 mt, .slice A7 n7 c7] 43) = w6 at hN6 hb6 ⊢
      obtain ⟨d0, d1, d2, d3, d4, d5⟩ := Hd.out w6 hb6
      have HN6 := Lib.hid hN6
      have Hb6 := Lib.hid hb6
      have hz6 := hN6.lt
      clear c0 c1 c2 c3 c4 c5 hN6 hb6
      go_upto_region 7 with (fail)
      have hN7 := Blk.new w6 43 #[.int .i64 mk, .int .i64 ms, .int .i64 md, .int .i64 mq, .int .u32 mt, .slice A8 n8 c8]
      have hb7 : Below w6.heap.size w6 (w6.alloc (.cells #[.int .i64 mk, .int .i64 ms, .int .i64 md, .int .i64 mq, .int .u32 mt, .slice A8 n8 c8] 43)) := (Below.refl _ _).alloc (Nat.le_refl _) _
      generalize w6.alloc (.cells #[.int .i64 mk, .int .i64 ms, .int .i64 md, .int .i64 mq, .int .u32 mt, .slice A8 n8 c8] 43) = w7 at hN7 hb7 ⊢
      have hb17 := Hb6.out.trans (hb7.mono (by omega))
      have hS := same26_any w7 ⟨mk, ms, md, mq, mt, ml⟩ ⟨mk, ms, md, mq, mt, ml⟩ A7 A8 n7 n8 c7 c8 ((Hm1.out.below hb17).more hb17.size) ((Hm2.out.below hb17).more hb17.size)
      rw [show sameM ⟨mk, ms, md, mq, mt, ml⟩ ⟨mk, ms, md, mq, mt, ml⟩ = true by simp [sameM]] at hS
      have HS := Lib.hid hS
      have hN67 := HN6.out.below hb7 hz6
      have Hb17 := Lib.hid hb17
      have e0 := hN67.cell 0 _ rfl
      have e1 := hN67.cell 1 _ rfl
      have e2 := hN67.cell 2 _ rfl
      have e3 := hN67.cell 3 _ rfl
      have e4 := hN67.cell 4 _ rfl
      have e5 := hN67.cell 5 _ rfl
      have f0 := hN7.cell 0 _ rfl
      have f1 := hN7.cell 1 _ rfl
      have f2 := hN7.cell 2 _ rfl
      have f3 := hN7.cell 3 _ rfl
      have f4 := hN7.cell 4 _ rfl
      have f5 := hN7.cell 5 _ rfl
      clear d0 d1 d2 d3 d4 d5 hN7 hb7 hb17 hS hN67 HN6 Hb6
      go_wp2_with fail
      refine HS.out.mono ?_
      rintro e w8 ⟨rfl, hb8⟩
      have Hnx := Lib.hid (show EqRel w (.int .i64 ((k : Int) + 1)) w8 N from ⟨k + 1, by omega, by go_num, Hbr.out.trans ((Hb17.out.trans (hb8.mono Hb17.out.size)).mono hzr)⟩)
      clear hb8 HS e0 e1 e2 e3 e4 e5 f0 f1 f2 f3 f4 f5
      go_wp2_with fail
      go_roundw
      case rel => exact Hnx.out
      case measure => simp [intOf]; omega
    · obtain rfl : k = N := by omega
      go_wp2_with fail
      go_ret
      exact ⟨rfl, Hbr.out⟩
set_option maxRecDepth 100000 in
set_option maxHeartbeats 4000000 in
theorem eqmsgs_msg (w : World) (b b' : Nat) (v v' : Value) (L L' : List SM) (hv : MsgsAt w b v L) (hv' : MsgsAt w b' v' L') (h : L.map (·.m) = L'.map (·.m)) (hl : L.length ≤ 1000) :
    Calls Try.prog 22 #[v, v', .func (.func 23) #[] #[]] w (fun e w' => e = .returned (.bool true) ∧ Below w.heap.size w w') := by
  obtain ⟨A, N, C, rfl, ho, hm⟩ := hv
  obtain ⟨A', N', C', rfl, ho', hm'⟩ := hv'
  obtain ⟨A5, c5, e5, _, _, hr⟩ := own_rd ho
  injection e5 with e5 e6 e7
  obtain ⟨A6, c6, e8, _, _, hr'⟩ := own_rd ho'
  injection e8 with e8 e9 e10
  have hlen : L.length = L'.length := by have := congrArg List.length h; simpa using this
  rw [← e5, ← e6] at hr
  rw [← e8, ← e9] at hr'
  obtain rfl : N = N' := by omega
  have Hr := Lib.hid hr
  have Hr' := Lib.hid hr'
  have Hm := Lib.hid hm
  have Hm' := Lib.hid hm'
  have Hh := Lib.hid h
  have HN := Lib.hid e6
  have HN' := Lib.hid e9
  clear e5 e6 e7 e8 e9 e10 ho ho' hr hr' hm hm' h hlen
  go_enter Try.func22, Try.ntmps22
  have hn100 : N ≤ 1000 := by have := HN.out; omega
  go_wp2_with fail
  go_loopw [17] (fun i wr => EqRel w i wr N) (fun i _ => N - (intOf i).toNat)
  case atStart => exact ⟨0, Nat.zero_le _, rfl, Below.refl _ _⟩
  case round =>
    obtain ⟨k, hk, rfl, hbr⟩ := hrel
    have Hbr := Lib.hid hbr
    have hzr := hbr.size
    clear hbr
    by_cases hlt : k < N
    · have hlt' : (k : Int) < (N : Int) := by omega
      obtain ⟨b1, o1, s, rfl, hbb, hs, hc⟩ := (Hr.out.below Hbr.out).elem encM_len HN.out.symm hlt
      obtain ⟨b2, o2, s', rfl, hbb', hs', hc'⟩ := (Hr'.out.below Hbr.out).elem encM_len HN'.out.symm hlt
      have hms := ((Hm.out s (List.mem_of_getElem? hs)).below Hbr.out).more hzr
      have hms' := ((Hm'.out s' (List.mem_of_getElem? hs')).below Hbr.out).more hzr
      have hss : s.m = s'.m := by
        have h1 : (L.map (·.m))[k]? = some s.m := by rw [List.getElem?_map, hs]; rfl
        have h2 : (L'.map (·.m))[k]? = some s'.m := by rw [List.getElem?_map, hs']; rfl
        rw [Hh.out, h2] at h1
        injection h1 with h1
        exact h1.symm
      obtain ⟨⟨mk, ms, md, mq, mt, ml⟩, A7, n7, c7⟩ := s
      obtain ⟨m', A8, n8, c8⟩ := s'
      simp only at hss
      subst hss
      have c0 : wr.cell? ⟨b1, o1 + k * 6, none⟩ = some (.int .i64 mk) := hc 0 _ rfl
      have c1 : wr.cell? ⟨b1, o1 + k * 6 + 1, none⟩ = some (.int .i64 ms) := hc 1 _ rfl
      have c2 : wr.cell? ⟨b1, o1 + k * 6 + 2, none⟩ = some (.int .i64 md) := hc 2 _ rfl
      have c3 : wr.cell? ⟨b1, o1 + k * 6 + 3, none⟩ = some (.int .i64 mq) := hc 3 _ rfl
      have c4 : wr.cell? ⟨b1, o1 + k * 6 + 4, none⟩ = some (.int .u32 mt) := hc 4 _ rfl
      have c5 : wr.cell? ⟨b1, o1 + k * 6 + 5, none⟩ = some (.slice A7 n7 c7) := hc 5 _ rfl
      have Hd := Lib.hid (show ∀ wy, Below wr.heap.size wr wy → wy.cell? ⟨b2, o2 + k * 6, none⟩ = some (.int .i64 mk) ∧ wy.cell? ⟨b2, o2 + k * 6 + 1, none⟩ = some (.int .i64 ms) ∧ wy.cell? ⟨b2, o2 + k * 6 + 2, none⟩ = some (.int .i64 md) ∧ wy.cell? ⟨b2, o2 + k * 6 + 3, none⟩ = some (.int .i64 mq) ∧ wy.cell? ⟨b2, o2 + k * 6 + 4, none⟩ = some (.int .u32 mt) ∧ wy.cell? ⟨b2, o2 + k * 6 + 5, none⟩ = some (.slice A8 n8 c8) from fun wy hy =>
        ⟨(hy.cell (by show b2 < _; omega)).trans (hc' 0 _ rfl), (hy.cell (by show b2 < _; omega)).trans (hc' 1 _ rfl), (hy.cell (by show b2 < _; omega)).trans (hc' 2 _ rfl), (hy.cell (by show b2 < _; omega)).trans (hc' 3 _ rfl), (hy.cell (by show b2 < _; omega)).trans (hc' 4 _ rfl), (hy.cell (by show b2 < _; omega)).trans (hc' 5 _ rfl)⟩)
      have Hm1 := Lib.hid hms
      have Hm2 := Lib.hid hms'
      clear hs hs' hc hc' hms hms'
      go_upto_region 6 with (fail)
      have hN6 := Blk.new wr 43 #[.int .i64 mk, .int .i64 ms, .int .i64 md, .int .i64 mq, .int .u32 mt, .slice A7 n7 c7]
      have hb6 : Below wr.heap.size wr (wr.alloc (.cells #[.int .i64 mk, .int .i64 ms, .int .i64 md, .int .i64 mq, .int .u32 mt, .slice A7 n7 c7] 43)) := (Below.refl _ _).alloc (Nat.le_refl _) _
      generalize wr.alloc (.cells #[.int .i64 mk, .int .i64 ms, .int .i64 md, .int .i64 mq, .int .u32 mt, .slice A7 n7 c7] 43) = w6 at hN6 hb6 ⊢
      obtain ⟨d0, d1, d2, d3, d4, d5⟩ := Hd.out w6 hb6
      have HN6 := Lib.hid hN6
      have Hb6 := Lib.hid hb6
      have hz6 := hN6.lt
      clear c0 c1 c2 c3 c4 c5 hN6 hb6
      go_upto_region 7 with (fail)
      have hN7 := Blk.new w6 43 #[.int .i64 mk, .int .i64 ms, .int .i64 md, .int .i64 mq, .int .u32 mt, .slice A8 n8 c8]
      have hb7 : Below w6.heap.size w6 (w6.alloc (.cells #[.int .i64 mk, .int .i64 ms, .int .i64 md, .int .i64 mq, .int .u32 mt, .slice A8 n8 c8] 43)) := (Below.refl _ _).alloc (Nat.le_refl _) _
      generalize w6.alloc (.cells #[.int .i64 mk, .int .i64 ms, .int .i64 md, .int .i64 mq, .int .u32 mt, .slice A8 n8 c8] 43) = w7 at hN7 hb7 ⊢
      have hb17 := Hb6.out.trans (hb7.mono (by omega))
      have hS := same_any w7 ⟨mk, ms, md, mq, mt, ml⟩ ⟨mk, ms, md, mq, mt, ml⟩ A7 A8 n7 n8 c7 c8 ((Hm1.out.below hb17).more hb17.size) ((Hm2.out.below hb17).more hb17.size)
      rw [show sameM ⟨mk, ms, md, mq, mt, ml⟩ ⟨mk, ms, md, mq, mt, ml⟩ = true by simp [sameM]] at hS
      have HS := Lib.hid hS
      have hN67 := HN6.out.below hb7 hz6
      have Hb17 := Lib.hid hb17
      have e0 := hN67.cell 0 _ rfl
      have e1 := hN67.cell 1 _ rfl
      have e2 := hN67.cell 2 _ rfl
      have e3 := hN67.cell 3 _ rfl
      have e4 := hN67.cell 4 _ rfl
      have e5 := hN67.cell 5 _ rfl
      have f0 := hN7.cell 0 _ rfl
      have f1 := hN7.cell 1 _ rfl
      have f2 := hN7.cell 2 _ rfl
      have f3 := hN7.cell 3 _ rfl
      have f4 := hN7.cell 4 _ rfl
      have f5 := hN7.cell 5 _ rfl
      clear d0 d1 d2 d3 d4 d5 hN7 hb7 hb17 hS hN67 HN6 Hb6
      go_wp2_with fail
      refine HS.out.mono ?_
      rintro e w8 ⟨rfl, hb8⟩
      have Hnx := Lib.hid (show EqRel w (.int .i64 ((k : Int) + 1)) w8 N from ⟨k + 1, by omega, by go_num, Hbr.out.trans ((Hb17.out.trans (hb8.mono Hb17.out.size)).mono hzr)⟩)
      clear hb8 HS e0 e1 e2 e3 e4 e5 f0 f1 f2 f3 f4 f5
      go_wp2_with fail
      go_roundw
      case rel => exact Hnx.out
      case measure => simp [intOf]; omega
    · obtain rfl : k = N := by omega
      go_wp2_with fail
      go_ret
      exact ⟨rfl, Hbr.out⟩
end Go.Proofs.Ytpnefacignalpaa
