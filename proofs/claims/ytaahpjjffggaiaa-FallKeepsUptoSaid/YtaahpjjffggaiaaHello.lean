/- fall.Hello, slices.EqualFunc at messages. Conditions: those typed. -/
import Derived.Test.YtaahpjjffggaiaaBackAll
import Derived.Deep.DeepCutAuto
namespace Go.Proofs.Ytaahpjjffggaiaa
open Go.RowKit Go.Gy
set_option linter.unusedVariables false
structure SM where
  m : GMsg
  A : Option Addr
  n : Nat
  c : Nat
def encM (s : SM) : List Value := [.int .i64 s.m.kind, .int .i64 s.m.src, .int .i64 s.m.dst, .int .i64 s.m.seq, .int .u32 s.m.clock, .slice s.A s.n s.c]
theorem encM_len (s : SM) : (encM s).length = 6 := rfl
theorem info_msg : (Try.prog.info? 28).map (fun i => (i.zero, i.size, i.bytes)) = some (some (.agg #[.int .i64 0, .int .i64 0, .int .i64 0, .int .i64 0, .int .u32 0, .slice none 0 0]), 6, 64) := by kernel_rfl
def beatM (arm seq clock : Int) : GMsg := ⟨3, arm, 4, seq, clock, []⟩
def askM (arm seq clock : Int) (l : List Cell) : GMsg := ⟨0, arm, 4, seq, clock, l⟩
/-- the messages after a fall -/
def helloL (l : List Cell) (arm seq clock : Int) : List GMsg := beatM arm seq clock :: (if l = [] then [] else [askM arm seq clock l])
/-- the check of them -/
def helloC (l : List Cell) (arm seq clock : Int) : Nat := if msgF0 (beatM arm seq clock) ≠ 0 then msgF0 (beatM arm seq clock) else cellsF l
/-- a list of messages, own -/
def MsgsAt (w : World) (base : Nat) (v : Value) (L : List SM) : Prop := ∃ A N C, v = .slice A N C ∧ w.ownsRow base 28 6 v L.length (L.flatMap encM) ∧ ∀ s ∈ L, MsgAt w w.heap.size s.m s.A s.n s.c
theorem MsgsAt.below {w w' : World} {base : Nat} {v : Value} {L : List SM} (h : MsgsAt w base v L) (hb : Below w.heap.size w w') : MsgsAt w' base v L := by
  obtain ⟨A, N, C, h1, h2, h3⟩ := h
  exact ⟨A, N, C, h1, own_below h2 hb (Nat.le_refl _), fun s hs => ((h3 s hs).below hb).more hb.size⟩
def HelloPost (l : List Cell) (arm seq clock : Int) (w : World) (e : Ending) (w' : World) : Prop := ∃ (v : Value) (L : List SM), e = .returned (.tuple #[v, .int .i64 ((helloC l arm seq clock : Nat) : Int)]) ∧ (helloC l arm seq clock ≠ 0 → v = .slice none 0 0) ∧ (helloC l arm seq clock = 0 → L.map (·.m) = helloL l arm seq clock ∧ MsgsAt w' w.heap.size v L) ∧ Below w.heap.size w w'
theorem hello_check {l : List Cell} {arm seq clock : Int} : msgF (beatM arm seq clock) = msgF0 (beatM arm seq clock) := by
  unfold msgF
  split
  · rename_i h; rw [h]; rfl
  · rfl
theorem hello_ask {l : List Cell} {arm seq clock : Int} (h : msgF0 (beatM arm seq clock) = 0) : msgF (askM arm seq clock l) = cellsF l := by
  have h1 := msgF0_zero h
  have h2 : msgF0 (askM arm seq clock l) = 0 := by
    simp only [beatM] at h1
    unfold msgF0 askM
    simp only
    rw [if_neg (by omega), if_neg (by omega), if_neg (by omega), if_neg (by omega)]
  unfold msgF
  rw [if_pos h2]
  rfl
theorem hello_bad {l : List Cell} {arm seq clock : Int} {L : List SM} {k : Nat} {s : SM} (hL : L.map (·.m) = helloL l arm seq clock) (hk : L[k]? = some s) (hb : ∀ j s, j < k → L[j]? = some s → msgF s.m = 0) (hX : msgF s.m ≠ 0) : helloC l arm seq clock = msgF s.m := by
  have h1 : (helloL l arm seq clock)[k]? = some s.m := by rw [← hL, List.getElem?_map, hk]; rfl
  match k, hk, hb, h1 with
  | 0, hk, hb, h1 =>
    simp only [helloL, List.getElem?_cons_zero, Option.some.injEq] at h1
    rw [← h1, hello_check (l := l)] at hX ⊢
    unfold helloC
    rw [if_pos hX]
  | 1, hk, hb, h1 =>
    have h0 : ∃ s0, L[0]? = some s0 ∧ s0.m = beatM arm seq clock := by
      have h2 : (L.map (·.m))[0]? = some (beatM arm seq clock) := by rw [hL]; rfl
      rw [List.getElem?_map] at h2
      cases h3 : L[0]? with
      | none => rw [h3] at h2; cases h2
      | some s0 => rw [h3] at h2; exact ⟨s0, rfl, by simpa using h2⟩
    obtain ⟨s0, e0, e1⟩ := h0
    have h4 := hb 0 s0 (by omega) e0
    rw [e1, hello_check (l := l)] at h4
    unfold helloC
    rw [if_neg (by simpa using h4)]
    unfold helloL at h1
    split at h1
    · simp at h1
    · simp only [List.getElem?_cons_succ, List.getElem?_cons_zero, Option.some.injEq] at h1
      rw [← h1, hello_ask h4]
  | k + 2, hk, hb, h1 =>
    exfalso
    unfold helloL at h1
    split at h1 <;> simp at h1
theorem hello_good {l : List Cell} {arm seq clock : Int} {L : List SM} (hL : L.map (·.m) = helloL l arm seq clock) (hb : ∀ j s, j < L.length → L[j]? = some s → msgF s.m = 0) : helloC l arm seq clock = 0 := by
  have h : ∀ x ∈ helloL l arm seq clock, msgF x = 0 := fun x hx => by
    rw [← hL] at hx
    obtain ⟨s, hs, rfl⟩ := List.mem_map.1 hx
    obtain ⟨j, hj, e⟩ := List.getElem_of_mem hs
    exact hb j s hj (by rw [List.getElem?_eq_getElem hj, e])
  have h0 := h (beatM arm seq clock) (by simp [helloL])
  rw [hello_check (l := l)] at h0
  unfold helloC
  rw [if_neg (by simpa using h0)]
  by_cases hl : l = []
  · rw [hl]; rfl
  · have h1 := h (askM arm seq clock l) (by simp [helloL, hl])
    rwa [hello_ask h0] at h1
theorem beat_at (w : World) (B : Nat) (arm seq clock : Int) : MsgAt w B (beatM arm seq clock) none 0 0 := ⟨rfl, Nat.le_refl _, fun _ => ⟨rfl, rfl⟩, by omega, ⟨rfl, fun h => by omega⟩⟩
def HelRel (wc : World) (L : List SM) (i : Value) (wr : World) : Prop := ∃ k : Nat, k ≤ L.length ∧ i = .int .i64 (k : Int) ∧ (∀ j s, j < k → L[j]? = some s → msgF s.m = 0) ∧ Below wc.heap.size wc wr
def HelCut (w : World) (l : List Cell) (arm seq clock : Int) (v : Value) (wx : World) : Prop := ∃ (L : List SM), L.map (·.m) = helloL l arm seq clock ∧ MsgsAt wx w.heap.size v L ∧ Below w.heap.size w wx
set_option maxRecDepth 100000 in
set_option maxHeartbeats 4000000 in
theorem hello_any (w : World) (m : GMem) (arm seq clock : Int) (A : Option Addr) (n c : Nat) (A' : Option Addr) (n' c' : Nat)
    (ha : SlC w w.heap.size (.slice A n c) m.asked) (hn : n ≤ 8796093022207) :
    Calls Try.prog 40 #[memV m A n c A' n' c', .int .i64 arm, .int .i64 seq, .int .u32 clock] w (HelloPost m.asked arm seq clock w) := by
  obtain ⟨j0, hj, hy0, hy1, hy2⟩ := info_parts info_msg
  obtain ⟨g, t, l, l', f⟩ := m
  have hl := ha.parts
  have hb1 : Below w.heap.size w (w.alloc (.cells (memRow ⟨g, t, l, l', f⟩ A n c A' n' c') 46)) := (Below.refl _ _).alloc (Nat.le_refl _) _
  have hb2 := hb1.alloc (by simp) (.cells #[.int .i64 3, .int .i64 arm, .int .i64 4, .int .i64 seq, .int .u32 clock, .slice none 0 0] 28)
  have hm1 := Blk.new w 46 (memRow ⟨g, t, l, l', f⟩ A n c A' n' c')
  have ho1 := World.ownsRow_lit (e := 28) (size := 6) (base := w.heap.size) (w.alloc (.cells (memRow ⟨g, t, l, l', f⟩ A n c A' n' c') 46)) #[.int .i64 3, .int .i64 arm, .int .i64 4, .int .i64 seq, .int .u32 clock, .slice none 0 0] 1 (by simp) (by decide) rfl
  simp only [World.size_alloc] at ho1
  have hm2 := hm1.alloc (.cells #[.int .i64 3, .int .i64 arm, .int .i64 4, .int .i64 seq, .int .u32 clock, .slice none 0 0] 28)
  have Hb2 := Lib.hid hb2
  have Hm2 := Lib.hid hm2
  have Ho1 := Lib.hid ho1
  have Ha := Lib.hid ha
  have Hl := Lib.hid hl
  clear hb1 hb2 hm1 hm2 ho1 ha hl
  go_enter Try.func40, Try.ntmps40
  go_upto_if 22 with (fail)
  go_cut [10] (fun v wx => HelCut w l arm seq clock v wx)
  case first =>
    have m2 := Hm2.out.cell 2 _ rfl
    by_cases hn0 : n = 0
    · have hl0 := Lib.hid (show l = [] from List.eq_nil_of_length_eq_zero (by have := Hl.out.1; simp only at this; omega))
      have h0 : ¬ (0 : Int) < (n : Int) := by omega
      clear hn0
      go_wp2_with fail
      go_meet
      exact ⟨[⟨beatM arm seq clock, none, 0, 0⟩], by simp [helloL, hl0.out], ⟨_, _, _, rfl, Ho1.out, fun s hs => by
        rw [List.mem_singleton.1 hs]
        exact beat_at _ _ _ _ _⟩, Hb2.out⟩
    · have hl0 : l ≠ [] := fun h => hn0 (by have := Hl.out.1; simp only at this; rw [← this, h]; rfl)
      have h0 : (0 : Int) < (n : Int) := by omega
      have HC := Lib.hid (clone_cells ((w.alloc (.cells (memRow ⟨g, t, l, l', f⟩ A n c A' n' c') 46)).alloc (.cells #[.int .i64 3, .int .i64 arm, .int .i64 4, .int .i64 seq, .int .u32 clock, .slice none 0 0] 28)) A n c l (fun h => by have := Hl.out.2; exact ⟨by have := this.2.1 h; omega, this.2.1 h⟩) Hl.out.1 hn ((Hl.out.2.2.2.below (Hb2.out)).more Hb2.out.size))
      go_wp2_with fail
      refine HC.out.mono ?_
      rintro e w3 ⟨v3, rfl, ho3, hb3⟩
      obtain ⟨A3, c3, rfl, _, _, _⟩ := own_rd ho3
      have hbw3 := Hb2.out.trans (hb3.mono Hb2.out.size)
      have hz3 := hbw3.size
      have HL3 := Lib.hid (own_below Ho1.out hb3 (Nat.le_refl _))
      have Ho3 := Lib.hid ho3
      have Hbw3 := Lib.hid hbw3
      clear ho3 hb3 hbw3 HC
      go_wp2_with (at_builtin; go_loud (refine wpList_pushG rfl (.tmp 23) (.tmp 31) 80 rfl w.heap.size 28 j0 (.agg #[.int .i64 0, .int .i64 0, .int .i64 0, .int .i64 0, .int .u32 0, .slice none 0 0]) 6 64 Try.underlying80 hj hy0 hy1 hy2 rfl (by omega) _ 1 _ rfl HL3.out [.int .i64 0, .int .i64 arm, .int .i64 4, .int .i64 seq, .int .u32 clock, .slice A3 n c3] rfl rfl (by simp [Value.oneCell']) (by unfold maxLen; omega) (by omega) hz3 ?_); intro v4 w4 hn4 hb4 hg4 _; have HN4 := Lib.hid hn4; have HB4 := Lib.hid hb4; have HG4 := Lib.hid hg4; clear hn4 hb4 hg4)
      go_meet
      have hk3 := Ho3.out.kept HG4.out (own_apart Ho3.out HL3.out (by decide))
      obtain ⟨A4, c4, rfl, _, _, _⟩ := own_rd HN4.out
      refine ⟨[⟨beatM arm seq clock, none, 0, 0⟩, ⟨askM arm seq clock l, A3, n, c3⟩], by simp [helloL, hl0], ⟨_, _, _, rfl, HN4.out, fun s hs => ?_⟩, Hbw3.out.trans HB4.out⟩
      rcases List.mem_cons.1 hs with rfl | hs
      · exact beat_at _ _ _ _ _
      · rw [List.mem_singleton.1 hs]
        exact MsgAt.of_own hk3 Hl.out.1 hn
  case rest =>
    obtain ⟨L, hL, ⟨A4, N4, C4, rfl, ho, hms⟩, hb⟩ := hcut
    obtain ⟨A5, c5, e5, _, _, hr⟩ := own_rd ho
    injection e5 with e5 e6 e7
    subst e5 e6 e7
    have HL := Lib.hid hL
    have Hms := Lib.hid hms
    have Ho := Lib.hid ho
    have Hr := Lib.hid hr
    have Hb := Lib.hid hb
    obtain ⟨N, hN⟩ : ∃ N, N = L.length := ⟨_, rfl⟩
    rw [← hN] at Hr ⊢
    have hN' := Lib.hid hN
    have hN2 : N ≤ 2 := by
      rw [hN, ← List.length_map (f := (·.m)), hL]
      unfold helloL
      split <;> simp
    clear hL hms ho hr hb hN
    go_wp2_with fail
    go_loopw [35] (fun i wr => HelRel wc L i wr) (fun i _ => N - (intOf i).toNat)
    case atStart => exact ⟨0, Nat.zero_le _, rfl, fun j s h => absurd h (by omega), Below.refl _ _⟩
    case round =>
      obtain ⟨k, hk, rfl, hok, hbr⟩ := hrel
      rw [← hN'.out] at hk
      have Hok := Lib.hid hok
      have Hbr := Lib.hid hbr
      have hzr := hbr.size
      clear hok hbr
      by_cases hlt : k < N
      · have hlt' : (k : Int) < (N : Int) := by omega
        obtain ⟨b, o, s, rfl, hbb, hs, hc⟩ := (Hr.out.below Hbr.out).elem encM_len hN'.out.symm hlt
        have hms := ((Hms.out s (List.mem_of_getElem? hs)).below Hbr.out).more hzr
        have Hs := Lib.hid hs
        obtain ⟨⟨mk, ms, md, mq, mt, ml⟩, A7, n7, c7⟩ := s
        have c0 : wr.cell? ⟨b, o + k * 6, none⟩ = some (.int .i64 mk) := hc 0 _ rfl
        have c1 : wr.cell? ⟨b, o + k * 6 + 1, none⟩ = some (.int .i64 ms) := hc 1 _ rfl
        have c2 : wr.cell? ⟨b, o + k * 6 + 2, none⟩ = some (.int .i64 md) := hc 2 _ rfl
        have c3 : wr.cell? ⟨b, o + k * 6 + 3, none⟩ = some (.int .i64 mq) := hc 3 _ rfl
        have c4 : wr.cell? ⟨b, o + k * 6 + 4, none⟩ = some (.int .u32 mt) := hc 4 _ rfl
        have c5 : wr.cell? ⟨b, o + k * 6 + 5, none⟩ = some (.slice A7 n7 c7) := hc 5 _ rfl
        have Hm := Lib.hid hms
        clear hs hc hms
        go_upto_region 7 with (fail)
        have hN6 := Blk.new wr 28 #[.int .i64 mk, .int .i64 ms, .int .i64 md, .int .i64 mq, .int .u32 mt, .slice A7 n7 c7]
        have hb6 : Below wr.heap.size wr (wr.alloc (.cells #[.int .i64 mk, .int .i64 ms, .int .i64 md, .int .i64 mq, .int .u32 mt, .slice A7 n7 c7] 28)) := (Below.refl _ _).alloc (Nat.le_refl _) _
        generalize wr.alloc (.cells #[.int .i64 mk, .int .i64 ms, .int .i64 md, .int .i64 mq, .int .u32 mt, .slice A7 n7 c7] 28) = w6 at hN6 hb6 ⊢
        have hC := check_any w6 ⟨mk, ms, md, mq, mt, ml⟩ A7 n7 c7 ((Hm.out.below hb6).more hb6.size)
        obtain ⟨X, hX⟩ : ∃ X, X = msgF ⟨mk, ms, md, mq, mt, ml⟩ := ⟨_, rfl⟩
        rw [← hX] at hC
        have HC := Lib.hid hC
        have HX := Lib.hid hX
        have Hb16 := Lib.hid (Hbr.out.trans (hb6.mono hzr))
        have e0 := hN6.cell 0 _ rfl
        have e1 := hN6.cell 1 _ rfl
        have e2 := hN6.cell 2 _ rfl
        have e3 := hN6.cell 3 _ rfl
        have e4 := hN6.cell 4 _ rfl
        have e5 := hN6.cell 5 _ rfl
        clear hC hX hb6 c0 c1 c2 c3 c4 c5 hN6
        go_wp2_with fail
        refine HC.out.mono ?_
        rintro e w7 ⟨rfl, hb7⟩
        have Hb17 := Lib.hid (Hb16.out.trans (hb7.mono Hb16.out.size))
        clear hb7 HC e0 e1 e2 e3 e4 e5 Hb16
        by_cases hX0 : X = 0
        · subst hX0
          have Hnx := Lib.hid (show HelRel wc L (.int .i64 ((k : Int) + 1)) w7 from ⟨k + 1, by have := hN'.out; omega, by go_num, fun j s hj hs => by
            rcases Nat.lt_or_ge j k with h | h
            · exact Hok.out j s h hs
            · obtain rfl : j = k := by omega
              rw [Hs.out] at hs
              injection hs with hs
              rw [← hs]
              exact HX.out.symm, Hb17.out⟩)
          go_wp2_with fail
          go_roundw
          case rel => exact Hnx.out
          case measure => simp [intOf]; omega
        · have hXb : ((X : Int) != 0) = true := by simp; omega
          have HP := Lib.hid (show HelloPost l arm seq clock w (.returned (.tuple #[.slice none 0 0, .int .i64 (X : Int)])) w7 from by
            have h := hello_bad HL.out Hs.out Hok.out (by rw [← HX.out]; exact hX0)
            rw [← HX.out] at h
            exact ⟨_, L, by rw [h], fun _ => rfl, fun h2 => absurd (h ▸ h2) hX0, Hb.out.trans (Hb17.out.mono Hb.out.size)⟩)
          go_wp2_with fail
          go_ret2
          exact HP.out
      · obtain rfl : k = N := by omega
        have HP := Lib.hid (show HelloPost l arm seq clock w (.returned (.tuple #[.slice A4 k C4, .int .i64 0])) wr from by
          have h := hello_good HL.out (fun j s hj hs => Hok.out j s (by rw [hN'.out]; exact hj) hs)
          refine ⟨_, L, by rw [h]; rfl, fun h2 => absurd h h2, fun _ => ⟨HL.out, ?_⟩, Hb.out.trans (Hbr.out.mono Hb.out.size)⟩
          refine MsgsAt.below (w := wc) ⟨_, _, _, rfl, ?_, Hms.out⟩ Hbr.out
          rw [hN'.out]
          exact Ho.out)
        go_wp2_with fail
        go_ret2
        exact HP.out
def EqRel (w : World) (i : Value) (wr : World) (N : Nat) : Prop := ∃ k : Nat, k ≤ N ∧ i = .int .i64 (k : Int) ∧ Below w.heap.size w wr
set_option maxRecDepth 100000 in
set_option maxHeartbeats 4000000 in
theorem equalmsgs_any (w : World) (b b' : Nat) (v v' : Value) (L L' : List SM) (hv : MsgsAt w b v L) (hv' : MsgsAt w b' v' L') (h : L.map (·.m) = L'.map (·.m)) (hl : L.length ≤ 100) :
    Calls Try.prog 46 #[v, v', .func (.func 47) #[] #[]] w (BoolPost true w) := by
  obtain ⟨A, N, C, rfl, ho, hm⟩ := hv
  obtain ⟨A', N', C', rfl, ho', hm'⟩ := hv'
  obtain ⟨A5, c5, e5, _, _, hr⟩ := own_rd ho
  injection e5 with e5 e6 e7
  obtain ⟨A6, c6, e8, _, _, hr'⟩ := own_rd ho'
  injection e8 with e8 e9 e10
  have hlen : L.length = L'.length := by have := congrArg List.length h; simpa using this
  rw [← e5, ← e6] at hr
  rw [← e8, ← e9] at hr'
  obtain rfl : N = N' := by omega
  have Hr := Lib.hid hr
  have Hr' := Lib.hid hr'
  have Hm := Lib.hid hm
  have Hm' := Lib.hid hm'
  have Hh := Lib.hid h
  have HN := Lib.hid e6
  have HN' := Lib.hid e9
  clear e5 e6 e7 e8 e9 e10 ho ho' hr hr' hm hm' h hlen
  go_enter Try.func46, Try.ntmps46
  have hn100 : N ≤ 100 := by have := HN.out; omega
  go_wp2_with fail
  go_loopw [17] (fun i wr => EqRel w i wr N) (fun i _ => N - (intOf i).toNat)
  case atStart => exact ⟨0, Nat.zero_le _, rfl, Below.refl _ _⟩
  case round =>
    obtain ⟨k, hk, rfl, hbr⟩ := hrel
    have Hbr := Lib.hid hbr
    have hzr := hbr.size
    clear hbr
    by_cases hlt : k < N
    · have hlt' : (k : Int) < (N : Int) := by omega
      obtain ⟨b1, o1, s, rfl, hbb, hs, hc⟩ := (Hr.out.below Hbr.out).elem encM_len HN.out.symm hlt
      obtain ⟨b2, o2, s', rfl, hbb', hs', hc'⟩ := (Hr'.out.below Hbr.out).elem encM_len HN'.out.symm hlt
      have hms := ((Hm.out s (List.mem_of_getElem? hs)).below Hbr.out).more hzr
      have hms' := ((Hm'.out s' (List.mem_of_getElem? hs')).below Hbr.out).more hzr
      have hss : s.m = s'.m := by
        have h1 : (L.map (·.m))[k]? = some s.m := by rw [List.getElem?_map, hs]; rfl
        have h2 : (L'.map (·.m))[k]? = some s'.m := by rw [List.getElem?_map, hs']; rfl
        rw [Hh.out, h2] at h1
        injection h1 with h1
        exact h1.symm
      obtain ⟨⟨mk, ms, md, mq, mt, ml⟩, A7, n7, c7⟩ := s
      obtain ⟨m', A8, n8, c8⟩ := s'
      simp only at hss
      subst hss
      have c0 : wr.cell? ⟨b1, o1 + k * 6, none⟩ = some (.int .i64 mk) := hc 0 _ rfl
      have c1 : wr.cell? ⟨b1, o1 + k * 6 + 1, none⟩ = some (.int .i64 ms) := hc 1 _ rfl
      have c2 : wr.cell? ⟨b1, o1 + k * 6 + 2, none⟩ = some (.int .i64 md) := hc 2 _ rfl
      have c3 : wr.cell? ⟨b1, o1 + k * 6 + 3, none⟩ = some (.int .i64 mq) := hc 3 _ rfl
      have c4 : wr.cell? ⟨b1, o1 + k * 6 + 4, none⟩ = some (.int .u32 mt) := hc 4 _ rfl
      have c5 : wr.cell? ⟨b1, o1 + k * 6 + 5, none⟩ = some (.slice A7 n7 c7) := hc 5 _ rfl
      have Hd := Lib.hid (show ∀ wy, Below wr.heap.size wr wy → wy.cell? ⟨b2, o2 + k * 6, none⟩ = some (.int .i64 mk) ∧ wy.cell? ⟨b2, o2 + k * 6 + 1, none⟩ = some (.int .i64 ms) ∧ wy.cell? ⟨b2, o2 + k * 6 + 2, none⟩ = some (.int .i64 md) ∧ wy.cell? ⟨b2, o2 + k * 6 + 3, none⟩ = some (.int .i64 mq) ∧ wy.cell? ⟨b2, o2 + k * 6 + 4, none⟩ = some (.int .u32 mt) ∧ wy.cell? ⟨b2, o2 + k * 6 + 5, none⟩ = some (.slice A8 n8 c8) from fun wy hy =>
        ⟨(hy.cell (by show b2 < _; omega)).trans (hc' 0 _ rfl), (hy.cell (by show b2 < _; omega)).trans (hc' 1 _ rfl), (hy.cell (by show b2 < _; omega)).trans (hc' 2 _ rfl), (hy.cell (by show b2 < _; omega)).trans (hc' 3 _ rfl), (hy.cell (by show b2 < _; omega)).trans (hc' 4 _ rfl), (hy.cell (by show b2 < _; omega)).trans (hc' 5 _ rfl)⟩)
      have Hm1 := Lib.hid hms
      have Hm2 := Lib.hid hms'
      clear hs hs' hc hc' hms hms'
      go_upto_region 6 with (fail)
      have hN6 := Blk.new wr 28 #[.int .i64 mk, .int .i64 ms, .int .i64 md, .int .i64 mq, .int .u32 mt, .slice A7 n7 c7]
      have hb6 : Below wr.heap.size wr (wr.alloc (.cells #[.int .i64 mk, .int .i64 ms, .int .i64 md, .int .i64 mq, .int .u32 mt, .slice A7 n7 c7] 28)) := (Below.refl _ _).alloc (Nat.le_refl _) _
      generalize wr.alloc (.cells #[.int .i64 mk, .int .i64 ms, .int .i64 md, .int .i64 mq, .int .u32 mt, .slice A7 n7 c7] 28) = w6 at hN6 hb6 ⊢
      obtain ⟨d0, d1, d2, d3, d4, d5⟩ := Hd.out w6 hb6
      have HN6 := Lib.hid hN6
      have Hb6 := Lib.hid hb6
      have hz6 := hN6.lt
      clear c0 c1 c2 c3 c4 c5 hN6 hb6
      go_upto_region 7 with (fail)
      have hN7 := Blk.new w6 28 #[.int .i64 mk, .int .i64 ms, .int .i64 md, .int .i64 mq, .int .u32 mt, .slice A8 n8 c8]
      have hb7 : Below w6.heap.size w6 (w6.alloc (.cells #[.int .i64 mk, .int .i64 ms, .int .i64 md, .int .i64 mq, .int .u32 mt, .slice A8 n8 c8] 28)) := (Below.refl _ _).alloc (Nat.le_refl _) _
      generalize w6.alloc (.cells #[.int .i64 mk, .int .i64 ms, .int .i64 md, .int .i64 mq, .int .u32 mt, .slice A8 n8 c8] 28) = w7 at hN7 hb7 ⊢
      have hb17 := Hb6.out.trans (hb7.mono (by omega))
      have hS := same26_any w7 ⟨mk, ms, md, mq, mt, ml⟩ ⟨mk, ms, md, mq, mt, ml⟩ A7 A8 n7 n8 c7 c8 ((Hm1.out.below hb17).more hb17.size) ((Hm2.out.below hb17).more hb17.size)
      rw [show sameM ⟨mk, ms, md, mq, mt, ml⟩ ⟨mk, ms, md, mq, mt, ml⟩ = true by simp [sameM]] at hS
      have HS := Lib.hid hS
      have hN67 := HN6.out.below hb7 hz6
      have Hb17 := Lib.hid hb17
      have e0 := hN67.cell 0 _ rfl
      have e1 := hN67.cell 1 _ rfl
      have e2 := hN67.cell 2 _ rfl
      have e3 := hN67.cell 3 _ rfl
      have e4 := hN67.cell 4 _ rfl
      have e5 := hN67.cell 5 _ rfl
      have f0 := hN7.cell 0 _ rfl
      have f1 := hN7.cell 1 _ rfl
      have f2 := hN7.cell 2 _ rfl
      have f3 := hN7.cell 3 _ rfl
      have f4 := hN7.cell 4 _ rfl
      have f5 := hN7.cell 5 _ rfl
      clear d0 d1 d2 d3 d4 d5 hN7 hb7 hb17 hS hN67 HN6 Hb6
      go_wp2_with fail
      refine HS.out.mono ?_
      rintro e w8 ⟨rfl, hb8⟩
      have Hnx := Lib.hid (show EqRel w (.int .i64 ((k : Int) + 1)) w8 N from ⟨k + 1, by omega, by go_num, Hbr.out.trans ((Hb17.out.trans (hb8.mono Hb17.out.size)).mono hzr)⟩)
      clear hb8 HS e0 e1 e2 e3 e4 e5 f0 f1 f2 f3 f4 f5
      go_wp2_with fail
      go_roundw
      case rel => exact Hnx.out
      case measure => simp [intOf]; omega
    · obtain rfl : k = N := by omega
      go_wp2_with fail
      go_ret
      exact ⟨rfl, Hbr.out⟩
end Go.Proofs.Ytaahpjjffggaiaa
