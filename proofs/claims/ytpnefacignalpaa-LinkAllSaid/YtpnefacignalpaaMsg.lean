/- Messages: equality and copies. Conditions: those typed. -/
import Derived.Test.YtpnefacignalpaaCells
namespace Go.Proofs.Ytpnefacignalpaa
open Go.RowKit Go.Gy
set_option linter.unusedVariables false

/-- a message, as plain data -/
structure GMsg where
  kind : Int
  src : Int
  dst : Int
  seq : Int
  clock : Int
  cells : List Cell
/-- its value, the cells' slice given -/
abbrev msgV (m : GMsg) (A : Option Addr) (n c : Nat) : Value := .agg #[.int .i64 m.kind, .int .i64 m.src, .int .i64 m.dst, .int .i64 m.seq, .int .u32 m.clock, .slice A n c]
/-- the slice of its cells -/
structure MsgAt (w : World) (B : Nat) (m : GMsg) (A : Option Addr) (n c : Nat) : Prop where
  len : m.cells.length = n
  cap : n ≤ c
  none_ : A = none → n = 0 ∧ c = 0
  bound : n ≤ 8796093022207
  rd : Rd w B 2 A n (m.cells.flatMap encC)
def sameM (a b : GMsg) : Bool := decide (a.kind = b.kind ∧ a.src = b.src ∧ a.dst = b.dst ∧ a.seq = b.seq ∧ a.clock = b.clock ∧ a.cells = b.cells)
theorem MsgAt.below {w w' : World} {B : Nat} {m : GMsg} {A : Option Addr} {n c : Nat} (h : MsgAt w B m A n c) (hb : Below B w w') : MsgAt w' B m A n c := ⟨h.len, h.cap, h.none_, h.bound, h.rd.below hb⟩
theorem MsgAt.more {w : World} {B B' : Nat} {m : GMsg} {A : Option Addr} {n c : Nat} (h : MsgAt w B m A n c) (hB : B ≤ B') : MsgAt w B' m A n c := ⟨h.len, h.cap, h.none_, h.bound, h.rd.more hB⟩

theorem MsgAt.of_own {w : World} {base n c : Nat} {A : Option Addr} {m : GMsg} (h : w.ownsRow base 88 2 (.slice A n c) n (m.cells.flatMap encC)) (hl : m.cells.length = n) (hb : n ≤ 8796093022207) : MsgAt w w.heap.size m A n c := by
  obtain ⟨_, _, he, h1, _, h2⟩ := own_rd h
  injection he with e1 e2 e3
  subst e1 e3
  exact ⟨hl, h1, own_none h, hb, h2⟩

set_option maxRecDepth 100000 in
set_option maxHeartbeats 2000000 in
theorem same_any (w : World) (a b : GMsg) (A A' : Option Addr) (n n' c c' : Nat) (ha : MsgAt w w.heap.size a A n c) (hb : MsgAt w w.heap.size b A' n' c') :
    Calls Try.prog 23 #[msgV a A n c, msgV b A' n' c'] w fun e w' => e = .returned (.bool (sameM a b)) ∧ Below w.heap.size w w' := by
  obtain ⟨k, f, t, s, q, cs⟩ := a
  obtain ⟨k', f', t', s', q', cs'⟩ := b
  have hbel : Below w.heap.size w ((w.alloc (.cells #[.int .i64 k, .int .i64 f, .int .i64 t, .int .i64 s, .int .u32 q, .slice A n c] 43)).alloc (.cells #[.int .i64 k', .int .i64 f', .int .i64 t', .int .i64 s', .int .u32 q', .slice A' n' c'] 43)) := ((Below.refl _ _).alloc (Nat.le_refl _) _).alloc (by simp) _
  by_cases h1 : k = k'
  · subst h1
    by_cases h2 : f = f'
    · subst h2
      by_cases h3 : t = t'
      · subst h3
        by_cases h4 : s = s'
        · subst h4
          by_cases h5 : q = q'
          · subst h5
            have hc := equal_cells ((w.alloc (.cells #[.int .i64 k, .int .i64 f, .int .i64 t, .int .i64 s, .int .u32 q, .slice A n c] 43)).alloc (.cells #[.int .i64 k, .int .i64 f, .int .i64 t, .int .i64 s, .int .u32 q, .slice A' n' c'] 43)) A A' n n' c c' _ cs cs' ha.len hb.len (by have := ha.bound; omega) (by have := hb.bound; omega) (ha.rd.below hbel) (hb.rd.below hbel)
            have Hc := Lib.hid hc
            have Hb := Lib.hid hbel
            clear hc hbel ha hb
            have hs : sameM ⟨k, f, t, s, q, cs⟩ ⟨k, f, t, s, q, cs'⟩ = decide (cs = cs') := by simp [sameM]
            rw [hs]
            clear hs
            go_enter Try.func23, Try.ntmps23
            go_wp2_with fail
            refine Hc.out.mono ?_
            rintro e w' ⟨rfl, nq, rfl⟩
            go_wp2
            go_ret
            exact ⟨rfl, below_drewN Hb.out nq⟩
          · have hn : (q == q') = false := by simpa using h5
            have Hb := Lib.hid hbel
            have hs : sameM ⟨k, f, t, s, q, cs⟩ ⟨k, f, t, s, q', cs'⟩ = false := by simp [sameM, h5]
            rw [hs]
            clear hs hbel ha hb h5
            go_enter Try.func23, Try.ntmps23
            go_wp2
            go_ret
            exact ⟨rfl, Hb.out⟩
        · have hn : (s == s') = false := by simpa using h4
          have Hb := Lib.hid hbel
          have hs : sameM ⟨k, f, t, s, q, cs⟩ ⟨k, f, t, s', q', cs'⟩ = false := by simp [sameM, h4]
          rw [hs]
          clear hs hbel ha hb h4
          go_enter Try.func23, Try.ntmps23
          go_wp2
          go_ret
          exact ⟨rfl, Hb.out⟩
      · have hn : (t == t') = false := by simpa using h3
        have Hb := Lib.hid hbel
        have hs : sameM ⟨k, f, t, s, q, cs⟩ ⟨k, f, t', s', q', cs'⟩ = false := by simp [sameM, h3]
        rw [hs]
        clear hs hbel ha hb h3
        go_enter Try.func23, Try.ntmps23
        go_wp2
        go_ret
        exact ⟨rfl, Hb.out⟩
    · have hn : (f == f') = false := by simpa using h2
      have Hb := Lib.hid hbel
      have hs : sameM ⟨k, f, t, s, q, cs⟩ ⟨k, f', t', s', q', cs'⟩ = false := by simp [sameM, h2]
      rw [hs]
      clear hs hbel ha hb h2
      go_enter Try.func23, Try.ntmps23
      go_wp2
      go_ret
      exact ⟨rfl, Hb.out⟩
  · have hn : (k == k') = false := by simpa using h1
    have Hb := Lib.hid hbel
    have hs : sameM ⟨k, f, t, s, q, cs⟩ ⟨k', f', t', s', q', cs'⟩ = false := by simp [sameM, h1]
    rw [hs]
    clear hs hbel ha hb h1
    go_enter Try.func23, Try.ntmps23
    go_wp2
    go_ret
    exact ⟨rfl, Hb.out⟩

set_option maxRecDepth 100000 in
set_option maxHeartbeats 2000000 in
theorem same26_any (w : World) (a b : GMsg) (A A' : Option Addr) (n n' c c' : Nat) (ha : MsgAt w w.heap.size a A n c) (hb : MsgAt w w.heap.size b A' n' c') :
    Calls Try.prog 31 #[msgV a A n c, msgV b A' n' c'] w fun e w' => e = .returned (.bool (sameM a b)) ∧ Below w.heap.size w w' := by
  obtain ⟨k, f, t, s, q, cs⟩ := a
  obtain ⟨k', f', t', s', q', cs'⟩ := b
  have hbel : Below w.heap.size w ((w.alloc (.cells #[.int .i64 k, .int .i64 f, .int .i64 t, .int .i64 s, .int .u32 q, .slice A n c] 43)).alloc (.cells #[.int .i64 k', .int .i64 f', .int .i64 t', .int .i64 s', .int .u32 q', .slice A' n' c'] 43)) := ((Below.refl _ _).alloc (Nat.le_refl _) _).alloc (by simp) _
  by_cases h1 : k = k'
  · subst h1
    by_cases h2 : f = f'
    · subst h2
      by_cases h3 : t = t'
      · subst h3
        by_cases h4 : s = s'
        · subst h4
          by_cases h5 : q = q'
          · subst h5
            have hc := equal_cells ((w.alloc (.cells #[.int .i64 k, .int .i64 f, .int .i64 t, .int .i64 s, .int .u32 q, .slice A n c] 43)).alloc (.cells #[.int .i64 k, .int .i64 f, .int .i64 t, .int .i64 s, .int .u32 q, .slice A' n' c'] 43)) A A' n n' c c' _ cs cs' ha.len hb.len (by have := ha.bound; omega) (by have := hb.bound; omega) (ha.rd.below hbel) (hb.rd.below hbel)
            have Hc := Lib.hid hc
            have Hb := Lib.hid hbel
            clear hc hbel ha hb
            have hs : sameM ⟨k, f, t, s, q, cs⟩ ⟨k, f, t, s, q, cs'⟩ = decide (cs = cs') := by simp [sameM]
            rw [hs]
            clear hs
            go_enter Try.func31, Try.ntmps31
            go_wp2_with fail
            refine Hc.out.mono ?_
            rintro e w' ⟨rfl, nq, rfl⟩
            go_wp2
            go_ret
            exact ⟨rfl, below_drewN Hb.out nq⟩
          · have hn : (q == q') = false := by simpa using h5
            have Hb := Lib.hid hbel
            have hs : sameM ⟨k, f, t, s, q, cs⟩ ⟨k, f, t, s, q', cs'⟩ = false := by simp [sameM, h5]
            rw [hs]
            clear hs hbel ha hb h5
            go_enter Try.func31, Try.ntmps31
            go_wp2
            go_ret
            exact ⟨rfl, Hb.out⟩
        · have hn : (s == s') = false := by simpa using h4
          have Hb := Lib.hid hbel
          have hs : sameM ⟨k, f, t, s, q, cs⟩ ⟨k, f, t, s', q', cs'⟩ = false := by simp [sameM, h4]
          rw [hs]
          clear hs hbel ha hb h4
          go_enter Try.func31, Try.ntmps31
          go_wp2
          go_ret
          exact ⟨rfl, Hb.out⟩
      · have hn : (t == t') = false := by simpa using h3
        have Hb := Lib.hid hbel
        have hs : sameM ⟨k, f, t, s, q, cs⟩ ⟨k, f, t', s', q', cs'⟩ = false := by simp [sameM, h3]
        rw [hs]
        clear hs hbel ha hb h3
        go_enter Try.func31, Try.ntmps31
        go_wp2
        go_ret
        exact ⟨rfl, Hb.out⟩
    · have hn : (f == f') = false := by simpa using h2
      have Hb := Lib.hid hbel
      have hs : sameM ⟨k, f, t, s, q, cs⟩ ⟨k, f', t', s', q', cs'⟩ = false := by simp [sameM, h2]
      rw [hs]
      clear hs hbel ha hb h2
      go_enter Try.func31, Try.ntmps31
      go_wp2
      go_ret
      exact ⟨rfl, Hb.out⟩
  · have hn : (k == k') = false := by simpa using h1
    have Hb := Lib.hid hbel
    have hs : sameM ⟨k, f, t, s, q, cs⟩ ⟨k', f', t', s', q', cs'⟩ = false := by simp [sameM, h1]
    rw [hs]
    clear hs hbel ha hb h1
    go_enter Try.func31, Try.ntmps31
    go_wp2
    go_ret
    exact ⟨rfl, Hb.out⟩

set_option maxRecDepth 100000 in
set_option maxHeartbeats 2000000 in
theorem copy_any (w : World) (a : GMsg) (A : Option Addr) (n c : Nat) (ha : MsgAt w w.heap.size a A n c) :
    Calls Try.prog 34 #[msgV a A n c] w fun e w' => ∃ A' c', e = .returned (msgV a A' n c') ∧ MsgAt w' w'.heap.size a A' n c' ∧ Below w.heap.size w w' := by
  obtain ⟨k, f, t, s, q, cs⟩ := a
  have hbel : Below w.heap.size w (((w.alloc (.cells #[.int .i64 k, .int .i64 f, .int .i64 t, .int .i64 s, .int .u32 q, .slice A n c] 43))).alloc (.cells #[.int .i64 0, .int .i64 0, .int .i64 0, .int .i64 0, .int .u32 0, .slice none 0 0] 43)) := ((Below.refl _ _).alloc (Nat.le_refl _) _).alloc (by simp) _
  have hlen := ha.len
  have hbd := ha.bound
  have hcl := clone_cells (((w.alloc (.cells #[.int .i64 k, .int .i64 f, .int .i64 t, .int .i64 s, .int .u32 q, .slice A n c] 43))).alloc (.cells #[.int .i64 0, .int .i64 0, .int .i64 0, .int .i64 0, .int .u32 0, .slice none 0 0] 43)) A n c cs ha.none_ ha.len ha.bound ((ha.rd.below hbel).more (by simp; omega))
  have Hc := Lib.hid hcl
  have Hb := Lib.hid hbel
  have Hl := Lib.hid hlen
  clear hcl hbel ha hlen
  go_enter Try.func34, Try.ntmps34
  go_wp2_with fail
  refine Hc.out.mono ?_
  rintro e w1 ⟨v, rfl, hown, hb1⟩
  obtain ⟨A1, c1, rfl, hnc, _, hr1⟩ := own_rd hown
  have hz1 := hb1.size
  simp only [World.size_alloc] at hz1 hb1 hown
  have k0 : Blk w1 w.heap.size 43 #[.int .i64 k, .int .i64 f, .int .i64 t, .int .i64 s, .int .u32 q, .slice A n c] := ((Blk.new w 43 _).alloc _).below hb1 (by omega)
  have k1 : Blk w1 (w.heap.size + 1) 43 #[.int .i64 0, .int .i64 0, .int .i64 0, .int .i64 0, .int .u32 0, .slice none 0 0] := (by simpa using Blk.new (w.alloc _) 43 _ : Blk _ (w.heap.size + 1) 43 _).below hb1 (by omega)
  have a0 := k0.cell 0 _ rfl
  have a1 := k0.cell 1 _ rfl
  have a2 := k0.cell 2 _ rfl
  have a3 := k0.cell 3 _ rfl
  have a4 := k0.cell 4 _ rfl
  have a5 := k0.cell 5 _ rfl
  have af := k0.free 5
  have b0 := k1.cell 0 _ rfl
  have b1 := k1.cell 1 _ rfl
  have b2 := k1.cell 2 _ rfl
  have b3 := k1.cell 3 _ rfl
  have b4 := k1.cell 4 _ rfl
  have b5 := k1.cell 5 _ rfl
  have bf0 := k1.free 0
  have bf1 := k1.free 1
  have bf2 := k1.free 2
  have bf3 := k1.free 3
  have bf4 := k1.free 4
  have bf5 := k1.free 5
  have HB1 := Lib.hid hb1
  have HO := Lib.hid hown
  have HK := Lib.hid (show A1 = none → n = 0 ∧ c1 = 0 from own_none hown)
  have HZ := Lib.hid ((((((((k1.far (p := ⟨w.heap.size, 5, none⟩) (by simp) (.slice A1 n c1)).set 0 (.int .i64 k)).set 1 (.int .i64 f)).set 2 (.int .i64 t)).set 3 (.int .i64 s)).set 4 (.int .u32 q)).set 5 (.slice A1 n c1)))
  clear hb1 hown k0 k1
  go_wp2
  refine bodyPost_ret (results_cell_row Try.results34 _ _ (w.heap.size + 1) 43 _ (0, 0) _ rfl HZ.out Try.underlying43 rfl (by kernel_rfl)) rfl ?_
  refine ⟨A1, c1, rfl, ?_, ?_⟩
  · refine MsgAt.of_own (base := w.heap.size + 2) ?_ Hl.out hbd
    repeat' (refine ownsRow_setCell_below ?_ (by first | (show w.heap.size < _; omega) | (show w.heap.size + 1 < _; omega)) _)
    exact HO.out
  · have hb : Below w.heap.size w w1 := Hb.out.trans (HB1.out.mono (by omega))
    repeat' (refine Below.setCell ?_ (by first | (show w.heap.size ≤ w.heap.size; omega) | (show w.heap.size ≤ w.heap.size + 1; omega)) _)
    exact hb
end Go.Proofs.Ytpnefacignalpaa
