/- LinkPlays' walk: it returns true. Conditions: those typed. -/
import Derived.Test.YtpnefacignalpaaHalfOut
import Derived.Test.YtpnefacignalpaaEqBig
import Derived.Test.YtpnefacignalpaaPlayArg
import Derived.Test.YtpnefacignalpaaMid
namespace Go.Proofs.Ytpnefacignalpaa
open Go.RowKit Go.Gy
set_option linter.unusedVariables false
set_option linter.unusedSimpArgs false
def diffZ (a b : Int) : Int := (a - b + 2147483648) % 4294967296 - 2147483648
theorem diffZ_le (a b : Int) : -2147483648 ≤ diffZ a b ∧ diffZ a b < 2147483648 := by unfold diffZ; omega
theorem later_any (w : World) (a b : Int) (ha0 : 0 ≤ a) (ha1 : a < 4294967296) (hb0 : 0 ≤ b) (hb1 : b < 4294967296) :
    Calls Try.prog 26 #[.int .u32 a, .int .u32 b] w fun e w' => e = .returned (.int .i64 (diffZ a b)) ∧ w = w' := by
  have e0 : (a - b).tmod 4294967296 = a - b := by
    rw [Int.tmod_eq_emod]; split <;> omega
  have E0 := Lib.hid e0
  clear e0
  go_enter Try.func26, Try.ntmps26
  go_wp2
  rw [E0.out]
  go_loop [5] (fun v => ∃ x : Int, v = .int .i64 x ∧ (x = a - b ∨ x = a - b - 4294967296 ∧ 2147483648 ≤ a - b)) (fun v => (intOf v + 8589934592).toNat)
  case atStart => exact ⟨_, rfl, .inl rfl⟩
  case round =>
    obtain ⟨x, rfl, hx⟩ := hrel
    have x0 : -4294967296 < x := by omega
    have x1 : x < 4294967296 := by omega
    have Hx := Lib.hid hx
    clear hx
    by_cases hc : 2147483648 ≤ x
    · go_wp2
      go_round
      case rel => exact ⟨_, rfl, by have := Hx.out; omega⟩
      case measure => simp [intOf]; omega
    · go_wp2
      go_loop [5] (fun v => ∃ y : Int, v = .int .i64 y ∧ (y = x ∨ y = x + 4294967296 ∧ x < -2147483648)) (fun v => (8589934592 - intOf v).toNat)
      case atStart => exact ⟨_, rfl, .inl rfl⟩
      case round =>
        obtain ⟨y, rfl, hy⟩ := hrel
        have y0 : -4294967296 < y := by omega
        have y1 : y < 4294967296 := by omega
        have Hy := Lib.hid hy
        clear hy
        by_cases hd : y < -2147483648
        · go_wp2
          go_round
          case rel => exact ⟨_, rfl, by have := Hy.out; omega⟩
          case measure => simp [intOf]; omega
        · go_wp2
          go_ret
          refine ⟨ret_int ?_, rfl⟩
          have := Hx.out
          have := Hy.out
          unfold diffZ
          omega
theorem idx_okN (x : Int) (n : Nat) (h0 : 0 < n) (hn : n ≤ 4398046511103) : ∃ a b : Int, ∃ i : Nat, x.tmod n = a ∧ a + n = b ∧ b.tmod n = (i : Int) ∧ i < n ∧ IntKind.i64.wrap a = a ∧ IntKind.i64.wrap b = b ∧ IntKind.i64.wrap (i : Int) = i ∧ -(n : Int) < a ∧ a < n := by
  have e := Int.emod_nonneg x (show (n : Int) ≠ 0 by omega)
  have e2 := Int.emod_lt_of_pos x (show (0 : Int) < n by omega)
  have h1 : -(n : Int) < x.tmod n ∧ x.tmod n < n := by
    rw [Int.tmod_eq_emod]
    split
    · omega
    · rename_i h
      have h3 : x % (n : Int) ≠ 0 := fun h0 => h (.inr (Int.dvd_of_emod_eq_zero h0))
      omega
  have h2 : (x.tmod n + n).tmod n = (x.tmod n + n) % n := Int.tmod_eq_emod_of_nonneg (by omega)
  have h3 := Int.emod_nonneg (x.tmod n + n) (show (n : Int) ≠ 0 by omega)
  have h4 := Int.emod_lt_of_pos (x.tmod n + n) (show (0 : Int) < n by omega)
  refine ⟨_, _, ((x.tmod n + n) % n).toNat, rfl, rfl, by rw [h2]; omega, by omega, ?_, ?_, ?_, h1.1, h1.2⟩
  all_goals rw [IntKind.wrap_i64]; omega
section
variable {P : Program} {ops : Array Oper} {rest : List Oper} {o : Oper} {a : Act} {wr : World} {Q : Exit → Act → World → Prop}
theorem wpList_pushO (hgd : o.guard = none) (s x : Operand) (t : TypeId)
    (ho : o.op = .call { callee := .builtin .append, args := #[s, x], argTypes := #[t, t] })
    (base : Nat) (e : TypeId) (i : TypeInfo) (z : Value) (size bytes : Nat) (ht : P.underlying t = some (.slice e)) (hi : P.info? e = some i) (hz : i.zero = some z)
    (hsize : i.size = size) (hby : i.bytes = bytes) (hzs : z.cells.size = size) (hsz : 0 < size)
    (v : Value) (n : Nat) (xs : List Value) (hs : a.eval s = v) (hown : OffRow wr base e size v n xs)
    (cs : List Value) (hx : a.eval x = .slice (some ⟨wr.heap.size, 0, none⟩) 1 1) (hl : cs.length = size) (h1 : ∀ u ∈ cs, u.oneCell' = true)
    (h63 : n + 1 ≤ maxLen) (hbytes : (n + 1) * bytes ≤ 140737488355328) (hbase : base ≤ wr.heap.size)
    (h : ∀ v' w', OffRow w' base e size v' (n + 1) (xs ++ cs) → Mod (fun k => v.ownBlock = some k) wr w' → NearV wr v v' → wpList P ops Q rest (a.put o.dst v') w') :
    wpList P ops Q (o :: rest) a (wr.alloc (.cells cs.toArray e)) :=
  wpList_plain hgd fun _ hK => by
    have hba : Below wr.heap.size wr (wr.alloc (.cells cs.toArray e)) := (Below.refl _ _).alloc (Nat.le_refl _) _
    obtain ⟨v', w', hr, h2, h3, h4⟩ := exec_appendO (P := P) (w := wr.alloc (.cells cs.toArray e)) (ev := a.eval) s x t ho base e i z size bytes ht hi hz hsize hby hzs hsz v n xs hs (hown.below hba) wr.heap.size cs.toArray hx (Blk.new _ _ _) hl h1 h63 hbytes (by simp; omega)
    unfold Oper.wp
    rw [hr]
    refine hK _ _ (h v' w' (by simpa using h2) ((Mod.of_below hba).trans h3 (fun _ _ h => h)) (fun g hg => ?_))
    rcases h4 g hg with h4 | h4
    · exact .inl h4
    · simp only [World.size_alloc] at h4
      exact .inr (by omega)
end
theorem exec_litL {ev : Operand → Value} {o : Oper} {W : World} (ho : o.op = .buildSlice 29 1 #[(0, .const (.int .i64 (-1)))]) (hc : ev (.const (.int .i64 (-1))) = .int .i64 (-1) := by rfl) :
    (execOp ev o).run Try.prog W = .ok (.value (.slice (some ⟨W.heap.size, 0, none⟩) 1 1)) (W.alloc (.cells #[.int .i64 (-1)] 3)) := by
  unfold execOp
  simp only [ho, List.map_toArray, List.map_cons, List.map_nil, hc]
  go_simp
theorem exec_buildB3 {ev : Operand → Value} {o : Oper} {W : World} (x0 x3 x5 : Operand) (ho : o.op = .build 43 #[(0, x0), (1, .const (.int .i64 0)), (2, .const (.int .i64 1)), (3, x3), (5, x5)]) (k q : Int) (A : Option Addr) (n c : Nat) (h0 : ev x0 = .int .i64 k) (h3 : ev x3 = .int .i64 q) (h5 : ev x5 = .slice A n c) (hc0 : ev (.const (.int .i64 0)) = .int .i64 0 := by rfl) (hc1 : ev (.const (.int .i64 1)) = .int .i64 1 := by rfl) :
    (execOp ev o).run Try.prog W = .ok (.value (.agg #[.int .i64 k, .int .i64 0, .int .i64 1, .int .i64 q, .int .u32 0, .slice A n c])) W := by
  unfold execOp
  simp only [ho, List.map_toArray, List.map_cons, List.map_nil, h0, h3, h5, hc0, hc1]
  go_simp
section
variable {w W W' : World} {base E H gb : Nat} {nx wt nx' wt' : Int} {ow ow' : Bool} {vw vg hw hl hg : Value} {ws hs : List WK} {gs hgs : List SM} {cs cs' : Array Value}
/-- the message's box is written -/
theorem HSt.box (h : HSt w base E H nx wt ow vw ws vg gs nx' wt' ow' hw hl hs hg hgs gb cs W) (hgb : base ≤ gb) (hm : Mod (fun k => k = gb) W W') (hb : Blk W' gb 43 cs') : HSt w base E H nx wt ow vw ws vg gs nx' wt' ow' hw hl hs hg hgs gb cs' W' := by
  refine ⟨⟨h.t.e.keep hm (fun g t cs hk e => ⟨fun hf => ?_, ?_⟩), h.t.h.keep hm (fun g e hf => ?_) (fun g e => by rw [e]; exact hgb), h.t.ap⟩, hb, h.bel.trans (hm.below (fun g hg e => by omega) h.lo), h.nb, Nat.le_trans h.lo hm.size⟩
  · subst e
    rcases hf with e | e | e
    · have hk := h.bx
      rw [e] at hk
      exact absurd (blk_type hk h.t.e.box) (by decide)
    · obtain ⟨cs', hk'⟩ := h.t.e.rw.blk e
      exact absurd (blk_type h.bx hk') (by decide)
    · exact h.nb.1 e
  · subst e
    rw [blk_type hk h.bx]
    decide
  · subst e
    rcases hf with e | e | e | e
    · have hk := h.bx
      rw [e] at hk
      exact absurd (blk_type hk h.t.h.box) (by decide)
    · exact h.nb.2.1 e
    · obtain ⟨cs', hk'⟩ := h.t.h.rl.blk e
      exact absurd (blk_type h.bx hk') (by decide)
    · exact h.nb.2.2 e
/-- the end's Put has been called -/
theorem HSt.put_ {B : Nat} {kind : Int} {l : List Cell} {n : Nat} {e : Ending} {nx2 : Int} {hs2 : List WK} (h : HSt w base E H nx wt ow vw ws vg gs nx2 wt ow hw hl hs2 hg hgs gb cs W) (hl0 : LR B nx wt ws hs gs hgs) (hB : B + 1 ≤ 1073741824)
    (hp : PutPost W base E 0 1 nx wt ow vw ws vg gs kind l n e W')
    (hc : (putC kind 0 1 nx l ws.length ≠ 0 → nx2 = nx ∧ hs2 = hs) ∧ (putC kind 0 1 nx l ws.length = 0 → nx2 = nx + 1 ∧ hs2.map absW = hs.map absW ++ [(⟨kind, 0, 1, nx, 0, l⟩, -1)])) :
    e = .returned (.int .i64 ((putC kind 0 1 nx l ws.length : Nat) : Int)) ∧ TwoSt base E H (B + 1) W' ∧ Below base w W' := by
  obtain ⟨he, hp⟩ := hp
  obtain ⟨g1, g2, g3, g4, g5, g6, g7, g8⟩ := hl0
  refine ⟨he, ?_⟩
  rcases hp with ⟨h0, h1, h2⟩ | ⟨h0, vw', A', c', h1, h2, h3⟩
  · obtain ⟨rfl, rfl⟩ := hc.1 h0
    exact ⟨⟨_, _, _, _, _, _, _, _, _, _, _, _, h.t.end_ h1 (Mod.of_below (F := EndF E vw vg) h2) (nearV_refl _ _), g1, g2, g3, g4, by omega, by omega, by omega, by omega⟩, h.bel.trans (h2.mono h.lo)⟩
  · obtain ⟨rfl, hg2⟩ := hc.2 h0
    have hlen : ws.length ≠ 500 := fun e => by
      unfold putC at h0
      rw [e] at h0
      split at h0
      · cases h0
      · split at h0
        · rename_i h4; exact h4 h0
        · simp at h0
    refine ⟨⟨_, _, _, _, _, _, _, _, _, _, _, _, h.t.end_ h1 h3 (nearV_refl _ _), ?_, g2, ?_, fun x hx => ?_, by omega, by omega, by omega, by omega⟩, h.bel.trans (h3.below (fun g hg hf => by have := (h.t.e.flo g hf).1; omega) h.lo)⟩
    · rw [List.map_append, hg2, g1]
      rfl
    · rw [List.length_append]
      simp only [List.length_cons, List.length_nil]
      omega
    · rcases List.mem_append.1 hx with hx | hx
      · exact g4 x hx
      · rw [List.mem_singleton.1 hx]
        exact ⟨by simp only; omega, by simp only; omega⟩
end
end Go.Proofs.Ytpnefacignalpaa

namespace Go.Proofs.Ytpnefacignalpaa
open Go.RowKit Go.Gy
set_option linter.unusedVariables false
set_option linter.unusedSimpArgs false
def HdrQ (gb : Nat) (mk ms mt mq mc : Int) (sl : Value) (W : World) (p1 p2 : Bool) (W1 : World) : Prop := Blk W1 gb 43 #[.int .i64 mk, (match p1 with | true => .int .i64 1 | false => .int .i64 ms), (match p2 with | true => .int .i64 0 | false => .int .i64 mt), .int .i64 mq, .int .u32 mc, sl] ∧ Mod (fun k => k = gb) W W1
def DCut (w : World) (base E H : Nat) (nx wt : Int) (ow : Bool) (vw : Value) (ws : List WK) (vg : Value) (gs : List SM) (hw hl : Value) (hs : List WK) (hg : Value) (hgs : List SM) (gb : Nat) (wx : World) : Prop := ∃ (mk mq mc : Int) (ml : List Cell) (A : Option Addr) (n c : Nat), MsgAt w base ⟨mk, 1, 0, mq, mc, ml⟩ A n c ∧ HSt w base E H nx wt ow vw ws vg gs nx wt ow hw hl hs hg hgs gb #[.int .i64 mk, .int .i64 1, .int .i64 0, .int .i64 mq, .int .u32 mc, .slice A n c] wx
def PCond (mk nx : Int) (ml : List Cell) (k : Nat) (hs : List WK) (nx2 : Int) (hs2 : List WK) : Prop := (putC mk 0 1 nx ml k ≠ 0 → nx2 = nx ∧ hs2 = hs) ∧ (putC mk 0 1 nx ml k = 0 → nx2 = nx + 1 ∧ hs2.map absW = hs.map absW ++ [(⟨mk, 0, 1, nx, 0, ml⟩, -1)])
theorem putC_eq {mk nx : Int} {ml : List Cell} {F0 F1 : Nat} (h0 : F0 = msgF0 ⟨mk, 0, 1, 0, 0, []⟩) (h1 : F1 = cellsF ml) (n0 : 0 ≤ nx) (n1 : nx ≤ 2147483647) (k : Nat) : putC mk 0 1 nx ml k = (if mk = 3 then 1 else if F0 ≠ 0 then F0 else if F1 ≠ 0 then F1 else if k = 500 then 6 else 0) := by
  unfold putC
  by_cases h3 : mk = 3
  · rw [if_pos h3, if_pos h3]
  · rw [if_neg h3, if_neg h3]
    have e : msgF0 ⟨mk, 0, 1, nx, 0, ml⟩ = F0 := by
      rw [h0]
      unfold msgF0
      simp only [h3, false_and, if_false]
      have : ¬ (nx < 0 ∨ 2147483647 < nx) := by omega
      simp [this]
    unfold msgF
    rw [e, ← h1]
    by_cases hf : F0 = 0
    · simp [hf]
    · simp [hf]
/-- a message has been appended to both rows of the half, and its number is the next one -/
theorem deed_fin {w w4 w9 wl : World} {base E H gb : Nat} {nx wt : Int} {ow : Bool} {vw vg hg : Value} {ws hs : List WK} {gs hgs : List SM} {cs : Array Value} {Aw Al A8 A9 : Option Addr} {cw cl c8 c9 : Nat} {x : SM} (h : HSt w base E H nx wt ow vw ws vg gs nx wt ow (.slice Aw hs.length cw) (.slice Al hs.length cl) hs hg hgs gb cs w4) (hx : MsgAt w base x.m x.A x.n x.c) (ho : OffRow w9 base 43 6 (.slice A8 (hs.length + 1) c8) (hs.length + 1) (hs.flatMap encH ++ encM x) ∧ NearV w4 (.slice Aw hs.length cw) (.slice A8 (hs.length + 1) c8)) (hb : Blk w9 H 31 #[.int .i64 nx, .int .i64 wt, .slice A8 (hs.length + 1) c8, .slice Al hs.length cl, hg, .bool ow]) (hl : OffRow w9 base 3 1 (.slice Al hs.length cl) hs.length (hs.flatMap encL)) (hr : w9.ownsRow base 43 6 hg hgs.length (hgs.flatMap encM)) (ha : ∀ g, (Value.slice A8 (hs.length + 1) c8).ownBlock = some g → hg.ownBlock ≠ some g) (hm : Mod (HalfF H (.slice Aw hs.length cw) (.slice Al hs.length cl) hg) w4 w9) (ho2 : OffRow wl base 3 1 (.slice A9 (hs.length + 1) c9) (hs.length + 1) (hs.flatMap encL ++ [.int .i64 (-1)])) (hm2 : Mod (fun k => (Value.slice Al hs.length cl).ownBlock = some k) w9 wl) (hn2 : NearV w9 (.slice Al hs.length cl) (.slice A9 (hs.length + 1) c9)) :
    HSt w base E H nx wt ow vw ws vg gs (nx + 1) wt ow (.slice A8 (hs.length + 1) c8) (.slice A9 (hs.length + 1) c9) (hs ++ [(x, -1)]) hg hgs gb cs ((wl.setCell ⟨H, 3, none⟩ (.slice A9 (hs.length + 1) c9)).setCell ⟨H, 0, none⟩ (.int .i64 (nx + 1))) := by
  have hty : ∀ {t cs}, ∀ g, Blk w9 g t cs → t ≠ 3 → ¬ (Value.slice Al hs.length cl).ownBlock = some g := fun g hk ht hg => by
    obtain ⟨cs', hk'⟩ := hl.blk hg
    exact ht (blk_type hk hk')
  have hb2 := hm2.blk hb (hty H hb (by decide))
  have hS : Mod (fun k => k = H) wl ((wl.setCell ⟨H, 3, none⟩ (.slice A9 (hs.length + 1) c9)).setCell ⟨H, 0, none⟩ (.int .i64 (nx + 1))) := ((Mod.refl (fun g => g = H) wl).set (g := H) (fun _ => rfl) 3 _).set (g := H) (fun _ => rfl) 0 _
  have hoffH : ∀ {t cs}, ∀ g, Blk wl g t cs → t ≠ 31 → ¬ g = H := fun g hk ht e => by
    subst e
    exact ht (blk_type hk hb2)
  have hbF : Blk ((wl.setCell ⟨H, 3, none⟩ (.slice A9 (hs.length + 1) c9)).setCell ⟨H, 0, none⟩ (.int .i64 (nx + 1))) H 31 #[.int .i64 (nx + 1), .int .i64 wt, .slice A8 (hs.length + 1) c8, .slice A9 (hs.length + 1) c9, hg, .bool ow] := by
    have := (hb2.set 3 (.slice A9 (hs.length + 1) c9)).set 0 (.int .i64 (nx + 1))
    simpa using this
  have hMA : Mod (HalfF H (.slice Aw hs.length cw) (.slice Al hs.length cl) hg) w4 wl := hm.trans hm2 (fun k _ e => Or.inr (Or.inr (Or.inl e)))
  have hMF : Mod (HalfF H (.slice Aw hs.length cw) (.slice Al hs.length cl) hg) w4 ((wl.setCell ⟨H, 3, none⟩ (.slice A9 (hs.length + 1) c9)).setCell ⟨H, 0, none⟩ (.int .i64 (nx + 1))) := hMA.trans hS (fun k _ e => Or.inl e)
  have ho' : OffRow wl base 43 6 (.slice A8 (hs.length + 1) c8) (hs.length + 1) (hs.flatMap encH ++ encM x) := ho.1.mod hm2 (fun g hg => by
    obtain ⟨cs', hk'⟩ := ho.1.blk hg
    exact hty g hk' (by decide))
  have hr' := hm2.own hr (fun g cs _ hk => hty g hk (by decide))
  have e1 : (hs ++ [((x, -1) : WK)]).length = hs.length + 1 := by simp
  refine h.half (h.t.h.mk' hMF (fun g hf => (h.t.h.flo g hf).1) hbF ?_ ?_ (hS.own hr' (fun g cs _ hk => hoffH g hk (by decide))) (fun y hy => ?_) (fun y hy => .inl hy) ha) hMF ho.2 (nearV_refl _ _)
  · rw [e1, List.flatMap_append]
    refine OffRow.mod (v := .slice A8 (hs.length + 1) c8) ?_ hS (fun g hg => ?_)
    · simpa [encH] using ho'
    · obtain ⟨cs', hk'⟩ := ho'.blk hg
      exact hoffH g hk' (by decide)
  · rw [e1, List.flatMap_append]
    refine OffRow.mod (v := .slice A9 (hs.length + 1) c9) ?_ hS (fun g hg => ?_)
    · simpa [encL] using ho2
    · obtain ⟨cs', hk'⟩ := ho2.blk hg
      exact hoffH g hk' (by decide)
  · rcases List.mem_append.1 hy with hy | hy
    · exact .inl hy
    · rw [List.mem_singleton.1 hy]
      exact .inr (hx.below h.bel)
set_option maxRecDepth 100000 in
set_option maxHeartbeats 16000000 in
theorem deed_any (w : World) (base E H B : Nat) (nx wt : Int) (ow : Bool) (vw vg hw hl hg : Value) (ws hs : List WK) (gs hgs : List SM) (ht : TwoAt w base E H nx wt ow vw ws vg gs nx wt ow hw hl hs hg hgs) (hlr : LR B nx wt ws hs gs hgs) (hB : B + 1 ≤ 1073741824) (hbase : base ≤ w.heap.size) (d a b : Int) (Am : Option Addr) (nm cm : Nat) (L : List SM) (hLl : L.length = nm) (hnm : nm ≤ 4398046511103) (hLd : Rd w base 6 Am nm (L.flatMap encM)) (hLm : ∀ s ∈ L, MsgAt w base s.m s.A s.n s.c) :
    Calls Try.prog 10 #[.pointer (some ⟨H, 0, none⟩), .pointer (some ⟨E, 0, none⟩), .int .i64 d, .int .i64 a, .int .i64 b, .slice Am nm cm] w fun e w' => e = .returned (.bool true) ∧ TwoSt base E H (B + 1) w' ∧ Below base w w' := by
  obtain ⟨j0, hj0, hy0, hy1, hy2⟩ := info_parts info_msgI
  obtain ⟨i0, hi0, hz0, hz1, hz2⟩ := info_parts info_intI
  obtain ⟨u, hu⟩ : ∃ u : Int, u = b % 4294967296 := ⟨_, rfl⟩
  have hu2 : 0 ≤ u ∧ u < 4294967296 := by rw [hu]; omega
  obtain ⟨q, hq⟩ : ∃ q, q = diffZ u 0 := ⟨_, rfl⟩
  have hq2 : -2147483648 ≤ q ∧ q < 2147483648 := by rw [hq]; exact diffZ_le u 0
  have HLT := Lib.hid (show ∀ W, Calls Try.prog 26 #[.int .u32 u, .int .u32 0] W fun e w' => e = .returned (.int .i64 q) ∧ W = w' from fun W => by rw [hq]; exact later_any W u 0 hu2.1 hu2.2 (by omega) (by omega))
  have HU := Lib.hid hu
  have HT := Lib.hid ht
  have HLR := Lib.hid hlr
  have HLL := Lib.hid hLl
  have HLD := Lib.hid hLd
  have HLM := Lib.hid hLm
  have hwt := hlr.wt
  have hnx := hlr.nx
  clear hu hq ht hlr hLl hLd hLm hu2
  go_enter Try.func10, Try.ntmps10
  go_wp2_with fail
  rw [← HU.out]
  refine (HLT.out _).mono ?_
  rintro e w1 ⟨rfl, rfl⟩
  go_upto_region 2 with (fail)
  have hb1 : Below w.heap.size w (w.alloc (.cells #[.int .i64 3, .int .i64 1, .int .i64 0, .int .i64 q, .int .u32 0, .slice none 0 0] 43)) := (Below.refl _ _).alloc (Nat.le_refl _) _
  obtain ⟨gb, hgb⟩ : ∃ gb, gb = w.heap.size := ⟨_, rfl⟩
  have hS1 : HSt w base E H nx wt ow vw ws vg gs nx wt ow hw hl hs hg hgs gb #[.int .i64 3, .int .i64 1, .int .i64 0, .int .i64 q, .int .u32 0, .slice none 0 0] (w.alloc (.cells #[.int .i64 3, .int .i64 1, .int .i64 0, .int .i64 q, .int .u32 0, .slice none 0 0] 43)) :=
    ⟨HT.out.below hb1, by rw [hgb]; exact Blk.new _ _ _, hb1.mono hbase, ⟨fun e => by have := (HT.out.e.rg.lt _ e).2; omega, fun e => by have := (HT.out.h.rw.lt _ e).2; omega, fun e => by have := (HT.out.h.rg.lt _ e).2; omega⟩, by simp; omega⟩
  have hgbb : base ≤ gb := by omega
  generalize w.alloc (.cells #[.int .i64 3, .int .i64 1, .int .i64 0, .int .i64 q, .int .u32 0, .slice none 0 0] 43) = w1 at hS1 ⊢
  rw [← hgb]
  have HS1 := Lib.hid hS1
  clear hS1 hb1 hgb
  go_upto_region 2 with (fail)
  have hw3 : IntKind.i64.wrap (d.tmod 3) = d.tmod 3 ∧ IntKind.i64.wrap (b.tmod 3) = b.tmod 3 ∧ -3 < b.tmod 3 ∧ b.tmod 3 < 3 := by
    obtain ⟨a1, b1, i1, e1, _, _, _, e2, _⟩ := idx_okN d 3 (by omega) (by omega)
    obtain ⟨a2, b2, i2, e3, _, _, _, e4, _, _, e5, e6⟩ := idx_okN b 3 (by omega) (by omega)
    have e1' : d.tmod 3 = a1 := e1
    have e3' : b.tmod 3 = a2 := e3
    rw [e1', e3']
    exact ⟨e2, e4, e5, e6⟩
  obtain ⟨hwd3, hwb3, hb3l, hb3u⟩ := hw3
  have hwa : IntKind.i64.wrap (wt + b.tmod 3) = wt + b.tmod 3 := by rw [IntKind.wrap_i64]; omega
  have hws1 : IntKind.i64.wrap (wt + b.tmod 3 - 1) = wt + b.tmod 3 - 1 := by rw [IntKind.wrap_i64]; omega
  go_upto_region 2 with (fail)
  go_cut [27] (fun c wx => ∃ cb : Bool, c = .bool cb ∧ (cb = true → 0 < nm) ∧ w1 = wx)
  case first =>
    by_cases hm0 : 0 < nm
    · have hmi : (0 : Int) < (nm : Int) := by omega
      by_cases h3 : 0 < d.tmod 3
      · go_wp2_with fail
        go_meet
        exact ⟨true, rfl, fun _ => hm0, rfl⟩
      · go_wp2_with fail
        go_meet
        exact ⟨false, rfl, fun h => (by cases h), rfl⟩
    · have hmi : ¬ (0 : Int) < (nm : Int) := by omega
      go_wp2_with fail
      go_meet
      exact ⟨false, rfl, fun h => (by cases h), rfl⟩
  case rest =>
    obtain ⟨cb, rfl, hcb, rfl⟩ := hcut
    go_upto_if 27 with (fail)
    go_cut [] (fun wx => DCut w base E H nx wt ow vw ws vg gs hw hl hs hg hgs gb wx)
    case first =>
      cases cb with
      | false =>
        go_wp2_with fail
        go_meet
        exact ⟨3, q, 0, [], none, 0, 0, ⟨rfl, Nat.le_refl _, fun _ => ⟨rfl, rfl⟩, Nat.zero_le _, ⟨rfl, fun h => absurd h (Nat.lt_irrefl 0)⟩⟩, HS1.out⟩
      | true =>
        have hm0 := hcb rfl
        have hmz : ((nm : Int) == 0) = false := by simp; omega
        obtain ⟨a1, b1, ix, e1, e2, e3, e4, e5, e6, e7, _, _⟩ := idx_okN a nm hm0 hnm
        obtain ⟨bm, om, ⟨⟨mk, ms, mt, mq, mc, ml⟩, A, n, c⟩, rfl, hbM, hgM, hcM⟩ := (HLD.out.below HS1.out.bel).elem encM_len HLL.out e4
        have x0 : w1.cell? ⟨bm, om + ix * 6, none⟩ = some (.int .i64 mk) := hcM 0 _ rfl
        have x1 : w1.cell? ⟨bm, om + ix * 6 + 1, none⟩ = some (.int .i64 ms) := hcM 1 _ rfl
        have x2 : w1.cell? ⟨bm, om + ix * 6 + 2, none⟩ = some (.int .i64 mt) := hcM 2 _ rfl
        have x3 : w1.cell? ⟨bm, om + ix * 6 + 3, none⟩ = some (.int .i64 mq) := hcM 3 _ rfl
        have x4 : w1.cell? ⟨bm, om + ix * 6 + 4, none⟩ = some (.int .u32 mc) := hcM 4 _ rfl
        have x5 : w1.cell? ⟨bm, om + ix * 6 + 5, none⟩ = some (.slice A n c) := hcM 5 _ rfl
        have HMA := Lib.hid (HLM.out _ (List.mem_of_getElem? hgM))
        have zf := fun i => HS1.out.bx.free i
        have z0 := HS1.out.bx.cell 0 _ rfl
        have z1 := HS1.out.bx.cell 1 _ rfl
        have z2 := HS1.out.bx.cell 2 _ rfl
        have z3 := HS1.out.bx.cell 3 _ rfl
        have z4 := HS1.out.bx.cell 4 _ rfl
        have z5 := HS1.out.bx.cell 5 _ rfl
        clear hcM hgM hcb
        go_upto_region 4 with (fail)
        clear x0 x1 x2 x3 x4 x5 zf z0 z1 z2 z3 z4 z5
        have hS7 := HS1.out.box hgbb (mod6' w1 gb (.int .i64 mk) (.int .i64 ms) (.int .i64 mt) (.int .i64 mq) (.int .u32 mc) (.slice A n c)) (box6' HS1.out.bx (.int .i64 mk) (.int .i64 ms) (.int .i64 mt) (.int .i64 mq) (.int .u32 mc) (.slice A n c))
        generalize (((((w1.setCell ⟨gb, 0, none⟩ (.int .i64 mk)).setCell ⟨gb, 1, none⟩ (.int .i64 ms)).setCell ⟨gb, 2, none⟩ (.int .i64 mt)).setCell ⟨gb, 3, none⟩ (.int .i64 mq)).setCell ⟨gb, 4, none⟩ (.int .u32 mc)).setCell ⟨gb, 5, none⟩ (.slice A n c) = w7 at hS7 ⊢
        have HS7 := Lib.hid hS7
        clear hS7
        refine wp_region_invK 13 (SetJ (fun i => ([some (.pointer (some ⟨H, 0, none⟩)), some (.pointer (some ⟨H, 0, none⟩)), some (.pointer (some ⟨H, 1, none⟩)), some (.int .i64 wt), some (.int .i64 b), some (.int .i64 (b.tmod 3)), some (.int .i64 (wt + b.tmod 3)), some (.int .i64 (wt + b.tmod 3 - 1)), some (.pointer (some ⟨gb, 1, none⟩)), none, some (.pointer (some ⟨gb, 2, none⟩)), none, some (.pointer (some ⟨gb, 3, none⟩))] : List (Option Value)).getD i none) [] 9 11 (fun p1 p2 W1 => HdrQ gb mk ms mt mq mc (.slice A n c) w7 p1 p2 W1)) (by kernel_rfl) (by kernel_rfl) (SetJ.start ⟨HS7.out.bx.below (Below.refl _ _).drew HS7.out.bx.lt, Mod.of_below (Below.refl _ _).drew⟩) ?_ ?_
        · intro i o hi ho s vs W hJ hs9 hdep
          rcases i with _ | _ | _ | _ | _ | _ | _ | _ | _ | _ | _ | _ | _ | i
          all_goals first | omega | skip
          all_goals (simp only [List.getElem?_cons_succ, List.getElem?_cons_zero, Option.some.injEq] at ho; subst ho)
          · refine StepJ.val (v := .pointer (some ⟨H, 0, none⟩)) rfl ?_ (hJ.same (by omega) (by omega) (by simp) rfl)
            clear hJ hdep 
            unfold lexA
            simp only [putAll, preI, Nat.reduceLT, Nat.reduceAdd, decide_false, Bool.false_eq_true, if_false]
            go_simp
          · have d0 : vs 0 = .pointer (some ⟨H, 0, none⟩) := hJ.dt 0 _ (hdep ⟨0, .data⟩ (by simp) rfl) rfl
            refine StepJ.val (v := .pointer (some ⟨H, 0, none⟩)) rfl ?_ (hJ.same (by omega) (by omega) (by simp) rfl)
            clear hJ hdep 
            unfold lexA
            simp only [putAll, preI, Nat.reduceLT, Nat.reduceAdd, decide_true, decide_false, Bool.false_eq_true, if_true, if_false, Act.put, List.setIfInBounds_toArray, List.set_cons_zero, List.set_cons_succ]
            go_simp
          · have d1 : vs 1 = .pointer (some ⟨H, 0, none⟩) := hJ.dt 1 _ (hdep ⟨1, .data⟩ (by simp) rfl) rfl
            refine StepJ.val (v := .pointer (some ⟨H, 1, none⟩)) rfl ?_ (hJ.same (by omega) (by omega) (by simp) rfl)
            clear hJ hdep 
            unfold lexA
            simp only [putAll, preI, Nat.reduceLT, Nat.reduceAdd, decide_true, decide_false, Bool.false_eq_true, if_true, if_false, Act.put, List.setIfInBounds_toArray, List.set_cons_zero, List.set_cons_succ]
            go_simp
          · have d2 : vs 2 = .pointer (some ⟨H, 1, none⟩) := hJ.dt 2 _ (hdep ⟨2, .data⟩ (by simp) rfl) rfl
            have hq := hJ.q
            have c1 := (hq.2.blk HS7.out.t.h.box (fun e => by
              have hk := HS7.out.bx
              rw [← e] at hk
              exact absurd (blk_type hk HS7.out.t.h.box) (by decide))).cell 1 _ rfl
            refine StepJ.val (v := .int .i64 wt) rfl ?_ (hJ.same (by omega) (by omega) (by simp) rfl)
            clear hJ hdep hq
            unfold lexA
            simp only [putAll, preI, Nat.reduceLT, Nat.reduceAdd, decide_true, decide_false, Bool.false_eq_true, if_true, if_false, Act.put, List.setIfInBounds_toArray, List.set_cons_zero, List.set_cons_succ]
            go_simp
          · refine StepJ.val (v := .int .i64 b) rfl ?_ (hJ.same (by omega) (by omega) (by simp) rfl)
            clear hJ hdep 
            unfold lexA
            simp only [putAll, preI, Nat.reduceLT, Nat.reduceAdd, decide_true, decide_false, Bool.false_eq_true, if_true, if_false, Act.put, List.setIfInBounds_toArray, List.set_cons_zero, List.set_cons_succ]
            go_simp
          · have d4 : vs 4 = .int .i64 b := hJ.dt 4 _ (hdep ⟨4, .data⟩ (by simp) rfl) rfl
            refine StepJ.val (v := .int .i64 (b.tmod 3)) rfl ?_ (hJ.same (by omega) (by omega) (by simp) rfl)
            clear hJ hdep 
            unfold lexA
            simp only [putAll, preI, Nat.reduceLT, Nat.reduceAdd, decide_true, decide_false, Bool.false_eq_true, if_true, if_false, Act.put, List.setIfInBounds_toArray, List.set_cons_zero, List.set_cons_succ]
            go_simp
          · have d3 : vs 3 = .int .i64 wt := hJ.dt 3 _ (hdep ⟨3, .data⟩ (by simp) rfl) rfl
            have d5 : vs 5 = .int .i64 (b.tmod 3) := hJ.dt 5 _ (hdep ⟨5, .data⟩ (by simp) rfl) rfl
            refine StepJ.val (v := .int .i64 (wt + b.tmod 3)) rfl ?_ (hJ.same (by omega) (by omega) (by simp) rfl)
            clear hJ hdep 
            unfold lexA
            simp only [putAll, preI, Nat.reduceLT, Nat.reduceAdd, decide_true, decide_false, Bool.false_eq_true, if_true, if_false, Act.put, List.setIfInBounds_toArray, List.set_cons_zero, List.set_cons_succ]
            go_simp
          · have d6 : vs 6 = .int .i64 (wt + b.tmod 3) := hJ.dt 6 _ (hdep ⟨6, .data⟩ (by simp) rfl) rfl
            refine StepJ.val (v := .int .i64 (wt + b.tmod 3 - 1)) rfl ?_ (hJ.same (by omega) (by omega) (by simp) rfl)
            clear hJ hdep 
            unfold lexA
            simp only [putAll, preI, Nat.reduceLT, Nat.reduceAdd, decide_true, decide_false, Bool.false_eq_true, if_true, if_false, Act.put, List.setIfInBounds_toArray, List.set_cons_zero, List.set_cons_succ]
            go_simp
          · refine StepJ.val (v := .pointer (some ⟨gb, 1, none⟩)) rfl ?_ (hJ.same (by omega) (by omega) (by simp) rfl)
            clear hJ hdep 
            unfold lexA
            simp only [putAll, preI, Nat.reduceLT, Nat.reduceAdd, decide_true, decide_false, Bool.false_eq_true, if_true, if_false, Act.put, List.setIfInBounds_toArray, List.set_cons_zero, List.set_cons_succ]
            go_simp
          · have d8 : vs 8 = .pointer (some ⟨gb, 1, none⟩) := hJ.dt 8 _ (hdep ⟨8, .data⟩ (by simp) rfl) rfl
            have hq := hJ.q
            rw [hs9] at hq
            obtain ⟨u1, hu1⟩ : ∃ u1, W.cell? ⟨gb, 1, none⟩ = some u1 := ⟨_, hq.1.cell 1 _ rfl⟩
            have cf := fun i => hq.1.free i
            refine StepJ.skip (W' := W.setCell ⟨gb, 1, none⟩ (.int .i64 1)) rfl ?_ (hJ.set1 (by omega) (by simp) rfl ⟨hq.1.set 1 _, hq.2.set (g := gb) (fun _ => rfl) 1 _⟩)
            clear hJ hdep hq
            unfold lexA
            simp only [putAll, preI, Nat.reduceLT, Nat.reduceAdd, decide_true, decide_false, Bool.false_eq_true, if_true, if_false, Act.put, List.setIfInBounds_toArray, List.set_cons_zero, List.set_cons_succ]
            go_simp
          · refine StepJ.val (v := .pointer (some ⟨gb, 2, none⟩)) rfl ?_ (hJ.same (by omega) (by omega) (by simp) rfl)
            clear hJ hdep 
            unfold lexA
            simp only [putAll, preI, Nat.reduceLT, Nat.reduceAdd, decide_true, decide_false, Bool.false_eq_true, if_true, if_false, Act.put, List.setIfInBounds_toArray, List.set_cons_zero, List.set_cons_succ]
            go_simp
          · have d10 : vs 10 = .pointer (some ⟨gb, 2, none⟩) := hJ.dt 10 _ (hdep ⟨10, .data⟩ (by simp) rfl) rfl
            have hq := hJ.q
            rw [hs9] at hq
            obtain ⟨u1, hu1⟩ : ∃ u1, W.cell? ⟨gb, 2, none⟩ = some u1 := ⟨_, hq.1.cell 2 _ rfl⟩
            have cf := fun i => hq.1.free i
            refine StepJ.skip (W' := W.setCell ⟨gb, 2, none⟩ (.int .i64 0)) rfl ?_ (hJ.set2 (by omega) (by simp) rfl ⟨hq.1.set 2 _, hq.2.set (g := gb) (fun _ => rfl) 2 _⟩)
            clear hJ hdep hq
            unfold lexA
            simp only [putAll, preI, Nat.reduceLT, Nat.reduceAdd, decide_true, decide_false, Bool.false_eq_true, if_true, if_false, Act.put, List.setIfInBounds_toArray, List.set_cons_zero, List.set_cons_succ]
            go_simp
          · refine StepJ.val (v := .pointer (some ⟨gb, 3, none⟩)) rfl ?_ (hJ.same (by omega) (by omega) (by simp) rfl)
            clear hJ hdep 
            unfold lexA
            simp only [putAll, preI, Nat.reduceLT, Nat.reduceAdd, decide_true, decide_false, Bool.false_eq_true, if_true, if_false, Act.put, List.setIfInBounds_toArray, List.set_cons_zero, List.set_cons_succ]
            go_simp
        · intro s vs W hall hJ
          have hq := hJ.q
          rw [hall 9 (by omega), hall 11 (by omega)] at hq
          have d7 : vs 7 = .int .i64 (wt + b.tmod 3 - 1) := hJ.dt 7 _ (hall 7 (by omega)) rfl
          have d12 : vs 12 = .pointer (some ⟨gb, 3, none⟩) := hJ.dt 12 _ (hall 12 (by omega)) rfl
          have y0 : W.cell? ⟨gb, 3, none⟩ = some (.int .i64 mq) := hq.1.cell 3 _ rfl
          have y1 := hq.1.free 3
          have hm9 : Mod (fun k => k = gb) w7 (W.setCell ⟨gb, 3, none⟩ (.int .i64 (wt + b.tmod 3 - 1))) := hq.2.set (g := gb) (fun _ => rfl) 3 _
          have hb9 : Blk (W.setCell ⟨gb, 3, none⟩ (.int .i64 (wt + b.tmod 3 - 1))) gb 43 #[.int .i64 mk, .int .i64 1, .int .i64 0, .int .i64 (wt + b.tmod 3 - 1), .int .u32 mc, .slice A n c] := hq.1.set 3 _
          have HX := Lib.hid (show DCut w base E H nx wt ow vw ws vg gs hw hl hs hg hgs gb (W.setCell ⟨gb, 3, none⟩ (.int .i64 (wt + b.tmod 3 - 1))) from ⟨mk, wt + b.tmod 3 - 1, mc, ml, A, n, c, ⟨HMA.out.len, HMA.out.cap, HMA.out.none_, HMA.out.bound, HMA.out.rd⟩, HS7.out.box hgbb hm9 hb9⟩)
          clear hJ hall hq hm9 hb9
          unfold lexA
          simp only [putAll, preI, Nat.reduceLT, Nat.reduceAdd, decide_true, decide_false, Bool.false_eq_true, if_true, if_false, Act.put, List.setIfInBounds_toArray, List.set_cons_zero, List.set_cons_succ, List.drop_succ_cons, List.drop_zero]
          rw [d7, d12]
          go_wp2_with fail
          go_meet
          exact HX.out
    case rest =>
      obtain ⟨mk, mq, mc, ml, A, n, c, hM, hS1⟩ := hcut
      obtain ⟨w2, rfl⟩ : ∃ w2, w2 = wc := ⟨_, rfl⟩
      clear HS1 hcb
      have HS1 := Lib.hid hS1
      have HM := Lib.hid hM
      clear hS1 hM
      have z0 := HS1.out.bx.cell 0 _ rfl
      have z1 := HS1.out.bx.cell 1 _ rfl
      have z2 := HS1.out.bx.cell 2 _ rfl
      have z3 := HS1.out.bx.cell 3 _ rfl
      have z4 := HS1.out.bx.cell 4 _ rfl
      have z5 := HS1.out.bx.cell 5 _ rfl
      obtain ⟨a5, b5, i5, f1, f2, f3, f4, f5, f6, f7, _, _⟩ := idx_okN d 5 (by omega) (by omega)
      have f1' : d.tmod 5 = a5 := f1
      have f2' : a5 + 5 = b5 := f2
      have f3' : b5.tmod 5 = (i5 : Int) := f3
      clear f1 f2 f3
      go_upto_region 6 with (fail)
      clear f1' f2' f3' f5 f6 f7
      obtain rfl | rfl | rfl | rfl | rfl : i5 = 0 ∨ i5 = 1 ∨ i5 = 2 ∨ i5 = 3 ∨ i5 = 4 := by omega
      · have hhs : hs.length = ws.length := by
          have := congrArg List.length HLR.out.w
          rwa [List.length_map, List.length_map] at this
        have hws := HLR.out.len
        have hBB := HLR.out.bb
        obtain ⟨F0, hF0⟩ : ∃ F0, F0 = msgF0 ⟨mk, 0, 1, 0, 0, []⟩ := ⟨_, rfl⟩
        obtain ⟨F1, hF1⟩ : ∃ F1, F1 = cellsF ml := ⟨_, rfl⟩
        have HMF := Lib.hid (fun W => show Calls Try.prog 18 #[.agg #[.int .i64 mk, .int .i64 0, .int .i64 1, .int .i64 0, .int .u32 0, .slice none 0 0]] W fun e w' => e = .returned (.int .i64 (F0 : Int)) ∧ Below W.heap.size W w' from by rw [hF0]; exact msgfault_any W ⟨mk, 0, 1, 0, 0, []⟩ none 0 0 rfl)
        have HCF := Lib.hid (fun W (hW : Below base w W) (hz : base ≤ W.heap.size) => show Calls Try.prog 19 #[.slice A n c] W fun e w' => e = .returned (.int .i64 (F1 : Int)) ∧ Below W.heap.size W w' from by rw [hF1]; exact cellsfault_any W A n c ml HM.out.len ((HM.out.rd.below hW).more hz))
        have HPC := Lib.hid (putC_eq hF0 hF1 hnx.1 (by omega) ws.length)
        have HMM := Lib.hid (show MsgAt w base ⟨mk, 0, 1, nx, 0, ml⟩ A n c from ⟨HM.out.len, HM.out.cap, HM.out.none_, HM.out.bound, HM.out.rd⟩)
        clear hF0 hF1
        obtain ⟨Aw, cw, hvw, _⟩ := HS1.out.t.h.rw.rd
        subst hvw
        obtain ⟨Al, cl, hvl, _⟩ := HS1.out.t.h.rl.rd
        subst hvl
        have HHS := Lib.hid hhs
        have hhl : hs.length ≤ 500 := by omega
        clear hhs
        go_wp2_with fail
        refine (HMF.out _).mono ?_
        rintro e w3 ⟨rfl, hb3⟩
        have HSR := Lib.hid (HS1.out.below hb3)
        clear hb3 HS1 z0 z1 z2 z3 z4 z5
        have y0 := HSR.out.bx.cell 0 _ rfl
        have y5 := HSR.out.bx.cell 5 _ rfl
        have yc2 := HSR.out.t.h.box.cell 2 _ rfl
        by_cases hk3 : mk = 3
        · have hkq : (mk == 3) = true := by simpa using hk3
          have HPV := Lib.hid (HPC.out.trans (if_pos hk3))
          clear hk3
          have HCC := Lib.hid (show PCond mk nx ml ws.length hs nx hs from ⟨fun _ => ⟨rfl, rfl⟩, fun h => absurd (HPV.out.symm.trans h) (by first | decide | assumption)⟩)
          go_upto_region 18 with (fail)
          clear y0 y5 yc2
          have HPUT := Lib.hid (put_any w3 base E 0 1 nx wt ow vw vg ws gs HSR.out.t.e HSR.out.lo HLR.out.len (by omega) mk A n c ml ((HMM.out.below HSR.out.bel).more HSR.out.lo))
          have z0 := HSR.out.bx.cell 0 _ rfl
          have z5 := HSR.out.bx.cell 5 _ rfl
          go_wp2_with fail
          refine HPUT.out.mono ?_
          intro e wd hpd
          obtain ⟨rfl, hT, hB9⟩ := HSR.out.put_ HLR.out hB hpd HCC.out
          have HTT := Lib.hid hT
          have HBW := Lib.hid hB9
          clear hpd hT hB9
          rw [HPV.out]
          go_wp2_with fail
          go_ret
          exact ⟨rfl, HTT.out, HBW.out⟩
        · have hkq : (mk == 3) = false := by simpa using hk3
          have HPC2 := Lib.hid (HPC.out.trans (if_neg hk3))
          clear hk3
          by_cases hf0 : F0 = 0
          · subst hf0
            have HPC3 := Lib.hid (HPC2.out.trans (if_neg (by simp)))
            go_upto_region 11 with (fail)
            go_wp2_with fail
            refine (HCF.out _ HSR.out.bel HSR.out.lo).mono ?_
            rintro e w4 ⟨rfl, hb4⟩
            have HSR2 := Lib.hid (HSR.out.below hb4)
            clear hb4 HSR y0 y5 yc2
            have HSR := HSR2
            clear HSR2
            have y0 := HSR.out.bx.cell 0 _ rfl
            have y5 := HSR.out.bx.cell 5 _ rfl
            have yc2 := HSR.out.t.h.box.cell 2 _ rfl
            by_cases hf1 : F1 = 0
            · subst hf1
              have HPC4 := Lib.hid (HPC3.out.trans (if_neg (by simp)))
              by_cases hfl : ws.length = 500
              · have hge : (500 : Int) ≤ (hs.length : Int) := by have := HHS.out; omega
                have HPV := Lib.hid (HPC4.out.trans (if_pos hfl))
                clear hfl
                have HCC := Lib.hid (show PCond mk nx ml ws.length hs nx hs from ⟨fun _ => ⟨rfl, rfl⟩, fun h => absurd (HPV.out.symm.trans h) (by first | decide | assumption)⟩)
                go_upto_region 18 with (fail)
                clear y0 y5 yc2
                have HPUT := Lib.hid (put_any w4 base E 0 1 nx wt ow vw vg ws gs HSR.out.t.e HSR.out.lo HLR.out.len (by omega) mk A n c ml ((HMM.out.below HSR.out.bel).more HSR.out.lo))
                have z0 := HSR.out.bx.cell 0 _ rfl
                have z5 := HSR.out.bx.cell 5 _ rfl
                go_wp2_with fail
                refine HPUT.out.mono ?_
                intro e wd hpd
                obtain ⟨rfl, hT, hB9⟩ := HSR.out.put_ HLR.out hB hpd HCC.out
                have HTT := Lib.hid hT
                have HBW := Lib.hid hB9
                clear hpd hT hB9
                rw [HPV.out]
                go_wp2_with fail
                go_ret
                exact ⟨rfl, HTT.out, HBW.out⟩
              · have hge : ¬ (500 : Int) ≤ (hs.length : Int) := by have := HHS.out; omega
                have HPV := Lib.hid (HPC4.out.trans (if_neg hfl))
                have hwn : IntKind.i64.wrap (nx + 1) = nx + 1 := by rw [IntKind.wrap_i64]; omega
                clear hfl
                go_upto_region 15 with (fail)
                clear y0 y5 yc2
                have HS7 := HSR
                clear HSR
                refine wp_region_invK 18 (LapJ (fun i => ([some (.pointer (some ⟨H, 0, none⟩)), some (.pointer (some ⟨H, 0, none⟩)), some (.pointer (some ⟨H, 0, none⟩)), some (.pointer (some ⟨H, 2, none⟩)), some (.slice Aw hs.length cw), some (.pointer (some ⟨gb, 0, none⟩)), some (.int .i64 mk), some (.pointer (some ⟨H, 0, none⟩)), some (.pointer (some ⟨H, 0, none⟩)), some (.pointer (some ⟨H, 0, none⟩)), some (.int .i64 nx), some (.pointer (some ⟨gb, 5, none⟩)), some (.slice A n c), some (.agg #[.int .i64 mk, .int .i64 0, .int .i64 1, .int .i64 nx, .int .u32 0, .slice A n c]), none, none, some (.pointer (some ⟨H, 0, none⟩)), some (.pointer (some ⟨H, 2, none⟩))] : List (Option Value)).getD i none) [(14, 15)] 15 (fun W => Below w4.heap.size w4 W) (LitSp 14 #[.int .i64 mk, .int .i64 0, .int .i64 1, .int .i64 nx, .int .u32 0, .slice A n c]) (fun v W => OffRow W base 43 6 v (hs.length + 1) (hs.flatMap encH ++ encM ⟨⟨mk, 0, 1, nx, 0, ml⟩, A, n, c⟩) ∧ Mod (fun k => (Value.slice Aw hs.length cw).ownBlock = some k) w4 W ∧ NearV w4 (.slice Aw hs.length cw) v)) (by kernel_rfl) (by kernel_rfl) (LapJ.start (Below.refl _ _).drew) ?_ ?_
                · intro i o hi ho s vs W hJ hs9 hdep
                  have hE : Blk W H 31 #[.int .i64 nx, .int .i64 wt, .slice Aw hs.length cw, .slice Al hs.length cl, hg, .bool ow] ∧ Blk W gb 43 #[.int .i64 mk, .int .i64 1, .int .i64 0, .int .i64 mq, .int .u32 mc, .slice A n c] := hJ.all (X := fun W => Blk W H 31 #[.int .i64 nx, .int .i64 wt, .slice Aw hs.length cw, .slice Al hs.length cl, hg, .bool ow] ∧ Blk W gb 43 #[.int .i64 mk, .int .i64 1, .int .i64 0, .int .i64 mq, .int .u32 mc, .slice A n c]) (fun W h => ⟨HS7.out.t.h.box.below h HS7.out.t.h.box.lt, HS7.out.bx.below h HS7.out.bx.lt⟩) (fun v W h => ⟨h.2.1.blk HS7.out.t.h.box (fun hg => by
                    obtain ⟨cs', hk'⟩ := HS7.out.t.h.rw.blk hg
                    exact absurd (blk_type hk' HS7.out.t.h.box) (by decide)), h.2.1.blk HS7.out.bx HS7.out.nb.2.1⟩)
                  rcases i with _ | _ | _ | _ | _ | _ | _ | _ | _ | _ | _ | _ | _ | _ | _ | _ | _ | _ | i
                  all_goals first | omega | skip
                  all_goals (simp only [List.getElem?_cons_succ, List.getElem?_cons_zero, Option.some.injEq] at ho; subst ho)
                  · refine StepJ.val (v := .pointer (some ⟨H, 0, none⟩)) rfl ?_ (hJ.same (by omega) (by simp) rfl)
                    clear hJ hdep hE
                    unfold lexA
                    simp only [putAll, preI, Nat.reduceLT, Nat.reduceAdd, decide_false, Bool.false_eq_true, if_false]
                    go_simp
                  · refine StepJ.val (v := .pointer (some ⟨H, 0, none⟩)) rfl ?_ (hJ.same (by omega) (by simp) rfl)
                    clear hJ hdep hE
                    unfold lexA
                    simp only [putAll, preI, Nat.reduceLT, Nat.reduceAdd, decide_true, decide_false, Bool.false_eq_true, if_true, if_false, Act.put, List.setIfInBounds_toArray, List.set_cons_zero, List.set_cons_succ]
                    go_simp
                  · have d1 : vs 1 = .pointer (some ⟨H, 0, none⟩) := hJ.dt 1 _ (hdep ⟨1, .data⟩ (by simp) rfl) rfl
                    refine StepJ.val (v := .pointer (some ⟨H, 0, none⟩)) rfl ?_ (hJ.same (by omega) (by simp) rfl)
                    clear hJ hdep hE
                    unfold lexA
                    simp only [putAll, preI, Nat.reduceLT, Nat.reduceAdd, decide_true, decide_false, Bool.false_eq_true, if_true, if_false, Act.put, List.setIfInBounds_toArray, List.set_cons_zero, List.set_cons_succ]
                    go_simp
                  · have d2 : vs 2 = .pointer (some ⟨H, 0, none⟩) := hJ.dt 2 _ (hdep ⟨2, .data⟩ (by simp) rfl) rfl
                    refine StepJ.val (v := .pointer (some ⟨H, 2, none⟩)) rfl ?_ (hJ.same (by omega) (by simp) rfl)
                    clear hJ hdep hE
                    unfold lexA
                    simp only [putAll, preI, Nat.reduceLT, Nat.reduceAdd, decide_true, decide_false, Bool.false_eq_true, if_true, if_false, Act.put, List.setIfInBounds_toArray, List.set_cons_zero, List.set_cons_succ]
                    go_simp
                  · have d3 : vs 3 = .pointer (some ⟨H, 2, none⟩) := hJ.dt 3 _ (hdep ⟨3, .data⟩ (by simp) rfl) rfl
                    refine StepJ.val (v := .slice Aw hs.length cw) rfl ?_ (hJ.same (by omega) (by simp) rfl)
                    have c0 := hE.1.cell 0 _ rfl
                    have c2 := hE.1.cell 2 _ rfl
                    have z0 := hE.2.cell 0 _ rfl
                    have z5 := hE.2.cell 5 _ rfl
                    clear hJ hdep hE
                    unfold lexA
                    simp only [putAll, preI, Nat.reduceLT, Nat.reduceAdd, decide_true, decide_false, Bool.false_eq_true, if_true, if_false, Act.put, List.setIfInBounds_toArray, List.set_cons_zero, List.set_cons_succ]
                    go_simp
                  · refine StepJ.val (v := .pointer (some ⟨gb, 0, none⟩)) rfl ?_ (hJ.same (by omega) (by simp) rfl)
                    clear hJ hdep hE
                    unfold lexA
                    simp only [putAll, preI, Nat.reduceLT, Nat.reduceAdd, decide_true, decide_false, Bool.false_eq_true, if_true, if_false, Act.put, List.setIfInBounds_toArray, List.set_cons_zero, List.set_cons_succ]
                    go_simp
                  · have d5 : vs 5 = .pointer (some ⟨gb, 0, none⟩) := hJ.dt 5 _ (hdep ⟨5, .data⟩ (by simp) rfl) rfl
                    refine StepJ.val (v := .int .i64 mk) rfl ?_ (hJ.same (by omega) (by simp) rfl)
                    have c0 := hE.1.cell 0 _ rfl
                    have c2 := hE.1.cell 2 _ rfl
                    have z0 := hE.2.cell 0 _ rfl
                    have z5 := hE.2.cell 5 _ rfl
                    clear hJ hdep hE
                    unfold lexA
                    simp only [putAll, preI, Nat.reduceLT, Nat.reduceAdd, decide_true, decide_false, Bool.false_eq_true, if_true, if_false, Act.put, List.setIfInBounds_toArray, List.set_cons_zero, List.set_cons_succ]
                    go_simp
                  · refine StepJ.val (v := .pointer (some ⟨H, 0, none⟩)) rfl ?_ (hJ.same (by omega) (by simp) rfl)
                    clear hJ hdep hE
                    unfold lexA
                    simp only [putAll, preI, Nat.reduceLT, Nat.reduceAdd, decide_true, decide_false, Bool.false_eq_true, if_true, if_false, Act.put, List.setIfInBounds_toArray, List.set_cons_zero, List.set_cons_succ]
                    go_simp
                  · have d7 : vs 7 = .pointer (some ⟨H, 0, none⟩) := hJ.dt 7 _ (hdep ⟨7, .data⟩ (by simp) rfl) rfl
                    refine StepJ.val (v := .pointer (some ⟨H, 0, none⟩)) rfl ?_ (hJ.same (by omega) (by simp) rfl)
                    clear hJ hdep hE
                    unfold lexA
                    simp only [putAll, preI, Nat.reduceLT, Nat.reduceAdd, decide_true, decide_false, Bool.false_eq_true, if_true, if_false, Act.put, List.setIfInBounds_toArray, List.set_cons_zero, List.set_cons_succ]
                    go_simp
                  · have d8 : vs 8 = .pointer (some ⟨H, 0, none⟩) := hJ.dt 8 _ (hdep ⟨8, .data⟩ (by simp) rfl) rfl
                    refine StepJ.val (v := .pointer (some ⟨H, 0, none⟩)) rfl ?_ (hJ.same (by omega) (by simp) rfl)
                    clear hJ hdep hE
                    unfold lexA
                    simp only [putAll, preI, Nat.reduceLT, Nat.reduceAdd, decide_true, decide_false, Bool.false_eq_true, if_true, if_false, Act.put, List.setIfInBounds_toArray, List.set_cons_zero, List.set_cons_succ]
                    go_simp
                  · have d9 : vs 9 = .pointer (some ⟨H, 0, none⟩) := hJ.dt 9 _ (hdep ⟨9, .data⟩ (by simp) rfl) rfl
                    refine StepJ.val (v := .int .i64 nx) rfl ?_ (hJ.same (by omega) (by simp) rfl)
                    have c0 := hE.1.cell 0 _ rfl
                    have c2 := hE.1.cell 2 _ rfl
                    have z0 := hE.2.cell 0 _ rfl
                    have z5 := hE.2.cell 5 _ rfl
                    clear hJ hdep hE
                    unfold lexA
                    simp only [putAll, preI, Nat.reduceLT, Nat.reduceAdd, decide_true, decide_false, Bool.false_eq_true, if_true, if_false, Act.put, List.setIfInBounds_toArray, List.set_cons_zero, List.set_cons_succ]
                    go_simp
                  · refine StepJ.val (v := .pointer (some ⟨gb, 5, none⟩)) rfl ?_ (hJ.same (by omega) (by simp) rfl)
                    clear hJ hdep hE
                    unfold lexA
                    simp only [putAll, preI, Nat.reduceLT, Nat.reduceAdd, decide_true, decide_false, Bool.false_eq_true, if_true, if_false, Act.put, List.setIfInBounds_toArray, List.set_cons_zero, List.set_cons_succ]
                    go_simp
                  · have d11 : vs 11 = .pointer (some ⟨gb, 5, none⟩) := hJ.dt 11 _ (hdep ⟨11, .data⟩ (by simp) rfl) rfl
                    refine StepJ.val (v := .slice A n c) rfl ?_ (hJ.same (by omega) (by simp) rfl)
                    have c0 := hE.1.cell 0 _ rfl
                    have c2 := hE.1.cell 2 _ rfl
                    have z0 := hE.2.cell 0 _ rfl
                    have z5 := hE.2.cell 5 _ rfl
                    clear hJ hdep hE
                    unfold lexA
                    simp only [putAll, preI, Nat.reduceLT, Nat.reduceAdd, decide_true, decide_false, Bool.false_eq_true, if_true, if_false, Act.put, List.setIfInBounds_toArray, List.set_cons_zero, List.set_cons_succ]
                    go_simp
                  · have d6 : vs 6 = .int .i64 mk := hJ.dt 6 _ (hdep ⟨6, .data⟩ (by simp) rfl) rfl
                    have d10 : vs 10 = .int .i64 nx := hJ.dt 10 _ (hdep ⟨10, .data⟩ (by simp) rfl) rfl
                    have d12 : vs 12 = .slice A n c := hJ.dt 12 _ (hdep ⟨12, .data⟩ (by simp) rfl) rfl
                    refine StepJ.val (v := .agg #[.int .i64 mk, .int .i64 0, .int .i64 1, .int .i64 nx, .int .u32 0, .slice A n c]) rfl ?_ (hJ.same (by omega) (by simp) rfl)
                    clear hJ hdep hE
                    refine exec_buildB3 (.tmp 88) (.tmp 92) (.tmp 94) rfl mk nx A n c ?_ ?_ ?_
                    all_goals
                      unfold lexA
                      simp only [putAll, preI, Nat.reduceLT, Nat.reduceAdd, decide_true, decide_false, Bool.false_eq_true, if_true, if_false, Act.put, List.setIfInBounds_toArray, List.set_cons_zero, List.set_cons_succ]
                      first | (rw [d6]; done) | (rw [d10]; done) | (rw [d12]; done) | (rw [d6]; rfl) | (rw [d10]; rfl) | (rw [d12]; rfl)
                  · have d13 : vs 13 = .agg #[.int .i64 mk, .int .i64 0, .int .i64 1, .int .i64 nx, .int .u32 0, .slice A n c] := hJ.dt 13 _ (hdep ⟨13, .data⟩ (by simp) rfl) rfl
                    have h8 : s 15 = false := by
                      cases e : s 15 with
                      | false => rfl
                      | true => exact absurd (hJ.w2 (14, 15) (by simp) e) (by simp [hs9])
                    refine StepJ.val (v := .slice (some ⟨W.heap.size, 0, none⟩) 1 1) (W' := W.alloc (.cells #[.int .i64 mk, .int .i64 0, .int .i64 1, .int .i64 nx, .int .u32 0, .slice A n c] 43)) rfl ?_ (hJ.some_ h8 (hl0 := fun W W' h hb => h.trans (hb.mono h.size)) (hl := LitSp.lasts) (by omega) (by simp) rfl ((Below.refl _ _).alloc (Nat.le_refl _) _) (fun _ => ⟨W.heap.size, rfl, Blk.new _ _ _⟩))
                    clear hJ hdep hE
                    refine exec_lit (.tmp 95) rfl mk 0 1 nx 0 A n c ?_
                    unfold lexA
                    simp only [putAll, preI, Nat.reduceLT, Nat.reduceAdd, decide_true, decide_false, Bool.false_eq_true, if_true, if_false, Act.put, List.setIfInBounds_toArray, List.set_cons_zero, List.set_cons_succ]
                    rw [d13]
                    rfl
                  · have d4 : vs 4 = .slice Aw hs.length cw := hJ.dt 4 _ (hdep ⟨4, .data⟩ (by simp) rfl) rfl
                    obtain ⟨hbW, hsp⟩ := hJ.w0 hs9
                    obtain ⟨gL, d14, hkL⟩ := hsp 14 (hdep ⟨14, .data⟩ (by simp) rfl) rfl rfl
                    refine StepJ.app rfl (exec_appendO (.tmp 86) (.tmp 96) 23 rfl base 43 j0 (.agg #[.int .i64 0, .int .i64 0, .int .i64 0, .int .i64 0, .int .u32 0, .slice none 0 0]) 6 64 Try.underlying23 hj0 hy0 hy1 hy2 rfl (by omega) (.slice Aw hs.length cw) hs.length (hs.flatMap encH) ?_ (HS7.out.t.h.rw.below hbW) gL #[.int .i64 mk, .int .i64 0, .int .i64 1, .int .i64 nx, .int .u32 0, .slice A n c] ?_ hkL rfl (by simp [Value.oneCell']) (by unfold maxLen; omega) (by omega) (Nat.le_trans HS7.out.lo hbW.size)) (fun vn Wn ⟨hon, hgn, hnn⟩ => hJ.app (by simp; exact hdep ⟨14, .data⟩ (by simp) rfl) rfl ⟨hon, (Mod.of_below (F := fun k => (Value.slice Aw hs.length cw).ownBlock = some k) hbW).trans hgn (fun _ _ h => h), fun g hg => (hnn g hg).elim .inl (fun h => .inr (Nat.le_trans hbW.size h))⟩)
                    · clear hJ hdep hE hsp hkL hbW
                      unfold lexA
                      simp only [putAll, preI, Nat.reduceLT, Nat.reduceAdd, decide_true, decide_false, Bool.false_eq_true, if_true, if_false, Act.put, List.setIfInBounds_toArray, List.set_cons_zero, List.set_cons_succ]
                      rw [d4]
                      rfl
                    · clear hJ hdep hE hsp hkL hbW
                      unfold lexA
                      simp only [putAll, preI, Nat.reduceLT, Nat.reduceAdd, decide_true, decide_false, Bool.false_eq_true, if_true, if_false, Act.put, List.setIfInBounds_toArray, List.set_cons_zero, List.set_cons_succ]
                      rw [d14]
                      rfl
                  · have d0 : vs 0 = .pointer (some ⟨H, 0, none⟩) := hJ.dt 0 _ (hdep ⟨0, .data⟩ (by simp) rfl) rfl
                    refine StepJ.val (v := .pointer (some ⟨H, 0, none⟩)) rfl ?_ (hJ.same (by omega) (by simp) rfl)
                    clear hJ hdep hE
                    unfold lexA
                    simp only [putAll, preI, Nat.reduceLT, Nat.reduceAdd, decide_true, decide_false, Bool.false_eq_true, if_true, if_false, Act.put, List.setIfInBounds_toArray, List.set_cons_zero, List.set_cons_succ]
                    go_simp
                  · have d16 : vs 16 = .pointer (some ⟨H, 0, none⟩) := hJ.dt 16 _ (hdep ⟨16, .data⟩ (by simp) rfl) rfl
                    refine StepJ.val (v := .pointer (some ⟨H, 2, none⟩)) rfl ?_ (hJ.same (by omega) (by simp) rfl)
                    clear hJ hdep hE
                    unfold lexA
                    simp only [putAll, preI, Nat.reduceLT, Nat.reduceAdd, decide_true, decide_false, Bool.false_eq_true, if_true, if_false, Act.put, List.setIfInBounds_toArray, List.set_cons_zero, List.set_cons_succ]
                    go_simp
                · intro s vs W hall hJ
                  obtain ⟨hon, hmn, hnn⟩ := hJ.w1 (hall 15 (by omega))
                  obtain ⟨A8, c8, d15, _⟩ := hon.rd
                  rw [d15] at hon hnn
                  have hE8 := hmn.blk HS7.out.t.h.box (fun hg => by
                    obtain ⟨cs', hk'⟩ := HS7.out.t.h.rw.blk hg
                    exact absurd (blk_type hk' HS7.out.t.h.box) (by decide))
                  have y0 := hE8.cell 2 _ rfl
                  have y1 := hE8.free 2
                  have d17 : vs 17 = .pointer (some ⟨H, 2, none⟩) := hJ.dt 17 _ (hall 17 (by omega)) rfl
                  obtain ⟨q1, q2, q3, q4, q5, q6⟩ := HS7.out.t.h.wapp (x := ⟨⟨mk, 0, 1, nx, 0, ml⟩, A, n, c⟩) hon hmn hnn
                  have HNN := Lib.hid hnn
                  clear hJ hall hon hmn hE8 hnn
                  unfold lexA
                  simp only [putAll, preI, Nat.reduceLT, Nat.reduceAdd, decide_true, decide_false, Bool.false_eq_true, if_true, if_false, Act.put, List.setIfInBounds_toArray, List.set_cons_zero, List.set_cons_succ, List.drop_succ_cons, List.drop_zero]
                  rw [d15, d17]
                  go_upto_region 16 with (fail)
                  clear y0 y1 d15 d17
                  generalize W.setCell ⟨H, 2, none⟩ (.slice A8 (hs.length + 1) c8) = w9 at q1 q2 q3 q4 q5 q6 ⊢
                  have c3 := q1.cell 3 _ rfl
                  have HBX9 := Lib.hid q1
                  have HON := Lib.hid (And.intro q2 HNN.out)
                  have HRL9 := Lib.hid q3
                  have HRG9 := Lib.hid q4
                  have HAP9 := Lib.hid q5
                  have HMN9 := Lib.hid q6
                  have HLO9 := Lib.hid (Nat.le_trans HS7.out.lo q6.size)
                  clear q1 q2 q3 q4 q5 q6 HNN
                  refine wp_region_lit ?_
                  refine wpList_val2 rfl (v := .pointer (some ⟨H, 0, none⟩)) (w' := w9) ?_ ?_
                  · go_simp
                  simp only [Act.put, List.setIfInBounds_toArray, List.set_cons_zero, List.set_cons_succ]
                  refine wpList_val2 rfl (v := .pointer (some ⟨H, 0, none⟩)) (w' := w9) ?_ ?_
                  · go_simp
                  simp only [Act.put, List.setIfInBounds_toArray, List.set_cons_zero, List.set_cons_succ]
                  refine wpList_val2 rfl (v := .pointer (some ⟨H, 0, none⟩)) (w' := w9) ?_ ?_
                  · go_simp
                  simp only [Act.put, List.setIfInBounds_toArray, List.set_cons_zero, List.set_cons_succ]
                  refine wpList_val2 rfl (v := .pointer (some ⟨H, 3, none⟩)) (w' := w9) ?_ ?_
                  · go_simp
                  simp only [Act.put, List.setIfInBounds_toArray, List.set_cons_zero, List.set_cons_succ]
                  refine wpList_val2 rfl (v := .slice Al hs.length cl) (w' := w9) ?_ ?_
                  · go_simp
                  simp only [Act.put, List.setIfInBounds_toArray, List.set_cons_zero, List.set_cons_succ]
                  refine wpList_val2 rfl (v := .slice (some ⟨w9.heap.size, 0, none⟩) 1 1) (w' := w9.alloc (.cells #[.int .i64 (-1)] 3)) ?_ ?_
                  · exact exec_litL rfl
                  simp only [Act.put, List.setIfInBounds_toArray, List.set_cons_zero, List.set_cons_succ]
                  refine wpList_pushO rfl (.tmp 104) (.tmp 105) 29 rfl base 3 i0 (.int .i64 0) 1 8 Try.underlying29 hi0 hz0 hz1 hz2 rfl (by omega) (.slice Al hs.length cl) hs.length (hs.flatMap encL) rfl HRL9.out [.int .i64 (-1)] rfl rfl (by simp [Value.oneCell']) (by unfold maxLen; omega) (by omega) HLO9.out ?_
                  intro vl wl hon2 hmn2 hnn2
                  obtain ⟨A9, c9, e9, _⟩ := hon2.rd
                  subst e9
                  have hbL : Blk wl H 31 #[.int .i64 nx, .int .i64 wt, .slice A8 (hs.length + 1) c8, .slice Al hs.length cl, hg, .bool ow] := hmn2.blk HBX9.out (fun hg => by
                    obtain ⟨cs', hk'⟩ := HRL9.out.blk hg
                    exact absurd (blk_type hk' HBX9.out) (by decide))
                  have y0 := hbL.cell 3 _ rfl
                  have y1 := hbL.free 3
                  have c0 : (wl.setCell ⟨H, 3, none⟩ (.slice A9 (hs.length + 1) c9)).cell? ⟨H, 0, none⟩ = some (.int .i64 nx) := (hbL.set 3 (.slice A9 (hs.length + 1) c9)).cell 0 _ rfl
                  have cf := fun i => (hbL.set 3 (.slice A9 (hs.length + 1) c9)).free i
                  have HFIN := Lib.hid (deed_fin HS7.out HMM.out HON.out HBX9.out HRL9.out HRG9.out HAP9.out HMN9.out hon2 hmn2 hnn2)
                  clear hon2 hmn2 hnn2 hbL
                  simp only [Act.put, List.setIfInBounds_toArray, List.set_cons_zero, List.set_cons_succ]
                  go_upto_region 17 with (fail)
                  clear y0 y1
                  generalize wl.setCell ⟨H, 3, none⟩ (.slice A9 (hs.length + 1) c9) = wm at HFIN c0 cf ⊢
                  go_upto_region 18 with (fail)
                  clear c0 cf
                  generalize wm.setCell ⟨H, 0, none⟩ (.int .i64 (nx + 1)) = wF at HFIN ⊢
                  have HSR := HFIN
                  have HCC := Lib.hid (show PCond mk nx ml ws.length hs (nx + 1) (hs ++ [(⟨⟨mk, 0, 1, nx, 0, ml⟩, A, n, c⟩, -1)]) from ⟨fun h => absurd HPV.out h, fun _ => ⟨rfl, by rw [List.map_append]; rfl⟩⟩)
                  have HPUT := Lib.hid (put_any wF base E 0 1 nx wt ow vw vg ws gs HSR.out.t.e HSR.out.lo HLR.out.len (by omega) mk A n c ml ((HMM.out.below HSR.out.bel).more HSR.out.lo))
                  have z0 := HSR.out.bx.cell 0 _ rfl
                  have z5 := HSR.out.bx.cell 5 _ rfl
                  go_wp2_with fail
                  refine HPUT.out.mono ?_
                  intro e wd hpd
                  obtain ⟨rfl, hT, hB9⟩ := HSR.out.put_ HLR.out hB hpd HCC.out
                  have HTT := Lib.hid hT
                  have HBW := Lib.hid hB9
                  clear hpd hT hB9
                  rw [HPV.out]
                  go_wp2_with fail
                  go_ret
                  exact ⟨rfl, HTT.out, HBW.out⟩
            · have hf2 : ((F1 : Int) == 0) = false := by simp; omega
              have HPV := Lib.hid (HPC3.out.trans (if_pos hf1))
              have HCC := Lib.hid (show PCond mk nx ml ws.length hs nx hs from ⟨fun _ => ⟨rfl, rfl⟩, fun h => absurd (HPV.out.symm.trans h) (by first | decide | assumption)⟩)
              go_upto_region 18 with (fail)
              clear y0 y5 yc2
              have HPUT := Lib.hid (put_any w4 base E 0 1 nx wt ow vw vg ws gs HSR.out.t.e HSR.out.lo HLR.out.len (by omega) mk A n c ml ((HMM.out.below HSR.out.bel).more HSR.out.lo))
              have z0 := HSR.out.bx.cell 0 _ rfl
              have z5 := HSR.out.bx.cell 5 _ rfl
              go_wp2_with fail
              refine HPUT.out.mono ?_
              intro e wd hpd
              obtain ⟨rfl, hT, hB9⟩ := HSR.out.put_ HLR.out hB hpd HCC.out
              have HTT := Lib.hid hT
              have HBW := Lib.hid hB9
              clear hpd hT hB9
              rw [HPV.out]
              go_wp2_with fail
              go_ret
              exact ⟨rfl, HTT.out, HBW.out⟩
          · have hf2 : ((F0 : Int) == 0) = false := by simp; omega
            have HPV := Lib.hid (HPC2.out.trans (if_pos hf0))
            have HCC := Lib.hid (show PCond mk nx ml ws.length hs nx hs from ⟨fun _ => ⟨rfl, rfl⟩, fun h => absurd (HPV.out.symm.trans h) (by first | decide | assumption)⟩)
            go_upto_region 18 with (fail)
            clear y0 y5 yc2
            have HPUT := Lib.hid (put_any w3 base E 0 1 nx wt ow vw vg ws gs HSR.out.t.e HSR.out.lo HLR.out.len (by omega) mk A n c ml ((HMM.out.below HSR.out.bel).more HSR.out.lo))
            have z0 := HSR.out.bx.cell 0 _ rfl
            have z5 := HSR.out.bx.cell 5 _ rfl
            go_wp2_with fail
            refine HPUT.out.mono ?_
            intro e wd hpd
            obtain ⟨rfl, hT, hB9⟩ := HSR.out.put_ HLR.out hB hpd HCC.out
            have HTT := Lib.hid hT
            have HBW := Lib.hid hB9
            clear hpd hT hB9
            rw [HPV.out]
            go_wp2_with fail
            go_ret
            exact ⟨rfl, HTT.out, HBW.out⟩
      · have hdum : True := trivial
        have HIN := Lib.hid (hin_any w2 base E H B nx wt ow vw vg hw hl hg ws hs gs hgs HS1.out.t HLR.out hB HS1.out.lo mk mq mc ml A n c (HM.out.below HS1.out.bel))
        have HBL := Lib.hid HS1.out.bel
        go_wp2_with fail
        refine HIN.out.mono ?_
        rintro e w3 ⟨rfl, hT, hb⟩
        have HTT := Lib.hid hT
        have HBW := Lib.hid (HBL.out.trans hb)
        clear hT hb
        go_wp2_with fail
        go_ret
        exact ⟨rfl, HTT.out, HBW.out⟩
      · have HIN := Lib.hid (hin_any w2 base E H B nx wt ow vw vg hw hl hg ws hs gs hgs HS1.out.t HLR.out hB HS1.out.lo mk mq mc ml A n c (HM.out.below HS1.out.bel))
        have HBL := Lib.hid HS1.out.bel
        go_wp2_with fail
        refine HIN.out.mono ?_
        rintro e w3 ⟨rfl, hT, hb⟩
        have HTT := Lib.hid hT
        have HBW := Lib.hid (HBL.out.trans hb)
        clear hT hb
        go_wp2_with fail
        go_ret
        exact ⟨rfl, HTT.out, HBW.out⟩
      · have HOT := Lib.hid (hout_any w2 base E H B nx wt ow vw vg hw hl hg ws hs gs hgs HS1.out.t HLR.out hB HS1.out.lo a u)
        have HBL := Lib.hid HS1.out.bel
        clear z0 z1 z2 z3 z4 z5
        go_wp2_with fail
        rw [← HU.out]
        refine HOT.out.mono ?_
        rintro e w3 ⟨rfl, hT, hb⟩
        have HTT := Lib.hid hT
        have HBW := Lib.hid (HBL.out.trans hb)
        clear hT hb
        go_wp2_with fail
        go_ret
        exact ⟨rfl, HTT.out, HBW.out⟩
      · obtain ⟨Ag, cg, hvg, _⟩ := own_rd HS1.out.t.h.rg
        subst hvg
        obtain ⟨Av, cv, hvv, _⟩ := own_rd HS1.out.t.e.rg
        subst hvv
        have c4 := HS1.out.t.h.box.cell 4 _ rfl
        have cf := fun i => HS1.out.t.h.box.free i
        clear z0 z1 z2 z3 z4 z5
        go_upto_region 26 with (fail)
        clear c4 cf
        have hm4 : Mod (fun k => k = H) w2 (w2.setCell ⟨H, 4, none⟩ (.slice none 0 0)) := (Mod.refl (fun g => g = H) w2).set (g := H) (fun _ => rfl) 4 _
        have hoffH : ∀ {t cs}, ∀ g, Blk w2 g t cs → t ≠ 31 → ¬ g = H := fun g hk ht e => by
          subst e
          exact ht (blk_type hk HS1.out.t.h.box)
        have hgr := hm4.own HS1.out.t.h.rg (fun g cs _ hk => hoffH g hk (by decide))
        have hT4 := HS1.out.t.half (HS1.out.t.h.mk' (hg' := .slice none 0 0) (gs' := []) hm4 (fun g e => by rw [e]; exact HS1.out.t.h.lo) (HS1.out.t.h.box.set 4 _) (HS1.out.t.h.rw.mod hm4 (fun g hg => by
          obtain ⟨cs', hk'⟩ := HS1.out.t.h.rw.blk hg
          exact hoffH g hk' (by decide))) (HS1.out.t.h.rl.mod hm4 (fun g hg => by
          obtain ⟨cs', hk'⟩ := HS1.out.t.h.rl.blk hg
          exact hoffH g hk' (by decide))) (World.ownsRow_nil _ _ _ _) (fun y hy => .inl hy) (fun y hy => (by cases hy)) (fun g _ e => (by cases e))) (hm4.mono (fun k _ e => Or.inl e)) (nearV_refl _ _) (fun g e => (by cases e))
        have hB4 : Below base w (w2.setCell ⟨H, 4, none⟩ (.slice none 0 0)) := HS1.out.bel.trans (hm4.below (fun g hg e => by have := HS1.out.t.h.lo; omega) HS1.out.lo)
        have hL4 : base ≤ (w2.setCell ⟨H, 4, none⟩ (.slice none 0 0)).heap.size := Nat.le_trans HS1.out.lo hm4.size
        have HMG := Lib.hid (show ∀ s ∈ hgs, MsgAt (w2.setCell ⟨H, 4, none⟩ (.slice none 0 0)) base s.m s.A s.n s.c from fun s hs => (HS1.out.t.h.mg s hs).below (hm4.below (fun g hg e => by have := HS1.out.t.h.lo; omega) HS1.out.lo))
        generalize w2.setCell ⟨H, 4, none⟩ (.slice none 0 0) = w4 at hgr hT4 hB4 hL4 HMG ⊢
        have HTK := Lib.hid (ltake_any hT4.e)
        have HT4 := Lib.hid hT4
        have HGR := Lib.hid hgr
        have HB4 := Lib.hid hB4
        have HL4 := Lib.hid hL4
        clear hm4 hoffH hgr hT4 hB4 hL4 HS1
        go_wp2_with fail
        refine HTK.out.mono ?_
        rintro e w5 ⟨rfl, hr5, hm5, hE5, hM5⟩
        have hT5 := HT4.out.end_ hE5 (hM5.mono (fun k _ e => Or.inl e)) (fun g e => (by cases e))
        have hb5 : Below base w4 w5 := hM5.below (fun g hg e => by have := HT4.out.e.lo; omega) HL4.out
        have hgr5 := hM5.own HGR.out (fun g cs _ hk e => by
          subst e
          exact absurd (blk_type hk HT4.out.e.box) (by decide))
        have HEQ := Lib.hid (eqmsgs_big w5 _ _ _ _ gs hgs (MsgsAt.of hr5 hm5) ⟨_, _, _, rfl, hgr5, fun s hs => ((HMG.out s hs).below hb5).more (Nat.le_trans HL4.out hM5.size)⟩ HLR.out.g (by have := HLR.out.gl; omega))
        have HFIN := Lib.hid (show TwoSt base E H (B + 1) w5 from ⟨_, _, _, _, _, _, _, _, _, _, _, _, hT5, by
          obtain ⟨g1, g2, g3, g4, g5, g6, g7, g8⟩ := HLR.out
          exact ⟨g1, rfl, g3, g4, by omega, by omega, Nat.zero_le _, by omega⟩⟩)
        have HB5 := Lib.hid (HB4.out.trans hb5)
        have HL5 := Lib.hid (Nat.le_trans HL4.out hM5.size)
        clear hr5 hm5 hE5 hM5 hT5 hb5 hgr5 HTK
        go_wp2_with fail
        refine HEQ.out.mono ?_
        rintro e w6 ⟨rfl, hb6⟩
        have HB6 := Lib.hid hb6
        clear hb6
        go_wp2_with fail
        go_ret
        refine ⟨rfl, ?_, HB5.out.trans (HB6.out.mono HL5.out)⟩
        obtain ⟨a1, a2, a3, a4, a5, a6, a7, a8, a9, a10, a11, a12, ht, hl⟩ := HFIN.out
        exact ⟨a1, a2, a3, a4, a5, a6, a7, a8, a9, a10, a11, a12, ht.below HB6.out, hl⟩
end Go.Proofs.Ytpnefacignalpaa

namespace Go.Proofs.Ytpnefacignalpaa.linkPlays
open Go.RowKit Go.Gy
set_option linter.unusedVariables false
set_option linter.unusedSimpArgs false
structure PlX where
  nx : Int
  wt : Int
  ow : Bool
  vw : Value
  ws : List WK
  vg : Value
  gs : List SM
  Ah : Option Addr
  ch : Nat
  hl : Value
  hs : List WK
  hg : Value
  hgs : List SM
def PlT (w : World) (E H B : Nat) (x : PlX) (W : World) : Prop := TwoAt W w.heap.size E H x.nx x.wt x.ow x.vw x.ws x.vg x.gs x.nx x.wt x.ow (.slice x.Ah x.hs.length x.ch) x.hl x.hs x.hg x.hgs ∧ LR B x.nx x.wt x.ws x.hs x.gs x.hgs ∧ Below w.heap.size w W
theorem PlT.lasts (w : World) (E H B : Nat) (x : PlX) : Lasts (PlT w E H B x) := fun W W' h hb => ⟨h.1.below hb, h.2.1, h.2.2.trans (hb.mono h.2.2.size)⟩
theorem PlT.of {w W : World} {E H B : Nat} (h : TwoSt w.heap.size E H B W) (hb : Below w.heap.size w W) : ∃ x, PlT w E H B x W := by
  obtain ⟨nx, wt, ow, vw, ws, vg, gs, hw, hl, hs, hg, hgs, ht, hlr⟩ := h
  obtain ⟨A, c, e, _⟩ := ht.h.rw.rd
  subst e
  exact ⟨⟨nx, wt, ow, vw, ws, vg, gs, A, c, hl, hs, hg, hgs⟩, ht, hlr, hb⟩
theorem PlT.to {w W : World} {E H B : Nat} {x : PlX} (h : PlT w E H B x W) : TwoSt w.heap.size E H B W := ⟨_, _, _, _, _, _, _, _, _, _, _, _, h.1, h.2.1⟩
def PlRel (w : World) (E H nd : Nat) (i : Value) (wr : World) : Prop := ∃ j : Nat, j ≤ nd ∧ i = .int .i64 j ∧ TwoSt w.heap.size E H j wr ∧ Below w.heap.size w wr
set_option maxRecDepth 100000 in
set_option maxHeartbeats 8000000 in
theorem walk (v0 v1 : Value) (w : World) {b0 b1 : Nat} (f0 : SlArg encD wfD 3 24 w v0 b0) (f1 : MsgsArg w v1 b1) (hk : b0 ≤ 1048576 ∧ b1 ≤ 1048576) :
    Calls Try.prog 3 #[v0, v1] w fun e w' => e = .returned (.bool true) ∧ Below w.heap.size w w' := by
  obtain ⟨Ad, nd, cd, DS, rfl, hDl, hDc, _, _, hDb, hDn, hDd, hDw⟩ := f0
  obtain ⟨Am, nm, cm, L, rfl, hLl, hLc, hLr, _, hLn, hLd, hLm⟩ := f1
  have hnd : nd ≤ 1048576 := by omega
  have hnm : nm ≤ 4398046511103 := by unfold reachBytes at *; omega
  have HDD := Lib.hid hDd
  have HDL := Lib.hid hDl
  have HNEW := Lib.hid (new_ok w 0 1 (by omega))
  have HBAD := Lib.hid (fun W => new_bad W)
  have HDEED := Lib.hid (fun (W : World) (E H B : Nat) (x : PlX) (h : PlT w E H B x W) (hB : B + 1 ≤ 1073741824) (d0 d1 d2 : Int) => deed_any W w.heap.size E H B x.nx x.wt x.ow x.vw x.vg (.slice x.Ah x.hs.length x.ch) x.hl x.hg x.ws x.hs x.gs x.hgs h.1 h.2.1 hB h.2.2.size d0 d1 d2 Am nm cm L hLl hnm (hLd.below h.2.2) (fun s hs => (hLm s hs).1.below h.2.2))
  clear hDl hDc hDb hDn hDd hDw hLl hLc hLr hLn hLd hLm hk
  go_enter Try.func3, Try.ntmps3
  go_wp2_with fail
  refine HNEW.out.mono ?_
  rintro e w1 ⟨E, rfl, hE1, hb1⟩
  have HE1 := Lib.hid hE1
  have HB1 := Lib.hid hb1
  clear hE1 hb1 HNEW
  go_wp2_with fail
  refine (HBAD.out _).mono ?_
  rintro e w2 ⟨rfl, hb2⟩
  have hE2 := HE1.out.below hb2
  have hB2 := HB1.out.trans (hb2.mono HB1.out.size)
  have HE2 := Lib.hid hE2
  have HB2 := Lib.hid hB2
  clear hb2 hE2 hB2 HE1 HB1 HBAD
  go_upto_region 8 with (fail)
  have hk3 := Blk.new w2 31 #[.int .i64 0, .int .i64 0, .slice none 0 0, .slice none 0 0, .slice none 0 0, .bool false]
  have hb3 : Below w2.heap.size w2 (w2.alloc (.cells #[.int .i64 0, .int .i64 0, .slice none 0 0, .slice none 0 0, .slice none 0 0, .bool false] 31)) := (Below.refl _ _).alloc (Nat.le_refl _) _
  have hst := Lib.hid (show PlRel w E w2.heap.size nd (.int .i64 0) (w2.alloc (.cells #[.int .i64 0, .int .i64 0, .slice none 0 0, .slice none 0 0, .slice none 0 0, .bool false] 31)) from ⟨0, Nat.zero_le _, rfl, ⟨0, 0, false, .slice none 0 0, [], .slice none 0 0, [], .slice none 0 0, .slice none 0 0, [], .slice none 0 0, [], ⟨HE2.out.below hb3, ⟨HB2.out.size, hk3, OffRow.nil _ _ _ _, OffRow.nil _ _ _ _, World.ownsRow_nil _ _ _ _, fun x hx => (by cases hx), fun x hx => (by cases hx), fun g hg => (by cases hg)⟩, fun g hg => (by cases hg)⟩, ⟨rfl, rfl, Nat.zero_le _, fun x hx => (by cases hx), by omega, by omega, Nat.zero_le _, by omega⟩⟩, HB2.out.trans (hb3.mono HB2.out.size)⟩)
  generalize w2.alloc (.cells #[.int .i64 0, .int .i64 0, .slice none 0 0, .slice none 0 0, .slice none 0 0, .bool false] 31) = w4 at hst ⊢
  obtain ⟨H, hH⟩ : ∃ H, H = w2.heap.size := ⟨_, rfl⟩
  rw [← hH] at hst ⊢
  clear hk3 hb3 HE2 HB2 hH
  go_wp2_with fail
  go_loopw [32] (fun i wr => PlRel w E H nd i wr) (fun i _ => nd - (intOf i).toNat)
  case atStart => exact hst.out
  case round =>
    clear hst
    obtain ⟨j, hj, rfl, hP, hbr⟩ := hrel
    by_cases hlt : j < nd
    · have hji : (j : Int) < (nd : Int) := by omega
      have hwj : IntKind.i64.wrap ((j : Int) + 1) = (j : Int) + 1 := by rw [IntKind.wrap_i64]; omega
      obtain ⟨bd, od, ⟨d0, d1, d2⟩, rfl, hbB, hg, hcc⟩ := (HDD.out.below hbr).elem encD_len HDL.out hlt
      have x0 : wr.cell? ⟨bd, od + j * 3, none⟩ = some (.int .i64 d0) := hcc 0 _ rfl
      have x1 : wr.cell? ⟨bd, od + j * 3 + 1, none⟩ = some (.int .i64 d1) := hcc 1 _ rfl
      have x2 : wr.cell? ⟨bd, od + j * 3 + 2, none⟩ = some (.int .i64 d2) := hcc 2 _ rfl
      obtain ⟨x, hX⟩ := PlT.of hP hbr
      have HX := Lib.hid hX
      clear hcc hg hP hX hbr
      go_upto_region 11 with (fail)
      have hk5 := Blk.new wr 32 #[.int .i64 d0, .int .i64 d1, .int .i64 d2]
      have hb5 : Below wr.heap.size wr (wr.alloc (.cells #[.int .i64 d0, .int .i64 d1, .int .i64 d2] 32)) := (Below.refl _ _).alloc (Nat.le_refl _) _
      obtain ⟨gd, hgd⟩ : ∃ gd, gd = wr.heap.size := ⟨_, rfl⟩
      have hX5 := PlT.lasts _ _ _ _ _ _ _ HX.out hb5
      generalize wr.alloc (.cells #[.int .i64 d0, .int .i64 d1, .int .i64 d2] 32) = w5 at hk5 hX5 ⊢
      rw [← hgd] at hk5 ⊢
      clear hb5 hgd x0 x1 x2 HX
      refine wp_region_seq_mid (fun W => PlT w E H j x W ∧ Blk W gd 32 #[.int .i64 d0, .int .i64 d1, .int .i64 d2]) (fun W W' h hb => ⟨PlT.lasts _ _ _ _ _ _ _ h.1 hb, h.2.below hb h.2.lt⟩) (fun _ : PlX => .bool true) (fun y W => PlT w E H (j + 1) y W) (fun y => PlT.lasts _ _ _ _ _) 9 _ (by kernel_rfl) (by kernel_rfl) rfl ⟨PlT.lasts _ _ _ _ _ _ _ hX5 (Below.refl _ _).drew, hk5.below (Below.refl _ _).drew hk5.lt⟩ ?_
      simp only [List.take_succ_cons, List.take_zero, List.drop_succ_cons, List.drop_zero]
      clear hk5 hX5
      repeat (first
        | (refine wpSeq_off (by rfl) ?_; try simp only [Act.put, List.setIfInBounds_toArray, List.set_cons_zero, List.set_cons_succ])
        | (refine wpSeq_val (v := ?_) (by rfl) (fun W hS => ?_) ?_
           rotate_left
           · ((have y0 := hS.2.cell 0 _ rfl; have y1 := hS.2.cell 1 _ rfl; have y2 := hS.2.cell 2 _ rfl; clear hS); go_simp; first | done | with_reducible rfl)
           try simp only [Act.put, List.setIfInBounds_toArray, List.set_cons_zero, List.set_cons_succ]))
      refine wpSeq_nil ⟨⟨rfl, fun W hS => ⟨_, _, ?_, (HDEED.out W E H j x hS.1 (by omega) d0 d1 d2).mono fun e w'' ⟨he, hT, hb⟩ => ?_⟩⟩, fun y => ?_⟩
      · clear hS
        go_simp
      · obtain ⟨y, hy⟩ := PlT.of hT (hS.1.2.2.trans hb)
        exact ⟨y, he, hy⟩
      simp only [List.setIfInBounds_toArray, List.set_cons_zero, List.set_cons_succ]
      have HWT := Lib.hid (show ∀ W, PlT w E H (j + 1) y W → Calls Try.prog 11 #[.pointer (some ⟨E, 0, none⟩)] W fun e w' => e = .returned (.int .i64 (y.hs.length : Int)) ∧ Below W.heap.size W w' from fun W hS => by
        have h1 := congrArg List.length hS.2.1.w
        rw [List.length_map, List.length_map] at h1
        have h2 := waits_any hS.1.e
        rw [← h1] at h2
        exact h2)
      repeat (first
        | (refine wpSeq_off (by rfl) ?_; try simp only [Act.put, List.setIfInBounds_toArray, List.set_cons_zero, List.set_cons_succ])
        | (refine wpSeq_val (v := ?_) (by rfl) (fun W hS => ?_) ?_
           rotate_left
           · ((clear hS); go_simp; first | done | with_reducible rfl)
           try simp only [Act.put, List.setIfInBounds_toArray, List.set_cons_zero, List.set_cons_succ]))
      refine wpSeq_call (v := .int .i64 (y.hs.length : Int)) (by rfl) (fun W hS => ?_) (fun W hS => ((fun W hS => HWT.out W hS) W hS)) ?_
      · (clear hS; go_simp; done)
      try simp only [Act.put, List.setIfInBounds_toArray, List.set_cons_zero, List.set_cons_succ]
      repeat (first
        | (refine wpSeq_off (by rfl) ?_; try simp only [Act.put, List.setIfInBounds_toArray, List.set_cons_zero, List.set_cons_succ])
        | (refine wpSeq_val (v := ?_) (by rfl) (fun W hS => ?_) ?_
           rotate_left
           · ((have c2 := hS.1.h.box.cell 2 _ rfl; clear hS); go_simp; first | done | with_reducible rfl)
           try simp only [Act.put, List.setIfInBounds_toArray, List.set_cons_zero, List.set_cons_succ]))
      refine wpSeq_nil (fun W hS => ?_)
      have HX := Lib.hid (show PlRel w E H nd (.int .i64 ((j : Int) + 1)) W from ⟨j + 1, hlt, by simp, hS.to, hS.2.2⟩)
      clear hS
      go_wp2_with fail
      go_roundw
      case rel => exact HX.out
      case measure => simp [intOf]; omega
    · obtain rfl : j = nd := by omega
      have hji : ¬ (j : Int) < (j : Int) := by omega
      have HX := Lib.hid hbr
      clear hP hbr
      go_wp2
      go_ret
      exact ⟨rfl, HX.out⟩
end Go.Proofs.Ytpnefacignalpaa.linkPlays
