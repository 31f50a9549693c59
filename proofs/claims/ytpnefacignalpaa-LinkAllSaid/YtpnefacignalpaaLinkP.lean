/- An end of a connection: where it lies; link.New, Waits, Take. Conditions: those typed. -/
import Derived.Test.YtpnefacignalpaaOffR
import Derived.Test.YtpnefacignalpaaLapJ
import Derived.Test.YtpnefacignalpaaExtN
import Derived.Test.YtpnefacignalpaaPlainN
import Derived.Test.YtpnefacignalpaaInvK
namespace Go.Proofs.Ytpnefacignalpaa
open Go.RowKit Go.Gy
set_option linter.unusedVariables false
set_option linter.unusedSimpArgs false
/-- a waiting message and when it was sent last -/
abbrev WK := SM × Int
def encW (x : WK) : List Value := encM x.1 ++ [.int .i64 x.2]
theorem encW_len (x : WK) : (encW x).length = 7 := rfl
theorem encW_one (L : List WK) : ∀ u ∈ L.flatMap encW, u.oneCell' = true := by
  intro u hu
  obtain ⟨c, _, h⟩ := List.mem_flatMap.1 hu
  simp only [encW, encM, List.cons_append, List.nil_append, List.mem_cons, List.not_mem_nil, or_false] at h
  rcases h with rfl | rfl | rfl | rfl | rfl | rfl | rfl <;> rfl
theorem info_item : (Try.prog.info? 94).map (fun i => (i.zero, i.size, i.bytes)) = some (some (.agg #[.int .i64 0, .int .i64 0, .int .i64 0, .int .i64 0, .int .u32 0, .slice none 0 0, .int .i64 0]), 7, 72) := by kernel_rfl
structure EndAt (W : World) (base E : Nat) (a b nx wt : Int) (ow : Bool) (vw : Value) (ws : List WK) (vg : Value) (gs : List SM) : Prop where
  lo : base ≤ E
  box : Blk W E 70 #[.int .i64 a, .int .i64 b, .int .i64 nx, vw, .int .i64 wt, vg, .bool ow]
  rw : OffRow W base 94 7 vw ws.length (ws.flatMap encW)
  rg : W.ownsRow base 43 6 vg gs.length (gs.flatMap encM)
  mw : ∀ x ∈ ws, MOwn W base x.1
  mg : ∀ g ∈ gs, MOwn W base g
def EndF (E : Nat) (vw vg : Value) (k : Nat) : Prop := k = E ∨ vw.ownBlock = some k ∨ vg.ownBlock = some k
section
variable {W W' : World} {base E : Nat} {a b nx wt : Int} {ow : Bool} {vw vg : Value} {ws : List WK} {gs : List SM}
theorem EndAt.keep {F : Nat → Prop} (h : EndAt W base E a b nx wt ow vw ws vg gs) (hm : Mod F W W') (hF : ∀ g t cs, Blk W g t cs → F g → ¬ EndF E vw vg g ∧ t ≠ 88) : EndAt W' base E a b nx wt ow vw ws vg gs := by
  obtain ⟨h1, h2, h3, h4, h5, h6⟩ := h
  have hm' : ∀ s, MOwn W base s → MOwn W' base s := fun s hs => ⟨hm.own hs.1 (fun g cs _ hk hf => (hF _ _ _ hk hf).2 rfl), hs.2⟩
  exact ⟨h1, hm.blk h2 (fun hf => (hF _ _ _ h2 hf).1 (.inl rfl)), h3.mod hm (fun g hg hf => by
    obtain ⟨cs, hk⟩ := h3.blk hg
    exact (hF _ _ _ hk hf).1 (.inr (.inl hg))), hm.own h4 (fun g cs hg hk hf => (hF _ _ _ hk hf).1 (.inr (.inr hg))), fun x hx => hm' _ (h5 x hx), fun x hx => hm' _ (h6 x hx)⟩
theorem EndAt.below (h : EndAt W base E a b nx wt ow vw ws vg gs) (hb : Below W.heap.size W W') : EndAt W' base E a b nx wt ow vw ws vg gs := h.keep (F := fun _ => False) (Mod.of_below hb) (fun _ _ _ _ hf => hf.elim)
theorem EndAt.flo (h : EndAt W base E a b nx wt ow vw ws vg gs) : ∀ g, EndF E vw vg g → base ≤ g ∧ g < W.heap.size := by
  rintro g (rfl | hg | hg)
  · exact ⟨h.lo, h.box.lt⟩
  · exact h.rw.lt g hg
  · exact h.rg.lt g hg
/-- the types of an end's blocks -/
theorem EndAt.typ (h : EndAt W base E a b nx wt ow vw ws vg gs) {g : Nat} {t : TypeId} {cs : Array Value} (hk : Blk W g t cs) (hf : EndF E vw vg g) : (t = 70 ∨ t = 94 ∨ t = 43) := by
  rcases hf with rfl | hg | hg
  · exact .inl (blk_type hk h.box)
  · obtain ⟨cs', hk'⟩ := h.rw.blk hg
    exact .inr (.inl (blk_type hk hk'))
  · obtain ⟨cs', hk'⟩ := own_blk h.rg hg
    exact .inr (.inr (blk_type hk hk'))
/-- a cell of the box is stored -/
theorem EndAt.put {u : Value} {k : Nat} {nx' wt' : Int} {ow' : Bool} (h : EndAt W base E a b nx wt ow vw ws vg gs) (hc : (#[.int .i64 a, .int .i64 b, .int .i64 nx, vw, .int .i64 wt, vg, .bool ow] : Array Value).setIfInBounds k u = #[.int .i64 a, .int .i64 b, .int .i64 nx', vw, .int .i64 wt', vg, .bool ow']) : EndAt (W.setCell ⟨E, k, none⟩ u) base E a b nx' wt' ow' vw ws vg gs ∧ Mod (fun g => g = E) W (W.setCell ⟨E, k, none⟩ u) := by
  have hm : Mod (fun g => g = E) W (W.setCell ⟨E, k, none⟩ u) := (Mod.refl (fun g => g = E) W).set (g := E) (fun _ => rfl) k u
  have hm' : ∀ s, MOwn W base s → MOwn (W.setCell ⟨E, k, none⟩ u) base s := fun s hs => ⟨hm.own hs.1 (fun g cs _ hk hf => by
    subst hf
    exact absurd (blk_type hk h.box) (by decide)), hs.2⟩
  refine ⟨⟨h.lo, ?_, h.rw.mod hm (fun g hg hf => ?_), hm.own h.rg (fun g cs _ hk hf => ?_), fun x hx => hm' _ (h.mw x hx), fun x hx => hm' _ (h.mg x hx)⟩, hm⟩
  · have := h.box.set k u
    rwa [hc] at this
  · subst hf
    obtain ⟨cs, hk⟩ := h.rw.blk hg
    exact absurd (blk_type hk h.box) (by decide)
  · subst hf
    exact absurd (blk_type hk h.box) (by decide)
end
def newOk (a b : Int) : Bool := decide (0 ≤ a ∧ 0 ≤ b ∧ a ≤ 4 ∧ b ≤ 4 ∧ a ≠ b)
set_option maxRecDepth 100000 in
theorem new_ok (w : World) (a b : Int) (h : 0 ≤ a ∧ 0 ≤ b ∧ a ≤ 4 ∧ b ≤ 4 ∧ a ≠ b) :
    Calls Try.prog 9 #[.int .i64 a, .int .i64 b] w fun e w' => ∃ E, e = .returned (.tuple #[.pointer (some ⟨E, 0, none⟩), .int .i64 0]) ∧ EndAt w' w.heap.size E a b 0 0 false (.slice none 0 0) [] (.slice none 0 0) [] ∧ Below w.heap.size w w' := by
  have hm : min a b = if a ≤ b then a else b := by rw [Int.min_def]
  have h1 : ¬ min a b < 0 := by omega
  have h2 : ¬ 4 < max a b := by omega
  have h3 : (a == b) = false := by simpa using h.2.2.2.2
  clear hm h
  go_enter Try.func9, Try.ntmps9
  go_wp2_with fail
  all_goals
    go_ret2
    exact ⟨w.heap.size, rfl, ⟨Nat.le_refl _, Blk.new _ _ _, OffRow.nil _ _ _ _, World.ownsRow_nil _ _ _ _, fun x hx => (by cases hx), fun x hx => (by cases hx)⟩, (Below.refl _ _).alloc (Nat.le_refl _) _⟩
theorem new_bad (w : World) :
    Calls Try.prog 9 #[.int .i64 2, .int .i64 2] w fun e w' => e = .returned (.tuple #[.pointer none, .int .i64 16]) ∧ Below w.heap.size w w' := by
  go_enter Try.func9, Try.ntmps9
  go_wp2_with fail
  go_ret2
  exact ⟨rfl, Below.refl _ _⟩
theorem waits_any {W : World} {base E : Nat} {a b nx wt : Int} {ow : Bool} {vw vg : Value} {ws : List WK} {gs : List SM} (h : EndAt W base E a b nx wt ow vw ws vg gs) :
    Calls Try.prog 11 #[.pointer (some ⟨E, 0, none⟩)] W fun e w' => e = .returned (.int .i64 (ws.length : Int)) ∧ Below W.heap.size W w' := by
  obtain ⟨A1, c1, rfl, _⟩ := h.rw.rd
  have c3 := h.box.cell 3 _ rfl
  clear h
  go_enter Try.func11, Try.ntmps11
  go_wp2
  go_ret
  exact ⟨rfl, Below.refl _ _⟩
theorem ltake_any {W : World} {base E : Nat} {a b nx wt : Int} {ow : Bool} {vw vg : Value} {ws : List WK} {gs : List SM} (h : EndAt W base E a b nx wt ow vw ws vg gs) :
    Calls Try.prog 30 #[.pointer (some ⟨E, 0, none⟩)] W fun e w' => e = .returned vg ∧ w'.ownsRow base 43 6 vg gs.length (gs.flatMap encM) ∧ (∀ g ∈ gs, MOwn w' base g) ∧ EndAt w' base E a b nx wt ow vw ws (.slice none 0 0) [] ∧ Mod (fun g => g = E) W w' := by
  obtain ⟨A1, c1, hv, _⟩ := own_rd h.rg
  subst hv
  have c5 := h.box.cell 5 _ rfl
  have hf := h.box.free 5
  have H := Lib.hid h
  clear h
  go_enter Try.func30, Try.ntmps30
  go_wp2
  go_ret
  have h := H.out
  have hm : Mod (fun g => g = E) W (W.setCell ⟨E, 5, none⟩ (.slice none 0 0)) := (Mod.refl (fun g => g = E) W).set (g := E) (fun _ => rfl) 5 _
  have hm' : ∀ s, MOwn W base s → MOwn (W.setCell ⟨E, 5, none⟩ (.slice none 0 0)) base s := fun s hs => ⟨hm.own hs.1 (fun g cs _ hk hf => by
    subst hf
    exact absurd (blk_type hk h.box) (by decide)), hs.2⟩
  refine ⟨rfl, hm.own h.rg (fun g cs _ hk hf => ?_), fun g hg => hm' g (h.mg g hg), ⟨h.lo, h.box.set 5 _, h.rw.mod hm (fun g hg hf => ?_), World.ownsRow_nil _ _ _ _, fun x hx => hm' _ (h.mw x hx), fun x hx => (by cases hx)⟩, hm⟩
  · subst hf
    exact absurd (blk_type hk h.box) (by decide)
  · subst hf
    obtain ⟨cs, hk⟩ := h.rw.blk hg
    exact absurd (blk_type hk h.box) (by decide)
end Go.Proofs.Ytpnefacignalpaa
