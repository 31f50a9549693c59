/- Writing a table: a row of what an arm has; those that wait. Conditions: those typed. -/
import Derived.Test.YtambngbkegnghaaTabDel
namespace Go.Proofs.Ytambngbkegnghaa
open Go.RowKit Go.Gy
set_option linter.unusedVariables false
theorem Held.off {w w' : World} {p hb : Nat} {wv v : Value} {r : List Cell} (h : Held w p hb wv v r) (hz : w.heap.size ≤ w'.heap.size)
    (hk : ∀ b, b < w.heap.size → b ≠ p → b ≠ hb → wv.ownBlock ≠ some b → w'.heap[b]? = w.heap[b]?) {wv' : Value} (hn : Near w wv wv') : Held w' p hb wv' v r := by
  obtain ⟨⟨A, n, c, rfl, h1, h2, h3, h4⟩, h5⟩ := h
  have hlt : 0 < n → ∀ g, (Value.slice A n c).ownBlock = some g → g < w.heap.size := fun hn g hg => by
    obtain ⟨b, o, rfl, hb, _⟩ := h4.2 hn
    have : b = g := by simpa [Value.ownBlock] using hg
    omega
  refine ⟨⟨A, n, c, rfl, h1, h2, h3, h4.1, fun hn => ?_⟩, fun hr g hg => ?_⟩
  · obtain ⟨b, o, rfl, hb, hc⟩ := h4.2 hn
    obtain ⟨e1, e2, e3⟩ := h5 (by omega) b rfl
    exact ⟨b, o, rfl, by omega, fun j u hu => (World.cell?_of_block (a := ⟨b, o + j, none⟩) (hk b hb e1 e2 e3)).trans (hc j u hu)⟩
  · obtain ⟨e1, e2, e3⟩ := h5 hr g hg
    refine ⟨e1, e2, fun h' => ?_⟩
    rcases hn g h' with h6 | h6
    · exact e3 h6
    · have := hlt (by omega) g hg; omega
theorem Near.refl (w : World) (v : Value) : Near w v v := fun _ h => .inl h
theorem TabX.off_has {w w' : World} {B p : Nat} {st : Tab} {X : List (Value × List Cell)} {hb : Nat} {vs : List Value} {wv : Value} {wl : List (Int × Value)} (h : TabX w B p st X hb vs wv wl) (hw : ∀ {v r}, Held w p hb wv v r → Held w' p hb wv v r) {a : Nat} {v : Value} {r : List Cell}
    (hv : Held w' p hb wv v r) (hblk : Blk w' p 75 #[.slice (some ⟨hb, 0, none⟩) vs.length vs.length, wv]) (hh : Blk w' hb 24 (vs.set a v).toArray) (hrow : w'.ownsRow B 77 2 wv wl.length (wl.flatMap encW)) : TabX w' B p (st.1.set a r, st.2) X hb (vs.set a v) wv wl := by
  refine ⟨h.pB, h.hB, by rw [List.length_set]; exact hblk, hh, hrow, by simp [h.hlen], fun i v' r' h1 h2 => ?_, h.wlen, fun i x y h1 h2 => ⟨(h.wts i x y h1 h2).1, hw (h.wts i x y h1 h2).2⟩, fun x hx => hw (h.ext x hx)⟩
  rw [List.getElem?_set] at h1 h2
  by_cases hi : a = i
  · subst hi
    rw [if_pos rfl] at h1 h2
    split at h1
    · split at h2
      · injection h1 with h1; injection h2 with h2
        subst h1 h2; exact hv
      · cases h2
    · cases h1
  · rw [if_neg hi] at h1 h2
    exact hw (h.has i v' r' h1 h2)
theorem TabX.ne {w : World} {B p : Nat} {st : Tab} {X : List (Value × List Cell)} {hb : Nat} {vs : List Value} {wv : Value} {wl : List (Int × Value)} (h : TabX w B p st X hb vs wv wl) : p ≠ hb ∧ (∀ g, wv.ownBlock = some g → g ≠ p ∧ g ≠ hb) := by
  have h1 := h.blk
  have h2 := h.hblk
  refine ⟨fun e => ?_, fun g hg => ?_⟩
  · subst e
    have := h1.symm.trans h2
    injection this with this
    injection this with _ e2 _
    exact absurd e2 (by decide)
  · obtain ⟨_, ⟨rfl, _⟩ | ⟨g', cap, cur, rfl, _, hh, _⟩⟩ := h.row
    · cases hg
    · have : g' = g := by simpa [Value.ownBlock] using hg
      subst this
      refine ⟨fun e => ?_, fun e => ?_⟩
      · subst e
        have := hh.symm.trans h1
        injection this with this
        injection this with _ e2 _
        exact absurd e2 (by decide)
      · subst e
        have := hh.symm.trans h2
        injection this with this
        injection this with _ e2 _
        exact absurd e2 (by decide)
/-- t.has[a] = v -/
theorem TabX.setHas {w : World} {B p : Nat} {st : Tab} {X : List (Value × List Cell)} {hb : Nat} {vs : List Value} {wv : Value} {wl : List (Int × Value)} (h : TabX w B p st X hb vs wv wl) {a : Nat} {v : Value} {r : List Cell} (hv : Held w p hb wv v r) : TabX (w.setCell ⟨hb, a, none⟩ v) B p (st.1.set a r, st.2) X hb (vs.set a v) wv wl := by
  obtain ⟨h1, h2⟩ := h.ne
  have hk : ∀ b, b < w.heap.size → b ≠ p → b ≠ hb → wv.ownBlock ≠ some b → (w.setCell ⟨hb, a, none⟩ v).heap[b]? = w.heap[b]? := fun b _ _ e _ => Below.heap_setCell w ⟨hb, a, none⟩ v b e
  have hw : ∀ {v' r'}, Held w p hb wv v' r' → Held (w.setCell ⟨hb, a, none⟩ v) p hb wv v' r' := fun hx => hx.off (by simp) hk (Near.refl _ _)
  refine h.off_has hw (hw hv) (h.blk.far (p := ⟨hb, a, none⟩) h1 v) ?_ ?_
  · have := h.hblk.set a v
    simpa using this
  · refine h.row.kept (row := some hb) ⟨rfl, rfl, rfl, by simp, fun b hb' hne => Below.heap_setCell w ⟨hb, a, none⟩ v b (fun e => hne (by rw [e]))⟩ ?_
    cases hwv : wv.ownBlock with
    | none => exact .inl rfl
    | some g => exact .inr (fun e => (h2 g hwv).2 (by injection e))
end Go.Proofs.Ytambngbkegnghaa
