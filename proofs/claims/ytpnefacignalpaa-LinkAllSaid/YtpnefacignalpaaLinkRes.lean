/- The result cells of linked are written. Conditions: those typed. -/
import Derived.Test.YtpnefacignalpaaLinkAt
namespace Go.Proofs.Ytpnefacignalpaa
open Go.RowKit Go.Gy
set_option linter.unusedVariables false
/-- a result cell is written: all but that cell stands as it did -/
theorem LkAt.res {W W' : World} {base V9 V10 B V : Nat} {FS : List GF} {T : Int} {K : List AK} {E : Nat → Nat} {x : Nat → ME} {u : Nat → Value} {gl : Nat → List SM} {t6 : TypeId} {cs : Array Value} (h : LkAt W base V9 V10 B FS T K E x u gl) (hk : Blk W V t6 cs) (ht : t6 ≠ 70 ∧ t6 ≠ 94 ∧ t6 ≠ 43 ∧ t6 ≠ 88 ∧ t6 ≠ 90 ∧ t6 ≠ 79 ∧ t6 ≠ 66 ∧ t6 ≠ 82) (hV : V ≠ V10) (hm : Mod (fun k => k = V) W W') : LkAt W' base V9 V10 B FS T K E x u gl := by
  have hoff : ∀ {t cs'}, ∀ g, Blk W g t cs' → t ≠ t6 → ¬ g = V := fun g hk' hn e => by
    subst e
    exact hn (blk_type hk' hk)
  obtain ⟨v, hv⟩ := h.net
  refine ⟨⟨v, hv.keep hm (fun g t cs' hk' e => by
    subst e
    rw [blk_type hk' hk]
    exact ⟨ht.2.2.2.2.2.1, ht.2.2.2.2.2.2.1, ht.2.2.2.2.2.2.2, ht.2.2.2.1⟩)⟩, fun i hi => (h.ends i hi).keep hm (fun g t cs' hk' e => ⟨fun he => ?_, ?_⟩), hm.blk h.arr (hoff V9 h.arr (fun e => ht.2.2.2.2.1 e.symm)), hm.blk h.got (fun e => hV e.symm), fun i hi => ⟨hm.own (h.rows i hi).1 (fun g cs' _ hk' => hoff g hk' (fun e => ht.2.2.1 e.symm)), fun s hs => ⟨hm.own ((h.rows i hi).2 s hs).1 (fun g cs' _ hk' => hoff g hk' (fun e => ht.2.2.2.1 e.symm)), ((h.rows i hi).2 s hs).2⟩⟩, h.apE, h.apW, h.apG, h.apU, h.apX, h.lo9, h.lo10⟩
  · subst e
    rcases (h.ends i hi).typ hk' he with e | e | e <;> rw [blk_type hk' hk] at e
    · exact ht.1 e
    · exact ht.2.1 e
    · exact ht.2.2.1 e
  · subst e
    rw [blk_type hk' hk]
    exact ht.2.2.2.1
end Go.Proofs.Ytpnefacignalpaa
