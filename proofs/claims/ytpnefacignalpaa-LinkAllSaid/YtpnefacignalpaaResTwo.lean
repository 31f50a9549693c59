/- Two result cells and a value; a call in a region with stores in its head. Conditions: those typed. -/
import Derived.Test.YtpnefacignalpaaSetJ
import Derived.Test.YtpnefacignalpaaLinkAt
namespace Go.Proofs.Ytpnefacignalpaa
open Go.RowKit Go.Gy
set_option linter.unusedVariables false
theorem results_cells_three {P : Program} {fn : Func} {p p' q : Tmp} {ty ty' : TypeId} (h : fn.results = #[.cell p ty, .cell p' ty', .tmp q]) (tmps : Array Value) (w : World) (g g' : Nat) (cs cs' : Array Value) (d d' : TypeDesc) (u : Value)
    (hp : tmps.getD p undef = .pointer (some ⟨g, 0, none⟩)) (hp' : tmps.getD p' undef = .pointer (some ⟨g', 0, none⟩)) (hq : tmps.getD q undef = u) (hg : Blk w g ty cs) (hg' : Blk w g' ty' cs')
    (hu : P.underlying ty = some d) (hd : (match d with | .struct _ | .array _ _ => true | _ => false) = true) (hi : (P.info? ty).map (·.size) = some cs.size)
    (hu' : P.underlying ty' = some d') (hd' : (match d' with | .struct _ | .array _ _ => true | _ => false) = true) (hi' : (P.info? ty').map (·.size) = some cs'.size) :
    (results fn tmps).run P w = .ok (.tuple #[.agg cs, .agg cs', u]) w := by
  have e1 : tmps[p]?.getD undef = .pointer (some ⟨g, 0, none⟩) := by simpa using hp
  have e2 : tmps[p']?.getD undef = .pointer (some ⟨g', 0, none⟩) := by simpa using hp'
  have e3 : tmps[q]?.getD undef = u := by simpa using hq
  simp [results, h, e1, e2, e3, asAddr, run_loadVar_row w g ty ty cs (0, 0) d hg hu hd hi, run_loadVar_row w g' ty' ty' cs' (0, 0) d' hg' hu' hd' hi']
theorem SetJ.callv {det : Nat → Option Value} {L : List (Nat × Nat)} {k1 k2 : Nat} {Q : Bool → Bool → World → Prop} {s : Nat → Bool} {vs : Nat → Value} {W W' : World} (h : SetJ det L k1 k2 Q s vs W) (hl : ∀ a b, Lasts (Q a b)) {i : Nat} {u : Value} (h1 : i ≠ k1) (h2 : i ≠ k2) (hp : ∀ p ∈ L, p.2 = i → s p.1 = true) (hd : det i = some u) (hb : Below W.heap.size W W') : SetJ det L k1 k2 Q (updI s i true) (updI vs i u) W' := by
  have h' := h.same h1 h2 hp hd
  exact ⟨h'.dt, hl _ _ _ _ h'.q hb, h'.w2⟩
end Go.Proofs.Ytpnefacignalpaa
