/- Deeds (rows of three numbers) and messages as arguments. Conditions: those typed. -/
import Derived.Test.YtpnefacignalpaaMsgOpen
import Derived.Test.YtpnefacignalpaaEqMsg
import Derived.OpenShut
namespace Go.Proofs.Ytpnefacignalpaa
open Go.RowKit Go.Gy Go.WideShapes
set_option linter.unusedVariables false
abbrev Deed := Int × Int × Int
def encD (f : Deed) : List Value := [.int .i64 f.1, .int .i64 f.2.1, .int .i64 f.2.2]
theorem encD_len (f : Deed) : (encD f).length = 3 := rfl
def wfD (f : Deed) : Prop := wfI .i64 f.1 ∧ wfI .i64 f.2.1 ∧ wfI .i64 f.2.2
theorem opens_deed (W : World) : Opens Try.prog W 32 fun cs _ => ∃ d : Deed, cs = encD d ∧ wfD d := by
  intro H enc fuel cs x hx hw
  obtain ⟨xs, m, _, rfl, hl, hxl, hf⟩ := DataW.trod_array Try.underlying32 hx
  have hc : Try.prog.cellsOf 32 = 3 := by kernel_rfl
  have hc1 : Try.prog.cellsOf 3 = 1 := by kernel_rfl
  rw [hc] at hl
  have key : ∀ i, i < 3 → ∃ n, (cs.drop i).take 1 = [.int .i64 n] ∧ (Lit.int .i64 n).wf = true := fun i hi => by
    have h1 := hf i hi
    rw [hc1, Nat.mul_one] at h1
    obtain ⟨y, hy⟩ : ∃ y, xs[i]? = some y := ⟨_, List.getElem?_eq_getElem (by omega)⟩
    rw [hy] at h1
    exact opens_int (W := W) Try.underlying3 H enc m _ y h1 (fun q hq => hw q (by
      simp only [DataW.weights, Try.underlying32]
      exact weightsAll_mem (List.mem_map_of_mem (List.mem_of_getElem? hy)) q hq))
  obtain ⟨a, ha, wa⟩ := key 0 (by omega)
  obtain ⟨b, hb, wb⟩ := key 1 (by omega)
  obtain ⟨c, hc, wc⟩ := key 2 (by omega)
  match cs, hl with
  | [c0, c1, c2], _ =>
    simp at ha hb hc
    subst ha hb hc
    exact ⟨(a, b, c), rfl, wa, wb, wc⟩
theorem arg_deeds {H : Type} {enc : TypeId × Value → H} {W : World} {v : Value} {d : DataW H} {p : List MemPlace} {r : Reach} {b0 : Nat} (hv : Value.okWide Try.prog W r b0 22 v) (h : DataW.Trod enc Try.prog W 0 (fun _ => true) true 22 v d p)
    (hw : ∀ m ∈ d.weights Try.prog 22, m ≤ reachBytes) : SlArg encD wfD 3 24 W v (bulk d) := by
  obtain ⟨a, n, c, rfl⟩ := okWide_slice Try.underlying22 hv
  exact (view (opens_slice Try.underlying22 (by kernel_rfl) (by omega) (by kernel_rfl) (opens_deed W)) h hw).arg rfl (by omega) fun x m h => h
/-- messages as they come -/
def MsgsArg (W : World) (v : Value) (b : Nat) : Prop := ∃ (A : Option Addr) (n c : Nat) (L : List SM), v = .slice A n c ∧ L.length = n ∧ n ≤ c ∧ c * 64 ≤ reachBytes ∧ c < b ∧ (A = none → c = 0) ∧ Rd W W.heap.size 6 A n (L.flatMap encM) ∧ ∀ s ∈ L, MsgAt W W.heap.size s.m s.A s.n s.c ∧ wfM s.m ∧ s.c * 16 ≤ reachBytes
theorem arg_msgs {H : Type} {enc : TypeId × Value → H} {W : World} {v : Value} {d : DataW H} {p : List MemPlace} {r : Reach} {b0 : Nat} (hv : Value.okWide Try.prog W r b0 23 v) (h : DataW.Trod enc Try.prog W 0 (fun _ => true) true 23 v d p)
    (hw : ∀ m ∈ d.weights Try.prog 23, m ≤ reachBytes) : MsgsArg W v (bulk d) := by
  obtain ⟨a, n, c, rfl⟩ := okWide_slice Try.underlying23 hv
  have h0 : SlArg encM (fun s => MsgAt W W.heap.size s.m s.A s.n s.c ∧ wfM s.m ∧ s.c * 16 ≤ reachBytes) 6 64 W (.slice a n c) (bulk d) := (view (opens_slice Try.underlying23 (by kernel_rfl) (by omega) (by kernel_rfl) (opens_msg W)) h hw).arg rfl (by omega) (by
    rintro x m ⟨g, A, n, c, rfl, h1, h2, _, h3⟩
    exact ⟨⟨g, A, n, c⟩, rfl, h1, h2, h3⟩)
  obtain ⟨A, n, c, L, hv, h1, h2, _, h3, h4, h5, h6, h7⟩ := h0
  exact ⟨A, n, c, L, hv, h1, h2, h3, h4, h5, h6, h7⟩
end Go.Proofs.Ytpnefacignalpaa
