/- Two ends and a net, plain: what gantkeep5.linked does, step by step. Conditions: those typed. -/
import Derived.Test.YtpnefacignalpaaLinkOut
import Derived.Test.YtpnefacignalpaaHalfQ
namespace Go.Proofs.Ytpnefacignalpaa
open Go.RowKit Go.Gy
set_option linter.unusedVariables false
structure ES where
  nx : Int
  wt : Int
  ow : Bool
  ws : List (GMsg × Int)
  gs : List GMsg
structure Sys where
  e : Nat → ES
  g : Nat → List GMsg
  K : List AK
  T : Int
def updN {α : Type} (f : Nat → α) (i : Nat) (x : α) : Nat → α := fun k => if k = i then x else f k
theorem updN_same {α : Type} (f : Nat → α) (i : Nat) (x : α) : updN f i x i = x := if_pos rfl
theorem updN_ne {α : Type} (f : Nat → α) {i k : Nat} (x : α) (h : k ≠ i) : updN f i x k = f k := if_neg h
def dueP (T : Int) (x : GMsg × Int) : Bool := decide (x.2 < 0 ∨ 4 ≤ T - x.2)
def curP (T : Int) (ws : List (GMsg × Int)) : List (GMsg × Int) := (ws.take 8).map (fun y => if dueP T y then (y.1, T) else y) ++ ws.drop 8
def putS (x : ES) (self other kind : Int) (l : List Cell) : Option ES :=
  if putC kind self other x.nx l x.ws.length = 0 then some { x with nx := x.nx + 1, ws := x.ws ++ [(⟨kind, self, other, x.nx, 0, l⟩, -1)] } else none
def inS (self other : Int) (x : ES) (m : GMsg) : Option ES :=
  if inC m self other x.nx = 0 then some (if m.kind = 3 then { x with ws := x.ws.dropWhile (fun y => decide (y.1.seq < m.seq)) } else if m.seq = x.wt then { x with ow := true, wt := x.wt + 1, gs := x.gs ++ [m] } else { x with ow := true }) else none
def outG (x : ES) (self other T ck : Int) : List GMsg := ((x.ws.take 8).filter (dueP T)).map (fun y => clkM ck y.1) ++ (if x.ow then [⟨3, self, other, x.wt, ck, []⟩] else [])
def sendS (FS : List GF) (t : Int) (s : Sys) (m : GMsg) : Option Sys :=
  if sendC FS s.T s.K t m = 0 then some { s with K := s.K ++ flightsF FS t m, T := t } else none
def oth (i : Nat) : Nat := 1 - i
/-- end i's turn at a tick, up to what it sends -/
def recvS (t i : Nat) (s : Sys) : Option Sys :=
  (((takeL s.K (t : Int) (i : Int)).map (·.2)).foldlM (inS (i : Int) (oth i : Nat)) (s.e i)).map fun x =>
    { s with K := restL s.K (t : Int) (i : Int), e := updN s.e i { x with gs := [] }, g := updN s.g i (s.g i ++ x.gs) }
def emitS (FS : List GF) (t i : Nat) (s : Sys) : Option Sys :=
  (outG (s.e i) (i : Int) (oth i : Nat) (t : Int) (t : Int)).foldlM (sendS FS (t : Int)) { s with e := updN s.e i { s.e i with ow := false, ws := curP (t : Int) (s.e i).ws } }
def endS (FS : List GF) (t i : Nat) (s : Sys) : Option Sys := (recvS t i s).bind (emitS FS t i)
/-- the put of a tick -/
def putT (puts : List Int) (t : Nat) (s : Sys) : Option Sys :=
  match puts[t]? with
  | none => some s
  | some p => (putS (s.e (p % 2).toNat) (p % 2) (1 - p % 2) ((p.tdiv 2) % 3) [((p.tdiv 6) % 9, ((t : Int) % 60))]).map fun x => { s with e := updN s.e (p % 2).toNat x }
def tickS (FS : List GF) (puts : List Int) (t : Nat) (s : Sys) : Option Sys := ((putT puts t s).bind (endS FS t 0)).bind (endS FS t 1)
def start : Sys := ⟨fun _ => ⟨0, 0, false, [], []⟩, fun _ => [], [], 0⟩
def runS (FS : List GF) (puts : List Int) : Nat → Option Sys
  | 0 => some start
  | t + 1 => (runS FS puts t).bind (tickS FS puts t)
end Go.Proofs.Ytpnefacignalpaa
