/- A fact beside what is known of a world, such as a row under construction. Conditions: those typed. -/
import Derived.Test.YtpnefacignalpaaIn
import Derived.Below
namespace Go.Proofs.Ytpnefacignalpaa
open Go.RowKit Go.Gy
set_option linter.unusedVariables false
structure InK (w : World) (l : List (Nat × TypeId × Array Value)) (K : World → Prop) (W : World) : Prop extends In w l W where
  k : K W
def LastsK (K : World → Prop) : Prop := ∀ W W', K W → Below W.heap.size W W' → K W'
/-- a row whose block stands at B or above -/
def OwnK (B : Nat) (e : TypeId) (size : Nat) (v : Value) (n : Nat) (xs : List Value) (W : World) : Prop := B ≤ W.heap.size ∧ W.ownsRow B e size v n xs
theorem OwnK.lasts (B : Nat) (e : TypeId) (size : Nat) (v : Value) (n : Nat) (xs : List Value) : LastsK (OwnK B e size v n xs) := fun W W' h hb => ⟨Nat.le_trans h.1 hb.size, own_below h.2 hb (Nat.le_refl _)⟩
theorem ownL {B : Nat} {e : TypeId} {size : Nat} {v : Value} {n : Nat} {xs : List Value} : LastsK (OwnK B e size v n xs) := OwnK.lasts _ _ _ _ _ _
section
variable {w W W' : World} {l a b : List (Nat × TypeId × Array Value)} {K : World → Prop} {B : Nat} {e : TypeId} {size : Nat} {v : Value} {n : Nat} {xs : List Value}
theorem InK.callK (hK : LastsK K) (h : InK w l K W) (hb : Below W.heap.size W W') : InK w l K W' := ⟨h.toIn.call hb, hK _ _ h.k hb⟩
theorem InK.allocK (hK : LastsK K) (h : InK w l K W) (t : TypeId) (cs : Array Value) : InK w ((W.heap.size, t, cs) :: l) K (W.alloc (.cells cs t)) := ⟨h.toIn.alloc t cs, hK _ _ h.k ((Below.refl _ _).alloc (Nat.le_refl _) _)⟩
theorem InK.tailK {x : Nat × TypeId × Array Value} (h : InK w (x :: b) K W) : InK w b K W := ⟨h.toIn.tail, h.k⟩
theorem OwnK.set {p : Addr} (h : OwnK B e size v n xs W) (hg : p.block < B) (u : Value) : OwnK B e size v n xs (W.setCell p u) := ⟨by rw [World.size_setCell]; exact h.1, ownsRow_setCell_below h.2 hg u⟩
theorem InK.all3K {g : Nat} {t : TypeId} {x0 x1 x2 : Value} (h : InK w (a ++ (g, t, #[x0, x1, x2]) :: b) (OwnK B e size v n xs) W) (hg : g < B) (u0 u1 u2 : Value) :
    InK w (a ++ (g, t, #[u0, u1, u2]) :: b) (OwnK B e size v n xs) (((W.setCell ⟨g, 0, none⟩ u0).setCell ⟨g, 1, none⟩ u1).setCell ⟨g, 2, none⟩ u2) :=
  ⟨h.toIn.all3 u0 u1 u2, ((h.k.set hg u0).set hg u1).set hg u2⟩
end
section
variable {P : Program} {w0 w : World} {ls : List (Nat × TypeId × Array Value)} {K : World → Prop}
theorem wp_region_inK {id : Nat} {Q : Exit → Act → World → Prop} {a : Act} {l : List Oper} (hK : LastsK K) (hI : InK w0 ls K w) (hm : P.follows .mixedOrders = true) (hB : Region.lexB .any l.toArray = true)
    (h : wpSeq P l.toArray (InK w0 ls K) (fun a' => ∀ W, InK w0 ls K W → Q .normal a' W) l a) : (Code.region id l.toArray true).wp P Q a w :=
  wp_region_seq (InK w0 ls K) (fun _ _ h hb => h.callK hK hb) hm hB ⟨hI.toIn.drew, hK _ _ hI.k (Below.refl _ _).drew⟩ h
theorem wp_region_inK_tail {id : Nat} {Q : Exit → Act → World → Prop} {a : Act} {l : List Oper} (n : Nat) (hK : LastsK K) (hI : InK w0 ls K w) (hm : P.follows .mixedOrders = true) (hB : Region.lexTailB .any l.toArray n = true)
    (h : wpSeq P l.toArray (InK w0 ls K) (fun a' => ∀ W, InK w0 ls K W → wpList P l.toArray Q (l.drop n) a' W) (l.take n) a) : (Code.region id l.toArray true).wp P Q a w :=
  wp_region_seq_tail (InK w0 ls K) (fun _ _ h hb => h.callK hK hb) n hm hB ⟨hI.toIn.drew, hK _ _ hI.k (Below.refl _ _).drew⟩ h
theorem wp_region_inK_plain {id : Nat} {Q : Exit → Act → World → Prop} {a : Act} {l : List Oper} (n : Nat) (hK : LastsK K) (hI : InK w0 ls K w)
    (h : wpSeq P l.toArray (InK w0 ls K) (fun a' => ∀ W, InK w0 ls K W → wpList P l.toArray Q (l.drop n) a' W) (l.take n) a) : (Code.region id l.toArray false).wp P Q a w :=
  wp_region_plain (InK w0 ls K) (fun _ _ h hb => h.callK hK hb) n hI h
theorem wp_region_inK_plain_all {id : Nat} {Q : Exit → Act → World → Prop} {a : Act} {l : List Oper} (hK : LastsK K) (hI : InK w0 ls K w)
    (h : wpSeq P l.toArray (InK w0 ls K) (fun a' => ∀ W, InK w0 ls K W → Q .normal a' W) l a) : (Code.region id l.toArray false).wp P Q a w :=
  wp_region_plain (InK w0 ls K) (fun _ _ h hb => h.callK hK hb) l.length hI (by rw [List.take_length, List.drop_length]; exact h)
end
end Go.Proofs.Ytpnefacignalpaa
