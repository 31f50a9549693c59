/- Two ends, a net, and what has been received: where they lie. Conditions: those typed. -/
import Derived.Test.YtpnefacignalpaaLinkM
import Derived.Test.YtpnefacignalpaaNetW
import Derived.Test.YtpnefacignalpaaCapJ
namespace Go.Proofs.Ytpnefacignalpaa
open Go.RowKit Go.Gy
set_option linter.unusedVariables false
set_option linter.unusedSimpArgs false
/-- an end's parts in memory -/
structure ME where
  nx : Int
  wt : Int
  ow : Bool
  vw : Value
  ws : List WK
  vg : Value
  gs : List SM
def ME.abs (x : ME) : ES := ⟨x.nx, x.wt, x.ow, x.ws.map absW, x.gs.map (·.m)⟩
/-- no two of them in one block -/
def Apart (a b : Value) : Prop := ∀ g, a.ownBlock = some g → b.ownBlock ≠ some g
theorem Apart.symm {a b : Value} (h : Apart a b) : Apart b a := fun g h1 h2 => h g h2 h1
structure LkAt (W : World) (base V9 V10 B : Nat) (FS : List GF) (T : Int) (K : List AK) (E : Nat → Nat) (x : Nat → ME) (u : Nat → Value) (gl : Nat → List SM) : Prop where
  net : ∃ v, NetAt W base B FS T v K
  ends : ∀ i, i < 2 → EndAt W base (E i) (i : Int) ((oth i : Nat) : Int) (x i).nx (x i).wt (x i).ow (x i).vw (x i).ws (x i).vg (x i).gs
  arr : Blk W V9 90 #[.pointer (some ⟨E 0, 0, none⟩), .pointer (some ⟨E 1, 0, none⟩)]
  got : Blk W V10 61 #[u 0, u 1]
  rows : ∀ i, i < 2 → W.ownsRow base 43 6 (u i) (gl i).length ((gl i).flatMap encM) ∧ ∀ s ∈ gl i, MOwn W base s
  apE : ∀ i j, i < 2 → j < 2 → i ≠ j → E i ≠ E j
  apW : ∀ i j, i < 2 → j < 2 → i ≠ j → Apart (x i).vw (x j).vw
  apG : ∀ i j, i < 2 → j < 2 → i ≠ j → Apart (x i).vg (x j).vg
  apU : ∀ i j, i < 2 → j < 2 → i ≠ j → Apart (u i) (u j)
  apX : ∀ i j, i < 2 → j < 2 → Apart (x i).vg (u j)
  lo9 : base ≤ V9
  lo10 : base ≤ V10
section
variable {W W' : World} {base V9 V10 B : Nat} {FS : List GF} {T : Int} {K : List AK} {E : Nat → Nat} {x : Nat → ME} {u : Nat → Value} {gl : Nat → List SM}
/-- blocks of other types have changed, or none of these -/
theorem LkAt.keep {F : Nat → Prop} {T' : Int} {K' : List AK} (h : LkAt W base V9 V10 B FS T K E x u gl) (hm : Mod F W W') (hF : ∀ g t cs, Blk W g t cs → F g → t ≠ 70 ∧ t ≠ 94 ∧ t ≠ 43 ∧ t ≠ 88 ∧ t ≠ 90 ∧ t ≠ 61) (hn : ∃ v, NetAt W' base B FS T' v K') : LkAt W' base V9 V10 B FS T' K' E x u gl := by
  refine ⟨hn, fun i hi => (h.ends i hi).keep hm (fun g t cs hk hf => ⟨fun he => ?_, (hF g t cs hk hf).2.2.2.1⟩), hm.blk h.arr (fun hf => (hF _ _ _ h.arr hf).2.2.2.2.1 rfl), hm.blk h.got (fun hf => (hF _ _ _ h.got hf).2.2.2.2.2 rfl), fun i hi => ⟨hm.own (h.rows i hi).1 (fun g cs _ hk hf => (hF _ _ _ hk hf).2.2.1 rfl), fun s hs => ⟨hm.own ((h.rows i hi).2 s hs).1 (fun g cs _ hk hf => (hF _ _ _ hk hf).2.2.2.1 rfl), ((h.rows i hi).2 s hs).2⟩⟩, h.apE, h.apW, h.apG, h.apU, h.apX, h.lo9, h.lo10⟩
  rcases (h.ends i hi).typ hk he with e | e | e
  · exact (hF g t cs hk hf).1 e
  · exact (hF g t cs hk hf).2.1 e
  · exact (hF g t cs hk hf).2.2.1 e
theorem LkAt.below (h : LkAt W base V9 V10 B FS T K E x u gl) (hb : Below W.heap.size W W') : LkAt W' base V9 V10 B FS T K E x u gl := by
  obtain ⟨v, hv⟩ := h.net
  exact h.keep (F := fun _ => False) (Mod.of_below hb) (fun _ _ _ _ hf => hf.elim) ⟨v, hv.below hb⟩
/-- the net has moved on -/
theorem LkAt.net_ {F : Nat → Prop} {T' : Int} {K' : List AK} (h : LkAt W base V9 V10 B FS T K E x u gl) (hm : Mod F W W') (hF : ∀ g t cs, Blk W g t cs → F g → t = 79 ∨ t = 82) (hn : ∃ v, NetAt W' base B FS T' v K') : LkAt W' base V9 V10 B FS T' K' E x u gl :=
  h.keep hm (fun g t cs hk hf => by
    rcases hF g t cs hk hf with e | e <;> rw [e] <;> exact ⟨by decide, by decide, by decide, by decide, by decide, by decide⟩) hn
/-- end i has moved on -/
theorem LkAt.end_ {y : ME} {i : Nat} (h : LkAt W base V9 V10 B FS T K E x u gl) (hi : i < 2) (he : EndAt W' base (E i) (i : Int) ((oth i : Nat) : Int) y.nx y.wt y.ow y.vw y.ws y.vg y.gs) (hm : Mod (EndF (E i) (x i).vw (x i).vg) W W') (hn : NearV W (x i).vw y.vw) (hn2 : NearV W (x i).vg y.vg) : LkAt W' base V9 V10 B FS T K E (updN x i y) u gl := by
  have hE := h.ends i hi
  have ht : ∀ {g t cs}, Blk W g t cs → EndF (E i) (x i).vw (x i).vg g → t = 70 ∨ t = 94 ∨ t = 43 := fun hk hf => hE.typ hk hf
  have hrow : ∀ {v : Value} {n : Nat} {xs : List Value}, W.ownsRow base 43 6 v n xs → Apart (x i).vg v → W'.ownsRow base 43 6 v n xs := fun hr ha => hm.own hr (fun g cs hg hk hf => by
    rcases hf with e | e | e
    · subst e
      exact absurd (blk_type hk hE.box) (by decide)
    · obtain ⟨cs', hk'⟩ := hE.rw.blk e
      exact absurd (blk_type hk hk') (by decide)
    · exact ha g e hg)
  have hmo : ∀ s, MOwn W base s → MOwn W' base s := fun s hs => ⟨hm.own hs.1 (fun g cs _ hk hf => by
    rcases ht hk hf with e | e | e <;> exact absurd e (by decide)), hs.2⟩
  have hnew : ∀ {v : Value} {n : Nat} {e : TypeId} {sz : Nat} {xs : List Value}, W.ownsRow base e sz v n xs → ∀ g, v.ownBlock = some g → g < W.heap.size := fun hr g hg => (hr.lt g hg).2
  refine ⟨?_, fun j hj => ?_, hm.blk h.arr (fun hf => by rcases ht h.arr hf with e | e | e <;> exact absurd e (by decide)), hm.blk h.got (fun hf => by rcases ht h.got hf with e | e | e <;> exact absurd e (by decide)), fun j hj => ⟨hrow (h.rows j hj).1 (h.apX i j hi hj), fun s hs => hmo s ((h.rows j hj).2 s hs)⟩, h.apE, fun a b ha hb hab => ?_, fun a b ha hb hab => ?_, h.apU, fun a b ha hb => ?_, h.lo9, h.lo10⟩
  · obtain ⟨v, hv⟩ := h.net
    exact ⟨v, hv.keep hm (fun g t cs hk hf => by rcases ht hk hf with e | e | e <;> rw [e] <;> exact ⟨by decide, by decide, by decide, by decide⟩)⟩
  · by_cases hji : j = i
    · subst hji
      rw [updN_same]
      exact he
    · rw [updN_ne x y hji]
      refine (h.ends j hj).keep hm (fun g t cs hk hf => ⟨fun hf2 => ?_, fun e => by rcases ht hk hf with e2 | e2 | e2 <;> rw [e] at e2 <;> exact absurd e2 (by decide)⟩)
      rcases hf with e | e | e
      · subst e
        rcases hf2 with e2 | e2 | e2
        · exact h.apE j i hj hi hji e2.symm
        · obtain ⟨cs', hk'⟩ := (h.ends j hj).rw.blk e2
          exact absurd (blk_type hE.box hk') (by decide)
        · obtain ⟨cs', hk'⟩ := own_blk (h.ends j hj).rg e2
          exact absurd (blk_type hE.box hk') (by decide)
      · obtain ⟨cs1, hk1⟩ := hE.rw.blk e
        rcases hf2 with e2 | e2 | e2
        · subst e2
          exact absurd (blk_type hk1 (h.ends j hj).box) (by decide)
        · exact h.apW i j hi hj (fun e => hji e.symm) g e e2
        · obtain ⟨cs', hk'⟩ := own_blk (h.ends j hj).rg e2
          exact absurd (blk_type hk1 hk') (by decide)
      · obtain ⟨cs1, hk1⟩ := own_blk hE.rg e
        rcases hf2 with e2 | e2 | e2
        · subst e2
          exact absurd (blk_type hk1 (h.ends j hj).box) (by decide)
        · obtain ⟨cs', hk'⟩ := (h.ends j hj).rw.blk e2
          exact absurd (blk_type hk1 hk') (by decide)
        · exact h.apG i j hi hj (fun e => hji e.symm) g e e2
  · have key : ∀ j, j < 2 → j ≠ i → Apart y.vw (x j).vw := fun j hj hji g h1 h2 => by
      rcases hn g h1 with h3 | h3
      · exact h.apW i j hi hj (fun e => hji e.symm) g h3 h2
      · have := ((h.ends j hj).rw.lt g h2).2
        omega
    by_cases h1 : a = i
    · subst h1
      rw [updN_same, updN_ne x y (fun e => hab e.symm)]
      exact key b hb (fun e => hab e.symm)
    · rw [updN_ne x y h1]
      by_cases h2 : b = i
      · subst h2
        rw [updN_same]
        exact (key a ha h1).symm
      · rw [updN_ne x y h2]
        exact h.apW a b ha hb hab
  · have key : ∀ j, j < 2 → j ≠ i → Apart y.vg (x j).vg := fun j hj hji g h1 h2 => by
      rcases hn2 g h1 with h3 | h3
      · exact h.apG i j hi hj (fun e => hji e.symm) g h3 h2
      · have := ((h.ends j hj).rg.lt g h2).2
        omega
    by_cases h1 : a = i
    · subst h1
      rw [updN_same, updN_ne x y (fun e => hab e.symm)]
      exact key b hb (fun e => hab e.symm)
    · rw [updN_ne x y h1]
      by_cases h2 : b = i
      · subst h2
        rw [updN_same]
        exact (key a ha h1).symm
      · rw [updN_ne x y h2]
        exact h.apG a b ha hb hab
  · by_cases h1 : a = i
    · subst h1
      rw [updN_same]
      intro g h1 h2
      rcases hn2 g h1 with h3 | h3
      · exact h.apX a b ha hb g h3 h2
      · have := ((h.rows b hb).1.lt g h2).2
        omega
    · rw [updN_ne x y h1]
      exact h.apX a b ha hb
theorem LkAt.blo (h : LkAt W base V9 V10 B FS T K E x u gl) : base ≤ W.heap.size := by
  have := h.arr.lt
  have := h.lo9
  omega
end
/-- with the boxes of the results, and all bounds -/
structure LkS (w : World) (base V6 V7 V9 V10 B : Nat) (FS : List GF) (E : Nat → Nat) (T : Int) (K : List AK) (x : Nat → ME) (u : Nat → Value) (gl : Nat → List SM) (W : World) : Prop where
  a : LkAt W base V9 V10 B FS T K E x u gl
  b6 : Blk W V6 61 #[.slice none 0 0, .slice none 0 0]
  b7 : Blk W V7 62 #[.int .i64 0, .int .i64 0]
  bel : Below base w W
  ne : V6 ≠ V10
section
variable {w W W' : World} {base V6 V7 V9 V10 B : Nat} {FS : List GF} {T : Int} {K : List AK} {E : Nat → Nat} {x : Nat → ME} {u : Nat → Value} {gl : Nat → List SM}
theorem LkS.below (h : LkS w base V6 V7 V9 V10 B FS E T K x u gl W) (hb : Below W.heap.size W W') : LkS w base V6 V7 V9 V10 B FS E T K x u gl W' := ⟨h.a.below hb, h.b6.below hb h.b6.lt, h.b7.below hb h.b7.lt, h.bel.trans (hb.mono h.a.blo), h.ne⟩
theorem LkS.lasts : Lasts (LkS w base V6 V7 V9 V10 B FS E T K x u gl) := fun W W' h hb => h.below hb
theorem LkS.net_ {F : Nat → Prop} {T' : Int} {K' : List AK} (h : LkS w base V6 V7 V9 V10 B FS E T K x u gl W) (hm : Mod F W W') (hF : ∀ g t cs, Blk W g t cs → F g → t = 79 ∨ t = 82) (hlo : ∀ g, F g → base ≤ g) (hn : ∃ v, NetAt W' base B FS T' v K') : LkS w base V6 V7 V9 V10 B FS E T' K' x u gl W' :=
  ⟨h.a.net_ hm hF hn, hm.blk h.b6 (fun hf => by rcases hF _ _ _ h.b6 hf with e | e <;> exact absurd e (by decide)), hm.blk h.b7 (fun hf => by rcases hF _ _ _ h.b7 hf with e | e <;> exact absurd e (by decide)), h.bel.trans (hm.below (fun g hg hf => by have := hlo g hf; omega) h.a.blo), h.ne⟩
theorem LkS.end_ {y : ME} {i : Nat} (h : LkS w base V6 V7 V9 V10 B FS E T K x u gl W) (hi : i < 2) (he : EndAt W' base (E i) (i : Int) ((oth i : Nat) : Int) y.nx y.wt y.ow y.vw y.ws y.vg y.gs) (hm : Mod (EndF (E i) (x i).vw (x i).vg) W W') (hn : NearV W (x i).vw y.vw) (hn2 : NearV W (x i).vg y.vg) : LkS w base V6 V7 V9 V10 B FS E T K (updN x i y) u gl W' := by
  have hE := h.a.ends i hi
  exact ⟨h.a.end_ hi he hm hn hn2, hm.blk h.b6 (fun hf => by rcases hE.typ h.b6 hf with e | e | e <;> exact absurd e (by decide)), hm.blk h.b7 (fun hf => by rcases hE.typ h.b7 hf with e | e | e <;> exact absurd e (by decide)), h.bel.trans (hm.below (fun g hg hf => by have := (hE.flo g hf).1; omega) h.a.blo), h.ne⟩
/-- what end i has received is appended to what is kept of it -/
theorem LkS.got_ {i : Nat} {u' : Value} {gs : List SM} (h : LkS w base V6 V7 V9 V10 B FS E T K x u gl W) (hi : i < 2) (hm : Mod (fun k => (u i).ownBlock = some k) W W') (hr : W'.ownsRow base 43 6 u' ((gl i).length + gs.length) ((gl i).flatMap encM ++ gs.flatMap encM)) (hn : NearV W (u i) u') (hgs : ∀ s ∈ gs, MOwn W base s) : LkS w base V6 V7 V9 V10 B FS E T K x (updN u i u') (updN gl i (gl i ++ gs)) (W'.setCell ⟨V10, i, none⟩ u') := by
  have hty : ∀ {t cs}, ∀ g, Blk W g t cs → t ≠ 43 → ¬ (u i).ownBlock = some g := fun g hk ht hg => by
    obtain ⟨cs', hk'⟩ := own_blk (h.a.rows i hi).1 hg
    exact ht (blk_type hk hk')
  have hS : Mod (fun k => k = V10) W' (W'.setCell ⟨V10, i, none⟩ u') := (Mod.refl (fun k => k = V10) W').set (g := V10) (fun _ => rfl) i u'
  have h10 := hm.blk h.a.got (hty V10 h.a.got (by decide))
  have hV : ∀ {t cs}, ∀ g, Blk W' g t cs → t ≠ 61 → ¬ g = V10 := fun g hk ht e => by
    subst e
    exact ht (blk_type hk h10)
  have hM : Mod (fun k => k = V10 ∨ (u i).ownBlock = some k) W (W'.setCell ⟨V10, i, none⟩ u') := (hm.mono (G := fun k => k = V10 ∨ (u i).ownBlock = some k) (fun k _ e => .inr e)).set (g := V10) (fun _ => .inl rfl) i u'
  have hmo : ∀ s, MOwn W base s → MOwn (W'.setCell ⟨V10, i, none⟩ u') base s := fun s hs => ⟨hM.own hs.1 (fun g cs _ hk hf => by
    rcases hf with e | e
    · subst e
      exact absurd (blk_type hk h.a.got) (by decide)
    · exact hty g hk (by decide) e), hs.2⟩
  have hnew : ∀ a, a < 2 → a ≠ i → Apart u' (u a) := fun a ha hai g h1 h2 => by
    rcases hn g h1 with h3 | h3
    · exact h.a.apU i a hi ha (fun e => hai e.symm) g h3 h2
    · have := ((h.a.rows a ha).1.lt g h2).2
      omega
  have hxnew : ∀ a, a < 2 → Apart (x a).vg u' := fun a ha g h1 h2 => by
    rcases hn g h2 with h3 | h3
    · exact h.a.apX a i ha hi g h1 h3
    · have := ((h.a.ends a ha).rg.lt g h1).2
      omega
  refine ⟨⟨?_, fun j hj => (h.a.ends j hj).keep hM (fun g t cs hk hf => ⟨fun he => ?_, ?_⟩), ?_, ?_, fun j hj => ?_, h.a.apE, h.a.apW, h.a.apG, fun a b ha hb hab => ?_, fun a b ha hb => ?_, h.a.lo9, h.a.lo10⟩, ?_, ?_, h.bel.trans (hM.below (fun g hg hf => ?_) h.a.blo), h.ne⟩
  · obtain ⟨v, hv⟩ := h.a.net
    refine ⟨v, hv.keep hM (fun g t cs hk hf => ?_)⟩
    rcases hf with e | e
    · subst e
      rw [blk_type hk h.a.got]
      exact ⟨by decide, by decide, by decide, by decide⟩
    · obtain ⟨cs', hk'⟩ := own_blk (h.a.rows i hi).1 e
      rw [blk_type hk hk']
      exact ⟨by decide, by decide, by decide, by decide⟩
  · rcases hf with e | e
    · subst e
      rcases (h.a.ends j hj).typ hk he with e2 | e2 | e2 <;> rw [blk_type hk h.a.got] at e2 <;> exact absurd e2 (by decide)
    · obtain ⟨cs', hk'⟩ := own_blk (h.a.rows i hi).1 e
      rcases he with e2 | e2 | e2
      · subst e2
        exact absurd (blk_type hk' (h.a.ends j hj).box) (by decide)
      · obtain ⟨cs2, hk2⟩ := (h.a.ends j hj).rw.blk e2
        exact absurd (blk_type hk' hk2) (by decide)
      · exact h.a.apX j i hj hi g e2 e
  · rcases hf with e | e
    · subst e
      rw [blk_type hk h.a.got]
      decide
    · obtain ⟨cs', hk'⟩ := own_blk (h.a.rows i hi).1 e
      rw [blk_type hk hk']
      decide
  · exact hS.blk (hm.blk h.a.arr (hty V9 h.a.arr (by decide))) (hV V9 (hm.blk h.a.arr (hty V9 h.a.arr (by decide))) (by decide))
  · have := h10.set i u'
    match i, hi with
    | 0, _ => simpa [updN] using this
    | 1, _ => simpa [updN] using this
  · by_cases hji : j = i
    · subst hji
      rw [updN_same, updN_same]
      refine ⟨?_, fun s hs => ?_⟩
      · rw [List.length_append, List.flatMap_append]
        exact hS.own hr (fun g cs _ hk => hV g hk (by decide))
      · rcases List.mem_append.1 hs with hs | hs
        · exact hmo s ((h.a.rows j hj).2 s hs)
        · exact hmo s (hgs s hs)
    · rw [updN_ne u u' hji, updN_ne gl _ hji]
      exact ⟨hS.own (hm.own (h.a.rows j hj).1 (fun g cs hg _ hf => h.a.apU i j hi hj (fun e => hji e.symm) g hf hg)) (fun g cs _ hk => hV g hk (by decide)), fun s hs => hmo s ((h.a.rows j hj).2 s hs)⟩
  · by_cases h1 : a = i
    · subst h1
      rw [updN_same, updN_ne u u' (fun e => hab e.symm)]
      exact hnew b hb (fun e => hab e.symm)
    · rw [updN_ne u u' h1]
      by_cases h2 : b = i
      · subst h2
        rw [updN_same]
        exact (hnew a ha h1).symm
      · rw [updN_ne u u' h2]
        exact h.a.apU a b ha hb hab
  · by_cases h2 : b = i
    · subst h2
      rw [updN_same]
      exact hxnew a ha
    · rw [updN_ne u u' h2]
      exact h.a.apX a b ha hb
  · exact hS.blk (hm.blk h.b6 (hty V6 h.b6 (by decide))) h.ne
  · have hk7 := hm.blk h.b7 (hty V7 h.b7 (by decide))
    exact hS.blk hk7 (hV V7 hk7 (by decide))
  · rcases hf with e | e
    · have := h.a.lo10; omega
    · have := ((h.a.rows i hi).1.lt g e).1; omega
end
end Go.Proofs.Ytpnefacignalpaa
