/- Where a net lies, and what keeps it there; net.New and Kept. Conditions: those typed. -/
import Derived.Test.YtpnefacignalpaaStabF
import Derived.Test.YtpnefacignalpaaNetP
import Derived.Test.YtpnefacignalpaaMsgCheck
import Derived.Test.YtpnefacignalpaaCopy
namespace Go.Proofs.Ytpnefacignalpaa
open Go.RowKit Go.Gy
set_option linter.unusedVariables false
/-- worlds alike but for the blocks of F and what is new -/
structure Mod (F : Nat → Prop) (w w' : World) : Prop where
  os : w'.os = w.os
  tape : w'.tape = w.tape
  output : w'.output = w.output
  size : w.heap.size ≤ w'.heap.size
  block : ∀ k, k < w.heap.size → ¬ F k → w'.heap[k]? = w.heap[k]?
section
variable {F G : Nat → Prop} {a b c : World}
theorem Mod.refl (F : Nat → Prop) (w : World) : Mod F w w := ⟨rfl, rfl, rfl, Nat.le_refl _, fun _ _ _ => rfl⟩
theorem Mod.of_below (h : Below a.heap.size a b) : Mod F a b := ⟨h.os, h.tape, h.output, h.size, fun k hk _ => h.block k hk⟩
theorem Mod.of_grow {g : Nat} (h : GroW g a b) : Mod (fun k => k = g) a b := ⟨h.os, h.tape, h.output, h.size, fun k hk hne => h.block k hk (fun e => hne (by injection e))⟩
theorem Mod.of_grown {row : Option Nat} (h : a.grownBy b row) : Mod (fun k => row = some k) a b := ⟨h.os, h.tape, h.output, h.size, fun k hk hne => h.block k hk (fun e => hne e.symm)⟩
theorem Mod.trans (h : Mod F a b) (k : Mod G b c) (hG : ∀ i, i < a.heap.size → G i → F i) : Mod F a c :=
  ⟨k.os.trans h.os, k.tape.trans h.tape, k.output.trans h.output, Nat.le_trans h.size k.size, fun i hi hn => (k.block i (Nat.lt_of_lt_of_le hi h.size) (fun hg => hn (hG i hi hg))).trans (h.block i hi hn)⟩
theorem Mod.call (h : Mod F a b) (k : Below b.heap.size b c) : Mod F a c := h.trans (Mod.of_below (F := F) k) (fun _ _ h => h)
theorem Mod.mono (h : Mod F a b) (hG : ∀ i, i < a.heap.size → F i → G i) : Mod G a b := ⟨h.os, h.tape, h.output, h.size, fun k hk hn => h.block k hk (fun hf => hn (hG k hk hf))⟩
theorem Mod.set (h : Mod F a b) {g : Nat} (hg : g < a.heap.size → F g) (i : Nat) (u : Value) : Mod F a (b.setCell ⟨g, i, none⟩ u) :=
  h.trans (Mod.of_grow (GroW.set b g i u)) (fun i hi e => by subst e; exact hg hi)
theorem Mod.below (h : Mod F a b) {B : Nat} (hF : ∀ k, k < B → ¬ F k) (hB : B ≤ a.heap.size) : Below B a b := ⟨h.os, h.tape, h.output, h.size, fun k hk => h.block k (by omega) (hF k hk)⟩
theorem Mod.blk (h : Mod F a b) {g : Nat} {t : TypeId} {cs : Array Value} (hk : Blk a g t cs) (hF : ¬ F g) : Blk b g t cs := (h.block g hk.lt hF).trans hk
theorem Mod.own (h : Mod F a b) {base n size : Nat} {e : TypeId} {v : Value} {xs : List Value} (hw : a.ownsRow base e size v n xs) (hF : ∀ g cs, v.ownBlock = some g → Blk a g e cs → ¬ F g) : b.ownsRow base e size v n xs := by
  refine ⟨hw.1, ?_⟩
  rcases hw.2 with hn | ⟨g, cap, cur, rfl, hg, hh, rest⟩
  · exact .inl hn
  · refine .inr ⟨g, cap, cur, rfl, hg, ?_, rest⟩
    rw [h.block g (Array.getElem?_eq_some_iff.1 hh).1 (hF g cur rfl hh)]
    exact hh
end
theorem blk_type {w : World} {g : Nat} {t t' : TypeId} {cs cs' : Array Value} (h : Blk w g t cs) (h' : Blk w g t' cs') : t = t' := by
  have h1 := h.symm.trans h'
  injection h1 with h1
  injection h1
theorem own_blk {w : World} {base g n size : Nat} {e : TypeId} {v : Value} {xs : List Value} (h : w.ownsRow base e size v n xs) (hg : v.ownBlock = some g) : ∃ cs, Blk w g e cs := by
  obtain ⟨hl, ⟨hv, _⟩ | ⟨g', cap', cur, hv, _, hh, _⟩⟩ := h
  · subst hv; cases hg
  · subst hv
    injection hg with hg
    subst hg
    exact ⟨cur, hh⟩
def encF (f : GF) : List Value := [.int .i64 f.1, .int .i64 f.2.1, .int .i64 f.2.2]
theorem encF_len (f : GF) : (encF f).length = 3 := rfl
theorem encF_one (xs : List GF) : ∀ u ∈ xs.flatMap encF, u.oneCell' = true := by
  intro u hu
  obtain ⟨c, _, h⟩ := List.mem_flatMap.1 hu
  simp only [encF, List.mem_cons, List.not_mem_nil, or_false] at h
  rcases h with rfl | rfl | rfl <;> rfl
/-- a kept message's cells -/
def MOwn (W : World) (base : Nat) (s : SM) : Prop := W.ownsRow base 88 2 (.slice s.A s.n s.c) s.n (s.m.cells.flatMap encC) ∧ s.m.cells.length = s.n ∧ s.n ≤ 400
theorem MOwn.below {W W' : World} {base : Nat} {s : SM} (h : MOwn W base s) (hb : Below W.heap.size W W') : MOwn W' base s := ⟨own_below h.1 hb (Nat.le_refl _), h.2⟩
theorem MOwn.at_ {W : World} {base : Nat} {s : SM} (h : MOwn W base s) : MsgAt W W.heap.size s.m s.A s.n s.c := MsgAt.of_own h.1 h.2.1 (by have := h.2.2; omega)
def absK (k : SE) : AK := (k.1, k.2.m)
/-- a net, its box at B, with faults, tick and kept messages (slice v) -/
structure NetAt (W : World) (base B : Nat) (FS : List GF) (T : Int) (v : Value) (K : List AK) : Prop where
  lo : base ≤ B
  ok : KOk K
  is : ∃ (Af : Option Addr) (nf cf : Nat) (ks : List SE), ks.map absK = K ∧ Blk W B 79 #[.slice Af nf cf, .int .i64 T, v] ∧ W.ownsRow base 66 3 (.slice Af nf cf) nf (FS.flatMap encF) ∧ FS.length = nf ∧ W.ownsRow base 82 7 v ks.length (ks.flatMap encS) ∧ ∀ k ∈ ks, MOwn W base k.2
def NetF (B : Nat) (v : Value) (k : Nat) : Prop := k = B ∨ v.ownBlock = some k
/-- near what was there: the same block, or a new one -/
def NearV (w : World) (v v' : Value) : Prop := ∀ g, v'.ownBlock = some g → v.ownBlock = some g ∨ w.heap.size ≤ g
theorem NetAt.keep {W W' : World} {base B : Nat} {FS : List GF} {T : Int} {v : Value} {K : List AK} {F : Nat → Prop} (h : NetAt W base B FS T v K) (hm : Mod F W W') (hF : ∀ g t cs, Blk W g t cs → F g → t ≠ 79 ∧ t ≠ 66 ∧ t ≠ 82 ∧ t ≠ 88) : NetAt W' base B FS T v K := by
  obtain ⟨h1, h2, Af, nf, cf, ks, h3, h4, h5, h6, h7, h8⟩ := h
  exact ⟨h1, h2, Af, nf, cf, ks, h3, hm.blk h4 (fun hf => (hF _ _ _ h4 hf).1 rfl), hm.own h5 (fun g cs _ hk hf => (hF _ _ _ hk hf).2.1 rfl), h6, hm.own h7 (fun g cs _ hk hf => (hF _ _ _ hk hf).2.2.1 rfl), fun k hk => ⟨hm.own (h8 k hk).1 (fun g cs _ hk hf => (hF _ _ _ hk hf).2.2.2 rfl), (h8 k hk).2⟩⟩
theorem NetAt.below {W W' : World} {base B : Nat} {FS : List GF} {T : Int} {v : Value} {K : List AK} (h : NetAt W base B FS T v K) (hb : Below W.heap.size W W') : NetAt W' base B FS T v K :=
  h.keep (F := fun _ => False) (Mod.of_below hb) (fun _ _ _ _ hf => hf.elim)
/-- a row of another type is none of a net's blocks that change -/
theorem NetAt.off {W : World} {base B : Nat} {FS : List GF} {T : Int} {v : Value} {K : List AK} (h : NetAt W base B FS T v K) {g : Nat} {t : TypeId} {cs : Array Value} (hk : Blk W g t cs) (h1 : t ≠ 79) (h2 : t ≠ 82) : ¬ NetF B v g := by
  obtain ⟨_, _, Af, nf, cf, ks, _, h4, _, _, h7, _⟩ := h
  rintro (rfl | hv)
  · exact h1 (blk_type hk h4)
  · obtain ⟨cs', hk'⟩ := own_blk h7 hv
    exact h2 (blk_type hk hk')
theorem NetAt.lt {W : World} {base B : Nat} {FS : List GF} {T : Int} {v : Value} {K : List AK} (h : NetAt W base B FS T v K) : B < W.heap.size := by
  obtain ⟨_, _, Af, nf, cf, ks, _, h4, _⟩ := h
  exact h4.lt
theorem NetAt.vlt {W : World} {base B : Nat} {FS : List GF} {T : Int} {v : Value} {K : List AK} (h : NetAt W base B FS T v K) : ∀ g, v.ownBlock = some g → base ≤ g ∧ g < W.heap.size := by
  obtain ⟨_, _, Af, nf, cf, ks, _, h4, _, _, h7, _⟩ := h
  exact h7.lt
theorem info_fault : (Try.prog.info? 66).map (fun i => (i.zero, i.size, i.bytes)) = some (some (.agg #[.int .i64 0, .int .i64 0, .int .i64 0]), 3, 24) := by kernel_rfl
set_option maxRecDepth 100000 in
set_option maxHeartbeats 1000000 in
theorem clone_faults (w : World) (A : Option Addr) (n c : Nat) (xs : List GF) (hA : A = none → n = 0 ∧ c = 0) (hx : xs.length = n) (hn : n ≤ 5864062014805) (hr : Rd w w.heap.size 3 A n (xs.flatMap encF)) :
    Calls Try.prog 32 #[.slice A n c] w fun e w' => ∃ v, e = .returned v ∧ w'.ownsRow w.heap.size 66 3 v n (xs.flatMap encF) ∧ Below w.heap.size w w' := by
  obtain ⟨i0, hi, hz0, hz1, hz2⟩ := info_parts info_fault
  have he := fun w => Lib.run_eql_slice_nil (P := Try.prog) w 36 66 A n c 0 0 Try.underlying36
  cases A with
  | none =>
    obtain ⟨rfl, rfl⟩ := hA rfl
    obtain rfl : xs = [] := List.eq_nil_of_length_eq_zero hx
    clear hr hA hx
    go_enter Try.func32, Try.ntmps32
    go_wp2
    go_ret
    exact ⟨_, rfl, World.ownsRow_nil _ _ _ _, Below.refl _ _⟩
  | some ad =>
    clear hA
    go_enter Try.func32, Try.ntmps32
    go_wp2_with (at_builtin; refine wpList_extend rfl (.tmp 5) (.tmp 6) 36 rfl w.heap.size 66 i0 (.agg #[.int .i64 0, .int .i64 0, .int .i64 0]) 3 24 Try.underlying36 hi hz0 hz1 hz2 rfl (by omega) _ _ _ rfl (World.ownsRow_lit w #[] 0 (Nat.le_refl _) (by omega) rfl) (some ad) n c w.heap.size (xs.flatMap encF) rfl (fun h => by cases h) (hr.alloc (Nat.le_refl _) _) (encF_one xs) (by unfold maxLen; omega) (by omega) (by simp) ?_; intro v1 w1 hown1 hb1)
    obtain ⟨A1, c1, rfl, _, _, _⟩ := own_rd hown1
    go_wp2
    go_ret
    exact ⟨_, rfl, by simpa using hown1, ((Below.refl _ _).alloc (Nat.le_refl _) _).trans hb1⟩
set_option maxRecDepth 100000 in
theorem netnew_any (w : World) (A : Option Addr) (n c : Nat) (FS : List GF) (hA : A = none → n = 0 ∧ c = 0) (hx : FS.length = n) (hn : n ≤ 5864062014805) (hr : Rd w w.heap.size 3 A n (FS.flatMap encF)) :
    Calls Try.prog 12 #[.slice A n c] w fun e w' => ∃ B, e = .returned (.pointer (some ⟨B, 0, none⟩)) ∧ NetAt w' w.heap.size B FS 0 (.slice none 0 0) [] ∧ Below w.heap.size w w' := by
  have HC := Lib.hid (clone_faults w A n c FS hA hx hn hr)
  have HX := Lib.hid hx
  clear hr hA hx
  go_enter Try.func12, Try.ntmps12
  go_wp2_with fail
  refine HC.out.mono ?_
  rintro e w1 ⟨v, rfl, hown, hb⟩
  obtain ⟨A1, c1, rfl, _, _, _⟩ := own_rd hown
  have hz := hb.size
  have HN := Lib.hid (show NetAt (w1.alloc (.cells #[.slice A1 n c1, .int .i64 0, .slice none 0 0] 79)) w.heap.size w1.heap.size FS 0 (.slice none 0 0) [] from ⟨hz, KOk.nil, A1, n, c1, [], rfl, Blk.new _ _ _, hown.alloc _, HX.out, World.ownsRow_nil _ _ _ _, fun k hk => by cases hk⟩)
  have HB := Lib.hid (hb.trans ((Below.refl _ w1).alloc hz (.cells #[.slice A1 n c1, .int .i64 0, .slice none 0 0] 79)))
  clear hown hb HC
  go_wp2
  go_ret
  exact ⟨_, rfl, HN.out, HB.out⟩
set_option maxRecDepth 100000 in
theorem kept_any (w : World) (base B : Nat) (FS : List GF) (T : Int) (v : Value) (K : List AK) (h : NetAt w base B FS T v K) :
    Calls Try.prog 21 #[.pointer (some ⟨B, 0, none⟩)] w fun e w' => e = .returned (.int .i64 (K.length : Int)) ∧ Below w.heap.size w w' := by
  obtain ⟨_, _, Af, nf, cf, ks, hk, h4, _, _, h7, _⟩ := h
  obtain ⟨A1, c1, rfl, _, _, _⟩ := own_rd h7
  have c2 := h4.cell 2 _ rfl
  have HL := Lib.hid (show ks.length = K.length by rw [← hk, List.length_map])
  clear h7 h4 hk
  go_enter Try.func21, Try.ntmps21
  go_wp2
  go_ret
  exact ⟨by rw [← HL.out]; rfl, Below.refl _ _⟩
end Go.Proofs.Ytpnefacignalpaa
