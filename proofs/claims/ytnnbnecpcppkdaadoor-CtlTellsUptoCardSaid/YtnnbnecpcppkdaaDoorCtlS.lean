/- ctl.copied: a copy of a track. slices.Clone at links and points; ctl.New. ctl.New. (*ctl.Ctl).Set, Clear, Track. (*ctl.Ctl).Wish. Conditions: those typed. -/
import Derived.Test.YtnnbnecpcppkdaaDoorCtlT
import Derived.Test.YtnnbnecpcppkdaaDoorCloneQ
import Derived.Test.YtnnbnecpcppkdaaDoorInvT
import Derived.Test.YtnnbnecpcppkdaaDoorEqSpan
namespace Go.Proofs.YtnnbnecpcppkdaaDoor
open Go.RowKit Go.Gy
set_option linter.unusedVariables false
set_option linter.unusedSimpArgs false
section
variable {P : Program} {ops : Array Oper} {rest : List Oper} {o : Oper} {a : Act} {w : World} {Q : Exit → Act → World → Prop}
/-- as wpList_extend, with what grows -/
theorem wpList_extendG (hgd : o.guard = none) (s x : Operand) (t : TypeId)
    (ho : o.op = .call { callee := .builtin .append, args := #[s, x], argTypes := #[t, t] })
    (base : Nat) (e : TypeId) (i : TypeInfo) (z : Value) (size bytes : Nat) (ht : P.underlying t = some (.slice e)) (hi : P.info? e = some i) (hz : i.zero = some z)
    (hsize : i.size = size) (hby : i.bytes = bytes) (hzs : z.cells.size = size) (hsz : 0 < size)
    (v : Value) (n : Nat) (xs : List Value) (hs : a.eval s = v) (hown : w.ownsRow base e size v n xs)
    (g m c : Nat) (news : List Value) (hx : a.eval x = .slice (some ⟨g, 0, none⟩) m c) (hl : news.length = m * size) (hr : ∀ j u, news[j]? = some u → w.cell? ⟨g, j, none⟩ = some u) (h1 : ∀ u ∈ news, u.oneCell' = true)
    (h63 : n + m ≤ maxLen) (hbytes : (n + m) * bytes ≤ 140737488355328) (hbase : base ≤ w.heap.size)
    (h : ∀ v' w', w'.ownsRow base e size v' (n + m) (xs ++ news) → Below base w w' → w.grownBy w' v.ownBlock → wpList P ops Q rest (a.put o.dst v') w') :
    wpList P ops Q (o :: rest) a w := by
  refine wpList_append_own _ hgd s x t ho base e i z size bytes ht hi hz hsize hby hzs hsz v n xs hs hown ⟨g, 0, none⟩ m c news hx hl ?_ h1 h63 hbytes hbase ?_
  · intro j u hu
    rw [add_none, Nat.zero_add]
    exact hr j u hu
  · intro v' w' h2 h3 _
    exact h v' w' h2 ((Below.refl base w).grown h3 hbase fun k hk => (hown.lt k hk).1) h3
end
/-- a track of one's own -/
def KOwn (lo : Nat) (W : World) (v : Value) (K : List Ky) : Prop := W.ownsRow lo 89 2 v K.length (K.flatMap encKy) ∧ ∀ k ∈ K, W.ownsRow lo 25 3 k.2.1 k.2.2.length (k.2.2.flatMap encQ)
theorem KOwn.below {lo : Nat} {W W' : World} {v : Value} {K : List Ky} (h : KOwn lo W v K) (hb : Below W.heap.size W W') : KOwn lo W' v K := ⟨own_below h.1 hb (Nat.le_refl _), fun k hk => own_below (h.2 k hk) hb (Nat.le_refl _)⟩
theorem KOwn.base {lo lo' : Nat} {W : World} {v : Value} {K : List Ky} (h : KOwn lo' W v K) (hb : lo ≤ lo') : KOwn lo W v K := ⟨own_base h.1 hb, fun k hk => own_base (h.2 k hk) hb⟩
theorem KOwn.slK {lo : Nat} {W : World} {v : Value} {K : List Ky} (h : KOwn lo W v K) : SlK W W.heap.size v K := by
  obtain ⟨A, c, he, h1, _, h2⟩ := own_rd h.1
  exact ⟨A, K.length, c, he, rfl, h1, fun hA => (own_none (by rw [← he]; exact h.1) hA).2, h2, fun k hk => SlQ.own (h.2 k hk)⟩
def strip (k : Ky) : Ky := (k.1, .slice none 0 0, k.2.2)
def SameK (K K' : List Ky) : Prop := K'.map strip = K.map strip
theorem SameK.length {K K' : List Ky} (h : SameK K K') : K'.length = K.length := by
  have := congrArg List.length h
  simpa using this
theorem SameK.get {K K' : List Ky} (h : SameK K K') {i : Nat} {k : Ky} (hk : K'[i]? = some k) : ∃ k', K[i]? = some k' ∧ k'.1 = k.1 ∧ k'.2.2 = k.2.2 := by
  have h1 : (K'.map strip)[i]? = (K.map strip)[i]? := by rw [h]
  rw [List.getElem?_map, List.getElem?_map, hk] at h1
  cases hx : K[i]? with
  | none => rw [hx] at h1; simp at h1
  | some k' =>
    rw [hx] at h1
    simp only [Option.map_some, Option.some.injEq] at h1
    exact ⟨k', rfl, (congrArg (·.1) h1).symm, (congrArg (·.2.2) h1).symm⟩
theorem SameK.symm {K K' : List Ky} (h : SameK K K') : SameK K' K := Eq.symm h
theorem SameK.mem {K K' : List Ky} (h : SameK K K') {k : Ky} (hk : k ∈ K') : ∃ k' ∈ K, k'.1 = k.1 ∧ k'.2.2 = k.2.2 := by
  obtain ⟨i, hi⟩ := List.mem_iff_getElem?.1 hk
  obtain ⟨k', h1, h2⟩ := h.get hi
  exact ⟨k', List.mem_of_getElem? h1, h2⟩
theorem interp_strip (a b : Ky) (tick : Int) : interpQ a b tick = interpQ (strip a) (strip b) tick := rfl
theorem atL_strip (tick : Int) : ∀ (K : List Ky) (a : Ky), atL tick a K = atL tick (strip a) (K.map strip)
  | [], a => rfl
  | b :: r, a => by
    show (if b.1 ≤ tick then atL tick b r else interpQ a b tick) = (if (strip b).1 ≤ tick then atL tick (strip b) (r.map strip) else interpQ (strip a) (strip b) tick)
    rw [atL_strip tick r b]
    rfl
theorem atQ_strip (tick : Int) (K : List Ky) : atQ K tick = atQ (K.map strip) tick := by
  cases K with
  | nil => rfl
  | cons a r =>
    show (if tick ≤ a.1 then a.2.2.map Q3.q else atL tick a r) = (if tick ≤ (strip a).1 then (strip a).2.2.map Q3.q else atL tick (strip a) (r.map strip))
    rw [atL_strip tick r a]
    rfl
theorem SameK.at {K K' : List Ky} (h : SameK K K') (tick : Int) : atQ K' tick = atQ K tick := by rw [atQ_strip tick K', h, ← atQ_strip]
theorem SameK.ok {K K' : List Ky} (h : SameK K K') (hk : KyOk K) : KyOk K' := ⟨fun k hm => by
    obtain ⟨k', h1, h2, _⟩ := h.mem hm
    rw [← h2]
    exact hk.1 k' h1, fun i a b ha hb => by
    obtain ⟨a', g1, g2, _⟩ := h.get ha
    obtain ⟨b', l1, l2, _⟩ := h.get hb
    rw [← g2, ← l2]
    exact hk.2 i a' b' g1 l1⟩
theorem SameK.le {K K' : List Ky} (h : SameK K K') {N : Nat} (hk : KyLe K N) : KyLe K' N := fun k hm => by
    obtain ⟨k', h1, _, h2⟩ := h.mem hm
    rw [← h2]
    exact hk k' h1
def CcPost (w : World) (K : List Ky) (e : Ending) (w' : World) : Prop := ∃ (v' : Value) (K' : List Ky), e = .returned v' ∧ KOwn w.heap.size w' v' K' ∧ SameK K K' ∧ Below w.heap.size w w'
def CcRel (w : World) (K : List Ky) (out i : Value) (wr : World) : Prop := ∃ K' : List Ky, K'.length ≤ K.length ∧ i = .int .i64 K'.length ∧ KOwn w.heap.size wr out K' ∧ SameK (K.take K'.length) K' ∧ Below w.heap.size w wr
/-- what the operations ahead of the append yield -/
def CcF (B g5 : Nat) (out : Value) (t : Int) (qv : Value) (n : Nat) (xs : List Value) (i : Nat) (u : Value) (W : World) : Prop :=
  match i with
  | 0 => u = out
  | 1 => u = .pointer (some ⟨g5, 0, none⟩)
  | 2 => u = .int .i64 t
  | 3 => u = .pointer (some ⟨g5, 1, none⟩)
  | 4 => u = qv
  | 5 => W.ownsRow B 25 3 u n xs
  | 6 => ∃ (A : Option Addr) (m c : Nat), u = .agg #[.int .i64 t, .slice A m c] ∧ W.ownsRow B 25 3 (.slice A m c) n xs
  | 7 => ∃ (gL : Nat) (A : Option Addr) (m c : Nat), u = .slice (some ⟨gL, 0, none⟩) 1 1 ∧ Blk W gL 89 #[.int .i64 t, .slice A m c] ∧ W.ownsRow B 25 3 (.slice A m c) n xs
  | _ => True
theorem CcF.below {B g5 : Nat} {out : Value} {t : Int} {qv : Value} {n : Nat} {xs : List Value} {W W' : World} (hb : Below W.heap.size W W') : ∀ j u, CcF B g5 out t qv n xs j u W → CcF B g5 out t qv n xs j u W' := by
  intro j u hF
  rcases j with _ | _ | _ | _ | _ | _ | _ | _ | j
  · exact hF
  · exact hF
  · exact hF
  · exact hF
  · exact hF
  · exact own_below hF hb (Nat.le_refl _)
  · obtain ⟨A, m, c, h1, h2⟩ := hF
    exact ⟨A, m, c, h1, own_below h2 hb (Nat.le_refl _)⟩
  · obtain ⟨gL, A, m, c, h1, h2, h3⟩ := hF
    exact ⟨gL, A, m, c, h1, h2.below hb h2.lt, own_below h3 hb (Nat.le_refl _)⟩
  · exact hF
set_option maxRecDepth 100000 in
theorem info_key : (Tryd.prog.info? 89).map (fun i => (i.zero, i.size, i.bytes)) = some (some (.agg #[.int .i64 0, .slice none 0 0]), 2, 32) := by kernel_rfl
set_option maxRecDepth 100000 in
theorem build_key (w : World) (t : Int) (A : Option Addr) (m c : Nat) : (Instr.build 89 #[(0, .int .i64 t), (1, .slice A m c)]).run Tryd.prog w = .ok (.agg #[.int .i64 t, .slice A m c]) w := by go_simp
set_option maxRecDepth 100000 in
set_option maxHeartbeats 8000000 in
theorem ccopied_any (w : World) (v : Value) (K : List Ky) (hv : SlK w w.heap.size v K) (hn : K.length ≤ 1048576) (hq : ∀ k ∈ K, k.2.2.length ≤ 1048576) :
    Calls Tryd.prog 89 #[v] w (CcPost w K) := by
  obtain ⟨i0, hi0, hi1⟩ := Option.map_eq_some_iff.1 info_key
  injection hi1 with hz0 hi1
  injection hi1 with hz1 hz2
  obtain ⟨Av, nv, Cv, rfl, hnv, hcv, _, hrv, hqs⟩ := hv
  subst hnv
  have HRV := Lib.hid hrv
  have HQS := Lib.hid hqs
  have HQN := Lib.hid hq
  have hst := Lib.hid (show CcRel w K (.slice none 0 0) (.int .i64 0) w from ⟨[], Nat.zero_le _, rfl, ⟨⟨rfl, .inl ⟨rfl, rfl⟩⟩, fun k h => by cases h⟩, rfl, Below.refl _ _⟩)
  clear hrv hqs hq
  go_enter Tryd.func89, Tryd.ntmps89
  go_wp2_with fail
  go_loopw [3, 8] (fun out i wr => CcRel w K out i wr) (fun _ i _ => K.length - (intOf i).toNat)
  case atStart => exact hst.out
  case round =>
    clear hst
    obtain ⟨K', hk, rfl, hown, hsm, hbw⟩ := hrel
    obtain ⟨A0, c0, rfl, _⟩ := own_rd hown.1
    obtain ⟨wq, rfl⟩ : ∃ wq, wq = wr := ⟨_, rfl⟩
    by_cases hin : K'.length < K.length
    · have hi1 : (K'.length : Int) < (K.length : Int) := by omega
      have hi2 : 0 ≤ (K'.length : Int) ∧ (K'.length : Int) < (K.length : Int) := by omega
      obtain ⟨⟨kt, kv, kl⟩, hkx⟩ : ∃ x, K[K'.length]? = some x := ⟨_, List.getElem?_eq_getElem hin⟩
      have hkm := List.mem_of_getElem? hkx
      obtain ⟨Ak, nk, Ck, hkv, hnk, _⟩ := id (HQS.out _ hkm)
      have hkv : kv = .slice Ak nk Ck := hkv
      have hnk : kl.length = nk := hnk
      subst hnk
      subst hkv
      obtain ⟨b, o, hAv, hbB, e0, e1⟩ := Rd.key HRV.out hkx
      subst hAv
      have e1 : w.cell? ⟨b, o + K'.length * 2 + 1, none⟩ = some (.slice Ak kl.length Ck) := e1
      have e0 : w.cell? ⟨b, o + K'.length * 2, none⟩ = some (.int .i64 kt) := e0
      have d0 := (hbw.cell (p := ⟨b, o + K'.length * 2, none⟩) hbB).trans e0
      have d1 := (hbw.cell (p := ⟨b, o + K'.length * 2 + 1, none⟩) hbB).trans e1
      have hbn : b < wq.heap.size := Nat.lt_of_lt_of_le hbB hbw.size
      have hwk : IntKind.i64.wrap ((K'.length : Int) + 1) = (K'.length : Int) + 1 := by rw [IntKind.wrap_i64]; omega
      have HOWN := Lib.hid hown
      have HBW := Lib.hid hbw
      have HCL := Lib.hid (fun W (hW : Below wq.heap.size wq W) => clone_rats W (.slice Ak kl.length Ck) kl ((HQS.out _ hkm).up (hbw.trans (hW.mono hbw.size))) (by have : kl.length ≤ 1048576 := HQN.out _ hkm; omega))
      have hk6 : K'.length ≤ 1048576 := by omega
      have HN := Lib.hid (show ∀ v' w' A m c, w'.ownsRow w.heap.size 89 2 v' (K'.length + 1) (K'.flatMap encKy ++ [.int .i64 kt, .slice A m c]) → (∀ k ∈ K', w'.ownsRow w.heap.size 25 3 k.2.1 k.2.2.length (k.2.2.flatMap encQ)) → w'.ownsRow w.heap.size 25 3 (.slice A m c) kl.length (kl.flatMap encQ) → Below w.heap.size w w' → CcRel w K v' (.int .i64 ((K'.length : Int) + 1)) w' from fun v' w' A m c h1 h2 h3 h4 => ⟨K' ++ [(kt, .slice A m c, kl)], by simp; omega, by simp, ⟨by simpa [encKy] using h1, fun k hk => by
        rcases List.mem_append.1 hk with h | h
        · exact h2 k h
        · rw [List.mem_singleton.1 h]
          exact h3⟩, by
        unfold SameK
        rw [List.length_append, List.length_singleton, List.take_add_one, hkx, List.map_append, List.map_append, hsm]
        rfl, h4⟩)
      have hJ := (In.start wq).alloc 89 #[.int .i64 kt, .slice Ak kl.length Ck]
      obtain ⟨g5, hg5⟩ : ∃ g, g = wq.heap.size := ⟨_, rfl⟩
      clear hkx hkm e0 e1 hown hsm
      go_upto_region 5 with (fail)
      clear d0 d1 hbn hbB
      rw [← hg5] at hJ ⊢
      generalize World.alloc _ _ = W5 at hJ ⊢
      clear hg5
      refine wp_region_invF 8 (In wq [(g5, 89, #[.int .i64 kt, .slice Ak kl.length Ck])]) (CcF wq.heap.size g5 (.slice A0 K'.length c0) kt (.slice Ak kl.length Ck) kl.length (kl.flatMap encQ)) (by kernel_rfl) (by kernel_rfl) hJ.drew ?_ ?_
      · as_aux_lemma =>
        intro i op' hi ho us W hI hdep
        have fx := hI.facts
        simp only [factsOf, cellsOf, Nat.zero_add, Nat.reduceAdd] at fx
        rcases i with _ | _ | _ | _ | _ | _ | _ | _ | i
        all_goals first | omega | skip
        all_goals (simp only [List.getElem?_cons_succ, List.getElem?_cons_zero, Option.some.injEq] at ho; subst ho)
        · refine StepJ.val rfl ?_ ⟨hI, rfl, fun j u h => h⟩
          clear hI hdep
          unfold lexA
          simp only [putAll, preI, Nat.reduceLT, Nat.reduceAdd, decide_false, Bool.false_eq_true, if_false]
          go_simp
        · refine StepJ.val rfl ?_ ⟨hI, rfl, fun j u h => h⟩
          clear hI hdep
          unfold lexA
          simp only [putAll, preI, Nat.reduceLT, Nat.reduceAdd, decide_true, decide_false, Bool.false_eq_true, if_true, if_false, Act.put, List.setIfInBounds_toArray, List.set_cons_zero, List.set_cons_succ]
          go_simp
        · have a1 : us 1 = .pointer (some ⟨g5, 0, none⟩) := hdep ⟨1, .data⟩ (by simp) rfl
          refine StepJ.val rfl ?_ ⟨hI, rfl, fun j u h => h⟩
          clear hI hdep
          unfold lexA
          simp only [putAll, preI, Nat.reduceLT, Nat.reduceAdd, decide_true, decide_false, Bool.false_eq_true, if_true, if_false, Act.put, List.setIfInBounds_toArray, List.set_cons_zero, List.set_cons_succ]
          go_simp
        · refine StepJ.val rfl ?_ ⟨hI, rfl, fun j u h => h⟩
          clear hI hdep
          unfold lexA
          simp only [putAll, preI, Nat.reduceLT, Nat.reduceAdd, decide_true, decide_false, Bool.false_eq_true, if_true, if_false, Act.put, List.setIfInBounds_toArray, List.set_cons_zero, List.set_cons_succ]
          go_simp
        · have a3 : us 3 = .pointer (some ⟨g5, 1, none⟩) := hdep ⟨3, .data⟩ (by simp) rfl
          refine StepJ.val rfl ?_ ⟨hI, rfl, fun j u h => h⟩
          clear hI hdep
          unfold lexA
          simp only [putAll, preI, Nat.reduceLT, Nat.reduceAdd, decide_true, decide_false, Bool.false_eq_true, if_true, if_false, Act.put, List.setIfInBounds_toArray, List.set_cons_zero, List.set_cons_succ]
          go_simp
        · have a4 : us 4 = .slice Ak kl.length Ck := hdep ⟨4, .data⟩ (by simp) rfl
          refine StepJ.call rfl ?_ ((HCL.out W hI.bel).mono fun e W' ⟨v', he, ho, hb⟩ => ⟨v', he, hI.call hb, own_base ho hI.bel.size, CcF.below hb⟩)
          clear hI hdep
          unfold lexA
          simp only [putAll, preI, Nat.reduceLT, Nat.reduceAdd, decide_true, decide_false, Bool.false_eq_true, if_true, if_false, Act.put, List.setIfInBounds_toArray, List.set_cons_zero, List.set_cons_succ]
          go_simp
        · have a2 : us 2 = .int .i64 kt := hdep ⟨2, .data⟩ (by simp) rfl
          have a5 : W.ownsRow wq.heap.size 25 3 (us 5) kl.length (kl.flatMap encQ) := hdep ⟨5, .data⟩ (by simp) rfl
          obtain ⟨A, c, h5, _⟩ := own_rd a5
          rw [h5] at a5
          refine StepJ.val rfl (exec_build2 rfl (v0 := .int .i64 kt) (v1 := .slice A kl.length c) ?_ ?_ (build_key W kt A kl.length c)) ⟨hI, ⟨A, kl.length, c, rfl, a5⟩, fun j u h => h⟩
          · clear hI hdep a5
            unfold lexA
            simp only [putAll, preI, Nat.reduceLT, Nat.reduceAdd, decide_true, decide_false, Bool.false_eq_true, if_true, if_false, Act.put, List.setIfInBounds_toArray, List.set_cons_zero, List.set_cons_succ]
            exact a2
          · clear hI hdep a5
            unfold lexA
            simp only [putAll, preI, Nat.reduceLT, Nat.reduceAdd, decide_true, decide_false, Bool.false_eq_true, if_true, if_false, Act.put, List.setIfInBounds_toArray, List.set_cons_zero, List.set_cons_succ]
            exact h5
        · obtain ⟨A, m, c, a6, h6⟩ : ∃ (A : Option Addr) (m c : Nat), us 6 = .agg #[.int .i64 kt, .slice A m c] ∧ W.ownsRow wq.heap.size 25 3 (.slice A m c) kl.length (kl.flatMap encQ) := hdep ⟨6, .data⟩ (by simp) rfl
          have hba : Below W.heap.size W (W.alloc (.cells #[.int .i64 kt, .slice A m c] 89)) := (Below.refl _ _).alloc (Nat.le_refl _) _
          refine StepJ.val (v := .slice (some ⟨W.heap.size, 0, none⟩) 1 1) (W' := W.alloc (.cells #[.int .i64 kt, .slice A m c] 89)) rfl ?_ ⟨hI.skip _, ⟨W.heap.size, A, m, c, rfl, Blk.new _ _ _, own_below h6 hba (Nat.le_refl _)⟩, CcF.below hba⟩
          clear hI hdep h6 hba
          unfold lexA
          simp only [putAll, preI, Nat.reduceLT, Nat.reduceAdd, decide_true, decide_false, Bool.false_eq_true, if_true, if_false, Act.put, List.setIfInBounds_toArray, List.set_cons_zero, List.set_cons_succ]
          go_simp
      · intro us W hI hF
        have a0 : us 0 = .slice A0 K'.length c0 := hF 0 (by decide)
        obtain ⟨gL, A, m, c, a7, hbk, hor⟩ : ∃ (gL : Nat) (A : Option Addr) (m c : Nat), us 7 = .slice (some ⟨gL, 0, none⟩) 1 1 ∧ Blk W gL 89 #[.int .i64 kt, .slice A m c] ∧ W.ownsRow wq.heap.size 25 3 (.slice A m c) kl.length (kl.flatMap encQ) := hF 7 (by decide)
        unfold lexA
        simp only [putAll, preI, Nat.reduceLT, Nat.reduceAdd, decide_true, decide_false, Bool.false_eq_true, if_true, if_false, Act.put, List.setIfInBounds_toArray, List.set_cons_zero, List.set_cons_succ, List.drop_succ_cons, List.drop_zero]
        rw [a0, a7]
        have Ho := Lib.hid (KOwn.below HOWN.out hI.bel)
        have Hor := Lib.hid (own_base hor HBW.out.size)
        have Hbk := Lib.hid hbk
        have hbase : w.heap.size ≤ W.heap.size := Nat.le_trans HBW.out.size hI.bel.size
        have HBB := Lib.hid (HBW.out.trans (hI.bel.mono HBW.out.size))
        clear hF a0 a7 hI hJ hbk hor
        go_wp2_with (at_builtin; refine wpList_extendG rfl (.tmp 12) (.tmp 19) 84 rfl w.heap.size 89 i0 (.agg #[.int .i64 0, .slice none 0 0]) 2 32 Tryd.underlying84 hi0 hz0 hz1 hz2 rfl (by omega) _ K'.length _ rfl Ho.out.1 gL 1 1 [.int .i64 kt, .slice A m c] rfl rfl (fun j u hu => Hbk.out.cell j u (by simpa using hu)) (by simp [Value.oneCell']) (by unfold maxLen; omega) (by omega) hbase ?_; intro v6 w6 hn6 hb6 hg6)
        have HX := Lib.hid (HN.out v6 w6 A m c hn6 (fun k hk => (Ho.out.2 k hk).kept hg6 (own_apart (Ho.out.2 k hk) Ho.out.1 (by decide))) (Hor.out.kept hg6 (own_apart Hor.out Ho.out.1 (by decide))) (HBB.out.trans hb6))
        clear hn6 hb6 hg6
        go_wp2_with fail
        go_roundw
        case rel => exact HX.out
        case measure => simp [intOf]; omega
    · have hle : K'.length = K.length := by omega
      have hi1 : ¬ (K'.length : Int) < (K.length : Int) := by omega
      have HX := Lib.hid (show SameK K K' from by
        rw [hle, List.take_of_length_le (Nat.le_refl _)] at hsm
        exact hsm)
      have HO := Lib.hid hown
      clear hown hsm hle
      go_wp2
      go_ret
      exact ⟨_, K', rfl, HO.out, HX.out, hbw⟩
end Go.Proofs.YtnnbnecpcppkdaaDoor
namespace Go.Proofs.YtnnbnecpcppkdaaDoor
open Go.RowKit Go.Gy
set_option linter.unusedVariables false
set_option linter.unusedSimpArgs false
def CloneK (w : World) (l : List Lk) (e : Ending) (w' : World) : Prop := ∃ v', e = .returned v' ∧ w'.ownsRow w.heap.size 28 16 v' l.length (l.flatMap encK) ∧ Below w.heap.size w w'
def ClonePt (w : World) (l : List P2) (e : Ending) (w' : World) : Prop := ∃ v', e = .returned v' ∧ w'.ownsRow w.heap.size 30 6 v' l.length (l.flatMap encP) ∧ Below w.heap.size w w'
theorem encK_one (l : List Lk) (h : ∀ k ∈ l, k.shape.oneCell' = true) : ∀ u ∈ l.flatMap encK, u.oneCell' = true := by
  intro u hu
  obtain ⟨x, hx, hu⟩ := List.mem_flatMap.1 hu
  simp only [encK, List.mem_cons, List.not_mem_nil, or_false] at hu
  rcases hu with rfl | rfl | rfl | rfl | rfl | rfl | rfl | rfl | rfl | rfl | rfl | rfl | rfl | rfl | rfl | rfl
  all_goals first | rfl | exact h x hx
theorem encP_one (l : List P2) : ∀ u ∈ l.flatMap encP, u.oneCell' = true := by
  intro u hu
  obtain ⟨x, _, hx⟩ := List.mem_flatMap.1 hu
  simp only [encP, encQ, List.cons_append, List.nil_append, List.mem_cons, List.not_mem_nil, or_false] at hx
  rcases hx with rfl | rfl | rfl | rfl | rfl | rfl <;> rfl
set_option maxRecDepth 100000 in
theorem info_vec2 : (Tryd.prog.info? 30).map (fun i => (i.zero, i.size, i.bytes)) = some (some (.agg #[.bool false, .string { data := #[] }, .string { data := #[] }, .bool false, .string { data := #[] }, .string { data := #[] }]), 6, 80) := by kernel_rfl
set_option maxRecDepth 100000 in
set_option maxHeartbeats 2000000 in
theorem clone_links (w : World) (v : Value) (l : List Lk) (hx : SlL w w.heap.size v l) (hs : ∀ k ∈ l, k.shape.oneCell' = true) (hb : l.length ≤ 100000000000) :
    Calls Tryd.prog 87 #[v] w (CloneK w l) := by
  obtain ⟨i0, hi, hi1⟩ := Option.map_eq_some_iff.1 info_link
  injection hi1 with hz0 hi1
  injection hi1 with hz1 hz2
  have HS := Lib.hid (encK_one l hs)
  obtain ⟨A, n, c, rfl, hxl, hnc, hA, hr⟩ := hx
  have he := fun w => Lib.run_eql_slice_nil (P := Tryd.prog) w 35 28 A n c 0 0 Tryd.underlying35
  clear hs
  cases A with
  | none =>
    have hc := hA rfl
    subst hc
    obtain rfl : n = 0 := by omega
    have hx0 : l = [] := List.eq_nil_of_length_eq_zero hxl
    subst hx0
    have HX := Lib.hid (show CloneK w [] (.returned (.slice none 0 0)) w from ⟨_, rfl, World.ownsRow_nil _ _ _ _, Below.refl _ _⟩)
    clear hr hA hnc hxl
    go_enter Tryd.func87, Tryd.ntmps87
    go_wp2
    go_ret
    exact HX.out
  | some ad =>
    clear hA
    subst hxl
    go_enter Tryd.func87, Tryd.ntmps87
    go_wp2_with (at_builtin; refine wpList_extend rfl (.tmp 5) (.tmp 6) 35 rfl w.heap.size 28 i0 (.agg #[.bool false, .string { data := #[] }, .string { data := #[] }, .bool false, .string { data := #[] }, .string { data := #[] }, .bool false, .string { data := #[] }, .string { data := #[] }, .bool false, .string { data := #[] }, .string { data := #[] }, .bool false, .string { data := #[] }, .string { data := #[] }, .slice none 0 0]) 16 224 Tryd.underlying35 hi hz0 hz1 hz2 rfl (by omega) _ _ _ rfl (World.ownsRow_lit w #[] 0 (Nat.le_refl _) (by omega) rfl) (some ad) l.length c w.heap.size (l.flatMap encK) rfl (fun h => by cases h) (hr.alloc (Nat.le_refl _) _) HS.out (by unfold maxLen; omega) (by omega) (by simp) ?_; intro v1 w1 hown1 hb1)
    have HX := Lib.hid (show CloneK w l (.returned v1) w1 from ⟨_, rfl, by simpa using hown1, ((Below.refl _ _).alloc (Nat.le_refl _) _).trans hb1⟩)
    obtain ⟨A1, c1, rfl, _, _, _⟩ := own_rd hown1
    clear hown1 hb1
    go_wp2
    go_ret
    exact HX.out
set_option maxRecDepth 100000 in
set_option maxHeartbeats 2000000 in
theorem clone_pts (w : World) (v : Value) (l : List P2) (hx : SlP w w.heap.size v l) (hb : l.length ≤ 100000000000) :
    Calls Tryd.prog 88 #[v] w (ClonePt w l) := by
  obtain ⟨i0, hi, hi1⟩ := Option.map_eq_some_iff.1 info_vec2
  injection hi1 with hz0 hi1
  injection hi1 with hz1 hz2
  obtain ⟨A, n, c, rfl, hxl, hnc, hA, hr⟩ := hx
  have he := fun w => Lib.run_eql_slice_nil (P := Tryd.prog) w 26 30 A n c 0 0 Tryd.underlying26
  cases A with
  | none =>
    have hc := hA rfl
    subst hc
    obtain rfl : n = 0 := by omega
    have hx0 : l = [] := List.eq_nil_of_length_eq_zero hxl
    subst hx0
    have HX := Lib.hid (show ClonePt w [] (.returned (.slice none 0 0)) w from ⟨_, rfl, World.ownsRow_nil _ _ _ _, Below.refl _ _⟩)
    clear hr hA hnc hxl
    go_enter Tryd.func88, Tryd.ntmps88
    go_wp2
    go_ret
    exact HX.out
  | some ad =>
    clear hA
    subst hxl
    go_enter Tryd.func88, Tryd.ntmps88
    go_wp2_with (at_builtin; refine wpList_extend rfl (.tmp 5) (.tmp 6) 26 rfl w.heap.size 30 i0 (.agg #[.bool false, .string { data := #[] }, .string { data := #[] }, .bool false, .string { data := #[] }, .string { data := #[] }]) 6 80 Tryd.underlying26 hi hz0 hz1 hz2 rfl (by omega) _ _ _ rfl (World.ownsRow_lit w #[] 0 (Nat.le_refl _) (by omega) rfl) (some ad) l.length c w.heap.size (l.flatMap encP) rfl (fun h => by cases h) (hr.alloc (Nat.le_refl _) _) (encP_one l) (by unfold maxLen; omega) (by omega) (by simp) ?_; intro v1 w1 hown1 hb1)
    have HX := Lib.hid (show ClonePt w l (.returned v1) w1 from ⟨_, rfl, by simpa using hown1, ((Below.refl _ _).alloc (Nat.le_refl _) _).trans hb1⟩)
    obtain ⟨A1, c1, rfl, _, _, _⟩ := own_rd hown1
    clear hown1 hb1
    go_wp2
    go_ret
    exact HX.out
/-- the same arm, with rows of its own -/
def SameL (x y : Lk × List P2) : Prop := y.1.len = x.1.len ∧ y.1.low = x.1.low ∧ y.1.high = x.1.high ∧ y.1.speed = x.1.speed ∧ y.1.brake = x.1.brake ∧ y.2 = x.2
def SameA (a a' : Ar) : Prop := a'.name = a.name ∧ a'.p = a.p ∧ a'.half = a.half ∧ a'.t = a.t ∧ a'.L.length = a.L.length ∧ ∀ (i : Nat) (x y : Lk × List P2), a.L[i]? = some x → a'.L[i]? = some y → SameL x y
theorem SameL.refl (x : Lk × List P2) : SameL x x := ⟨rfl, rfl, rfl, rfl, rfl, rfl⟩
theorem LinkE.same {x y : Lk × List P2} (h : SameL x y) {e : Int} (hx : LinkE x.1 x.2 e) : LinkE y.1 y.2 e := by
  obtain ⟨k, l⟩ := x
  obtain ⟨k', l'⟩ := y
  obtain ⟨h1, h2, h3, h4, h5, h6⟩ := h
  unfold LinkE LinkGood at *
  simp only at h1 h2 h3 h4 h5 h6 hx ⊢
  rw [h1, h2, h3, h4, h5, h6]
  exact hx
theorem LinksE.same : ∀ {L L' : List (Lk × List P2)} {e : Int}, L'.length = L.length → (∀ (i : Nat) (x y : Lk × List P2), L[i]? = some x → L'[i]? = some y → SameL x y) → LinksE L e → LinksE L' e
  | [], [], _, _, _, h => h
  | [], _ :: _, _, hl, _, _ => by simp at hl
  | _ :: _, [], _, hl, _, _ => by simp at hl
  | x :: L, y :: L', e, hl, hs, ⟨c, h1, h2⟩ => by
    have hxy := hs 0 x y rfl rfl
    refine ⟨c, h1.same hxy, ?_⟩
    rcases h2 with h2 | ⟨h3, h4⟩
    · exact .inl h2
    · exact .inr ⟨h3, LinksE.same (by simpa using hl) (fun i x' y' g1 g2 => hs (i + 1) x' y' (by simpa using g1) (by simpa using g2)) h4⟩
theorem ArmE.same {a a' : Ar} (h : SameA a a') {e : Int} (hx : ArmE a e) : ArmE a' e := by
  obtain ⟨h1, h2, h3, h4, h5, h6⟩ := h
  unfold ArmE BaseGood at *
  rw [h1, h2, h3, h4, h5]
  rcases hx with k | k | k | ⟨k1, k2, k3, k4, k5⟩
  · exact .inl k
  · exact .inr (.inl k)
  · exact .inr (.inr (.inl k))
  · exact .inr (.inr (.inr ⟨k1, k2, k3, k4, k5.same h5 h6⟩))
theorem SameA.symm {a a' : Ar} (h : SameA a a') : SameA a' a := by
  obtain ⟨h1, h2, h3, h4, h5, h6⟩ := h
  refine ⟨h1.symm, h2.symm, h3.symm, h4.symm, h5.symm, fun i x y g1 g2 => ?_⟩
  obtain ⟨k1, k2, k3, k4, k5, k6⟩ := h6 i y x g2 g1
  exact ⟨k1.symm, k2.symm, k3.symm, k4.symm, k5.symm, k6.symm⟩
theorem SameA.get {a a' : Ar} (h : SameA a a') {i : Nat} {y : Lk × List P2} (hy : a'.L[i]? = some y) : ∃ x, a.L[i]? = some x ∧ SameL x y := by
  have hi := (List.getElem?_eq_some_iff.1 hy).1
  have hx : a.L[i]? = some (a.L[i]'(by rw [← h.2.2.2.2.1]; exact hi)) := List.getElem?_eq_getElem _
  exact ⟨_, hx, h.2.2.2.2.2 i _ y hx hy⟩
theorem SameA.le {a a' : Ar} (h : SameA a a') {N : Nat} (hl : a.le N) : a'.le N := by
  have h' := h
  obtain ⟨h1, h2, h3, h4, h5, h6⟩ := h
  obtain ⟨k1, k2, k3, k4⟩ := hl
  refine ⟨by rw [h2]; exact k1, by rw [h4]; exact k2, by rw [h1]; exact k3, fun y hy => ?_⟩
  obtain ⟨i, hi⟩ := List.mem_iff_getElem?.1 hy
  obtain ⟨x, hx, m1, m2, m3, m4, m5, m6⟩ := h'.get hi
  obtain ⟨l1, l2, l3⟩ := k4 x (List.mem_of_getElem? hx)
  unfold Lk.le at *
  rw [m1, m2, m3, m4, m5, m6]
  exact ⟨l1, l2, l3⟩
theorem AFitE.same {a a' : Ar} (h : SameA a a') {ql : List Q3} {e : Int} (hx : AFitE a ql e) : AFitE a' ql e := by
  have hl : ∀ (j : Nat) (y : Lk × List P2) (q : Q3), a'.L[j]? = some y → ∀ x, a.L[j]? = some x → (InLim x.1 q ↔ InLim y.1 q) := fun j y q hy x hx => by
    obtain ⟨_, m2, m3, _⟩ := h.2.2.2.2.2 j x y hx hy
    unfold InLim
    rw [m2, m3]
  obtain ⟨c, ⟨c', g1, g2⟩, h3⟩ := hx
  refine ⟨c, ⟨c', g1.same h, by rw [h.2.2.2.2.1]; exact g2⟩, ?_⟩
  rcases h3 with k | ⟨k1, ⟨j, x, q, k2, k3, k4⟩, k5⟩ | ⟨k1, k2, k3⟩
  · exact .inl k
  · obtain ⟨y, hy, _⟩ := h.symm.get k2
    exact .inr (.inl ⟨k1, ⟨j, y, q, hy, k3, fun hh => k4 ((hl j y q hy x k2).mpr hh)⟩, k5⟩)
  · refine .inr (.inr ⟨k1, fun j y q hy hq => ?_, k3⟩)
    obtain ⟨x, hx, _⟩ := h.get hy
    exact (hl j y q hy x hx).mp (k2 j x q hx hq)
theorem SlowP.same {a a' : Ar} (h : SameA a a') {p k : Ky} (hs : SlowP a.L p k) : SlowP a'.L p k := fun j y q q' hy h1 h2 => by
  obtain ⟨x, hx, _, _, _, m4, _⟩ := h.get hy
  rw [m4]
  exact hs j x q q' hx h1 h2
theorem KeyE.same {a a' : Ar} (h : SameA a a') {prev : Option Ky} {k : Ky} {e : Int} (hx : KeyE a prev k e) : KeyE a' prev k e := by
  rcases hx with k1 | ⟨k1, f, k2, k3⟩
  · exact .inl k1
  · refine .inr ⟨k1, f, k2.same h, ?_⟩
    rcases k3 with k3 | k3 | ⟨k3, p, k4, k5⟩
    · exact .inl k3
    · exact .inr (.inl k3)
    · refine .inr (.inr ⟨k3, p, k4, ?_⟩)
      rcases k5 with k5 | ⟨k5, k6, k7⟩ | ⟨k5, k6, k7⟩
      · exact .inl k5
      · exact .inr (.inl ⟨k5, fun hh => k6 (hh.same h.symm), k7⟩)
      · exact .inr (.inr ⟨k5, k6.same h, k7⟩)
theorem KeysE.same {a a' : Ar} (h : SameA a a') : ∀ {K : List Ky} {prev : Option Ky} {e : Int}, KeysE a prev K e → KeysE a' prev K e
  | [], _, _, hx => hx
  | k :: r, prev, e, ⟨c, h1, h2⟩ => by
    refine ⟨c, h1.same h, ?_⟩
    rcases h2 with h2 | ⟨h3, h4⟩
    · exact .inl h2
    · exact .inr ⟨h3, KeysE.same h h4⟩
theorem TrackE.same {a a' : Ar} (h : SameA a a') {K : List Ky} {e : Int} (hx : TrackE a K e) : TrackE a' K e := by
  obtain ⟨c, h1, h2⟩ := hx
  refine ⟨c, h1.same h, ?_⟩
  rcases h2 with h2 | h2 | h2 | ⟨g1, g2, g3, g4⟩
  · exact .inl h2
  · exact .inr (.inl h2)
  · exact .inr (.inr (.inl h2))
  · exact .inr (.inr (.inr ⟨g1, g2, g3, g4.same h⟩))
end Go.Proofs.YtnnbnecpcppkdaaDoor
namespace Go.Proofs.YtnnbnecpcppkdaaDoor
open Go.RowKit Go.Gy
set_option linter.unusedVariables false
set_option linter.unusedSimpArgs false
theorem In.far {w W : World} {l : List (Nat × TypeId × Array Value)} (h : In w l W) {g : Nat} (hg : w.heap.size ≤ g) (hl : ∀ x ∈ l, x.1 ≠ g) (i : Nat) (u : Value) : In w l (W.setCell ⟨g, i, none⟩ u) :=
  ⟨h.bel.grown (grown_set W g i u) h.bel.size (fun k hk => by cases hk; exact hg), fun x hx => (h.blk x hx).far (p := ⟨g, i, none⟩) (hl x hx) u, h.new, h.apart⟩
theorem own_blk {w : World} {base g n c size : Nat} {e : TypeId} {xs : List Value} (h : w.ownsRow base e size (.slice (some ⟨g, 0, none⟩) n c) n xs) : ∃ cur, Blk w g e cur ∧ base ≤ g := by
  obtain ⟨_, ⟨h1, _⟩ | ⟨g', cap, cur, h1, h2, h3, _⟩⟩ := h
  · cases h1
  · injection h1 with h1 _ _
    injection h1 with h1
    injection h1 with h1 _
    subst h1
    exact ⟨cur, h3, h2⟩
theorem set_shape (v : Value) : ∀ (l : List Lk) (i : Nat) (k : Lk), l[i]? = some k → (l.flatMap encK).set (i * 16 + 15) v = (l.set i { k with shape := v }).flatMap encK
  | [], i, k, h => by simp at h
  | x :: l, 0, k, h => by
    have : x = k := by simpa using h
    subst this
    simp [encK]
  | x :: l, i + 1, k, h => by
    have ih := set_shape v l i k (by simpa using h)
    rw [List.flatMap_cons, List.set_cons_succ, List.flatMap_cons, ← ih]
    simp only [encK, List.cons_append, List.nil_append]
    rw [show (i + 1) * 16 + 15 = i * 16 + 15 + 1 + 1 + 1 + 1 + 1 + 1 + 1 + 1 + 1 + 1 + 1 + 1 + 1 + 1 + 1 + 1 by omega]
    simp only [List.set_cons_succ]
theorem SlP.ownP {w : World} {base n : Nat} {v : Value} {S : List P2} (h : w.ownsRow base 30 6 v n (S.flatMap encP)) : SlP w w.heap.size v S := by
  obtain ⟨A, c, rfl, h1, _, h2⟩ := own_rd h
  have hl : S.length = n := by
    have := h.1
    rw [flat_length encP_length] at this
    omega
  exact ⟨A, n, c, rfl, hl, h1, fun hA => (own_none h hA).2, h2⟩
/-- behind ctl.New: the block of the controller, and the arm that lies there -/
def NewOk (w : World) (a : Ar) (p : Nat) (a' : Ar) (w' : World) : Prop := SameA a a' ∧ Blk w' p 132 #[.string a'.name, .bool a'.p.x.neg, .string a'.p.x.num, .string a'.p.x.den, .bool a'.p.y.neg, .string a'.p.y.num, .string a'.p.y.den, .bool a'.half, .bool a'.t.neg, .string a'.t.num, .string a'.t.den, a'.v, .slice none 0 0] ∧ w.heap.size ≤ p ∧ p < w'.heap.size ∧ a'.At w' p ∧
  w'.ownsRow w.heap.size 28 16 a'.v a'.L.length ((a'.L.map (·.1)).flatMap encK) ∧ ∀ y ∈ a'.L, w'.ownsRow w.heap.size 30 6 y.1.shape y.2.length (y.2.flatMap encP)
def NewPost (w : World) (a : Ar) (e : Ending) (w' : World) : Prop := Below w.heap.size w w' ∧ ((∃ c, c ≠ 0 ∧ ArmE a c ∧ e = .returned (.tuple #[.pointer none, .int .i64 c])) ∨ (ArmE a 0 ∧ ∃ p a', e = .returned (.tuple #[.pointer (some ⟨p, 0, none⟩), .int .i64 0]) ∧ NewOk w a p a' w'))
def NwRel (w : World) (g gl cl n : Nat) (arm : Array Value) (L : List (Lk × List P2)) (i : Value) (wr : World) : Prop := ∃ (m : Nat) (L' : List (Lk × List P2)), i = .int .i64 m ∧ m ≤ n ∧ L'.length = n ∧ In w [(g, 37, arm)] wr ∧ wr.ownsRow (g + 1) 28 16 (.slice (some ⟨gl, 0, none⟩) n cl) n ((L'.map (·.1)).flatMap encK) ∧
  ∀ (j : Nat) (x y : Lk × List P2), L[j]? = some x → L'[j]? = some y → SameL x y ∧ (j < m → wr.ownsRow (g + 1) 30 6 y.1.shape y.2.length (y.2.flatMap encP)) ∧ (m ≤ j → y = x)
/-- what the operations of the round yield -/
def NwF (B g gl cl n m : Nat) (sh : Value) (pts : List P2) (i : Nat) (u : Value) (W : World) : Prop :=
  match i with
  | 0 => u = .pointer (some ⟨g, 11, none⟩)
  | 1 => u = .slice (some ⟨gl, 0, none⟩) n cl
  | 2 => u = .int .i64 m
  | 3 => u = .pointer (some ⟨g, 11, none⟩)
  | 4 => u = .slice (some ⟨gl, 0, none⟩) n cl
  | 5 => u = .int .i64 m
  | 6 => u = .pointer (some ⟨gl, m * 16, none⟩)
  | 7 => u = .pointer (some ⟨gl, m * 16 + 15, none⟩)
  | 8 => u = sh
  | 9 => W.ownsRow B 30 6 u pts.length (pts.flatMap encP)
  | 10 => u = .pointer (some ⟨gl, m * 16, none⟩)
  | 11 => u = .pointer (some ⟨gl, m * 16 + 15, none⟩)
  | _ => True
theorem NwF.below {B g gl cl n m : Nat} {sh : Value} {pts : List P2} {W W' : World} (hb : Below W.heap.size W W') : ∀ j u, NwF B g gl cl n m sh pts j u W → NwF B g gl cl n m sh pts j u W' := by
  intro j u hF
  rcases j with _ | _ | _ | _ | _ | _ | _ | _ | _ | _ | _ | _ | j
  all_goals first | exact hF | exact own_below hF hb (Nat.le_refl _)
set_option maxRecDepth 100000 in
set_option maxHeartbeats 8000000 in
theorem new_ctl (w : World) (hT : TabW w) (a : Ar) {N : Nat} (hA : a.At w w.heap.size) (hle : a.le N) (hN : 1 ≤ N ∧ N ≤ 1000000000) :
    Calls Tryd.prog 50 #[a.val] w (NewPost w a) := by
  have HT := Lib.hid hT
  have HCK := Lib.hid (fun W (hW : Below w.heap.size w W) => armCheck_any W (tabs w hT hW) a (hA.up hW) hle (by omega))
  have HCL := Lib.hid (fun W (hW : Below w.heap.size w W) (h3 : a.L.length ≤ 3) => clone_links W a.v a.ks (hA.1.below hW |>.more hW.size) (fun k hk => by
    obtain ⟨x, hx, rfl⟩ := List.mem_map.1 hk
    obtain ⟨_, _, _, he, _⟩ := hA.2 x hx
    rw [he]
    rfl) (by rw [Ar.ks_len]; omega))
  have HLE := Lib.hid hle
  obtain ⟨ar, har⟩ : ∃ ar, ar = a := ⟨_, rfl⟩
  rw [← har] at HCK HCL HLE ⊢
  obtain ⟨nm, ⟨px, py⟩, hf, t, va, L⟩ := a
  obtain ⟨⟨A, N9, C, hva, hNL, hNC, _, hrd⟩, hshp⟩ := hA
  obtain rfl : va = .slice A N9 C := hva
  obtain rfl : L.length = N9 := (Ar.ks_len ⟨nm, ⟨px, py⟩, hf, t, .slice A N9 C, L⟩).symm.trans hNL
  have hval : ar.val = .agg #[.string nm, .bool px.neg, .string px.num, .string px.den, .bool py.neg, .string py.num, .string py.den, .bool hf, .bool t.neg, .string t.num, .string t.den, .slice A L.length C] := by rw [har]; rfl
  have HLL := Lib.hid (show ar.L = L ∧ ar.v = .slice A L.length C ∧ ar.ks = L.map (·.1) ∧ ar.name = nm ∧ ar.p = ⟨px, py⟩ ∧ ar.half = hf ∧ ar.t = t from by rw [har]; exact ⟨rfl, rfl, rfl, rfl, rfl, rfl, rfl⟩)
  rw [HLL.out.1, HLL.out.2.1, HLL.out.2.2.1] at HCL
  rw [hval] at HCK ⊢
  have HSH := Lib.hid (show ∀ x ∈ L, SlP w w.heap.size x.1.shape x.2 from hshp)
  have HPL := Lib.hid (show ∀ x ∈ L, x.2.length ≤ N from fun x hx => (HLE.out.2.2.2 x (by rw [HLL.out.1]; exact hx)).2.2)
  have hI := (In.start w).alloc 37 #[.string nm, .bool px.neg, .string px.num, .string px.den, .bool py.neg, .string py.num, .string py.den, .bool hf, .bool t.neg, .string t.num, .string t.den, .slice A L.length C]
  obtain ⟨g1, hg1⟩ : ∃ g, g = w.heap.size := ⟨_, rfl⟩
  clear hval har hNL hle hT hrd hshp
  go_enter Tryd.func50, Tryd.ntmps50
  go_upto_region 1 with (fail)
  have HG1 := Lib.hid hg1
  rw [← hg1] at hI ⊢
  clear hg1
  generalize World.alloc _ _ = W1 at hI ⊢
  have fx := hI.facts
  simp only [factsOf, cellsOf, Nat.zero_add, Nat.reduceAdd] at fx
  go_wp2_with fail
  refine (HCK.out _ hI.bel).mono ?_
  rintro e wn ⟨c, rfl, hc, hb⟩
  replace hI := hI.call hb
  clear hb fx HCK
  by_cases h0 : c = 0
  · subst h0
    have HC := Lib.hid hc
    have hL3 : 1 ≤ L.length ∧ L.length ≤ 3 := by rw [← HLL.out.1]; exact ⟨(hc.zero rfl).1, (hc.zero rfl).2.1⟩
    clear hc
    have fx := hI.facts
    simp only [factsOf, cellsOf, Nat.zero_add, Nat.reduceAdd] at fx
    go_wp2_with fail
    refine (HCL.out _ hI.bel hL3.2).mono ?_
    rintro e w2 ⟨v', rfl, hown, hb⟩
    rw [List.length_map] at hown
    obtain ⟨gl, cl, rfl, _, hgl, _⟩ := own_shape hown (by omega)
    have hg1n : g1 + 1 ≤ wn.heap.size := hI.lt (k := 0) rfl
    have HO := Lib.hid (own_base hown hg1n)
    replace hI := hI.call hb
    clear hb fx hown HCL
    have hgr := grown_set w2 g1 11 (.slice (some ⟨gl, 0, none⟩) L.length cl)
    have HO2 := Lib.hid (HO.out.kept hgr (.inr (fun e => by have := (HO.out.lt _ e).1; omega)))
    have hset := hI.set (a := []) 11 (.slice (some ⟨gl, 0, none⟩) L.length cl)
    simp only [List.nil_append, List.setIfInBounds_toArray, List.set_cons_zero, List.set_cons_succ] at hset
    have HX := Lib.hid hset
    have fx := hI.facts
    simp only [factsOf, cellsOf, Nat.zero_add, Nat.reduceAdd] at fx
    have hz := fun i => hI.free (k := 0) (i := i) rfl
    clear hI hgr hset HO
    go_upto_region 5 with (fail)
    clear fx hz
    have hI := HX.out
    have hO := HO2.out
    clear HX HO2
    generalize World.setCell _ _ _ = W3 at hI hO ⊢
    have hst := Lib.hid (show NwRel w g1 gl cl L.length #[.string nm, .bool px.neg, .string px.num, .string px.den, .bool py.neg, .string py.num, .string py.den, .bool hf, .bool t.neg, .string t.num, .string t.den, .slice (some ⟨gl, 0, none⟩) L.length cl] L (.int .i64 0) W3 from ⟨0, L, rfl, Nat.zero_le _, rfl, hI, hO, fun j x y h1 h2 => by
      rw [h1] at h2
      cases h2
      exact ⟨SameL.refl x, fun h => absurd h (Nat.not_lt_zero j), fun _ => rfl⟩⟩)
    have fx := hI.facts
    simp only [factsOf, cellsOf, Nat.zero_add, Nat.reduceAdd] at fx
    clear hI hO
    go_wp2_with fail
    clear fx
    go_loopw [18] (fun i wr => NwRel w g1 gl cl L.length #[.string nm, .bool px.neg, .string px.num, .string px.den, .bool py.neg, .string py.num, .string py.den, .bool hf, .bool t.neg, .string t.num, .string t.den, .slice (some ⟨gl, 0, none⟩) L.length cl] L i wr) (fun i _ => L.length - (intOf i).toNat)
    case atStart => exact hst.out
    case round =>
      clear hst
      obtain ⟨m, L', rfl, hm, hLl, hI, hown, hrel⟩ := hrel
      obtain ⟨wq, rfl⟩ : ∃ wq, wq = wr := ⟨_, rfl⟩
      have HLl := Lib.hid hLl
      have HR := Lib.hid hrel
      have HOWN := Lib.hid hown
      clear hLl hrel
      by_cases hin : m < L.length
      · have hi1 : (m : Int) < (L.length : Int) := by omega
        have hi2 : 0 ≤ (m : Int) ∧ (m : Int) < (L.length : Int) := by omega
        obtain ⟨⟨⟨klen, klow, khigh, kspeed, kbrake, kshape⟩, pts⟩, ha⟩ : ∃ x, L[m]? = some x := ⟨_, List.getElem?_eq_getElem hin⟩
        obtain ⟨y, hy⟩ : ∃ y, L'[m]? = some y := ⟨_, List.getElem?_eq_getElem (by rw [HLl.out]; exact hin)⟩
        obtain rfl := (HR.out m _ y ha hy).2.2 (Nat.le_refl m)
        obtain ⟨A5, n5, c5, hk5, hn5, _⟩ := id (HSH.out _ (List.mem_of_getElem? ha))
        obtain rfl : kshape = .slice A5 n5 c5 := hk5
        have hn5 : pts.length = n5 := hn5
        subst hn5
        obtain ⟨cur, hbk, hgl1⟩ := own_blk hown
        obtain ⟨_, _, _, hes, _, _, _, hrr⟩ := SlL.own hown
        cases hes
        obtain ⟨_, _, he, hgll, hlc⟩ := Rd.lnk hrr (i := m) (k := ⟨klen, klow, khigh, kspeed, kbrake, .slice A5 pts.length c5⟩) (by rw [List.getElem?_map, hy]; rfl)
        cases he
        obtain ⟨_, _, _, _, _, _, _, _, _, _, _, _, _, _, _, f15⟩ := hlc
        rw [Nat.zero_add] at f15
        have b11 := hI.cell (k := 0) (i := 11) rfl rfl
        have hg1l := hI.lt (k := 0) rfl
        have HCP := Lib.hid (fun W (hW : Below wq.heap.size wq W) => clone_pts W (.slice A5 pts.length c5) pts ((HSH.out _ (List.mem_of_getElem? ha)).up (hI.bel.trans (hW.mono hI.bel.size))) (by have : pts.length ≤ N := HPL.out _ (List.mem_of_getElem? ha); omega))
        have E := Lib.hid (fun W (hW : Below wq.heap.size wq W) => (⟨(hW.cell (p := ⟨g1, 11, none⟩) hg1l).trans b11, (hW.cell (p := ⟨gl, m * 16 + 15, none⟩) hgll).trans f15, Nat.lt_of_lt_of_le hgll hW.size⟩ : And _ (And _ _)))
        have HBK := Lib.hid (And.intro hbk (And.intro hgl1 (And.intro hgll hg1l)))
        have HI := Lib.hid hI
        have HY := Lib.hid (And.intro ha hy)
        have hwk : IntKind.i64.wrap ((m : Int) + 1) = (m : Int) + 1 := by rw [IntKind.wrap_i64]; omega
        have hJ := In.start wq
        clear hI hown hbk hrr f15 b11 ha hy
        go_upto_region 8 with (fail)
        refine wp_region_invF 12 (In wq []) (NwF wq.heap.size g1 gl cl L.length m (.slice A5 pts.length c5) pts) (by kernel_rfl) (by kernel_rfl) hJ.drew ?_ ?_
        · as_aux_lemma =>
          intro i op' hi ho us W hI hdep
          obtain ⟨x0, x1, x2⟩ := E.out W hI.bel
          rcases i with _ | _ | _ | _ | _ | _ | _ | _ | _ | _ | _ | _ | i
          all_goals first | omega | skip
          all_goals (simp only [List.getElem?_cons_succ, List.getElem?_cons_zero, Option.some.injEq] at ho; subst ho)
          · refine StepJ.val rfl ?_ ⟨hI, rfl, fun j u h => h⟩
            clear hI hdep
            unfold lexA
            simp only [putAll, preI, Nat.reduceLT, Nat.reduceAdd, decide_false, Bool.false_eq_true, if_false]
            go_simp
          · have a0 : us 0 = .pointer (some ⟨g1, 11, none⟩) := hdep ⟨0, .data⟩ (by simp) rfl
            refine StepJ.val rfl ?_ ⟨hI, rfl, fun j u h => h⟩
            clear hI hdep
            unfold lexA
            simp only [putAll, preI, Nat.reduceLT, Nat.reduceAdd, decide_true, decide_false, Bool.false_eq_true, if_true, if_false, Act.put, List.setIfInBounds_toArray, List.set_cons_zero, List.set_cons_succ]
            go_simp
          · refine StepJ.val rfl ?_ ⟨hI, rfl, fun j u h => h⟩
            clear hI hdep
            unfold lexA
            simp only [putAll, preI, Nat.reduceLT, Nat.reduceAdd, decide_true, decide_false, Bool.false_eq_true, if_true, if_false, Act.put, List.setIfInBounds_toArray, List.set_cons_zero, List.set_cons_succ]
            go_simp
          · refine StepJ.val rfl ?_ ⟨hI, rfl, fun j u h => h⟩
            clear hI hdep
            unfold lexA
            simp only [putAll, preI, Nat.reduceLT, Nat.reduceAdd, decide_true, decide_false, Bool.false_eq_true, if_true, if_false, Act.put, List.setIfInBounds_toArray, List.set_cons_zero, List.set_cons_succ]
            go_simp
          · have a0 : us 3 = .pointer (some ⟨g1, 11, none⟩) := hdep ⟨3, .data⟩ (by simp) rfl
            refine StepJ.val rfl ?_ ⟨hI, rfl, fun j u h => h⟩
            clear hI hdep
            unfold lexA
            simp only [putAll, preI, Nat.reduceLT, Nat.reduceAdd, decide_true, decide_false, Bool.false_eq_true, if_true, if_false, Act.put, List.setIfInBounds_toArray, List.set_cons_zero, List.set_cons_succ]
            go_simp
          · refine StepJ.val rfl ?_ ⟨hI, rfl, fun j u h => h⟩
            clear hI hdep
            unfold lexA
            simp only [putAll, preI, Nat.reduceLT, Nat.reduceAdd, decide_true, decide_false, Bool.false_eq_true, if_true, if_false, Act.put, List.setIfInBounds_toArray, List.set_cons_zero, List.set_cons_succ]
            go_simp
          · have a0 : us 4 = .slice (some ⟨gl, 0, none⟩) L.length cl := hdep ⟨4, .data⟩ (by simp) rfl
            have a1 : us 5 = .int .i64 m := hdep ⟨5, .data⟩ (by simp) rfl
            refine StepJ.val rfl ?_ ⟨hI, rfl, fun j u h => h⟩
            clear hI hdep
            unfold lexA
            simp only [putAll, preI, Nat.reduceLT, Nat.reduceAdd, decide_true, decide_false, Bool.false_eq_true, if_true, if_false, Act.put, List.setIfInBounds_toArray, List.set_cons_zero, List.set_cons_succ]
            go_simp
          · have a0 : us 6 = .pointer (some ⟨gl, m * 16, none⟩) := hdep ⟨6, .data⟩ (by simp) rfl
            refine StepJ.val rfl ?_ ⟨hI, rfl, fun j u h => h⟩
            clear hI hdep
            unfold lexA
            simp only [putAll, preI, Nat.reduceLT, Nat.reduceAdd, decide_true, decide_false, Bool.false_eq_true, if_true, if_false, Act.put, List.setIfInBounds_toArray, List.set_cons_zero, List.set_cons_succ]
            go_simp
          · have a0 : us 7 = .pointer (some ⟨gl, m * 16 + 15, none⟩) := hdep ⟨7, .data⟩ (by simp) rfl
            refine StepJ.val rfl ?_ ⟨hI, rfl, fun j u h => h⟩
            clear hI hdep
            unfold lexA
            simp only [putAll, preI, Nat.reduceLT, Nat.reduceAdd, decide_true, decide_false, Bool.false_eq_true, if_true, if_false, Act.put, List.setIfInBounds_toArray, List.set_cons_zero, List.set_cons_succ]
            go_simp
          · have a0 : us 8 = .slice A5 pts.length c5 := hdep ⟨8, .data⟩ (by simp) rfl
            refine StepJ.call rfl ?_ ((HCP.out W hI.bel).mono fun e W' ⟨v', he, ho, hb⟩ => ⟨v', he, hI.call hb, own_base ho hI.bel.size, NwF.below hb⟩)
            clear hI hdep
            unfold lexA
            simp only [putAll, preI, Nat.reduceLT, Nat.reduceAdd, decide_true, decide_false, Bool.false_eq_true, if_true, if_false, Act.put, List.setIfInBounds_toArray, List.set_cons_zero, List.set_cons_succ]
            go_simp
          · have a0 : us 1 = .slice (some ⟨gl, 0, none⟩) L.length cl := hdep ⟨1, .data⟩ (by simp) rfl
            have a1 : us 2 = .int .i64 m := hdep ⟨2, .data⟩ (by simp) rfl
            refine StepJ.val rfl ?_ ⟨hI, rfl, fun j u h => h⟩
            clear hI hdep
            unfold lexA
            simp only [putAll, preI, Nat.reduceLT, Nat.reduceAdd, decide_true, decide_false, Bool.false_eq_true, if_true, if_false, Act.put, List.setIfInBounds_toArray, List.set_cons_zero, List.set_cons_succ]
            go_simp
          · have a0 : us 10 = .pointer (some ⟨gl, m * 16, none⟩) := hdep ⟨10, .data⟩ (by simp) rfl
            refine StepJ.val rfl ?_ ⟨hI, rfl, fun j u h => h⟩
            clear hI hdep
            unfold lexA
            simp only [putAll, preI, Nat.reduceLT, Nat.reduceAdd, decide_true, decide_false, Bool.false_eq_true, if_true, if_false, Act.put, List.setIfInBounds_toArray, List.set_cons_zero, List.set_cons_succ]
            go_simp
        · intro us W hJ2 hF
          have a9 : W.ownsRow wq.heap.size 30 6 (us 9) pts.length (pts.flatMap encP) := hF 9 (by decide)
          have a11 : us 11 = .pointer (some ⟨gl, m * 16 + 15, none⟩) := hF 11 (by decide)
          obtain ⟨A9, c9, h9, _⟩ := own_rd a9
          rw [h9] at a9
          unfold lexA
          simp only [putAll, preI, Nat.reduceLT, Nat.reduceAdd, decide_true, decide_false, Bool.false_eq_true, if_true, if_false, Act.put, List.setIfInBounds_toArray, List.set_cons_zero, List.set_cons_succ, List.drop_succ_cons, List.drop_zero]
          rw [h9, a11]
          obtain ⟨x0, x1, x2⟩ := E.out W hJ2.bel
          have hz := (HBK.out.1.below hJ2.bel HBK.out.2.2.1).free (m * 16 + 15)
          have hown := own_below HOWN.out hJ2.bel (Nat.le_refl _)
          have hgr := grown_set W gl (m * 16 + 15) (.slice A9 pts.length c9)
          have hs := (hown.stored (m * 16 + 15) (.slice A9 pts.length c9)).1
          rw [set_shape _ (L'.map (·.1)) m ⟨klen, klow, khigh, kspeed, kbrake, .slice A5 pts.length c5⟩ (by rw [List.getElem?_map, HY.out.2]; rfl)] at hs
          have hne : g1 ≠ gl := by have := HBK.out.2.1; omega
          have HX := Lib.hid (show NwRel w g1 gl cl L.length #[.string nm, .bool px.neg, .string px.num, .string px.den, .bool py.neg, .string py.num, .string py.den, .bool hf, .bool t.neg, .string t.num, .string t.den, .slice (some ⟨gl, 0, none⟩) L.length cl] L (.int .i64 ((m : Int) + 1)) (W.setCell ⟨gl, m * 16 + 15, none⟩ (.slice A9 pts.length c9)) from
            ⟨m + 1, L'.set m (⟨klen, klow, khigh, kspeed, kbrake, .slice A9 pts.length c9⟩, pts), by simp, hin, by rw [List.length_set]; exact HLl.out, (HI.out.call hJ2.bel).far (by have := HBK.out.2.1; have := HG1.out; omega) (fun x hx => by
              rw [List.mem_singleton.1 hx]
              exact hne) _ _, by rw [List.map_set]; exact hs, fun j x y h1 h2 => by
              rw [List.getElem?_set] at h2
              by_cases hjm : m = j
              · subst hjm
                rw [if_pos rfl, if_pos (by rw [HLl.out]; exact hin)] at h2
                cases h2
                rw [HY.out.1] at h1
                cases h1
                exact ⟨⟨rfl, rfl, rfl, rfl, rfl, rfl⟩, fun _ => own_base (a9.kept hgr (own_apart a9 hown (by decide))) HBK.out.2.2.2, fun h => absurd h (by omega)⟩
              · rw [if_neg hjm] at h2
                obtain ⟨r1, r2, r3⟩ := HR.out j x y h1 h2
                refine ⟨r1, fun hj => ?_, fun hj => r3 (by omega)⟩
                have r4 := own_below (r2 (by omega)) hJ2.bel (Nat.le_refl _)
                exact r4.kept hgr (own_apart r4 hown (by decide))⟩)
          clear hF a11 h9 a9 hown hgr hs hJ hJ2 hne
          go_wp2_with fail
          clear hz x0 x1 x2
          have hX := HX.out
          clear HX
          generalize World.setCell _ _ _ = W7 at hX ⊢
          have HX := Lib.hid hX
          clear hX
          go_roundw
          case rel => exact HX.out
          case measure => simp [intOf]; omega
      · obtain rfl : m = L.length := by omega
        have hi1 : ¬ (L.length : Int) < (L.length : Int) := by omega
        have hba : Below wq.heap.size wq (wq.alloc (.cells #[.string nm, .bool px.neg, .string px.num, .string px.den, .bool py.neg, .string py.num, .string py.den, .bool hf, .bool t.neg, .string t.num, .string t.den, .slice (some ⟨gl, 0, none⟩) L.length cl, .slice none 0 0] 132)) := (Below.refl _ _).alloc (Nat.le_refl _) _
        have hw1 : w.heap.size ≤ g1 + 1 := by have := HG1.out; omega
        have HX := Lib.hid (show NewOk w ar wq.heap.size ⟨nm, ⟨px, py⟩, hf, t, .slice (some ⟨gl, 0, none⟩) L.length cl, L'⟩ (wq.alloc (.cells #[.string nm, .bool px.neg, .string px.num, .string px.den, .bool py.neg, .string py.num, .string py.den, .bool hf, .bool t.neg, .string t.num, .string t.den, .slice (some ⟨gl, 0, none⟩) L.length cl, .slice none 0 0] 132)) from by
          obtain ⟨q1, q2, q3, q4, q5, q6, q7⟩ := HLL.out
          have hys : ∀ y ∈ L', wq.ownsRow (g1 + 1) 30 6 y.1.shape y.2.length (y.2.flatMap encP) := fun y hy => by
            obtain ⟨i, hi⟩ := List.mem_iff_getElem?.1 hy
            have hil := (List.getElem?_eq_some_iff.1 hi).1
            rw [HLl.out] at hil
            exact (HR.out i _ y (List.getElem?_eq_getElem hil) hi).2.1 hil
          refine ⟨⟨q4.symm, q5.symm, q6.symm, q7.symm, by rw [q1]; exact HLl.out, fun i x y h1 h2 => by rw [q1] at h1; exact (HR.out i x y h1 h2).1⟩, Blk.new _ _ _, hI.bel.size, by rw [World.size_alloc]; exact Nat.lt_succ_self _, ⟨(SlL.own hown).below hba, fun y hy => (SlP.ownP (hys y hy)).below hba⟩, ?_, fun y hy => own_base (own_below (hys y hy) hba (Nat.le_refl _)) hw1⟩
          have h9 := own_base (own_below hown hba (Nat.le_refl _)) hw1
          have h10 : L'.length = L.length := HLl.out
          show World.ownsRow _ w.heap.size _ 16 _ L'.length _
          rw [h10]
          exact h9)
        have HFB := Lib.hid (hI.bel.trans (hba.mono hI.bel.size))
        have fx := hI.facts
        simp only [factsOf, cellsOf, Nat.zero_add, Nat.reduceAdd] at fx
        clear hI hown hba
        go_wp2
        refine bodyPost_ret (results_tmp2 rfl _ _ _) rfl ?_
        exact ⟨HFB.out, .inr ⟨HC.out, wq.heap.size, _, rfl, HX.out⟩⟩
  · have h02 : (c != 0) = true := by simpa using h0
    have HX := Lib.hid (show ArmE ar c from hc)
    have hfin := hI.bel
    clear hc hI
    go_wp2
    refine bodyPost_ret (results_tmp2 rfl _ _ _) rfl ?_
    exact ⟨hfin, .inl ⟨c, h0, HX.out, rfl⟩⟩
end Go.Proofs.YtnnbnecpcppkdaaDoor
namespace Go.Proofs.YtnnbnecpcppkdaaDoor
open Go.RowKit Go.Gy
set_option linter.unusedVariables false
set_option linter.unusedSimpArgs false
/-- a controller in block p, with arm a and track vt -/
def CtlAt (W : World) (p : Nat) (a : Ar) (vt : Value) : Prop := Blk W p 132 #[.string a.name, .bool a.p.x.neg, .string a.p.x.num, .string a.p.x.den, .bool a.p.y.neg, .string a.p.y.num, .string a.p.y.den, .bool a.half, .bool a.t.neg, .string a.t.num, .string a.t.den, a.v, vt] ∧ a.At W p
theorem CtlAt.lt {W : World} {p : Nat} {a : Ar} {vt : Value} (h : CtlAt W p a vt) : p < W.heap.size := h.1.lt
theorem CtlAt.below {W W' : World} {p : Nat} {a : Ar} {vt : Value} (h : CtlAt W p a vt) (hb : Below W.heap.size W W') : CtlAt W' p a vt := ⟨h.1.below hb h.1.lt, h.2.below (hb.mono (Nat.le_of_lt h.1.lt))⟩
theorem CtlAt.cell {W : World} {p : Nat} {a : Ar} {vt : Value} (h : CtlAt W p a vt) {i : Nat} {u : Value} (hi : ([.string a.name, .bool a.p.x.neg, .string a.p.x.num, .string a.p.x.den, .bool a.p.y.neg, .string a.p.y.num, .string a.p.y.den, .bool a.half, .bool a.t.neg, .string a.t.num, .string a.t.den, a.v, vt] : List Value)[i]? = some u) : W.cell? ⟨p, i, none⟩ = some u := h.1.cell i u (by simpa using hi)
theorem NewOk.at {w w' : World} {a a' : Ar} {p : Nat} (h : NewOk w a p a' w') : CtlAt w' p a' (.slice none 0 0) := ⟨h.2.1, h.2.2.2.2.1⟩
def SetPost (w : World) (p : Nat) (a : Ar) (vt : Value) (K : List Ky) (e : Ending) (w' : World) : Prop := ∃ c : Int, e = .returned (.int .i64 c) ∧ TrackE a K c ∧ Below p w w' ∧ w.heap.size ≤ w'.heap.size ∧
  ((c ≠ 0 ∧ CtlAt w' p a vt) ∨ (c = 0 ∧ ∃ (v' : Value) (K' : List Ky), CtlAt w' p a v' ∧ KOwn w.heap.size w' v' K' ∧ SameK K K'))
set_option maxRecDepth 100000 in
set_option maxHeartbeats 8000000 in
theorem set_ctl (w : World) (hT : TabW w) (p : Nat) (a : Ar) (vt v : Value) (K : List Ky) {N : Nat} (hC : CtlAt w p a vt) (hle : a.le N) (hv : SlK w w.heap.size v K) (hl : KyLe K N) (hti : ∀ k ∈ K, InI k.1) (hn : K.length ≤ 1048576) (hN : 1 ≤ N ∧ N ≤ 68719476736) (hvt : ∃ A n c, vt = .slice A n c) :
    Calls Tryd.prog 51 #[.pointer (some ⟨p, 0, none⟩), v] w (SetPost w p a vt K) := by
  have HTC := Lib.hid (trackCheck_any w hT a v K (hC.2.more (Nat.le_of_lt hC.lt)) hle hv hl hti hN)
  have HCP := Lib.hid (fun W (hW : Below w.heap.size w W) => ccopied_any W v K (hv.up hW) hn (fun k hk => (hl k hk).2))
  have HC := Lib.hid hC
  obtain ⟨Av, nv, Cv, rfl, hnv, _⟩ := id hv
  obtain ⟨At, nt, ct, rfl⟩ := hvt
  obtain ⟨⟨A9, N9, C9, hva, _⟩, _⟩ := id hC.2
  have c0 := hC.cell (i := 0) rfl
  have c1 := hC.cell (i := 1) rfl
  have c2 := hC.cell (i := 2) rfl
  have c3 := hC.cell (i := 3) rfl
  have c4 := hC.cell (i := 4) rfl
  have c5 := hC.cell (i := 5) rfl
  have c6 := hC.cell (i := 6) rfl
  have c7 := hC.cell (i := 7) rfl
  have c8 := hC.cell (i := 8) rfl
  have c9 := hC.cell (i := 9) rfl
  have c10 := hC.cell (i := 10) rfl
  have c11 := hC.cell (i := 11) rfl
  rw [hva] at c11
  have hval : a.val = .agg #[.string a.name, .bool a.p.x.neg, .string a.p.x.num, .string a.p.x.den, .bool a.p.y.neg, .string a.p.y.num, .string a.p.y.den, .bool a.half, .bool a.t.neg, .string a.t.num, .string a.t.den, .slice A9 N9 C9] := by unfold Ar.val; rw [hva]
  rw [hval] at HTC
  clear hC hv hl hti hT hva hval
  go_enter Tryd.func51, Tryd.ntmps51
  go_wp2_with fail
  refine HTC.out.mono ?_
  rintro e w1 ⟨c, rfl, hc, hb⟩
  clear c0 c1 c2 c3 c4 c5 c6 c7 c8 c9 c10 c11 HTC
  have HTE := Lib.hid hc
  have HC1 := Lib.hid (HC.out.below hb)
  have HB1 := Lib.hid hb
  clear hc hb
  by_cases h0 : c = 0
  · subst h0
    go_wp2_with fail
    refine (HCP.out _ HB1.out).mono ?_
    rintro e w2 ⟨v', K', rfl, hown, hsm, hb⟩
    have HC2 := Lib.hid (HC1.out.below hb)
    obtain ⟨A2, c2, rfl, _⟩ := own_rd hown.1
    have hpl : p < w.heap.size := HC.out.lt
    have hp2 : p < w2.heap.size := HC2.out.lt
    have hz := HC2.out.1.free 12
    have cx := HC2.out.cell (i := 12) rfl
    have hlo : p < w1.heap.size := HC1.out.lt
    have hgr := grown_set w2 p 12 (.slice A2 K'.length c2)
    have HX := Lib.hid (show SetPost w p a (.slice At nt ct) K (.returned (.int .i64 0)) (w2.setCell ⟨p, 12, none⟩ (.slice A2 K'.length c2)) from by
      have hsz : w.heap.size ≤ (w2.setCell ⟨p, 12, none⟩ (.slice A2 K'.length c2)).heap.size := by rw [World.size_setCell]; exact Nat.le_trans HB1.out.size hb.size
      refine ⟨0, rfl, HTE.out, ?_, hsz, .inr ⟨rfl, .slice A2 K'.length c2, K', And.intro ?_ ?_, ?_, hsm⟩⟩
      · exact ((HB1.out.mono (Nat.le_of_lt hpl)).trans (hb.mono (Nat.le_of_lt hlo))).grown hgr (Nat.le_of_lt hp2) (fun k hk => by cases hk; exact Nat.le_refl _)
      · have h1 : Blk (w2.setCell ⟨p, 12, none⟩ (.slice A2 K'.length c2)) p 132 _ := Blk.set HC2.out.1 12 (.slice A2 K'.length c2)
        simpa using h1
      · exact HC2.out.2.below ((Below.refl p w2).grown hgr (Nat.le_of_lt hp2) (fun k hk => by cases hk; exact Nat.le_refl _))
      · have hk : ∀ k, some k = some p → ¬ (w1.heap.size ≤ k) := fun k h => by cases h; omega
        refine KOwn.base (lo' := w1.heap.size) ⟨hown.1.kept hgr (.inr (fun e => ?_)), fun k hk2 => (hown.2 k hk2).kept hgr (.inr (fun e => ?_))⟩ HB1.out.size
        · exact hk _ rfl (hown.1.lt _ e).1
        · exact hk _ rfl ((hown.2 k hk2).lt _ e).1)
    clear hown hsm hb hgr hpl hp2 hlo
    go_wp2
    go_ret
    exact HX.out
  · have h02 : (c != 0) = true := by simpa using h0
    have HX := Lib.hid (show SetPost w p a (.slice At nt ct) K (.returned (.int .i64 c)) w1 from ⟨c, rfl, HTE.out, HB1.out.mono (Nat.le_of_lt HC.out.lt), HB1.out.size, .inl ⟨h0, HC1.out⟩⟩)
    go_wp2
    go_ret
    exact HX.out
end Go.Proofs.YtnnbnecpcppkdaaDoor
namespace Go.Proofs.YtnnbnecpcppkdaaDoor
open Go.RowKit Go.Gy
set_option linter.unusedVariables false
set_option linter.unusedSimpArgs false
/-- each key has n joint values -/
def KyN (K : List Ky) (n : Nat) : Prop := ∀ k ∈ K, k.2.2.length = n
theorem atL_len {n : Nat} (tick : Int) : ∀ (K : List Ky) (a : Ky), a.2.2.length = n → KyN K n → (atL tick a K).length = n
  | [], a, h, _ => by show (a.2.2.map Q3.q).length = n; rw [List.length_map]; exact h
  | b :: r, a, h, hK => by
    have hb := hK b (by simp)
    show (if b.1 ≤ tick then atL tick b r else interpQ a b tick).length = n
    split
    · exact atL_len tick r b hb (fun k hk => hK k (List.mem_cons_of_mem _ hk))
    · unfold interpQ
      rw [List.length_zipWith, h, hb, Nat.min_self]
theorem atQ_len {n : Nat} {K : List Ky} (tick : Int) (hne : K ≠ []) (hK : KyN K n) : (atQ K tick).length = n := by
  cases K with
  | nil => exact absurd rfl hne
  | cons a r =>
    have ha := hK a (by simp)
    show (if tick ≤ a.1 then a.2.2.map Q3.q else atL tick a r).length = n
    split
    · rw [List.length_map]; exact ha
    · exact atL_len tick r a ha (fun k hk => hK k (List.mem_cons_of_mem _ hk))
theorem interp_qz {N : Nat} (hN : 1 ≤ N) {a b : Ky} {tick : Int} (ht : -9223372036854775808 ≤ tick ∧ tick ≤ 9223372036854775807) (ha : -9223372036854775808 ≤ a.1 ∧ a.1 ≤ 9223372036854775807) (hb : -9223372036854775808 ≤ b.1 ∧ b.1 ≤ 9223372036854775807) (la : ∀ x ∈ a.2.2, x.le N) (lb : ∀ x ∈ b.2.2, x.le N) : ∀ g ∈ interpQ a b tick, qz g ≤ 3 * N + 40 := by
  intro g hg
  obtain ⟨i, hi⟩ := List.mem_iff_getElem?.1 hg
  unfold interpQ at hi
  rw [List.getElem?_zipWith] at hi
  cases hx : a.2.2[i]? with
  | none => rw [hx] at hi; simp at hi
  | some x =>
    cases hy : b.2.2[i]? with
    | none => rw [hx, hy] at hi; simp at hi
    | some y =>
      rw [hx, hy] at hi
      simp only [Option.some.injEq] at hi
      subst hi
      have e1 := (la x (List.mem_of_getElem? hx)).qz hN
      have e2 := (lb y (List.mem_of_getElem? hy)).qz hN
      have f1 := qz_int tick ht
      have f2 := qz_int a.1 ha
      have f3 := qz_int b.1 hb
      have g1 := qz_sub (tick : Rat) (a.1 : Rat)
      have g2 := qz_sub (b.1 : Rat) (a.1 : Rat)
      have g3 := qz_div ((tick : Rat) - (a.1 : Rat)) ((b.1 : Rat) - (a.1 : Rat))
      have g4 := qz_sub y.q x.q
      have g5 := qz_mul (((tick : Rat) - (a.1 : Rat)) / ((b.1 : Rat) - (a.1 : Rat))) (y.q - x.q)
      have g6 := qz_add x.q ((((tick : Rat) - (a.1 : Rat)) / ((b.1 : Rat) - (a.1 : Rat))) * (y.q - x.q))
      omega
theorem map_qz {N : Nat} (hN : 1 ≤ N) {l : List Q3} (h : ∀ x ∈ l, x.le N) : ∀ g ∈ l.map Q3.q, qz g ≤ 3 * N + 40 := by
  intro g hg
  obtain ⟨x, hx, rfl⟩ := List.mem_map.1 hg
  have := (h x hx).qz hN
  omega
theorem atL_qz {N : Nat} (hN : 1 ≤ N) {tick : Int} (ht : -9223372036854775808 ≤ tick ∧ tick ≤ 9223372036854775807) : ∀ (K : List Ky) (a : Ky), (0 ≤ a.1 ∧ a.1 ≤ 2000) → (∀ x ∈ a.2.2, x.le N) → (∀ k ∈ K, 0 ≤ k.1 ∧ k.1 ≤ 2000) → KyLe K N → ∀ g ∈ atL tick a K, qz g ≤ 3 * N + 40
  | [], a, _, la, _, _ => map_qz hN la
  | b :: r, a, ta, la, tK, lK => by
    have tb := tK b (by simp)
    have lb := (lK b (by simp)).1
    show ∀ g ∈ (if b.1 ≤ tick then atL tick b r else interpQ a b tick), qz g ≤ 3 * N + 40
    split
    · exact atL_qz hN ht r b tb lb (fun k hk => tK k (List.mem_cons_of_mem _ hk)) (fun k hk => lK k (List.mem_cons_of_mem _ hk))
    · exact interp_qz hN ht (by omega) (by omega) la lb
theorem atQ_qz {N : Nat} (hN : 1 ≤ N) {K : List Ky} {tick : Int} (ht : -9223372036854775808 ≤ tick ∧ tick ≤ 9223372036854775807) (hK : KyOk K) (hl : KyLe K N) : ∀ g ∈ atQ K tick, qz g ≤ 3 * N + 40 := by
  cases K with
  | nil => intro g hg; cases hg
  | cons a r =>
    have ta := hK.1 a (by simp)
    have la := (hl a (by simp)).1
    show ∀ g ∈ (if tick ≤ a.1 then a.2.2.map Q3.q else atL tick a r), qz g ≤ 3 * N + 40
    split
    · exact map_qz hN la
    · exact atL_qz hN ht r a ta la (fun k hk => hK.1 k (List.mem_cons_of_mem _ hk)) (fun k hk => hl k (List.mem_cons_of_mem _ hk))
/-- where the joints are to be -/
def goalL (K : List Ky) (tick : Int) (ql : List Q3) : List Q3 := match K with
  | [] => ql
  | a :: r => (atQ (a :: r) (bndZ tick + 1)).map toQ3
def wishV (L : List (Lk × List P2)) (ql gl : List Q3) (i : Nat) : Rat := match L[i]?, ql[i]?, gl[i]? with
  | some x, some q, some g => towQ x.1.low.q x.1.high.q x.1.speed.q q.q g.q
  | _, _, _ => 0
def wishL (L : List (Lk × List P2)) (ql gl : List Q3) (k : Nat) : List Rat := (List.range k).map (wishV L ql gl)
theorem wishL_succ (L : List (Lk × List P2)) (ql gl : List Q3) (k : Nat) : wishL L ql gl (k + 1) = wishL L ql gl k ++ [wishV L ql gl k] := by
  unfold wishL; rw [List.range_succ, List.map_append]; rfl
def WsRel (wb : World) (L : List (Lk × List P2)) (ql gl : List Q3) (out i : Value) (wr : World) : Prop := ∃ k : Nat, k ≤ L.length ∧ i = .int .i64 k ∧ wr.ownsRow wb.heap.size 25 3 out k (rowQ (wishL L ql gl k)) ∧ Below wb.heap.size wb wr
def GwT (w : World) (l : List (Nat × TypeId × Array Value)) (gl : List Q3) (x : Value × Nat) (W : World) : Prop := x.2 ≤ W.heap.size ∧ SlQ W x.2 x.1 gl ∧ In w l W
theorem GwT.lasts (w : World) (l : List (Nat × TypeId × Array Value)) (gl : List Q3) (x : Value × Nat) : Lasts (GwT w l gl x) := fun W W' ⟨h1, h2, h3⟩ hb => ⟨Nat.le_trans h1 hb.size, h2.below (hb.mono h1), h3.call hb⟩
theorem goal_nil (tick : Int) (ql : List Q3) : goalL [] tick ql = ql := rfl
theorem goal_cons {K : List Ky} (h : K ≠ []) (tick : Int) (ql : List Q3) : goalL K tick ql = (atQ K (bndZ tick + 1)).map toQ3 := by
  cases K with
  | nil => exact absurd rfl h
  | cons a r => rfl
theorem goal_len {K : List Ky} {n : Nat} (hK : KyN K n) (tick : Int) {ql : List Q3} (hq : ql.length = n) : (goalL K tick ql).length = n := by
  by_cases h : K = []
  · subst h; exact hq
  · rw [goal_cons h, List.length_map]; exact atQ_len _ h hK
theorem goal_le {K : List Ky} {N : Nat} (hN : 1 ≤ N) (hK : KyOk K) (hl : KyLe K N) (tick : Int) {ql : List Q3} (hq : ∀ x ∈ ql, x.le N) : ∀ x ∈ goalL K tick ql, x.le (3 * N + 40) := by
  by_cases h : K = []
  · subst h; exact fun x hx => (hq x hx).more (by omega)
  · rw [goal_cons h]
    intro x hx
    obtain ⟨g, hg, rfl⟩ := List.mem_map.1 hx
    have hb : -1 ≤ bndZ tick ∧ bndZ tick ≤ 2000 := by unfold bndZ; omega
    exact toQ3_le (atQ_qz hN (by omega) hK hl g hg)
set_option maxRecDepth 100000 in
set_option maxHeartbeats 8000000 in
theorem wish_ctl (w : World) (hT : TabW w) (p : Nat) (a : Ar) (vt : Value) (K : List Ky) (tick : Int) (vq vv : Value) (ql : List Q3) (pw : Bool) (hd : Int) {N : Nat} (hC : CtlAt w p a vt) (hle : a.le N) (hL3 : a.L.length ≤ 3) (hv : SlK w w.heap.size vt K) (hl : KyLe K N) (hK : KyOk K) (hKn : KyN K a.L.length) (hn : K.length ≤ 60) (ht : InI tick) (hq : SlQ w w.heap.size vq ql) (lq : ∀ x ∈ ql, x.le N) (hqn : ql.length = a.L.length) (hvv : ∃ A n c, vv = .slice A n c) (hN : 1 ≤ N ∧ N ≤ 68719476) :
    Calls Tryd.prog 53 #[.pointer (some ⟨p, 0, none⟩), .int .i64 tick, .agg #[vq, vv, .bool pw, .int .i64 hd]] w fun e w' => ∃ v', e = .returned v' ∧ w'.ownsRow w.heap.size 25 3 v' a.L.length (rowQ (wishL a.L ql (goalL K tick ql) a.L.length)) ∧ Below w.heap.size w w' := by
  obtain ⟨i0, hi0, hz0, hz1, hz2⟩ := info_parts info_rat
  have HT := Lib.hid hT
  have hti : -9223372036854775808 ≤ tick ∧ tick ≤ 9223372036854775807 := ht
  have hbz : -1 ≤ bndZ tick ∧ bndZ tick ≤ 2000 := by unfold bndZ; omega
  have HBD := Lib.hid (fun W (hW : Below w.heap.size w W) => (bounded_any W tick ht).mono fun e w' (h : e = .returned (.int .i64 (bndZ tick)) ∧ w' = W) => (⟨h.1, by rw [h.2]; exact Below.refl _ _⟩ : e = .returned (.int .i64 (bndZ tick)) ∧ Below W.heap.size W w'))
  obtain ⟨tz, htz⟩ : ∃ tz, tz = bndZ tick := ⟨_, rfl⟩
  rw [← htz] at HBD hbz
  have HAT := Lib.hid (fun W (hW : Below w.heap.size w W) => at_any' W (tabs w hT hW) vt K (tz + 1) (hv.up hW) hl hK (by omega) (show InI (tz + 1) from ⟨by omega, by omega⟩) (by omega))
  have hwz : IntKind.i64.wrap (tz + 1) = tz + 1 := by rw [IntKind.wrap_i64]; omega
  have HLE := Lib.hid hle
  have HLQ := Lib.hid lq
  have HKP := Lib.hid (And.intro hK (And.intro hl hKn))
  have HC := Lib.hid hC
  have HQ := Lib.hid hq
  have HTZ := Lib.hid htz
  obtain ⟨Aq, nq, Cq, rfl, hnq, _⟩ := id hq
  subst hnq
  obtain ⟨Av, nv, Cv, rfl⟩ := hvv
  obtain ⟨At, nt, Ct, rfl, hnt, _⟩ := id hv
  subst hnt
  obtain ⟨⟨A, N9, C, hva, hNL, hNC, _, hrd⟩, hshp⟩ := id hC.2
  have hlen : N9 = a.L.length := by rw [← hNL, Ar.ks_len]
  subst hlen
  have c11 := hC.cell (i := 11) rfl
  have c12 := hC.cell (i := 12) rfl
  rw [hva] at c11
  have hpl : p < w.heap.size := hC.lt
  have EC := Lib.hid (fun W (hW : Below w.heap.size w W) => (⟨(hW.cell (p := ⟨p, 11, none⟩) hpl).trans c11, (hW.cell (p := ⟨p, 12, none⟩) hpl).trans c12, Nat.lt_of_lt_of_le hpl hW.size⟩ : And _ (And _ _)))
  obtain ⟨L, hLd⟩ : ∃ L, L = a.L := ⟨_, rfl⟩
  have HRD := Lib.hid (show Rd w p 16 A L.length ((L.map (·.1)).flatMap encK) from by rw [hLd]; exact hrd)
  have HSH := Lib.hid (show ∀ x ∈ L, SlP w p x.1.shape x.2 from by rw [hLd]; exact hshp)
  have HKS := Lib.hid (show ∀ i : Nat, (L.map (·.1))[i]? = (L[i]?).map (·.1) from fun i => List.getElem?_map)
  have HLK := Lib.hid (show ∀ x ∈ L, x.1.le N from fun x hx => (HLE.out.2.2.2 x (by rw [← hLd]; exact hx)).1)
  rw [← hLd] at hqn hL3 EC HKP ⊢
  have HQN := Lib.hid hqn
  have hn1 : ((ql.length : Int) != (L.length : Int)) = false := by simp [hqn]
  have hI := (In.start w).alloc 61 #[.slice Aq ql.length Cq, .slice Av nv Cv, .bool pw, .int .i64 hd]
  obtain ⟨g5, hg5⟩ : ∃ g, g = w.heap.size := ⟨_, rfl⟩
  clear hC hle hv hl hK hKn lq hq hT hrd hshp hNL hva c11 c12 hLd hqn ht hti htz hpl hNC
  go_enter Tryd.func53, Tryd.ntmps53
  go_upto_region 1 with (fail)
  rw [← hg5] at hI ⊢
  clear hg5
  generalize World.alloc _ _ = W1 at hI ⊢
  refine wp_region_in hI (by kernel_rfl) (by kernel_rfl) ?_
  repeat (first
    | (refine wpSeq_off (by rfl) ?_; try simp only [Act.put, List.setIfInBounds_toArray, List.set_cons_zero, List.set_cons_succ])
    | (refine wpSeq_val (v := ?_) (by rfl) (fun W hS => ?_) ?_
       rotate_left
       · (have fx := hS.facts; simp only [factsOf, cellsOf, Nat.zero_add, Nat.reduceAdd] at fx; have fy0 := EC.out W hS.bel; clear hS; go_simp; first | done | with_reducible rfl)
       try simp only [Act.put, List.setIfInBounds_toArray, List.set_cons_zero, List.set_cons_succ]))
  refine wpSeq_nil (fun W hS => ?_)
  clear hI
  replace hI := hS
  clear hS
  obtain ⟨e11, e12, epl⟩ := EC.out W hI.bel
  have fx := hI.facts
  simp only [factsOf, cellsOf, Nat.zero_add, Nat.reduceAdd] at fx
  go_upto_if 28 with (fail)
  clear fx e11 e12 epl
  go_cut [7] (fun q wx => ∃ (Ag : Option Addr) (ng Cg : Nat), q = .slice Ag ng Cg ∧ SlQ wx wx.heap.size (.slice Ag ng Cg) (goalL K tick ql) ∧ In w [(g5, 61, #[.slice Aq ql.length Cq, .slice Av nv Cv, .bool pw, .int .i64 hd])] wx)
  case first =>
    as_aux_lemma =>
    by_cases hK0 : K = []
    · have hk0 : K.length = 0 := by rw [hK0]; rfl
      have hgt : ¬ (K.length : Int) > 0 := by omega
      have hgt2 : ¬ 0 < (K.length : Int) := by omega
      have hgt3 : ¬ 0 < K.length := by omega
      have HG := Lib.hid (show goalL K tick ql = ql from by rw [hK0]; rfl)
      clear hK0 hk0
      go_wp2_with fail
      go_meet
      exact ⟨Aq, ql.length, Cq, rfl, by rw [HG.out]; exact HQ.out.up hI.bel, hI⟩
    · have hk0 : 0 < K.length := by
        rcases K with _ | ⟨a0, r0⟩
        · exact absurd rfl hK0
        · simp
      have hgt : (K.length : Int) > 0 := by omega
      have hgt2 : 0 < (K.length : Int) := by omega
      have HG := Lib.hid (goal_cons hK0 tick ql)
      have HPC := Lib.hid (show ∀ W, In w [(g5, 61, #[.slice Aq ql.length Cq, .slice Av nv Cv, .bool pw, .int .i64 hd])] W → Calls Tryd.prog 59 #[.slice At K.length Ct, .int .i64 (tz + 1)] W (fun e w'' => ∃ x : Value × Nat, e = .returned x.1 ∧ GwT w [(g5, 61, #[.slice Aq ql.length Cq, .slice Av nv Cv, .bool pw, .int .i64 hd])] (goalL K tick ql) x w'') from fun W hW => by
        refine (HAT.out W hW.bel).mono ?_
        rintro e w' ⟨v', rfl, hown, hb⟩
        exact ⟨(v', w'.heap.size), rfl, Nat.le_refl _, by rw [HG.out, ← HTZ.out]; exact SlQ.row hown, hW.call hb⟩)
      clear hK0
      go_upto_region 5 with (fail)
      refine wp_region_in_mid 7 (fun x : Value × Nat => x.1) (GwT w [(g5, 61, #[.slice Aq ql.length Cq, .slice Av nv Cv, .bool pw, .int .i64 hd])] (goalL K tick ql)) (GwT.lasts _ _ _) _ hI (by kernel_rfl) (by kernel_rfl) rfl ?_
      simp only [List.take_succ_cons, List.take_zero, List.drop_succ_cons, List.drop_zero]
      repeat (first
        | (refine wpSeq_off (by rfl) ?_; try simp only [Act.put, List.setIfInBounds_toArray, List.set_cons_zero, List.set_cons_succ])
        | (refine wpSeq_val (v := ?_) (by rfl) (fun W hS => ?_) ?_
           rotate_left
           · (have fx := hS.facts; simp only [factsOf, cellsOf, Nat.zero_add, Nat.reduceAdd] at fx; have fy0 := EC.out W hS.bel; clear hS; go_simp; first | done | with_reducible rfl)
           try simp only [Act.put, List.setIfInBounds_toArray, List.set_cons_zero, List.set_cons_succ]))
      refine wpSeq_call (v := .int .i64 tz) (by rfl) (fun W hS => ?_) (fun W hS => (HBD.out W hS.bel)) ?_
      · (clear hS; go_simp; done)
      try simp only [Act.put, List.setIfInBounds_toArray, List.set_cons_zero, List.set_cons_succ]
      repeat (first
        | (refine wpSeq_off (by rfl) ?_; try simp only [Act.put, List.setIfInBounds_toArray, List.set_cons_zero, List.set_cons_succ])
        | (refine wpSeq_val (v := ?_) (by rfl) (fun W hS => ?_) ?_
           rotate_left
           · (have fx := hS.facts; simp only [factsOf, cellsOf, Nat.zero_add, Nat.reduceAdd] at fx; have fy0 := EC.out W hS.bel; clear hS; go_simp; first | done | with_reducible rfl)
           try simp only [Act.put, List.setIfInBounds_toArray, List.set_cons_zero, List.set_cons_succ]))
      refine wpSeq_nil ⟨⟨rfl, fun W hS => ⟨_, _, ?_, HPC.out W hS⟩⟩, fun x => ?_⟩
      · (clear hS; go_simp; done)
      obtain ⟨vg, B⟩ := x
      simp only [List.setIfInBounds_toArray, List.set_cons_zero, List.set_cons_succ]
      repeat (first
        | (refine wpSeq_off (by rfl) ?_; try simp only [Act.put, List.setIfInBounds_toArray, List.set_cons_zero, List.set_cons_succ])
        | (refine wpSeq_val (v := ?_) (by rfl) (fun W hS => ?_) ?_
           rotate_left
           · (clear hS; go_simp; first | done | with_reducible rfl)
           try simp only [Act.put, List.setIfInBounds_toArray, List.set_cons_zero, List.set_cons_succ]))
      refine wpSeq_nil (fun W hS => ?_)
      obtain ⟨hB, hsl, hI2⟩ := hS
      have hsl : SlQ W B vg (goalL K tick ql) := hsl
      have hB : B ≤ W.heap.size := hB
      go_wp2_with fail
      go_meet
      obtain ⟨Ag, ng, Cg, rfl, _⟩ := id hsl
      exact ⟨Ag, ng, Cg, rfl, hsl.more hB, hI2⟩
  case rest =>
    clear hI HAT HBD
    obtain ⟨Ag, ng, Cg, rfl, hsg, hI⟩ := hcut
    obtain ⟨wb, rfl⟩ : ∃ wb, wb = wc := ⟨_, rfl⟩
    have HGN := Lib.hid (goal_len HKP.out.2.2 tick HQN.out)
    have HGLE := Lib.hid (goal_le hN.1 HKP.out.1 HKP.out.2.1 tick HLQ.out)
    obtain ⟨gl, hgl⟩ : ∃ gl, gl = goalL K tick ql := ⟨_, rfl⟩
    rw [← hgl] at hsg HGN HGLE
    have HGLD := Lib.hid hgl
    clear hgl
    obtain ⟨_, _, _, he, hng, _, _, hrg⟩ := hsg
    cases he
    have HNG := Lib.hid hng
    have HRG := Lib.hid hrg
    have HTB := Lib.hid (tabs w HT.out hI.bel)
    have HI := Lib.hid hI
    obtain ⟨e11, e12, epl⟩ := EC.out wb hI.bel
    have hst := Lib.hid (show WsRel wb L ql gl (.slice none 0 0) (.int .i64 0) wb from ⟨0, Nat.zero_le _, rfl, ⟨rfl, .inl ⟨rfl, rfl⟩⟩, Below.refl _ _⟩)
    clear hrg hng hI
    go_wp2_with fail
    clear e11 e12 epl
    go_loopw [43, 8] (fun i out wr => WsRel wb L ql gl out i wr) (fun i _ _ => L.length - (intOf i).toNat)
    case atStart => exact hst.out
    case round =>
      clear hst
      obtain ⟨k, hk, rfl, hown, hbw⟩ := hrel
      obtain ⟨wq, rfl⟩ : ∃ wq, wq = wr := ⟨_, rfl⟩
      by_cases hin : k < L.length
      · as_aux_lemma =>
        have hi1 : (k : Int) < (L.length : Int) := by omega
        have hi2 : 0 ≤ (k : Int) ∧ (k : Int) < (L.length : Int) := by omega
        have hiq : 0 ≤ (k : Int) ∧ (k : Int) < (ql.length : Int) := by rw [HQN.out]; omega
        have hig : 0 ≤ (k : Int) ∧ (k : Int) < (ng : Int) := by rw [← HNG.out, HGN.out]; omega
        obtain ⟨⟨⟨klen, klow, khigh, kspeed, kbrake, kshape⟩, pts⟩, ha⟩ : ∃ x, L[k]? = some x := ⟨_, List.getElem?_eq_getElem hin⟩
        obtain ⟨q, hq⟩ : ∃ q, ql[k]? = some q := ⟨_, List.getElem?_eq_getElem (by rw [HQN.out]; exact hin)⟩
        obtain ⟨gq, hg⟩ : ∃ g, gl[k]? = some g := ⟨_, List.getElem?_eq_getElem (by rw [HGN.out]; exact hin)⟩
        obtain ⟨A5, n5, c5, hk5, _⟩ := HSH.out _ (List.mem_of_getElem? ha)
        obtain rfl : kshape = .slice A5 n5 c5 := hk5
        obtain ⟨b9, o, hAe, hbB, hlc⟩ := Rd.lnk HRD.out (i := k) (k := ⟨klen, klow, khigh, kspeed, kbrake, .slice A5 n5 c5⟩) (by
          show (L.map (·.1))[k]? = _
          rw [HKS.out, ha]; rfl)
        have hpw : p ≤ w.heap.size := Nat.le_of_lt (HC.out.lt)
        have hbq := HI.out.bel.trans (hbw.mono HI.out.bel.size)
        have hlc := hlc.below (hbq.mono hpw) hbB
        have hbn : b9 < wq.heap.size := Nat.lt_of_lt_of_le hbB (Nat.le_trans hpw hbq.size)
        obtain ⟨f0, f1, f2, f3, f4, f5, f6, f7, f8, f9, f10, f11, f12, f13, f14, f15⟩ := hlc
        subst hAe
        have HTQ := Lib.hid (tabs wb HTB.out hbw)
        have lk := HLK.out _ (List.mem_of_getElem? ha)
        obtain ⟨z, qz, cz, _, TW⟩ := towardR wq HTQ.out ⟨klen, klow, khigh, kspeed, kbrake, .slice A5 n5 c5⟩ q gq (N := 3 * N + 40) (lk.more (by omega)) ((HLQ.out q (List.mem_of_getElem? hq)).more (by omega)) (HGLE.out gq (List.mem_of_getElem? hg)) (by omega)
        have TW : Hid (∀ W, Below wq.heap.size wq W → Calls Tryd.prog 92 #[.agg #[.bool klen.neg, .string klen.num, .string klen.den, .bool klow.neg, .string klow.num, .string klow.den, .bool khigh.neg, .string khigh.num, .string khigh.den, .bool kspeed.neg, .string kspeed.num, .string kspeed.den, .bool kbrake.neg, .string kbrake.num, .string kbrake.den, .slice A5 n5 c5], .agg #[.bool q.neg, .string q.num, .string q.den], .agg #[.bool gq.neg, .string gq.num, .string gq.den]] W fun r w' => r = .returned (.agg #[.bool z.neg, .string z.num, .string z.den]) ∧ Below W.heap.size W w') := TW
        have HROW := Lib.hid (show rowQ (wishL L ql gl (k + 1)) = rowQ (wishL L ql gl k) ++ [.bool z.neg, .string z.num, .string z.den] from by
          rw [wishL_succ]
          refine rowQ_can _ cz ?_
          unfold wishV
          rw [ha, hq, hg]
          exact qz)
        obtain ⟨_, _, _, he1, _, _, _, hrq⟩ := HQ.out
        cases he1
        obtain ⟨bx, ox, hAx, hbx, x0, x1, x2⟩ := Rd.quot hrq hq
        obtain ⟨by', oy, hAy, hby, y0, y1, y2⟩ := Rd.quot HRG.out hg
        subst hAx hAy
        have i5 := HI.out.cell (k := 0) (i := 0) rfl rfl
        have l5 := HI.out.lt (k := 0) rfl
        have E := Lib.hid (fun W (hW : Below wq.heap.size wq W) => (⟨((hbw.trans (hW.mono hbw.size)).cell (p := ⟨g5, 0, none⟩) l5).trans i5,
          ((hbq.trans (hW.mono hbq.size)).cell (p := ⟨bx, ox + k * 3, none⟩) hbx).trans x0, ((hbq.trans (hW.mono hbq.size)).cell (p := ⟨bx, ox + k * 3 + 1, none⟩) hbx).trans x1, ((hbq.trans (hW.mono hbq.size)).cell (p := ⟨bx, ox + k * 3 + 2, none⟩) hbx).trans x2, ((hbw.trans (hW.mono hbw.size)).cell (p := ⟨by', oy + k * 3, none⟩) hby).trans y0, ((hbw.trans (hW.mono hbw.size)).cell (p := ⟨by', oy + k * 3 + 1, none⟩) hby).trans y1, ((hbw.trans (hW.mono hbw.size)).cell (p := ⟨by', oy + k * 3 + 2, none⟩) hby).trans y2,
          Nat.lt_of_lt_of_le hbx (hbq.trans (hW.mono hbq.size)).size, Nat.lt_of_lt_of_le hby (hbw.trans (hW.mono hbw.size)).size⟩ : And _ (And _ (And _ (And _ (And _ (And _ (And _ (And _ _)))))))))
        have hwk : IntKind.i64.wrap ((k : Int) + 1) = (k : Int) + 1 := by rw [IntKind.wrap_i64]; omega
        have HOWN := Lib.hid hown
        have HBW := Lib.hid hbw
        have hk3 : k ≤ 3 := by omega
        have HN := Lib.hid (show ∀ v' w', w'.ownsRow wb.heap.size 25 3 v' (k + 1) (rowQ (wishL L ql gl k) ++ [.bool z.neg, .string z.num, .string z.den]) → Below wb.heap.size wb w' → WsRel wb L ql gl v' (.int .i64 ((k : Int) + 1)) w' from fun v' w' ho hb => ⟨k + 1, hin, by simp, by rw [HROW.out]; exact ho, hb⟩)
        have hJ := (In.start wq).alloc 28 #[.bool klen.neg, .string klen.num, .string klen.den, .bool klow.neg, .string klow.num, .string klow.den, .bool khigh.neg, .string khigh.num, .string khigh.den, .bool kspeed.neg, .string kspeed.num, .string kspeed.den, .bool kbrake.neg, .string kbrake.num, .string kbrake.den, .slice A5 n5 c5]
        obtain ⟨g10, hg10⟩ : ∃ g, g = wq.heap.size := ⟨_, rfl⟩
        clear ha hq hg lk qz cz x0 x1 x2 y0 y1 y2 hbx hby hbq i5 l5 hown hrq
        go_upto_region 10 with (fail)
        clear f0 f1 f2 f3 f4 f5 f6 f7 f8 f9 f10 f11 f12 f13 f14 f15 hbn hbB
        rw [← hg10] at hJ ⊢
        generalize World.alloc _ _ = W5 at hJ ⊢
        clear hg10
        refine wp_region_in_lateS 12 [0] _ 25 #[.bool z.neg, .string z.num, .string z.den] hJ (by kernel_rfl) (by kernel_rfl) rfl ?_
        simp only [List.take_succ_cons, List.take_zero, List.drop_succ_cons, List.drop_zero]
        repeat (first
          | (refine wpSeqL_off (by rfl) ?_; try simp only [Act.put, List.setIfInBounds_toArray, List.set_cons_zero, List.set_cons_succ])
          | (refine wpSeqL_pure (v := ?_) (by rfl) (fun W => ?_) ?_
             rotate_left
             · (go_simp; first | done | with_reducible rfl)
             try simp only [Act.put, List.setIfInBounds_toArray, List.set_cons_zero, List.set_cons_succ])
          | (refine wpSeqL_val (v := ?_) (by rfl) (by rfl) (fun W hS => ?_) ?_
             rotate_left
             · (have fx := hS.facts; simp only [factsOf, cellsOf, Nat.zero_add, Nat.reduceAdd] at fx; have fy0 := E.out W hS.bel; clear hS; go_simp; first | done | with_reducible rfl)
             try simp only [Act.put, List.setIfInBounds_toArray, List.set_cons_zero, List.set_cons_succ]))
        refine wpSeqL_call (v := .agg #[.bool z.neg, .string z.num, .string z.den]) (by rfl) (by rfl) (fun W hS => ?_) (fun W hS => (TW.out W hS.bel)) ?_
        · (clear hS; go_simp; done)
        try simp only [Act.put, List.setIfInBounds_toArray, List.set_cons_zero, List.set_cons_succ]
        repeat (first
          | (refine wpSeqL_off (by rfl) ?_; try simp only [Act.put, List.setIfInBounds_toArray, List.set_cons_zero, List.set_cons_succ])
          | (refine wpSeqL_pure (v := ?_) (by rfl) (fun W => ?_) ?_
             rotate_left
             · (go_simp; first | done | with_reducible rfl)
             try simp only [Act.put, List.setIfInBounds_toArray, List.set_cons_zero, List.set_cons_succ])
          | (refine wpSeqL_val (v := ?_) (by rfl) (by rfl) (fun W hS => ?_) ?_
             rotate_left
             · (have fx := hS.facts; simp only [factsOf, cellsOf, Nat.zero_add, Nat.reduceAdd] at fx; have fy0 := E.out W hS.bel; clear hS; go_simp; first | done | with_reducible rfl)
             try simp only [Act.put, List.setIfInBounds_toArray, List.set_cons_zero, List.set_cons_succ]))
        refine wpSeqL_nil ⟨rfl, fun W hS => ?_, fun g W hI => ?_⟩
        · go_simp
        simp only [List.setIfInBounds_toArray, List.set_cons_zero, List.set_cons_succ]
        have hbase : wb.heap.size ≤ W.heap.size := Nat.le_trans HBW.out.size hI.bel.size
        have Ho := Lib.hid (own_below HOWN.out hI.bel (Nat.le_refl _))
        have HBB := Lib.hid (HBW.out.trans (hI.bel.mono HBW.out.size))
        have Hrs := Lib.hid (show Rd W W.heap.size 3 (some ⟨g, 0, none⟩) 1 [.bool z.neg, .string z.num, .string z.den] from ⟨rfl, fun _ => ⟨g, 0, rfl, hI.lt (k := 0) rfl, fun j u hj => by rw [Nat.zero_add]; exact hI.cell (k := 0) rfl hj⟩⟩)
        clear hI hJ E
        go_wp2_with (at_builtin; refine wpList_extend rfl (.tmp 48) (.tmp 60) 48 rfl wb.heap.size 25 i0 (.agg #[.bool false, .string { data := #[] }, .string { data := #[] }]) 3 40 Tryd.underlying48 hi0 hz0 hz1 hz2 rfl (by omega) _ k _ rfl Ho.out _ 1 1 _ [.bool z.neg, .string z.num, .string z.den] rfl (fun h => by cases h) Hrs.out (by simp [Value.oneCell']) (by unfold maxLen; omega) (by omega) hbase ?_; intro v6 w6 hn6 hb6)
        have HX3 := Lib.hid (HN.out _ _ hn6 (HBB.out.trans hb6))
        clear hn6 hb6
        refine NoPanic.normal ?_
        go_wp2_with fail
        go_roundw
        case rel => exact HX3.out
        case measure => simp [intOf]; omega
      · obtain rfl : k = L.length := by omega
        have hi1 : ¬ (L.length : Int) < (L.length : Int) := by omega
        have HO := Lib.hid (show wq.ownsRow w.heap.size 25 3 _ L.length (rowQ (wishL L ql (goalL K tick ql) L.length)) from by
          rw [← HGLD.out]
          exact own_base hown HI.out.bel.size)
        have hfin := HI.out.bel.trans (hbw.mono HI.out.bel.size)
        clear hown hbw
        go_wp2
        go_ret
        exact ⟨_, rfl, HO.out, hfin⟩
end Go.Proofs.YtnnbnecpcppkdaaDoor
