/- net.Send, walked. Conditions: those typed. -/
import Derived.Test.YtpnefacignalpaaNetA
import Derived.Test.YtpnefacignalpaaInvJ
import Derived.Maps.AppendAt
import Derived.Deep.DeepCutAuto
namespace Go.Proofs.Ytpnefacignalpaa
open Go.RowKit Go.Gy
set_option linter.unusedVariables false
set_option linter.unusedSimpArgs false
theorem info_sentI : (Try.prog.info? 82).map (fun i => (i.zero, i.size, i.bytes)) = some (some (.agg #[.int .i64 0, .int .i64 0, .int .i64 0, .int .i64 0, .int .i64 0, .int .u32 0, .slice none 0 0]), 7, 72) := by kernel_rfl
/-- append of one element, as a single operation -/
theorem exec_append {P : Program} {ev : Operand → Value} {o : Oper} {w : World} (s x : Operand) (t : TypeId)
    (ho : o.op = .call { callee := .builtin .append, args := #[s, x], argTypes := #[t, t] })
    (base : Nat) (e : TypeId) (i : TypeInfo) (z : Value) (size bytes : Nat) (ht : P.underlying t = some (.slice e)) (hi : P.info? e = some i) (hz : i.zero = some z)
    (hsize : i.size = size) (hby : i.bytes = bytes) (hzs : z.cells.size = size) (hsz : 0 < size)
    (v : Value) (n : Nat) (xs : List Value) (hs : ev s = v) (hown : w.ownsRow base e size v n xs)
    (g : Nat) (cs : Array Value) (hx : ev x = .slice (some ⟨g, 0, none⟩) 1 1) (hk : Blk w g e cs) (hl : cs.toList.length = size) (h1 : ∀ u ∈ cs.toList, u.oneCell' = true)
    (h63 : n + 1 ≤ maxLen) (hbytes : (n + 1) * bytes ≤ 140737488355328) (hbase : base ≤ w.heap.size) :
    ∃ v' w', (execOp ev o).run P w = .ok (.value v') w' ∧ w'.ownsRow base e size v' (n + 1) (xs ++ cs.toList) ∧ w.grownBy w' v.ownBlock ∧ (v'.ownBlock = v.ownBlock ∨ v'.ownBlock = some w.heap.size) := by
  obtain ⟨v', w', hr, h2, h3, _, h5⟩ := run_append_own_at (P := P) (w := w) base t o.type e i z size bytes ht hi hz hsize hby hzs hsz v n xs hown ⟨g, 0, none⟩ 1 1 cs.toList (by omega) (fun j u hu => by
    rw [add_none, Nat.zero_add]
    exact hk.cell j u (by simpa using hu)) h1 h63 hbytes hbase
  refine ⟨v', w', ?_, h2, h3, h5⟩
  unfold execOp
  simp only [ho, resolve, invoke, builtin, Sem.run_bind, Sem.run_pure, Result.andThen_ok, List.map_toArray, List.map_cons, List.map_nil, hs, hx, hr]
/-- the region 'n.kept = append(n.kept, sent{.., msg.Copy(m)})' under way -/
structure SdJ (wq : World) (base : Nat) (v : Value) (n : Nat) (xs : List Value) (m : GMsg) (nn : Nat) (due : Int) (det : Nat → Option Value) (s : Nat → Bool) (vs : Nat → Value) (W : World) : Prop where
  dt : ∀ i u, s i = true → det i = some u → vs i = u
  b0 : s 13 = false → Below wq.heap.size wq W
  cp : s 10 = true → s 13 = false → ∃ A c, vs 10 = msgV m A nn c ∧ W.ownsRow wq.heap.size 88 2 (.slice A nn c) nn (m.cells.flatMap encC)
  bd : s 11 = true → s 10 = true ∧ (s 13 = false → ∃ A c, vs 10 = msgV m A nn c ∧ vs 11 = .agg (encS (due, ⟨m, A, nn, c⟩)).toArray)
  ls : s 12 = true → s 11 = true ∧ (s 13 = false → ∃ A c gL, vs 10 = msgV m A nn c ∧ vs 12 = .slice (some ⟨gL, 0, none⟩) 1 1 ∧ Blk W gL 82 (encS (due, ⟨m, A, nn, c⟩)).toArray)
  ap : s 13 = true → s 12 = true ∧ ∃ A c, W.ownsRow base 82 7 (vs 13) (n + 1) (xs ++ encS (due, ⟨m, A, nn, c⟩)) ∧ W.ownsRow wq.heap.size 88 2 (.slice A nn c) nn (m.cells.flatMap encC) ∧ NearV wq v (vs 13) ∧ Mod (fun k => v.ownBlock = some k) wq W
section
variable {wq : World} {base : Nat} {v : Value} {n : Nat} {xs : List Value} {m : GMsg} {nn : Nat} {due : Int} {det : Nat → Option Value} {s : Nat → Bool} {vs : Nat → Value} {W : World}
theorem SdJ.start {W : World} (h : Below wq.heap.size wq W) : SdJ wq base v n xs m nn due det (fun _ => false) (fun _ => undef) W :=
  ⟨fun i u h => (by cases h), fun _ => h, fun h => (by cases h), fun h => (by cases h), fun h => (by cases h), fun h => (by cases h)⟩
theorem SdJ.det_step (h : SdJ wq base v n xs m nn due det s vs W) {i : Nat} {u : Value} (hi : i < 10) (hd : det i = some u) : SdJ wq base v n xs m nn due det (updI s i true) (updI vs i u) W := by
  have e10 : updI s i true 10 = s 10 := updI_ne s true (by omega)
  have e11 : updI s i true 11 = s 11 := updI_ne s true (by omega)
  have e12 : updI s i true 12 = s 12 := updI_ne s true (by omega)
  have e13 : updI s i true 13 = s 13 := updI_ne s true (by omega)
  have v10 : updI vs i u 10 = vs 10 := updI_ne vs u (by omega)
  have v11 : updI vs i u 11 = vs 11 := updI_ne vs u (by omega)
  have v12 : updI vs i u 12 = vs 12 := updI_ne vs u (by omega)
  have v13 : updI vs i u 13 = vs 13 := updI_ne vs u (by omega)
  refine ⟨fun j u' hj hdj => ?_, ?_, ?_, ?_, ?_, ?_⟩
  · by_cases hji : j = i
    · subst hji
      rw [updI_same]
      rw [hd] at hdj
      exact Option.some.inj hdj
    · rw [updI_ne s true hji] at hj
      rw [updI_ne vs u hji]
      exact h.dt j u' hj hdj
  · rw [e13]; exact h.b0
  · rw [e10, e13, v10]; exact h.cp
  · rw [e11, e10, e13, v10, v11]; exact h.bd
  · rw [e12, e11, e13, v10, v12]; exact h.ls
  · rw [e13, e12, v13]; exact h.ap
theorem SdJ.step10 (h : SdJ wq base v n xs m nn due det s vs W) (hs : s 10 = false) {A : Option Addr} {c : Nat} {W' : World} (hd : det 10 = none) (hb : Below W.heap.size W W') (ho : W'.ownsRow W.heap.size 88 2 (.slice A nn c) nn (m.cells.flatMap encC)) : SdJ wq base v n xs m nn due det (updI s 10 true) (updI vs 10 (msgV m A nn c)) W' := by
  have h11 : s 11 = false := by cases h1 : s 11 with | false => rfl | true => rw [(h.bd h1).1] at hs; cases hs
  have h12 : s 12 = false := by cases h1 : s 12 with | false => rfl | true => rw [(h.ls h1).1] at h11; cases h11
  have h13 : s 13 = false := by cases h1 : s 13 with | false => rfl | true => rw [(h.ap h1).1] at h12; cases h12
  have hw := h.b0 h13
  have e11 : updI s 10 true 11 = false := (updI_ne s true (by omega)).trans h11
  have e12 : updI s 10 true 12 = false := (updI_ne s true (by omega)).trans h12
  have e13 : updI s 10 true 13 = false := (updI_ne s true (by omega)).trans h13
  refine ⟨fun j u' hj hdj => ?_, fun _ => hw.trans (hb.mono hw.size), fun _ _ => ⟨A, c, updI_same _ _ _, own_mono ho hw.size⟩, fun h1 => ?_, fun h1 => ?_, fun h1 => ?_⟩
  · by_cases hji : j = 10
    · subst hji; rw [hd] at hdj; cases hdj
    · rw [updI_ne s true hji] at hj
      rw [updI_ne vs _ hji]
      exact h.dt j u' hj hdj
  · rw [e11] at h1; cases h1
  · rw [e12] at h1; cases h1
  · rw [e13] at h1; cases h1
theorem SdJ.step11 (h : SdJ wq base v n xs m nn due det s vs W) (hs : s 11 = false) (h10 : s 10 = true) {A : Option Addr} {c : Nat} (hd : det 11 = none) (hv : vs 10 = msgV m A nn c) : SdJ wq base v n xs m nn due det (updI s 11 true) (updI vs 11 (.agg (encS (due, ⟨m, A, nn, c⟩)).toArray)) W := by
  have h12 : s 12 = false := by cases h1 : s 12 with | false => rfl | true => rw [(h.ls h1).1] at hs; cases hs
  have h13 : s 13 = false := by cases h1 : s 13 with | false => rfl | true => rw [(h.ap h1).1] at h12; cases h12
  have e10 : updI s 11 true 10 = s 10 := updI_ne s true (by omega)
  have e12 : updI s 11 true 12 = false := (updI_ne s true (by omega)).trans h12
  have e13 : updI s 11 true 13 = s 13 := updI_ne s true (by omega)
  refine ⟨fun j u' hj hdj => ?_, ?_, ?_, fun _ => ⟨by rw [e10]; exact h10, fun _ => ⟨A, c, (updI_ne vs _ (by omega)).trans hv, updI_same _ _ _⟩⟩, fun h1 => ?_, fun h1 => ?_⟩
  · by_cases hji : j = 11
    · subst hji; rw [hd] at hdj; cases hdj
    · rw [updI_ne s true hji] at hj
      rw [updI_ne vs _ hji]
      exact h.dt j u' hj hdj
  · rw [e13]; exact h.b0
  · rw [e10, e13, updI_ne vs _ (show 10 ≠ 11 by omega)]; exact h.cp
  · rw [e12] at h1; cases h1
  · rw [e13, h13] at h1; cases h1
theorem SdJ.step12 (h : SdJ wq base v n xs m nn due det s vs W) (hs : s 12 = false) (h11 : s 11 = true) {A : Option Addr} {c gL : Nat} {W' : World} (hd : det 12 = none) (hv : vs 10 = msgV m A nn c) (hb : Below W.heap.size W W') (hk : Blk W' gL 82 (encS (due, ⟨m, A, nn, c⟩)).toArray) : SdJ wq base v n xs m nn due det (updI s 12 true) (updI vs 12 (.slice (some ⟨gL, 0, none⟩) 1 1)) W' := by
  have h13 : s 13 = false := by cases h1 : s 13 with | false => rfl | true => rw [(h.ap h1).1] at hs; cases hs
  have hw := h.b0 h13
  have e10 : updI s 12 true 10 = s 10 := updI_ne s true (by omega)
  have e11 : updI s 12 true 11 = s 11 := updI_ne s true (by omega)
  have e13 : updI s 12 true 13 = s 13 := updI_ne s true (by omega)
  have v10 : ∀ u, updI vs 12 u 10 = vs 10 := fun u => updI_ne vs u (by omega)
  have v11 : ∀ u, updI vs 12 u 11 = vs 11 := fun u => updI_ne vs u (by omega)
  refine ⟨fun j u' hj hdj => ?_, fun _ => hw.trans (hb.mono hw.size), ?_, ?_, fun _ => ⟨by rw [e11]; exact h11, fun _ => ⟨A, c, gL, (v10 _).trans hv, updI_same _ _ _, hk⟩⟩, fun h1 => ?_⟩
  · by_cases hji : j = 12
    · subst hji; rw [hd] at hdj; cases hdj
    · rw [updI_ne s true hji] at hj
      rw [updI_ne vs _ hji]
      exact h.dt j u' hj hdj
  · rw [e10, e13, v10]
    intro a b
    obtain ⟨A2, c2, k1, k2⟩ := h.cp a b
    exact ⟨A2, c2, k1, own_below k2 hb (Nat.le_refl _)⟩
  · rw [e10, e11, e13, v10, v11]; exact h.bd
  · rw [e13, h13] at h1; cases h1
theorem SdJ.step13 (h : SdJ wq base v n xs m nn due det s vs W) (hs : s 13 = false) (h12 : s 12 = true) {A : Option Addr} {c : Nat} {v' : Value} {W' : World} (hd : det 13 = none) (hvl : ∀ g, v.ownBlock = some g → g < wq.heap.size) (hvt : ∀ g cs, v.ownBlock = some g → ¬ Blk W g 88 cs) (hc : W.ownsRow wq.heap.size 88 2 (.slice A nn c) nn (m.cells.flatMap encC))
    (ho : W'.ownsRow base 82 7 v' (n + 1) (xs ++ encS (due, ⟨m, A, nn, c⟩))) (hg : W.grownBy W' v.ownBlock) (hn : v'.ownBlock = v.ownBlock ∨ v'.ownBlock = some W.heap.size) : SdJ wq base v n xs m nn due det (updI s 13 true) (updI vs 13 v') W' := by
  have hw := h.b0 hs
  have e12 : updI s 13 true 12 = s 12 := updI_ne s true (by omega)
  have e13 : updI s 13 true 13 = true := updI_same _ _ _
  have hM := (Mod.of_below (F := fun k => v.ownBlock = some k) hw).trans (Mod.of_grown hg) (fun _ _ h => h)
  refine ⟨fun j u' hj hdj => ?_, fun h1 => ?_, fun _ h1 => ?_, fun h1 => ?_, fun h1 => ?_, fun _ => ⟨by rw [e12]; exact h12, A, c, by rw [updI_same]; exact ho, (Mod.of_grown hg).own hc (fun g cs hg1 hk hf => hvt g cs hf hk), fun g hg1 => ?_, hM⟩⟩
  · by_cases hji : j = 13
    · subst hji; rw [hd] at hdj; cases hdj
    · rw [updI_ne s true hji] at hj
      rw [updI_ne vs _ hji]
      exact h.dt j u' hj hdj
  · rw [e13] at h1; cases h1
  · rw [e13] at h1; cases h1
  · rw [updI_ne s true (show 11 ≠ 13 by omega)] at h1
    exact ⟨by rw [updI_ne s true (show 10 ≠ 13 by omega)]; exact (h.bd h1).1, fun h2 => by rw [e13] at h2; cases h2⟩
  · rw [e12] at h1
    exact ⟨by rw [updI_ne s true (show 11 ≠ 13 by omega)]; exact (h.ls h1).1, fun h2 => by rw [e13] at h2; cases h2⟩
  · rw [updI_same] at hg1
    rcases hn with hn | hn
    · rw [hn] at hg1; exact .inl hg1
    · rw [hn] at hg1
      have := Option.some.inj hg1
      exact .inr (by have := hw.size; omega)
end
theorem MsgAt.mod {w w' : World} {F : Nat → Prop} {m : GMsg} {A : Option Addr} {n c : Nat} (h : MsgAt w w.heap.size m A n c) (hm : Mod F w w') (hA : 0 < n → ∀ p, A = some p → ¬ F p.block) : MsgAt w' w'.heap.size m A n c := by
  refine ⟨h.len, h.cap, h.none_, h.bound, h.rd.1, fun h0 => ?_⟩
  obtain ⟨b, o, rfl, hb, hc⟩ := h.rd.2 h0
  exact ⟨b, o, rfl, Nat.lt_of_lt_of_le hb hm.size, fun j u hu => (World.cell?_of_block (a := ⟨b, o + j, none⟩) (hm.block b hb (hA (by
    rcases Nat.eq_zero_or_pos n with h1 | h1
    · omega
    · exact h1) _ rfl))).trans (hc j u hu)⟩
/-- one more kept message -/
theorem NetAt.push {w w' : World} {base B : Nat} {FS : List GF} {T : Int} {v v' : Value} {K : List AK} {m : GMsg} {due : Int} {A : Option Addr} {nn c : Nat} (h : NetAt w base B FS T v K) (hok : KOk (K ++ [(due, m)])) {n : Nat} {xs : List Value} (hown : w.ownsRow base 82 7 v n xs)
    (ho : w'.ownsRow base 82 7 v' (n + 1) (xs ++ encS (due, ⟨m, A, nn, c⟩))) (hc : w'.ownsRow base 88 2 (.slice A nn c) nn (m.cells.flatMap encC)) (hl : m.cells.length = nn) (hm : Mod (fun k => v.ownBlock = some k) w w') :
    NetAt (w'.setCell ⟨B, 2, none⟩ v') base B FS T v' (K ++ [(due, m)]) := by
  have hBv : ∀ g, v.ownBlock = some g → g ≠ B := fun g hg e => by
    subst e
    obtain ⟨_, _, Af, nf, cf, ks, _, h4, _⟩ := h
    obtain ⟨cs, hk⟩ := own_blk hown hg
    exact absurd (blk_type h4 hk) (by decide)
  obtain ⟨h1, h2, Af, nf, cf, ks, h3, h4, h5, h6, h7, h8⟩ := h
  have hxs : n = ks.length ∧ xs = ks.flatMap encS := by
    obtain ⟨_, ⟨e1, e2⟩ | ⟨g, cap, cur, rfl, _, hh, hnc, hcm, hcs, htk⟩⟩ := id hown
    · obtain ⟨e3, h9 | ⟨g, cap, cur, e4, _⟩⟩ := id h7
      · have : ks = [] := List.eq_nil_of_length_eq_zero h9.2
        subst this
        have : xs = [] := List.eq_nil_of_length_eq_zero (by rw [hown.1, e2])
        exact ⟨by simp [e2], by rw [this]; rfl⟩
      · rw [e1] at e4; cases e4
    · obtain ⟨e3, ⟨e4, _⟩ | ⟨g', cap', cur', e4, _, hh', hnc', hcm', hcs', htk'⟩⟩ := id h7
      · cases e4
      · injection e4 with e5 e6 e7
        injection e5 with e5
        injection e5 with e5
        subst e5
        have e8 := hh.symm.trans hh'
        injection e8 with e8
        injection e8 with e8
        subst e8
        rw [e6] at htk
        exact ⟨e6, htk.symm.trans htk'⟩
  obtain ⟨rfl, rfl⟩ := hxs
  have hoff : ∀ g t cs, Blk w g t cs → v.ownBlock = some g → t = 82 := fun g t cs hk hg => by
    obtain ⟨cs', hk'⟩ := own_blk h7 hg
    exact blk_type hk hk'
  have hk4 : Blk w' B 79 #[.slice Af nf cf, .int .i64 T, v] := hm.blk h4 (fun hf => hBv B hf rfl)
  have k5 := hk4.set 2 v'
  have hS := Mod.of_grow (GroW.set w' B 2 v')
  have hne : ∀ {t : TypeId} {g : Nat} {cs : Array Value}, Blk w' g t cs → t ≠ 79 → ¬ (g = B) := fun hk ht e => by
    subst e
    exact ht (blk_type hk hk4)
  refine ⟨h1, hok, Af, nf, cf, ks ++ [(due, ⟨m, A, nn, c⟩)], by rw [List.map_append, h3]; rfl, k5, hS.own (hm.own h5 (fun g cs _ hk hf => absurd (hoff g _ cs hk hf) (by decide))) (fun g cs _ hk => hne hk (by decide)), h6, ?_, fun k hk => ?_⟩
  · rw [List.length_append, List.flatMap_append]
    exact hS.own (by simpa using ho) (fun g cs _ hk => hne hk (by decide))
  · rcases List.mem_append.1 hk with hk | hk
    · exact ⟨hS.own (hm.own (h8 k hk).1 (fun g cs _ hk hf => absurd (hoff g _ cs hk hf) (by decide))) (fun g cs _ hk => hne hk (by decide)), (h8 k hk).2⟩
    · obtain rfl := List.mem_singleton.1 hk
      exact ⟨hS.own hc (fun g cs _ hk => hne hk (by decide)), hl, by rw [← hl]; exact (hok.2 (due, m) (by simp)).2.2⟩
end Go.Proofs.Ytpnefacignalpaa
