/- gantmake.Cells' own sort: its comparison, and what it leaves. Conditions: those typed. -/
import Derived.Test.YtaahpjjffggaiaaSort
import Derived.Test.YtaahpjjffggaiaaShelf
import Derived.Test.YtaahpjjffggaiaaCellIdx
import Derived.Shelf.SlSortCmp.NoneTotal
namespace Go.Proofs.Ytaahpjjffggaiaa
open Go.RowKit Go.Gy Go.Sort
set_option linter.unusedVariables false
abbrev leC (a b : Cell) : Prop := ¬ ltC b a
/-- what a sort leaves, in words of lists -/
theorem sorted_words {α : Type} [Inhabited α] {cf : α → α → Int} {of : α → Cell} (hlt : ∀ a b, ltOf cf a b = true ↔ ltC (of a) (of b)) {d d' : Array α} (hp : PermIn 0 d.size d d') (hs : SortedIn (ltOf cf) 0 d.size d') :
    d'.size = d.size ∧ (d'.toList.map of).Perm (d.toList.map of) ∧ (d'.toList.map of).Pairwise leC := by
  obtain ⟨h1, _, h2⟩ := hp
  refine ⟨h1, ?_, ?_⟩
  · refine List.Perm.map of ?_
    have e1 : (d'.extract 0 d.size) = d' := by rw [← h1]; exact Array.extract_size
    have e2 : (d.extract 0 d.size) = d := Array.extract_size
    rw [e1, e2] at h2
    exact h2
  · rw [List.pairwise_map, List.pairwise_iff_getElem]
    intro i j hi hj hij
    have hi' : i < d'.size := by simpa using hi
    have hj' : j < d'.size := by simpa using hj
    have h3 := hs i j (Nat.zero_le _) hij (by omega)
    rw [getElem!_pos d' j hj', getElem!_pos d' i hi'] at h3
    intro h4
    have h5 := (hlt _ _).2 h4
    rw [Array.getElem_toList, Array.getElem_toList] at h5
    rw [h5] at h3
    cases h3
theorem sorted_strict {l : List Cell} (h : l.Pairwise leC) (hn : l.Nodup) : SortC l := by
  have h2 := List.nodup_iff_pairwise_ne.1 hn
  refine (h.and h2).imp ?_
  rintro a b ⟨h3, h4⟩
  rcases ltC_tri a b with h5 | h5 | h5
  · exact h5
  · exact absurd h5 h4
  · exact absurd h5 h3
abbrev F8 := Fin 8 × Fin 8
def ofF (f : F8) : Cell := ((f.1.val : Int) - 4, (f.2.val : Int) - 4)
def encF (f : F8) : List Value := encC (ofF f)
def cfF (a b : F8) : Int := if (ofF a).2 = (ofF b).2 then (ofF a).1 - (ofF b).1 else (ofF a).2 - (ofF b).2
theorem cfF_lt (a b : F8) : ltOf cfF a b = true ↔ ltC (ofF a) (ofF b) := by
  unfold ltOf cfF ltC
  rw [decide_eq_true_eq]
  split <;> omega
theorem cfF_swo : SWO (ltOf cfF) where
  irrefl x := by
    cases h : ltOf cfF x x with
    | false => rfl
    | true => exact absurd ((cfF_lt x x).1 h) (ltC_irrefl _)
  trans x y z h1 h2 := (cfF_lt x z).2 (ltC_trans ((cfF_lt x y).1 h1) ((cfF_lt y z).1 h2))
  ntrans x y z h1 h2 := by
    cases h : ltOf cfF x z with
    | false => rfl
    | true =>
      have h3 := (cfF_lt x z).1 h
      have h4 : ¬ ltC (ofF x) (ofF y) := fun h => by rw [(cfF_lt x y).2 h] at h1; cases h1
      have h5 : ¬ ltC (ofF y) (ofF z) := fun h => by rw [(cfF_lt y z).2 h] at h2; cases h2
      unfold ltC at h3 h4 h5
      omega
theorem exists_F : ∀ (l : List Cell), (∀ c ∈ l, (-4 ≤ c.1 ∧ c.1 ≤ 3) ∧ (-4 ≤ c.2 ∧ c.2 ≤ 3)) → ∃ d : List F8, d.map ofF = l
  | [], _ => ⟨[], rfl⟩
  | c :: l, h => by
    obtain ⟨d, hd⟩ := exists_F l fun x hx => h x (by simp [hx])
    have hc := h c (by simp)
    refine ⟨(⟨(c.1 + 4).toNat, by omega⟩, ⟨(c.2 + 4).toNat, by omega⟩) :: d, ?_⟩
    rw [List.map_cons, hd]
    congr 1
    obtain ⟨x, y⟩ := c
    simp only [ofF, Prod.mk.injEq]
    simp only at hc
    omega
set_option maxRecDepth 100000 in
theorem cmp_make (w : World) (a b : F8) : Calls Try.prog 70 #[.agg #[.int .i64 (ofF a).1, .int .i64 (ofF a).2], .agg #[.int .i64 (ofF b).1, .int .i64 (ofF b).2]] w fun e w' => e = .returned (.int .i64 (cfF a b)) ∧ w' = (w.alloc (.cells #[.int .i64 (ofF a).1, .int .i64 (ofF a).2] 24)).alloc (.cells #[.int .i64 (ofF b).1, .int .i64 (ofF b).2] 24) := by
  have ha1 : -4 ≤ (ofF a).1 ∧ (ofF a).1 ≤ 3 ∧ -4 ≤ (ofF a).2 ∧ (ofF a).2 ≤ 3 := by unfold ofF; have := a.1.isLt; have := a.2.isLt; simp only; omega
  have hb1 : -4 ≤ (ofF b).1 ∧ (ofF b).1 ≤ 3 ∧ -4 ≤ (ofF b).2 ∧ (ofF b).2 ≤ 3 := by unfold ofF; have := b.1.isLt; have := b.2.isLt; simp only; omega
  obtain ⟨cv, hcv⟩ : ∃ cv, cv = cfF a b := ⟨_, rfl⟩
  rw [← hcv]
  unfold cfF at hcv
  obtain ⟨p, hp⟩ : ∃ p, p = (ofF a).1 := ⟨_, rfl⟩
  obtain ⟨q, hq⟩ : ∃ q, q = (ofF a).2 := ⟨_, rfl⟩
  obtain ⟨r, hr⟩ : ∃ r, r = (ofF b).1 := ⟨_, rfl⟩
  obtain ⟨s, hs⟩ : ∃ s, s = (ofF b).2 := ⟨_, rfl⟩
  rw [← hp, ← hq] at ha1
  rw [← hr, ← hs] at hb1
  rw [← hp, ← hq, ← hr, ← hs] at hcv
  rw [← hp, ← hq, ← hr, ← hs]
  clear hp hq hr hs
  by_cases h : q = s
  · rw [if_pos h] at hcv
    subst h hcv
    go_enter Try.func70, Try.ntmps70
    go_wp2
    go_ret
    exact ⟨rfl, rfl⟩
  · rw [if_neg h] at hcv
    have h1 : (q != s) = true := by simpa using h
    subst hcv
    go_enter Try.func70, Try.ntmps70
    go_wp2
    go_ret
    exact ⟨rfl, rfl⟩
theorem encF_len (f : F8) : (encF f).length = 2 := rfl
theorem encF_one (f : F8) : ∀ v ∈ encF f, v.oneCell' = true := by
  intro v hv
  simp only [encF, encC, List.mem_cons, List.not_mem_nil, or_false] at hv
  rcases hv with rfl | rfl <;> rfl
theorem agg_cell (w : World) : (isAgg 24).run Try.prog w = .ok true w := Try.isAgg24 w
theorem size_cell (w : World) : (Go.sizeOf 24).run Try.prog w = .ok 2 w := Try.sizeOf24 w
def SortPost (base g n cap : Nat) (l : List Cell) (w : World) (e : Ending) (w' : World) : Prop := e = .returned (.tuple #[]) ∧ ∃ l' : List Cell, l'.Perm l ∧ SortC l' ∧ w'.ownsRow base 24 2 (.slice (some ⟨g, 0, none⟩) n cap) n (l'.flatMap encC) ∧ Below base w w'
theorem enters_own {f : FuncId} {fn : Func} {c : Code} (hf : Try.prog.funcs[f]? = some fn) (hname : (fn.name == "runtime.NumGoroutine") = false) (hb : fn.body = some c) (args : Array Value) (w : World) : (callFunc f args).run Try.prog w = .ok (.enter f args) w := by
  have h1 : fn.name ≠ "runtime.NumGoroutine" := by simpa using hname
  simp [callFunc, hf, h1, hb, mark]
theorem sort_make (w : World) (base g n cap : Nat) (l : List Cell) (hn : l.length = n) (hb : n ≤ 1000000000) (hr : ∀ c ∈ l, (-4 ≤ c.1 ∧ c.1 ≤ 3) ∧ (-4 ≤ c.2 ∧ c.2 ≤ 3)) (hd : l.Nodup) (hbase : base ≤ w.heap.size)
    (ho : w.ownsRow base 24 2 (.slice (some ⟨g, 0, none⟩) n cap) n (l.flatMap encC)) :
    Calls Try.prog 69 #[.slice (some ⟨g, 0, none⟩) n cap, .func (.func 70) #[] #[]] w (SortPost base g n cap l w) := by
  obtain ⟨dl, hdl⟩ := exists_F l hr
  obtain ⟨d, hdd⟩ : ∃ d : Array F8, d = dl.toArray := ⟨_, rfl⟩
  have hds : d.size = n := by rw [hdd, ← hn, ← hdl]; simp
  have hfl : d.toList.flatMap encF = l.flatMap encC := by
    rw [hdd, ← hdl, List.flatMap_map]
    rfl
  have hgl : g < w.heap.size := by
    have := ho.lt g (by simp [Value.ownBlock])
    exact this.2
  rw [← hds, ← hfl] at ho
  rw [← hds]
  have hH := holds_own encF_len (by omega) ho
  refine (Try.slices_SortFunc (α := F8) 2 agg_cell size_cell encF encF_len encF_one cfF cfF_swo 70 #[] g 0 cap d w (enters_own Try.func70 (by kernel_rfl) rfl) ?_ hH hgl (by omega)).mono ?_
  · intro m os dk hdk x y
    refine (cmp_make (sortWorldK encF 2 w g 0 m dk os) x y).mono ?_
    rintro e w' ⟨rfl, rfl⟩
    refine ⟨rfl, 0, #[.cells #[.int .i64 (ofF x).1, .int .i64 (ofF x).2] 24, .cells #[.int .i64 (ofF y).1, .int .i64 (ofF y).2] 24], ?_⟩
    rw [alloc_eq_grow, alloc_eq_grow, grow_grow]
    rfl
  · rintro e w' ⟨rfl, d', m, os, hp, hs, rfl⟩
    obtain ⟨h1, h2, h3⟩ := sorted_words (of := ofF) cfF_lt hp hs
    obtain ⟨h4, h5⟩ := sort_own encF_len (by omega) ho h1 hbase m os
    have hl : d.toList.map ofF = l := by rw [hdd]; exact hdl
    rw [hl] at h2
    refine ⟨rfl, d'.toList.map ofF, h2, sorted_strict h3 (h2.nodup_iff.2 hd), ?_, h5⟩
    have e : d'.toList.flatMap encF = (d'.toList.map ofF).flatMap encC := by rw [List.flatMap_map]; rfl
    rw [← e]; exact h4
theorem sort_none (w : World) (p : Option Addr) (cap : Nat) (fv : Value) : Calls Try.prog 69 #[.slice p 0 cap, fv] w fun e w' => e = .returned (.tuple #[]) ∧ w = w' :=
  (AnyF.slices_SortFunc_none Try.laysSlF06_f69 p cap fv w).mono fun _ _ ⟨he, hw⟩ => ⟨he, hw.symm⟩
end Go.Proofs.Ytaahpjjffggaiaa
