/- gantkeep5.graph: some graph of 1 to 8 nodes. Conditions: those typed. -/
import Derived.Test.YtgmjeanoohmdlaaIntsOpen
import Derived.Test.YtgmjeanoohmdlaaOrder
import Derived.Deep.RegionHeld3
import Derived.IntWalk
namespace Go.Gy
open Go.RowKit
theorem QRow.blk {w : World} {base size n : Nat} {v : Value} {xs : List Value} (h : QRow w base size v n xs) : ∀ g, v.ownBlock = some g → base ≤ g ∧ g < w.heap.size := by
  intro g hv
  obtain ⟨_, ⟨rfl, _⟩ | ⟨g', off, cap, rfl, hg, hgl, _⟩⟩ := h
  · cases hv
  · have : g' = g := by simpa [Value.ownBlock] using hv
    subst this; exact ⟨hg, hgl⟩
theorem QRow.alloc {w : World} {base size n : Nat} {v : Value} {xs : List Value} (h : QRow w base size v n xs) (o : Obj) : QRow (w.alloc o) base size v n xs :=
  h.keep (by simp) fun g hv => Below.heap_alloc w o g (h.blk g hv).2
theorem QRow.drew {w : World} {base size n : Nat} {v : Value} {xs : List Value} (h : QRow w base size v n xs) : QRow w.drew base size v n xs := h
theorem QRow.grown {w w' : World} {base size n : Nat} {v : Value} {xs : List Value} {row : Option Nat} (h : QRow w base size v n xs) (hg : w.grownBy w' row) (hne : v.ownBlock = none ∨ v.ownBlock ≠ row) : QRow w' base size v n xs :=
  h.keep hg.size fun g hv => hg.block g (h.blk g hv).2 (by
    intro e
    rcases hne with h1 | h1
    · rw [hv] at h1; cases h1
    · exact h1 (by rw [hv, e]))
section
variable {P : Program} {w : World} {ops : Array Oper} {o : Oper} {a : Act} {K : Act → World → Prop} {Q : Exit → Act → World → Prop} {E : Prop}
/-- append of a slice onto a queue, and where the row lies then -/
theorem run_queueP (t ty : TypeId) (base : Nat) (e : TypeId) (i : TypeInfo) (z : Value) (size bytes : Nat) (ht : P.underlying t = some (.slice e)) (hi : P.info? e = some i) (hz : i.zero = some z)
    (hsize : i.size = size) (hby : i.bytes = bytes) (hzs : z.cells.size = size) (hsz : 0 < size)
    (v : Value) (n : Nat) (xs : List Value) (hq : QRow w base size v n xs)
    (ad : Addr) (m c : Nat) (news : List Value) (hl : news.length = m * size) (hnews : ∀ j u, news[j]? = some u → w.cell? (ad.add j) = some u) (h1 : ∀ u ∈ news, u.oneCell' = true)
    (h63 : n + m ≤ maxLen) (hbytes : (n + m) * bytes ≤ 140737488355328) (hbase : base ≤ w.heap.size) :
    ∃ v' w', (Builtin.append_ #[t, t] ty #[v, .slice (some ad) m c]).run P w = .ok v' w' ∧ QRow w' base size v' (n + m) (xs ++ news) ∧ w.grownBy w' v.ownBlock ∧ (v'.ownBlock = v.ownBlock ∨ ∀ g, v'.ownBlock = some g → w.heap.size ≤ g) := by
  obtain ⟨hlx, ⟨rfl, rfl⟩ | ⟨g, off, cap, rfl, hg, hgl, hnc, hcm, hc, hf⟩⟩ := id hq
  · have hx : xs = [] := List.eq_nil_of_length_eq_zero (by simpa using hlx)
    subst hx
    obtain ⟨v', w', hr, h2, h3, _⟩ := run_append_own (P := P) w w.heap.size t ty e i z size bytes ht hi hz hsize hby hzs hsz (.slice none 0 0) 0 [] (World.ownsRow_nil _ _ _ _) ad m c news hl hnews h1 h63 hbytes (Nat.le_refl _)
    exact ⟨v', w', hr, (QRow.of_own h2).lower hbase, h3, .inr fun g hv => ((QRow.of_own h2).blk g hv).1⟩
  · by_cases hroom : n + m ≤ cap
    · obtain ⟨v', w', hr, h2, h3⟩ := run_append_queue (P := P) (w := w) t ty base e i z size bytes ht hi hz hsize hby hzs hsz _ n xs hq ad m c news hl hnews h1 h63 hbytes hbase
      subst hsize
      have hr2 := run_append_room_cells (P := P) w t ty e i ht hi g off n cap ad m c news hl hnews h1 hroom (fun j hj => by
        have hfit : n * i.size + m * i.size ≤ cap * i.size := by rw [← Nat.add_mul]; exact Nat.mul_le_mul_right _ hroom
        rw [Nat.add_assoc]; exact (hf _ (by omega)).1) (fun j hj => by
        have hfit : n * i.size + m * i.size ≤ cap * i.size := by rw [← Nat.add_mul]; exact Nat.mul_le_mul_right _ hroom
        rw [Nat.add_assoc]; exact (hf _ (by omega)).2)
      have he := hr.symm.trans hr2
      injection he with e1 e2
      refine ⟨v', w', hr, h2, h3, .inl ?_⟩
      rw [e1]
      simp [Value.ownBlock]
    · obtain ⟨v', w', hr, h2, h3⟩ := run_append_arg_grows (P := P) w t ty e i z size bytes ht hi hz hsize hby hzs hsz ⟨g, off, none⟩ n cap xs hlx (fun j u hu => by rw [add_none]; exact hc j u hu) ad m c news hl hnews (by omega) h63 hbytes
      refine ⟨v', w', hr, QRow.of_own (own_mono h2 hbase), ⟨h3.os, h3.tape, h3.output, h3.size, fun k hk _ => h3.block k hk (by simp)⟩, .inr fun k hk => ((QRow.of_own h2).blk k hk).1⟩
theorem step_call2 (hgd : o.guard = none) (F : FuncId) (x y : Operand) (ts : Array TypeId)
    (ho : o.op = .call { callee := .value (.func F), args := #[x, y], argTypes := ts }) (hF : ∀ args w, (callFunc F args).run P w = .ok (.enter F args) w)
    (vx vy r : Value) (hx : a.eval x = vx) (hy : a.eval y = vy) (hc : Calls P F #[vx, vy] w fun e w' => e = .returned r ∧ w = w') (h : K (a.put o.dst r) w) :
    if Region.wanted o (yielded ops a.tmps) = true then Oper.wp P o a w K Q else E := by
  have hw : Region.wanted o (yielded ops a.tmps) = true := by simp [Region.wanted, hgd]
  rw [if_pos hw]
  have hf : a.eval (.func F) = .func (.func F) #[] #[] := rfl
  unfold Oper.wp execOp
  simp only [ho, resolve, invoke, Deferred.ofValue, Sem.run_bind, Sem.run_pure, Result.andThen_ok, List.map_toArray, List.map_cons, List.map_nil, hx, hy, hf, Array.empty_append, Array.append_empty, hF, Oper.upon_enter]
  refine hc.mono ?_
  rintro e w' ⟨rfl, rfl⟩
  exact h
theorem step_queueP (hgd : o.guard = none) (s x : Operand) (t : TypeId)
    (ho : o.op = .call { callee := .builtin .append, args := #[s, x], argTypes := #[t, t] })
    (base : Nat) (e : TypeId) (i : TypeInfo) (z : Value) (size bytes : Nat) (ht : P.underlying t = some (.slice e)) (hi : P.info? e = some i) (hz : i.zero = some z)
    (hsize : i.size = size) (hby : i.bytes = bytes) (hzs : z.cells.size = size) (hsz : 0 < size)
    (v : Value) (n : Nat) (xs : List Value) (hs : a.eval s = v) (hq : QRow w base size v n xs)
    (ad : Addr) (m c B : Nat) (news : List Value) (hx : a.eval x = .slice (some ad) m c) (hm : 0 < m) (hr : Rd w B size (some ad) m news) (h1 : ∀ u ∈ news, u.oneCell' = true)
    (k : Nat) (hk : n + m = k) (h63 : k ≤ maxLen) (hbytes : k * bytes ≤ 140737488355328) (hbase : base ≤ w.heap.size)
    (h : ∀ v' w', QRow w' base size v' k (xs ++ news) → w.grownBy w' v.ownBlock → (v'.ownBlock = v.ownBlock ∨ ∀ g, v'.ownBlock = some g → w.heap.size ≤ g) → (∃ g off c, v' = .slice (some ⟨g, off, none⟩) k c) → K (a.put o.dst v') w') :
    if Region.wanted o (yielded ops a.tmps) = true then Oper.wp P o a w K Q else E := by
  have hw : Region.wanted o (yielded ops a.tmps) = true := by simp [Region.wanted, hgd]
  rw [if_pos hw]
  subst hk
  have hnews : ∀ j u, news[j]? = some u → w.cell? (ad.add j) = some u := by
    intro j u hu
    obtain ⟨b, q, he, _, hc⟩ := hr.2 hm
    injection he with he
    subst he
    rw [add_none]
    exact hc j u hu
  obtain ⟨v', w', hrun, h2, h3, h4⟩ := run_queueP (P := P) (w := w) t o.type base e i z size bytes ht hi hz hsize hby hzs hsz v n xs hq ad m c news hr.1 hnews h1 h63 hbytes hbase
  unfold Oper.wp execOp
  simp only [ho, resolve, invoke, builtin, Sem.run_bind, Sem.run_pure, Result.andThen_ok, List.map_toArray, List.map_cons, List.map_nil, hs, hx, hrun]
  refine h v' w' h2 h3 h4 ?_
  obtain ⟨_, ⟨_, h0⟩ | ⟨g, off, cap, hv, _⟩⟩ := h2
  · omega
  · exact ⟨g, off, cap, hv⟩
end
end Go.Gy
namespace Go.Proofs.Ytgmjeanoohmdlaa
open Go.RowKit Go.Gy
set_option linter.unusedVariables false
/-- rows of the call's own, in a block of their own -/
structure RowsQ (w : World) (G : Nat) (vs : List Value) (rows : List (List Int)) : Prop where
  blk : Blk w G 22 vs.toArray
  len : vs.length = rows.length
  row : ∀ (i : Nat) (v : Value) (r : List Int), vs[i]? = some v → rows[i]? = some r → QRow w (G + 1) 1 v r.length (r.map iv)
  apart : ∀ (i j : Nat) (v v' : Value), i ≠ j → vs[i]? = some v → vs[j]? = some v' → v.ownBlock = none ∨ v.ownBlock ≠ v'.ownBlock
theorem RowsQ.keepBlk {w w' : World} {G i : Nat} {vs : List Value} {rows : List (List Int)} {v : Value} {r : List Int} (h : RowsQ w G vs rows) (hv : vs[i]? = some v) (hr : rows[i]? = some r) (o : Obj) (hgr : ((w.alloc o).drew).grownBy w' v.ownBlock) : Blk w' G 22 vs.toArray := by
  refine (hgr.block G (by show G < (w.alloc o).heap.size; rw [World.size_alloc]; have := h.blk.lt; omega) (fun e => ?_)).trans ((h.blk.alloc o).drew)
  have := ((h.row i v r hv hr).blk G e.symm).1
  omega
theorem RowsQ.set {w w' : World} {G i : Nat} {vs : List Value} {rows : List (List Int)} {v v' : Value} {r : List Int} {x : Int} (h : RowsQ w G vs rows) (hv : vs[i]? = some v) (hr : rows[i]? = some r) (o : Obj)
    (hq : QRow w' (G + 1) 1 v' (r.length + 1) ((r ++ [x]).map iv)) (hgr : ((w.alloc o).drew).grownBy w' v.ownBlock) (hpr : v'.ownBlock = v.ownBlock ∨ ∀ g, v'.ownBlock = some g → ((w.alloc o).drew).heap.size ≤ g) :
    RowsQ (w'.setCell ⟨G, i, none⟩ v') G (vs.set i v') (rows.set i (r ++ [x])) := by
  have hil := (List.getElem?_eq_some_iff.1 hv).1
  have hvr := h.row i v r hv hr
  have hGw := h.keepBlk hv hr o hgr
  refine ⟨?_, by simp [h.len], fun j u t hu ht => ?_, fun j k u u' hjk hu hu' => ?_⟩
  · have := hGw.set i v'
    simpa using this
  · refine QRow.far ?_ (by show G < G + 1; omega) _
    by_cases hj : i = j
    · subst hj
      rw [List.getElem?_set_self hil] at hu
      rw [List.getElem?_set_self (by rw [← h.len]; exact hil)] at ht
      injection hu with hu
      injection ht with ht
      subst hu ht
      simpa using hq
    · rw [List.getElem?_set_ne hj] at hu ht
      exact (((h.row j u t hu ht).alloc o).drew).grown hgr (h.apart j i u v (fun e => hj e.symm) hu hv)
  · have key : ∀ (k : Nat) (u' : Value), i ≠ k → vs[k]? = some u' → u'.ownBlock = none ∨ u'.ownBlock ≠ v'.ownBlock := by
      intro k u' hik hu'
      rcases hpr with hp | hp
      · rw [hp]; exact h.apart k i u' v (fun e => hik e.symm) hu' hv
      · cases hb : u'.ownBlock with
        | none => exact .inl rfl
        | some g =>
          right
          intro e
          have h1 := hp g e.symm
          have hkl := (List.getElem?_eq_some_iff.1 hu').1
          have h2 := ((h.row k u' _ hu' (List.getElem?_eq_getElem (by rw [← h.len]; exact hkl))).blk g hb).2
          have h3 : ((w.alloc o).drew).heap.size = w.heap.size + 1 := World.size_alloc w o
          omega
    by_cases hj : i = j
    · subst hj
      rw [List.getElem?_set_self hil] at hu
      rw [List.getElem?_set_ne hjk] at hu'
      injection hu with hu
      subst hu
      rcases key k u' hjk hu' with h1 | h1
      · cases hb : v'.ownBlock with
        | none => exact .inl rfl
        | some g => right; rw [h1]; simp
      · exact .inr fun e => h1 e.symm
    · rw [List.getElem?_set_ne hj] at hu
      by_cases hk : i = k
      · subst hk
        rw [List.getElem?_set_self hil] at hu'
        injection hu' with hu'
        subst hu'
        exact key j u hj hu
      · rw [List.getElem?_set_ne hk] at hu'
        exact h.apart j k u u' hjk hu hu'
theorem run_slice_to {P : Program} (t : TypeId) (s : Nat) (ht : P.underlying t = some (.slice (P.elem t))) (hs : ∀ w, (sizeOf (P.elem t)).run P w = .ok s w) (A : Option Addr) (N C k : Nat) (hk : k ≤ C) (w : World) :
    (Instr.slice t (.slice A N C) none (some (.int .i64 (k : Int))) none).run P w = .ok (.slice A k C) w := by
  rw [run_slice_h w t A N C ht .i64 k (by omega) (by omega), hs]
  simp only [Result.andThen, sliced, Nat.zero_mul, Int.toNat_natCast, Nat.sub_zero]
  split
  · rfl
  · cases A <;> rfl
section
variable {P : Program} {ops : Array Oper} {rest : List Oper} {o : Oper} {a : Act} {w : World} {Q : Exit → Act → World → Prop}
theorem wpList_slice_to (hgd : o.guard = none) (t : TypeId) (s x : Operand) (ho : o.op = .slice t s none (some x) none) (A : Option Addr) (N C k : Nat) (hs : a.eval s = .slice A N C) (hx : a.eval x = .int .i64 (k : Int))
    (hu : P.underlying t = some (.slice (P.elem t))) (hr : ∀ w, (Instr.slice t (.slice A N C) none (some (.int .i64 (k : Int))) none).run P w = .ok (.slice A k C) w)
    (h : wpList P ops Q rest (a.put o.dst (.slice A k C)) w) : wpList P ops Q (o :: rest) a w :=
  wpList_plain hgd fun _ hK => by
    unfold Oper.wp execOp
    simp only [ho, hs, hx, Option.map_none, Option.map_some, run_sliceAt_slice w t _ _ _ _ hu, hr, Sem.run_bind, Sem.run_pure, Result.andThen_ok]
    exact hK _ _ h
theorem wpList_min2 (hgd : o.guard = none) (x y : Operand) (ts : Array TypeId) (ho : o.op = .call { callee := .builtin .min, args := #[x, y], argTypes := ts }) (n m : Int) (hx : a.eval x = .int .i64 n) (hy : a.eval y = .int .i64 m) (k : Int) (hk : min n m = k)
    (h : wpList P ops Q rest (a.put o.dst (.int .i64 k)) w) : wpList P ops Q (o :: rest) a w :=
  wpList_plain hgd fun _ hK => by
    have e : (if m < n then m else n) = k := by rw [← hk]; split <;> omega
    unfold Oper.wp execOp
    simp only [ho, resolve, invoke, builtin, Sem.run_bind, Sem.run_pure, Result.andThen_ok, List.map_toArray, List.map_cons, List.map_nil, hx, hy, run_min_int2, e]
    exact hK _ _ h
end
theorem ints_to (A : Option Addr) (N C k : Nat) (hk : k ≤ C) (w : World) : (Instr.slice 22 (.slice A N C) none (some (.int .i64 (k : Int))) none).run Try.prog w = .ok (.slice A k C) w :=
  run_slice_to 22 1 (by kernel_rfl) size_int A N C k hk w
theorem info_ints : (Try.prog.info? 22).map (fun i => (i.zero, i.size, i.bytes)) = some (some (.slice none 0 0), 1, 24) := by kernel_rfl
def GraphPost (w : World) (e : Ending) (w' : World) : Prop := ∃ v' rs, e = .returned v' ∧ GoodG rs ∧ 1 ≤ rs.length ∧ RowsI w' w'.heap.size v' rs ∧ Below w.heap.size w w'
def GRel (w : World) (N m : Nat) (i : Value) (wr : World) : Prop := ∃ (k : Nat) (vs : List Value) (rows : List (List Int)), i = .int .i64 (k : Int) ∧ k ≤ m ∧ RowsQ wr w.heap.size vs rows ∧ rows.length = N ∧ (∀ r ∈ rows, ∀ x ∈ r, 0 ≤ x ∧ x < (N : Int)) ∧ rows.flatten.length ≤ k ∧ Below w.heap.size w wr
theorem GRel.post {w wr : World} {N m : Nat} {i : Value} (h : GRel w N m i wr) (hN : N ≤ 8) (h1 : 1 ≤ N) (hm : m ≤ 16) : GraphPost w (.returned (.slice (some ⟨w.heap.size, 0, none⟩) N N)) wr := by
  obtain ⟨k, vs, rows, rfl, hk, hq, hl, hr, hf, hb⟩ := h
  refine ⟨_, rows, rfl, ⟨by omega, by rw [hl]; exact hr, by omega⟩, by omega, ⟨_, N, N, vs, rfl, hl, Nat.le_refl _, (fun h => by cases h), ⟨by rw [hq.len]; omega, fun _ => ⟨_, 0, rfl, hq.blk.lt, fun j u hu => ?_⟩⟩, hq.len, fun i v r h1 h2 => ?_⟩, hb⟩
  · rw [Nat.zero_add]; exact hq.blk.cell j u (by simpa using hu)
  · obtain ⟨A, c, rfl, h3, _, h4, h5⟩ := (hq.row i v r h1 h2).rd
    exact ⟨A, _, c, rfl, rfl, h3, h4, h5⟩
theorem flat_set (rows : List (List Int)) (i : Nat) (r : List Int) (x : Int) (h : rows[i]? = some r) : (rows.set i (r ++ [x])).flatten.length = rows.flatten.length + 1 := by
  induction rows generalizing i with
  | nil => simp at h
  | cons q rows ih =>
    cases i with
    | zero => simp at h; subst h; simp; omega
    | succ i => have := ih i (by simpa using h); simp only [List.set_cons_succ, List.flatten_cons, List.length_append]; omega
set_option maxRecDepth 100000 in
set_option maxHeartbeats 2000000 in
theorem graph_any (w : World) (n0 : Int) (v : Value) (l : List Int) (hv : SlI w w.heap.size v l) (hl : l.length ≤ 140737488355328) (hi : ∀ x ∈ l, InI x) :
    Calls Try.prog 8 #[.int .i64 n0, v] w (GraphPost w) := by
  obtain ⟨A, n, c, rfl, hln, hnc, hA, hr⟩ := hv
  rw [hln] at hl
  obtain ⟨N, hN⟩ : ∃ N : Nat, (N : Int) = 1 + n0 % 8 := ⟨(1 + n0 % 8).toNat, by omega⟩
  have hN1 : 1 ≤ N := by omega
  have hN8 : N ≤ 8 := by omega
  obtain ⟨i0, hii, hz0, hz1, hz2⟩ := info_parts info_ints
  obtain ⟨j0, hji, hy0, hy1, hy2⟩ := info_parts info_int
  have hmk : ∀ W : World, (Instr.makeSlice 26 (.int .i64 (N : Int)) (.int .i64 (N : Int))).run Try.prog W = .ok (.slice (some ⟨W.heap.size, 0, none⟩) N N) (W.alloc (.cells (Array.replicate N (.slice none 0 0)) 22)) := fun W => by
    have h := run_makeSlice (P := Try.prog) W 26 22 i0 (.slice none 0 0) Try.underlying26 hii hz0 .i64 .i64 (N : Int) (N : Int) (by omega) (Int.le_refl _) (by rw [hz1]; omega) (by rw [hz2]; omega) (by omega)
    rw [Int.toNat_natCast, hz1, Nat.mul_one] at h
    rw [h]
    congr 3
    apply Array.ext
    · simp [madeCells]
    · intro j h1 h2
      simp [madeCells, Value.cells, Nat.mod_one]
  have HB := Lib.hid (below_any n0 8 w (by omega) (by omega))
  obtain ⟨m, hm⟩ : ∃ m : Nat, m = min n 16 := ⟨_, rfl⟩
  have hmn : m ≤ n := by omega
  have hm16 : m ≤ 16 := by omega
  have hmin : min (n : Int) 16 = (m : Int) := by omega
  have Hmin := Lib.hid hmin
  have HN := Lib.hid hN
  have Hln := Lib.hid hln
  have Hi := Lib.hid hi
  clear hN hmin hm hln hi
  have hmc : m ≤ c := by omega
  go_enter Try.func8, Try.ntmps8
  go_wp2_with fail
  refine HB.out.mono ?_
  rintro e w' ⟨rfl, rfl⟩
  have hw1 : IntKind.i64.wrap (1 + n0 % 8) = (N : Int) := by rw [← HN.out]; exact IntWalk.i64_in _ (by omega)
  have hw2 : 1 + n0 % 8 = (N : Int) := HN.out.symm
  clear HB
  go_wp2_with (first | (refine wpList_min2 rfl (.tmp 15) (.const (.int .i64 16)) _ rfl (n : Int) 16 rfl rfl (m : Int) Hmin.out ?_) | (refine wpList_slice_to rfl 22 (.tmp 13) (.tmp 16) rfl A n c m rfl rfl (by kernel_rfl) (fun w => ints_to A n c m hmc w) ?_))
  clear hw1 hw2
  have hN0 : (0 : Int) < (N : Int) := by omega
  have hNb : (N : Int) ≤ 4294967296 := by omega
  have p1 : ∀ k, k ≤ 16 → k + 1 ≤ maxLen := fun k hk => by unfold maxLen; omega
  have Hp1 := Lib.hid p1
  clear p1
  go_loopw [19] (fun i wr => GRel w N m i wr) (fun i _ => m - (intOf i).toNat)
  case atStart =>
    refine ⟨0, List.replicate N (.slice none 0 0), List.replicate N [], rfl, Nat.zero_le _, ⟨?_, by simp, fun i v r h1 h2 => ?_, fun i j v v' _ h1 _ => ?_⟩, by simp, fun r hr => ?_, ?_, (Below.refl _ _).alloc (Nat.le_refl _) _⟩
    · have := Blk.new w 22 (Array.replicate N (.slice none 0 0))
      rw [List.toArray_replicate]; exact this
    · rw [List.getElem?_replicate] at h1 h2
      split at h1
      · injection h1 with h1
        rename_i h3
        rw [if_pos h3] at h2
        injection h2 with h2
        subst h1 h2
        exact ⟨rfl, .inl ⟨rfl, rfl⟩⟩
      · cases h1
    · rw [List.getElem?_replicate] at h1
      split at h1
      · injection h1 with h1; subst h1; exact .inl rfl
      · cases h1
    · obtain ⟨_, rfl⟩ := List.mem_replicate.1 hr; intro x hx; cases hx
    · have : (List.replicate N ([] : List Int)).flatten = [] := by rw [List.flatten_eq_nil_iff]; intro l hl; exact (List.mem_replicate.1 hl).2
      rw [this]; simp
  case round =>
    obtain ⟨wq, rfl⟩ : ∃ wq, wq = wr := ⟨_, rfl⟩
    have Hrel := Lib.hid hrel
    obtain ⟨k, vs, rows, rfl, hk, hq, hrl, hrr, hfl, hb⟩ := hrel
    by_cases hkm : k < m
    · have hkm' : (k : Int) < (m : Int) := by omega
      obtain ⟨b, o, x, rfl, hbb, hx, hcx⟩ := (hr.below hb).one (show k < n by omega)
      obtain ⟨i, hi⟩ : ∃ i : Nat, (i : Int) = x % (N : Int) := ⟨(x % (N : Int)).toNat, by have := Int.emod_nonneg x (show (N : Int) ≠ 0 by omega); omega⟩
      have hiN : i < N := by have := Int.emod_lt_of_pos x hN0; omega
      have HB := Lib.hid (below_any x (N : Int) wq hN0 hNb)
      rw [← hi] at HB
      have hvi : vs[i]? = some (vs[i]'(by rw [hq.len]; omega)) := List.getElem?_eq_getElem _
      obtain ⟨vi, hvi0⟩ : ∃ vi, vi = vs[i]'(by rw [hq.len]; omega) := ⟨_, rfl⟩
      rw [← hvi0] at hvi
      have hri : rows[i]? = some (rows[i]'(by omega)) := List.getElem?_eq_getElem _
      obtain ⟨r, hr0⟩ : ∃ r, r = rows[i]'(by omega) := ⟨_, rfl⟩
      rw [← hr0] at hri
      have hqr := hq.row i vi r hvi hri
      have hlr := flat_mem_le hri
      obtain ⟨rl, hrl0⟩ : ∃ rl, rl = r.length := ⟨_, rfl⟩
      rw [← hrl0] at hlr
      have hqr' : QRow wq (w.heap.size + 1) 1 vi rl (r.map iv) := by rw [hrl0]; exact hqr
      obtain ⟨Ai, ci, rfl, _, _, _, _⟩ := hqr'.rd
      have hGl := hq.blk.lt
      have hcG := hq.blk.cell i (.slice Ai rl ci) (by simpa using hvi)
      have hcG2 : ∀ X, (wq.alloc X).cell? ⟨w.heap.size, i, none⟩ = some (.slice Ai rl ci) := fun X => (World.cell?_alloc_lt wq X ⟨w.heap.size, i, none⟩ hGl).trans hcG
      have hiN' : (i : Int) < (N : Int) := by omega
      have hrl1 : rl + 1 ≤ maxLen := Hp1.out rl (by omega)
      have hby : (rl + 1) * 8 ≤ 140737488355328 := by omega
      have Hq := Lib.hid hq
      have Hqr := Lib.hid hqr'
      have Hvi := Lib.hid hvi
      have Hri := Lib.hid hri
      have Hrl := Lib.hid hrl
      have Hrl0 := Lib.hid hrl0
      have Hrr := Lib.hid hrr
      have Hb := Lib.hid hb
      clear hi hx hvi hvi0 hri hr0 hqr hqr' hrl0 hq hrl hrr Hrel hb
      go_wp2_with fail
      refine HB.out.mono ?_
      rintro e w' ⟨rfl, rfl⟩
      clear HB
      go_wp2_with fail
      go_region_law (first
          | (refine step_call2 (by rfl) 20 (.tmp 34) (.tmp 36) _ (by rfl) (enters_own Try.func20 (by kernel_rfl) rfl) (.int .i64 (IntKind.i64.wrap (x.tdiv 8))) (.int .i64 (N : Int)) (.int .i64 (IntKind.i64.wrap (x.tdiv 8) % (N : Int))) (by go_simp) (by go_simp) (below_any _ _ _ hN0 hNb) ?_)
          | (refine step_queueP (by rfl) (.tmp 32) (.tmp 38) 22 (by rfl) (w.heap.size + 1) 3 j0 (.int .i64 0) 1 8 Try.underlying22 hji hy0 hy1 hy2 rfl (by omega) (.slice Ai rl ci) rl _ (by go_simp) ((Hqr.out.alloc _).drew) ⟨wq.heap.size, 0, none⟩ 1 1 (wq.heap.size + 1) [_] (by rfl) (by omega) (Rd.lit wq 3 [_] 1 1 rfl).drew (by simp [Value.oneCell']) (rl + 1) (by rfl) hrl1 hby (by show w.heap.size + 1 ≤ (wq.alloc _).heap.size; rw [World.size_alloc]; omega) ?_; intro v4 w4 hq4 hgr4 hpr4 hv4; obtain ⟨g4, o4, c4, rfl⟩ := hv4; have hB4 := Hq.out.keepBlk Hvi.out Hri.out _ hgr4; have hk4 := hB4.cell i _ (by simpa using Hvi.out); have hf4 := hB4.free i))
      all_goals
        go_wp2_with fail
        go_roundw
        case rel =>
          have hset := Hq.out.set (x := IntKind.i64.wrap (x.tdiv 8) % (N : Int)) Hvi.out Hri.out _ (by rw [List.map_append, ← Hrl0.out]; exact hq4) hgr4 hpr4
          refine ⟨k + 1, _, _, by go_num, by omega, hset, by rw [List.length_set]; exact Hrl.out, fun t ht z hz => ?_, by rw [flat_set _ _ _ _ Hri.out]; omega, ?_⟩
          · rcases List.mem_or_eq_of_mem_set ht with h1 | h1
            · exact Hrr.out t h1 z hz
            · subst h1
              rcases List.mem_append.1 hz with h2 | h2
              · exact Hrr.out r (List.mem_of_getElem? Hri.out) z h2
              · simp only [List.mem_singleton] at h2
                subst h2
                exact ⟨Int.emod_nonneg _ (by omega), Int.emod_lt_of_pos _ hN0⟩
          · exact ((((Hb.out.alloc (Hb.out.size) _).drew).grown hgr4 (by show w.heap.size ≤ (wq.alloc _).heap.size; rw [World.size_alloc]; omega) (fun g hg => Nat.le_of_succ_le (Hqr.out.blk g hg).1)).setCell (Nat.le_refl _) _)
        case measure => simp [intOf]; omega
    · obtain rfl : k = m := by omega
      have HP := Lib.hid (Hrel.out.post hN8 hN1 hm16)
      clear Hrel hq hrl hrr hfl hb
      go_wp2_with fail
      go_ret
      exact HP.out
end Go.Proofs.Ytgmjeanoohmdlaa
