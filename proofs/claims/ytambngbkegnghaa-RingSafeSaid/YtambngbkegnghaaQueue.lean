/- Words for a queue: a row of the call's own that may begin behind its block's first cell (s = s[1:]; s = append(s, ..)). Conditions: those typed. -/
import Derived.Test.YtambngbkegnghaaWords
import Derived.ArgAppend
import Derived.Deep.MidRow
namespace Go.Gy
open Go.RowKit

/-- v is a slice of n elements (size cells each) that reads xs; its cells, up to its capacity, are the call's own (blocks from base on). -/
def QRow (w : World) (base size : Nat) (v : Value) (n : Nat) (xs : List Value) : Prop :=
  xs.length = n * size ∧ ((v = .slice none 0 0 ∧ n = 0) ∨
    ∃ g off cap, v = .slice (some ⟨g, off, none⟩) n cap ∧ base ≤ g ∧ g < w.heap.size ∧ n ≤ cap ∧ cap ≤ maxLen ∧
      (∀ j u, xs[j]? = some u → w.cell? ⟨g, off + j, none⟩ = some u) ∧
      ∀ j, j < cap * size → (w.cell? ⟨g, off + j, none⟩).isSome = true ∧ w.frozen? ⟨g, off + j, none⟩ = false)
theorem QRow.of_own {w : World} {base size n : Nat} {e : TypeId} {v : Value} {xs : List Value} (h : w.ownsRow base e size v n xs) : QRow w base size v n xs := by
  have h' := h
  obtain ⟨hl, h2 | ⟨g, cap, cur, rfl, hg, hh, hnc, hcm, hcs, htk⟩⟩ := h
  · exact ⟨hl, .inl h2⟩
  · have hblk : Blk w g e cur := hh
    refine ⟨hl, .inr ⟨g, 0, cap, rfl, hg, hblk.lt, hnc, hcm, fun j u hu => ?_, fun j hj => ⟨?_, by rw [Nat.zero_add]; exact hblk.free j⟩⟩⟩
    · rw [Nat.zero_add]
      rw [← htk, List.getElem?_take] at hu
      split at hu
      · exact hblk.cell j u (by simpa using hu)
      · cases hu
    · rw [Nat.zero_add, cell_of_row w g j cur e (0, 0) hh, Array.getElem?_eq_getElem (by omega)]
      rfl
theorem QRow.keep {w w' : World} {base size n : Nat} {v : Value} {xs : List Value} (h : QRow w base size v n xs) (hz : w.heap.size ≤ w'.heap.size)
    (hb : ∀ g, v.ownBlock = some g → w'.heap[g]? = w.heap[g]?) : QRow w' base size v n xs := by
  obtain ⟨hl, h2 | ⟨g, off, cap, rfl, hg, hgl, hnc, hcm, hc, hf⟩⟩ := h
  · exact ⟨hl, .inl h2⟩
  · have hgg := hb g rfl
    refine ⟨hl, .inr ⟨g, off, cap, rfl, hg, by omega, hnc, hcm, fun j u hu => (World.cell?_of_block (a := ⟨g, off + j, none⟩) hgg).trans (hc j u hu), fun j hj => ⟨?_, ?_⟩⟩⟩
    · rw [World.cell?_of_block (a := ⟨g, off + j, none⟩) hgg]; exact (hf j hj).1
    · rw [World.frozen?_of_block (a := ⟨g, off + j, none⟩) hgg]; exact (hf j hj).2
theorem QRow.lower {w : World} {base base' size n : Nat} {v : Value} {xs : List Value} (h : QRow w base size v n xs) (hb : base' ≤ base) : QRow w base' size v n xs := by
  obtain ⟨hl, h2 | ⟨g, off, cap, h3, hg, h4⟩⟩ := h
  · exact ⟨hl, .inl h2⟩
  · exact ⟨hl, .inr ⟨g, off, cap, h3, by omega, h4⟩⟩
theorem QRow.below {w w' : World} {base size B n : Nat} {v : Value} {xs : List Value} (h : QRow w base size v n xs) (hb : Below B w w') (hB : w.heap.size ≤ B) : QRow w' base size v n xs :=
  h.keep hb.size fun g hv => by
    obtain ⟨_, ⟨rfl, _⟩ | ⟨g', off, cap, rfl, _, hgl, _⟩⟩ := h
    · cases hv
    · have : g' = g := by simpa [Value.ownBlock] using hv
      subst this
      exact hb.block g' (by omega)
theorem QRow.rd {w : World} {base size n : Nat} {v : Value} {xs : List Value} (h : QRow w base size v n xs) : ∃ A c, v = .slice A n c ∧ n ≤ c ∧ c ≤ maxLen ∧ (A = none → c = 0) ∧ Rd w w.heap.size size A n xs := by
  obtain ⟨hl, ⟨rfl, rfl⟩ | ⟨g, off, cap, rfl, hg, hgl, hnc, hcm, hc, hf⟩⟩ := h
  · exact ⟨none, 0, rfl, Nat.le_refl _, Nat.zero_le _, fun _ => rfl, ⟨hl, fun h => absurd h (by omega)⟩⟩
  · exact ⟨_, cap, rfl, hnc, hcm, (fun h => by cases h), ⟨hl, fun _ => ⟨g, off, rfl, hgl, hc⟩⟩⟩
/-- all but the first element: the slice's address is moved on, unless nothing is left of the capacity -/
theorem QRow.tail {w : World} {base size n g off cap : Nat} {xs : List Value} (h : QRow w base size (.slice (some ⟨g, off, none⟩) n cap) n xs) (hn : 0 < n) :
    QRow w base size (.slice (some ⟨g, if cap = 1 then off else off + size, none⟩) (n - 1) (cap - 1)) (n - 1) (xs.drop size) := by
  obtain ⟨hl, ⟨he, _⟩ | ⟨g', off', cap', he, hg, hgl, hnc, hcm, hc, hf⟩⟩ := h
  · cases he
  · injection he with e1 e2 e3
    injection e1 with e1
    injection e1 with e1 e4
    subst e1 e3 e4
    refine ⟨by rw [List.length_drop, hl, Nat.sub_mul, Nat.one_mul], .inr ⟨g, _, cap - 1, rfl, hg, hgl, by omega, by omega, fun j u hu => ?_, fun j hj => ?_⟩⟩
    · rw [List.getElem?_drop] at hu
      by_cases h1 : cap = 1
      · have hx := (List.getElem?_eq_some_iff.1 hu).1
        have : n = 1 := by omega
        subst this
        omega
      · rw [if_neg h1, Nat.add_assoc]; exact hc _ u hu
    · by_cases h1 : cap = 1
      · subst h1; simp at hj
      · rw [if_neg h1, Nat.add_assoc]
        refine hf _ ?_
        have := Nat.sub_mul cap 1 size
        have h2 : 1 * size ≤ cap * size := Nat.mul_le_mul_right _ (by omega)
        omega
theorem grown_setCells (g : Nat) : ∀ (vs : List Value) (o : Nat) (w : World), w.grownBy (w.setCells g o vs) (some g) ∧ (w.setCells g o vs).heap.size = w.heap.size
  | [], _, w => ⟨⟨rfl, rfl, rfl, Nat.le_refl _, fun _ _ _ => rfl⟩, rfl⟩
  | v :: r, o, w => by
    obtain ⟨h1, h2⟩ := grown_setCells g r (o + 1) (w.setCell ⟨g, o, none⟩ v)
    have hs : (w.setCell ⟨g, o, none⟩ v).heap.size = w.heap.size := by simp
    refine ⟨⟨h1.os, h1.tape, h1.output, by rw [← hs]; exact h1.size, fun k hk hne => (h1.block k (by rw [hs]; exact hk) hne).trans (Below.heap_setCell w ⟨g, o, none⟩ v k (fun e => hne (by rw [e])))⟩, h2.trans hs⟩
section
variable {P : Program} {w : World} {ops : Array Oper} {rest : List Oper} {o : Oper} {a : Act} {Q : Exit → Act → World → Prop}
/-- append of a slice that came in (nil, empty or not), onto a queue -/
theorem run_append_queue (t ty : TypeId) (base : Nat) (e : TypeId) (i : TypeInfo) (z : Value) (size bytes : Nat) (ht : P.underlying t = some (.slice e)) (hi : P.info? e = some i) (hz : i.zero = some z)
    (hsize : i.size = size) (hby : i.bytes = bytes) (hzs : z.cells.size = size) (hsz : 0 < size)
    (v : Value) (n : Nat) (xs : List Value) (hq : QRow w base size v n xs)
    (ad : Addr) (m c : Nat) (news : List Value) (hl : news.length = m * size) (hnews : ∀ j u, news[j]? = some u → w.cell? (ad.add j) = some u) (h1 : ∀ u ∈ news, u.oneCell' = true)
    (h63 : n + m ≤ maxLen) (hbytes : (n + m) * bytes ≤ 140737488355328) (hbase : base ≤ w.heap.size) :
    ∃ v' w', (Builtin.append_ #[t, t] ty #[v, .slice (some ad) m c]).run P w = .ok v' w' ∧ QRow w' base size v' (n + m) (xs ++ news) ∧ w.grownBy w' v.ownBlock := by
  obtain ⟨hlx, ⟨rfl, rfl⟩ | ⟨g, off, cap, rfl, hg, hgl, hnc, hcm, hc, hf⟩⟩ := hq
  · have hx : xs = [] := List.eq_nil_of_length_eq_zero (by simpa using hlx)
    subst hx
    obtain ⟨v', w', hr, h2, h3, _⟩ := run_append_own (P := P) w base t ty e i z size bytes ht hi hz hsize hby hzs hsz (.slice none 0 0) 0 [] (World.ownsRow_nil _ _ _ _) ad m c news hl hnews h1 h63 hbytes hbase
    exact ⟨v', w', hr, QRow.of_own h2, h3⟩
  · by_cases hroom : n + m ≤ cap
    · subst hsize
      have hfit : n * i.size + m * i.size ≤ cap * i.size := by rw [← Nat.add_mul]; exact Nat.mul_le_mul_right _ hroom
      have hr := run_append_room_cells (P := P) w t ty e i ht hi g off n cap ad m c news hl hnews h1 hroom (fun j hj => by rw [Nat.add_assoc]; exact (hf _ (by omega)).1) (fun j hj => by rw [Nat.add_assoc]; exact (hf _ (by omega)).2)
      obtain ⟨hgr, hsz'⟩ := grown_setCells g news (off + n * i.size) w
      refine ⟨_, _, hr, ⟨by rw [List.length_append, hlx, hl, Nat.add_mul], .inr ⟨g, off, cap, rfl, hg, by rw [hsz']; exact hgl, hroom, hcm, fun j u hu => ?_, fun j hj => ⟨?_, ?_⟩⟩⟩, hgr⟩
      · by_cases hj : j < xs.length
        · rw [List.getElem?_append_left hj] at hu
          rw [World.cell?_setCells_out g news _ w ⟨g, off + j, none⟩ (fun _ _ => .inl (by show off + j < _; omega))]
          exact hc j u hu
        · rw [List.getElem?_append_right (by omega)] at hu
          obtain ⟨hjn, hju⟩ := List.getElem?_eq_some_iff.1 hu
          have := World.cell?_setCells_in g news (off + n * i.size) w (fun q hq => by rw [Nat.add_assoc]; exact (hf _ (by omega)).1) (j - xs.length) hjn
          rw [show off + n * i.size + (j - xs.length) = off + j by omega, hju] at this
          exact this
      · exact World.isSome_setCells g news _ w _ (hf j hj).1
      · rw [World.frozen?_setCells]; exact (hf j hj).2
    · obtain ⟨v', w', hr, h2, h3⟩ := run_append_arg_grows (P := P) w t ty e i z size bytes ht hi hz hsize hby hzs hsz ⟨g, off, none⟩ n cap xs hlx (fun j u hu => by rw [add_none]; exact hc j u hu) ad m c news hl hnews (by omega) h63 hbytes
      refine ⟨v', w', hr, QRow.of_own (own_mono h2 hbase), ⟨h3.os, h3.tape, h3.output, h3.size, fun k hk _ => h3.block k hk (by simp)⟩⟩
theorem wpList_queue (hgd : o.guard = none) (s x : Operand) (t : TypeId)
    (ho : o.op = .call { callee := .builtin .append, args := #[s, x], argTypes := #[t, t] })
    (base : Nat) (e : TypeId) (i : TypeInfo) (z : Value) (size bytes : Nat) (ht : P.underlying t = some (.slice e)) (hi : P.info? e = some i) (hz : i.zero = some z)
    (hsize : i.size = size) (hby : i.bytes = bytes) (hzs : z.cells.size = size) (hsz : 0 < size)
    (v : Value) (n : Nat) (xs : List Value) (hs : a.eval s = v) (hq : QRow w base size v n xs)
    (ad : Addr) (m c B : Nat) (news : List Value) (hx : a.eval x = .slice (some ad) m c) (hr : Rd w B size (some ad) m news) (h1 : ∀ u ∈ news, u.oneCell' = true)
    (k : Nat) (hk : n + m = k) (h63 : k ≤ maxLen) (hbytes : k * bytes ≤ 140737488355328) (hbase : base ≤ w.heap.size)
    (h : ∀ v' w', QRow w' base size v' k (xs ++ news) → Below base w w' → w.grownBy w' v.ownBlock → wpList P ops Q rest (a.put o.dst v') w') :
    wpList P ops Q (o :: rest) a w := by
  subst hk
  have hnews : ∀ j u, news[j]? = some u → w.cell? (ad.add j) = some u := by
    intro j u hu
    have hj := (List.getElem?_eq_some_iff.1 hu).1
    have hm : 0 < m := by
      rcases Nat.eq_zero_or_pos m with h0 | h0
      · subst h0; have := hr.1; omega
      · exact h0
    obtain ⟨b, q, he, _, hc⟩ := hr.2 hm
    injection he with he
    subst he
    rw [add_none]
    exact hc j u hu
  obtain ⟨v', w', hrun, h2, h3⟩ := run_append_queue (P := P) (w := w) t o.type base e i z size bytes ht hi hz hsize hby hzs hsz v n xs hq ad m c news hr.1 hnews h1 h63 hbytes hbase
  refine wpList_plain hgd fun _ hK => ?_
  unfold Oper.wp execOp
  simp only [ho, resolve, invoke, builtin, Sem.run_bind, Sem.run_pure, Result.andThen_ok, List.map_toArray, List.map_cons, List.map_nil, hs, hx, hrun]
  refine hK _ _ (h v' w' h2 ?_ h3)
  refine (Below.refl base w).grown h3 hbase fun k hk => ?_
  obtain ⟨_, ⟨rfl, _⟩ | ⟨g, off, cap, rfl, hg, _⟩⟩ := hq
  · cases hk
  · have : g = k := by simpa [Value.ownBlock] using hk
    omega
/-- append of nil onto a queue -/
theorem run_append_queue_none (t ty e : TypeId) (i : TypeInfo) (ht : P.underlying t = some (.slice e)) (hi : P.info? e = some i) (base size : Nat)
    (v : Value) (n : Nat) (xs : List Value) (hq : QRow w base size v n xs) :
    (Builtin.append_ #[t, t] ty #[v, .slice none 0 0]).run P w = .ok v w := by
  rcases hq.2 with ⟨rfl, rfl⟩ | ⟨g, off, cap, rfl, _, _, hnc, _⟩
  · simp [Builtin.append_, run_underlying ht, sizeOf, typeInfo, hi, Builtin.lenOf, Builtin.firstCells]
  · simp [Builtin.append_, run_underlying ht, sizeOf, typeInfo, hi, Builtin.lenOf, Builtin.firstCells, hnc, storeCells]
/-- append of a slice that came in, nil or not, onto a queue -/
theorem wpList_queue' (hgd : o.guard = none) (s x : Operand) (t : TypeId)
    (ho : o.op = .call { callee := .builtin .append, args := #[s, x], argTypes := #[t, t] })
    (base : Nat) (e : TypeId) (i : TypeInfo) (z : Value) (size bytes : Nat) (ht : P.underlying t = some (.slice e)) (hi : P.info? e = some i) (hz : i.zero = some z)
    (hsize : i.size = size) (hby : i.bytes = bytes) (hzs : z.cells.size = size) (hsz : 0 < size)
    (v : Value) (n : Nat) (xs : List Value) (hs : a.eval s = v) (hq : QRow w base size v n xs)
    (A : Option Addr) (m c B : Nat) (news : List Value) (hx : a.eval x = .slice A m c) (hA : A = none → c = 0) (hr : Rd w B size A m news) (h1 : ∀ u ∈ news, u.oneCell' = true)
    (k : Nat) (hk : n + m = k) (h63 : k ≤ maxLen) (hbytes : k * bytes ≤ 140737488355328) (hbase : base ≤ w.heap.size)
    (h : ∀ v' w', QRow w' base size v' k (xs ++ news) → Below base w w' → wpList P ops Q rest (a.put o.dst v') w') :
    wpList P ops Q (o :: rest) a w := by
  cases A with
  | none =>
    have hm : m = 0 := by
      rcases Nat.eq_zero_or_pos m with h0 | h0
      · exact h0
      · obtain ⟨b, q, he, _⟩ := hr.2 h0
        cases he
    have hc := hA rfl
    subst hm hc hk
    have hn : news = [] := List.eq_nil_of_length_eq_zero (by simpa using hr.1)
    subst hn
    refine wpList_plain hgd fun _ hK => ?_
    have hrun := run_append_queue_none (P := P) (w := w) t o.type e i ht hi base size v n xs hq
    unfold Oper.wp execOp
    simp only [ho, resolve, invoke, builtin, Sem.run_bind, Sem.run_pure, Result.andThen_ok, List.map_toArray, List.map_cons, List.map_nil, hs, hx, hrun]
    exact hK _ _ (h v w (by simpa using hq) (Below.refl _ _))
  | some ad => exact wpList_queue hgd s x t ho base e i z size bytes ht hi hz hsize hby hzs hsz v n xs hs hq ad m c B news hx hr h1 k hk h63 hbytes hbase fun v' w' h2 h3 _ => h v' w' h2 h3
theorem QRow.far {base size n : Nat} {v : Value} {xs : List Value} (h : QRow w base size v n xs) {p : Addr} (hp : p.block < base) (u : Value) : QRow (w.setCell p u) base size v n xs := by
  refine h.keep (by simp) fun g hv => ?_
  obtain ⟨_, ⟨rfl, _⟩ | ⟨g', off, cap, rfl, hg, _⟩⟩ := h
  · cases hv
  · have : g' = g := by simpa [Value.ownBlock] using hv
    subst this
    exact Below.heap_setCell w p u g' (by omega)
/-- v = v[1:] -/
theorem wpList_tail (hgd : o.guard = none) (t : TypeId) (s : Operand) (ho : o.op = .slice t s (some (.const (.int .i64 1))) none none) (size : Nat)
    (hu : P.underlying t = some (.slice (P.elem t))) (hr : ∀ w, (sizeOf (P.elem t)).run P w = .ok size w) (base : Nat) (v : Value) (n : Nat) (xs : List Value) (hs : a.eval s = v) (hq : QRow w base size v (n + 1) xs)
    (h : ∀ v', QRow w base size v' n (xs.drop size) → wpList P ops Q rest (a.put o.dst v') w) : wpList P ops Q (o :: rest) a w := by
  obtain ⟨_, ⟨_, h0⟩ | ⟨g, off, cap, rfl, _⟩⟩ := id hq
  · omega
  · refine wpList_plain hgd fun _ hK => ?_
    have hrun : (Instr.slice t (.slice (some ⟨g, off, none⟩) (n + 1) cap) (some (.int .i64 1)) none none).run P w = .ok (.slice (some ⟨g, if cap = 1 then off else off + size, none⟩) (n + 1 - 1) (cap - 1)) w := by
      rw [run_slice_l w t _ _ _ hu .i64 1 (by omega) (by omega), hr]
      simp only [Result.andThen, sliced, Int.toNat_one, Nat.one_mul]
      split <;> simp [add_none]
    unfold Oper.wp execOp
    have hx1 : a.eval (Operand.const (.int .i64 1)) = .int .i64 1 := rfl
    simp only [ho, hs, hx1, Option.map_none, Option.map_some, run_sliceAt_slice w t _ _ _ _ hu, hrun, Sem.run_bind, Sem.run_pure, Result.andThen_ok]
    exact hK _ _ (h _ (hq.tail (by omega)))
end
end Go.Gy
