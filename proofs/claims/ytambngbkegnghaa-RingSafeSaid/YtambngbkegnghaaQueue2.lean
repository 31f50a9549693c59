/- Appending onto a queue, with where the new row lies: in its old block or in a new one. Conditions: those typed. -/
import Derived.Test.YtambngbkegnghaaQueue
namespace Go.Gy
open Go.RowKit
/-- v' lies in v's block, or in one that is new since w -/
def Near (w : World) (v v' : Value) : Prop := ∀ g, v'.ownBlock = some g → v.ownBlock = some g ∨ w.heap.size ≤ g
section
variable {P : Program} {w : World} {ops : Array Oper} {rest : List Oper} {o : Oper} {a : Act} {Q : Exit → Act → World → Prop}
theorem run_append_queue2 (t ty : TypeId) (base : Nat) (e : TypeId) (i : TypeInfo) (z : Value) (size bytes : Nat) (ht : P.underlying t = some (.slice e)) (hi : P.info? e = some i) (hz : i.zero = some z)
    (hsize : i.size = size) (hby : i.bytes = bytes) (hzs : z.cells.size = size) (hsz : 0 < size)
    (v : Value) (n : Nat) (xs : List Value) (hq : QRow w base size v n xs)
    (ad : Addr) (m c : Nat) (news : List Value) (hl : news.length = m * size) (hnews : ∀ j u, news[j]? = some u → w.cell? (ad.add j) = some u) (h1 : ∀ u ∈ news, u.oneCell' = true)
    (h63 : n + m ≤ maxLen) (hbytes : (n + m) * bytes ≤ 140737488355328) (hbase : base ≤ w.heap.size) :
    ∃ v' w', (Builtin.append_ #[t, t] ty #[v, .slice (some ad) m c]).run P w = .ok v' w' ∧ QRow w' base size v' (n + m) (xs ++ news) ∧ w.grownBy w' v.ownBlock ∧ Near w v v' := by
  obtain ⟨hlx, ⟨rfl, rfl⟩ | ⟨g, off, cap, rfl, hg, hgl, hnc, hcm, hc, hf⟩⟩ := id hq
  · have hx : xs = [] := List.eq_nil_of_length_eq_zero (by simpa using hlx)
    subst hx
    obtain ⟨v', w', hr, h2, h3, _⟩ := run_append_own (P := P) w w.heap.size t ty e i z size bytes ht hi hz hsize hby hzs hsz (.slice none 0 0) 0 [] (World.ownsRow_nil _ _ _ _) ad m c news hl hnews h1 h63 hbytes (Nat.le_refl _)
    exact ⟨v', w', hr, QRow.of_own (own_mono h2 hbase), h3, fun g hg => .inr (h2.lt g hg).1⟩
  · by_cases hroom : n + m ≤ cap
    · obtain ⟨v', w', hr, h2, h3⟩ := run_append_queue (P := P) (w := w) t ty base e i z size bytes ht hi hz hsize hby hzs hsz (.slice (some ⟨g, off, none⟩) n cap) n xs hq ad m c news hl hnews h1 h63 hbytes hbase
      subst hsize
      have hfit : n * i.size + m * i.size ≤ cap * i.size := by rw [← Nat.add_mul]; exact Nat.mul_le_mul_right _ hroom
      have hr2 := run_append_room_cells (P := P) w t ty e i ht hi g off n cap ad m c news hl hnews h1 hroom (fun j hj => by rw [Nat.add_assoc]; exact (hf _ (by omega)).1) (fun j hj => by rw [Nat.add_assoc]; exact (hf _ (by omega)).2)
      rw [hr] at hr2
      injection hr2 with e1 e2
      refine ⟨v', w', hr, h2, h3, fun k hk => .inl ?_⟩
      rw [e1] at hk
      exact hk
    · obtain ⟨v', w', hr, h2, h3⟩ := run_append_arg_grows (P := P) w t ty e i z size bytes ht hi hz hsize hby hzs hsz ⟨g, off, none⟩ n cap xs hlx (fun j u hu => by rw [add_none]; exact hc j u hu) ad m c news hl hnews (by omega) h63 hbytes
      exact ⟨v', w', hr, QRow.of_own (own_mono h2 hbase), ⟨h3.os, h3.tape, h3.output, h3.size, fun k hk _ => h3.block k hk (by simp)⟩, fun k hk => .inr (h2.lt k hk).1⟩
theorem wpList_queue2 (hgd : o.guard = none) (s x : Operand) (t : TypeId)
    (ho : o.op = .call { callee := .builtin .append, args := #[s, x], argTypes := #[t, t] })
    (base : Nat) (e : TypeId) (i : TypeInfo) (z : Value) (size bytes : Nat) (ht : P.underlying t = some (.slice e)) (hi : P.info? e = some i) (hz : i.zero = some z)
    (hsize : i.size = size) (hby : i.bytes = bytes) (hzs : z.cells.size = size) (hsz : 0 < size)
    (v : Value) (n : Nat) (xs : List Value) (hs : a.eval s = v) (hq : QRow w base size v n xs)
    (A : Option Addr) (m c B : Nat) (news : List Value) (hx : a.eval x = .slice A m c) (hA : A = none → c = 0) (hr : Rd w B size A m news) (h1 : ∀ u ∈ news, u.oneCell' = true)
    (k : Nat) (hk : n + m = k) (h63 : k ≤ maxLen) (hbytes : k * bytes ≤ 140737488355328) (hbase : base ≤ w.heap.size)
    (h : ∀ v' w', QRow w' base size v' k (xs ++ news) → Below base w w' → w.grownBy w' v.ownBlock → Near w v v' → wpList P ops Q rest (a.put o.dst v') w') :
    wpList P ops Q (o :: rest) a w := by
  cases A with
  | none =>
    have hm : m = 0 := by
      rcases Nat.eq_zero_or_pos m with h0 | h0
      · exact h0
      · obtain ⟨b, q, he, _⟩ := hr.2 h0
        cases he
    have hc := hA rfl
    subst hm hc hk
    have hn : news = [] := List.eq_nil_of_length_eq_zero (by simpa using hr.1)
    subst hn
    refine wpList_plain hgd fun _ hK => ?_
    have hrun := run_append_queue_none (P := P) (w := w) t o.type e i ht hi base size v n xs hq
    unfold Oper.wp execOp
    simp only [ho, resolve, invoke, builtin, Sem.run_bind, Sem.run_pure, Result.andThen_ok, List.map_toArray, List.map_cons, List.map_nil, hs, hx, hrun]
    exact hK _ _ (h v w (by simpa using hq) (Below.refl _ _) ⟨rfl, rfl, rfl, Nat.le_refl _, fun _ _ _ => rfl⟩ (fun g hg => .inl hg))
  | some ad =>
    subst hk
    have hnews : ∀ j u, news[j]? = some u → w.cell? (ad.add j) = some u := by
      intro j u hu
      have hj := (List.getElem?_eq_some_iff.1 hu).1
      have hm : 0 < m := by
        rcases Nat.eq_zero_or_pos m with h0 | h0
        · subst h0; have := hr.1; omega
        · exact h0
      obtain ⟨b, q, he, _, hc⟩ := hr.2 hm
      injection he with he
      subst he
      rw [add_none]
      exact hc j u hu
    obtain ⟨v', w', hrun, h2, h3, h4⟩ := run_append_queue2 (P := P) (w := w) t o.type base e i z size bytes ht hi hz hsize hby hzs hsz v n xs hq ad m c news hr.1 hnews h1 h63 hbytes hbase
    refine wpList_plain hgd fun _ hK => ?_
    unfold Oper.wp execOp
    simp only [ho, resolve, invoke, builtin, Sem.run_bind, Sem.run_pure, Result.andThen_ok, List.map_toArray, List.map_cons, List.map_nil, hs, hx, hrun]
    refine hK _ _ (h v' w' h2 ?_ h3 h4)
    refine (Below.refl base w).grown h3 hbase fun k hk => ?_
    obtain ⟨_, ⟨rfl, _⟩ | ⟨g, off, cap, rfl, hg, _⟩⟩ := hq
    · cases hk
    · have : g = k := by simpa [Value.ownBlock] using hk
      omega
/-- v = v[1:], in the same block -/
theorem wpList_tail2 (hgd : o.guard = none) (t : TypeId) (s : Operand) (ho : o.op = .slice t s (some (.const (.int .i64 1))) none none) (size : Nat)
    (hu : P.underlying t = some (.slice (P.elem t))) (hr : ∀ w, (sizeOf (P.elem t)).run P w = .ok size w) (base : Nat) (v : Value) (n : Nat) (xs : List Value) (hs : a.eval s = v) (hq : QRow w base size v (n + 1) xs)
    (h : ∀ v', QRow w base size v' n (xs.drop size) → Near w v v' → (∀ g, v'.ownBlock = some g → v.ownBlock = some g) → wpList P ops Q rest (a.put o.dst v') w) : wpList P ops Q (o :: rest) a w := by
  obtain ⟨_, ⟨_, h0⟩ | ⟨g, off, cap, rfl, _⟩⟩ := id hq
  · omega
  · refine wpList_plain hgd fun _ hK => ?_
    have hrun : (Instr.slice t (.slice (some ⟨g, off, none⟩) (n + 1) cap) (some (.int .i64 1)) none none).run P w = .ok (.slice (some ⟨g, if cap = 1 then off else off + size, none⟩) (n + 1 - 1) (cap - 1)) w := by
      rw [run_slice_l w t _ _ _ hu .i64 1 (by omega) (by omega), hr]
      simp only [Result.andThen, sliced, Int.toNat_one, Nat.one_mul]
      split <;> simp [add_none]
    unfold Oper.wp execOp
    have hx1 : a.eval (Operand.const (.int .i64 1)) = .int .i64 1 := rfl
    simp only [ho, hs, hx1, Option.map_none, Option.map_some, run_sliceAt_slice w t _ _ _ _ hu, hrun, Sem.run_bind, Sem.run_pure, Result.andThen_ok]
    exact hK _ _ (h _ (hq.tail (by omega)) (fun k hk => .inl hk) (fun k hk => hk))
end
/-- two rows in different blocks -/
def ApartV (v v' : Value) : Prop := ∀ g, v.ownBlock = some g → v'.ownBlock ≠ some g
theorem QRow.lt {w : World} {base size n : Nat} {v : Value} {xs : List Value} (h : QRow w base size v n xs) : ∀ g, v.ownBlock = some g → base ≤ g ∧ g < w.heap.size := by
  intro g hg
  obtain ⟨_, ⟨rfl, _⟩ | ⟨g', off, cap, rfl, h1, h2, _⟩⟩ := h
  · cases hg
  · have : g' = g := by simpa [Value.ownBlock] using hg
    subst this
    exact ⟨h1, h2⟩
theorem QRow.grown {w w' : World} {base size n : Nat} {v u : Value} {xs : List Value} (h : QRow w base size v n xs) (hg : w.grownBy w' u.ownBlock) (ha : ApartV v u) : QRow w' base size v n xs :=
  h.keep hg.size fun g hv => hg.block g (h.lt g hv).2 (fun e => ha g hv e.symm)
theorem ApartV.near {w : World} {v u u' : Value} (h : ApartV v u) (hv : ∀ g, v.ownBlock = some g → g < w.heap.size) (hn : Near w u u') : ApartV v u' := by
  intro g hg h'
  rcases hn g h' with h1 | h1
  · exact h g hg h1
  · have := hv g hg; omega
theorem ApartV.symm {v u : Value} (h : ApartV v u) : ApartV u v := fun g hg h' => h g h' hg
end Go.Gy
