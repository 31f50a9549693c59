/- Rows whose slice begins anywhere in its block. Conditions: those typed. -/
import Derived.Test.YtpnefacignalpaaNetS
import Derived.ArgAppend
namespace Go.Proofs.Ytpnefacignalpaa
open Go.RowKit Go.Gy
set_option linter.unusedVariables false
def setM (cs : Array Value) : Nat → List Value → Array Value
  | _, [] => cs
  | o, v :: vs => setM (cs.setIfInBounds o v) (o + 1) vs
theorem setM_size : ∀ (vs : List Value) (cs : Array Value) (o : Nat), (setM cs o vs).size = cs.size
  | [], cs, o => rfl
  | v :: vs, cs, o => by
    unfold setM
    rw [setM_size vs]
    simp
theorem setM_out : ∀ (vs : List Value) (cs : Array Value) (o k : Nat), k < o ∨ o + vs.length ≤ k → (setM cs o vs)[k]? = cs[k]?
  | [], cs, o, k, _ => rfl
  | v :: vs, cs, o, k, h => by
    simp only [List.length_cons] at h
    unfold setM
    rw [setM_out vs _ _ k (by omega), Array.getElem?_setIfInBounds_ne (by omega)]
theorem setM_in : ∀ (vs : List Value) (cs : Array Value) (o j : Nat), o + vs.length ≤ cs.size → j < vs.length → (setM cs o vs)[o + j]? = vs[j]?
  | [], cs, o, j, _, h => by simp at h
  | v :: vs, cs, o, 0, h, _ => by
    simp only [List.length_cons] at h
    unfold setM
    rw [setM_out vs _ _ _ (by omega)]
    simp only [Nat.add_zero]
    rw [Array.getElem?_setIfInBounds_self_of_lt (by omega)]
    rfl
  | v :: vs, cs, o, j + 1, h, hj => by
    simp only [List.length_cons] at h hj
    unfold setM
    rw [show o + (j + 1) = o + 1 + j by omega, setM_in vs _ _ j (by simp; omega) (by omega)]
    simp
theorem Blk.sets : ∀ (vs : List Value) {w : World} {g : Nat} {t : TypeId} {cs : Array Value} (o : Nat), Blk w g t cs → Blk (w.setCells g o vs) g t (setM cs o vs)
  | [], w, g, t, cs, o, h => h
  | v :: vs, w, g, t, cs, o, h => Blk.sets vs (o + 1) (h.set o v)
theorem Mod.sets {F : Nat → Prop} : ∀ (vs : List Value) {a b : World} {g : Nat} (o : Nat), Mod F a b → (g < a.heap.size → F g) → Mod F a (b.setCells g o vs)
  | [], a, b, g, o, h, hg => h
  | v :: vs, a, b, g, o, h, hg => Mod.sets vs (o + 1) (h.set hg o v) hg
def OffRow (w : World) (base : Nat) (e : TypeId) (size : Nat) (v : Value) (n : Nat) (xs : List Value) : Prop :=
  xs.length = n * size ∧ ((v = .slice none 0 0 ∧ n = 0) ∨ ∃ g o cap cs, v = .slice (some ⟨g, o, none⟩) n cap ∧ base ≤ g ∧ Blk w g e cs ∧ n ≤ cap ∧ cap ≤ maxLen ∧ o + cap * size ≤ cs.size ∧ ∀ j u, xs[j]? = some u → cs[o + j]? = some u)
section
variable {w w' : World} {base size n : Nat} {e : TypeId} {v : Value} {xs : List Value}
theorem OffRow.nil (w : World) (base : Nat) (e : TypeId) (size : Nat) : OffRow w base e size (.slice none 0 0) 0 [] := ⟨by simp, .inl ⟨rfl, rfl⟩⟩
theorem OffRow.of_own (h : w.ownsRow base e size v n xs) : OffRow w base e size v n xs := by
  obtain ⟨h1, h2 | ⟨g, cap, cur, hv, hg, hh, hnc, hcm, hcs, htk⟩⟩ := h
  · exact ⟨h1, .inl h2⟩
  · refine ⟨h1, .inr ⟨g, 0, cap, cur, hv, hg, hh, hnc, hcm, by omega, fun j u hu => ?_⟩⟩
    rw [← htk, List.getElem?_take] at hu
    split at hu
    · rw [Nat.zero_add]; simpa using hu
    · cases hu
theorem OffRow.lt (h : OffRow w base e size v n xs) : ∀ g, v.ownBlock = some g → base ≤ g ∧ g < w.heap.size := by
  intro k hk
  obtain ⟨_, ⟨rfl, _⟩ | ⟨g, o, cap, cs, rfl, hg, hb, _⟩⟩ := h
  · cases hk
  · cases hk
    exact ⟨hg, hb.lt⟩
theorem OffRow.blk (h : OffRow w base e size v n xs) {g : Nat} (hg : v.ownBlock = some g) : ∃ cs, Blk w g e cs := by
  obtain ⟨_, ⟨rfl, _⟩ | ⟨g, o, cap, cs, rfl, hg', hb, _⟩⟩ := h
  · cases hg
  · cases hg
    exact ⟨cs, hb⟩
theorem OffRow.mod {F : Nat → Prop} (h : OffRow w base e size v n xs) (hm : Mod F w w') (hF : ∀ g, v.ownBlock = some g → ¬ F g) : OffRow w' base e size v n xs := by
  obtain ⟨h1, h2 | ⟨g, o, cap, cs, rfl, hg, hb, hr⟩⟩ := h
  · exact ⟨h1, .inl h2⟩
  · exact ⟨h1, .inr ⟨g, o, cap, cs, rfl, hg, hm.blk hb (hF g rfl), hr⟩⟩
theorem OffRow.below (h : OffRow w base e size v n xs) (hb : Below w.heap.size w w') : OffRow w' base e size v n xs := h.mod (F := fun _ => False) (Mod.of_below hb) (fun _ _ h => h)
theorem OffRow.more {base' : Nat} (h : OffRow w base e size v n xs) (hb : base' ≤ base) : OffRow w base' e size v n xs := by
  obtain ⟨h1, h2 | ⟨g, o, cap, cs, rfl, hg, hr⟩⟩ := h
  · exact ⟨h1, .inl h2⟩
  · exact ⟨h1, .inr ⟨g, o, cap, cs, rfl, Nat.le_trans hb hg, hr⟩⟩
theorem OffRow.rd (h : OffRow w base e size v n xs) : ∃ A c, v = .slice A n c ∧ n ≤ c ∧ c ≤ maxLen ∧ (A = none → c = 0) ∧ Rd w w.heap.size size A n xs := by
  obtain ⟨h1, ⟨rfl, rfl⟩ | ⟨g, o, cap, cs, rfl, hg, hb, hnc, hcm, hsz, hc⟩⟩ := h
  · exact ⟨none, 0, rfl, Nat.le_refl _, Nat.zero_le _, fun _ => rfl, h1, fun h => absurd h (Nat.lt_irrefl 0)⟩
  · exact ⟨_, cap, rfl, hnc, hcm, fun h => (by cases h), h1, fun _ => ⟨g, o, rfl, hb.lt, fun j u hu => hb.cell (o + j) u (hc j u hu)⟩⟩
/-- its first element is dropped -/
theorem OffRow.pop {A : Option Addr} {c : Nat} (h : OffRow w base e size (.slice A (n + 1) c) (n + 1) xs) : ∃ g o, A = some ⟨g, o, none⟩ ∧ 0 < c ∧ OffRow w base e size (.slice (some (if c = 1 then ⟨g, o, none⟩ else ⟨g, o + size, none⟩)) n (c - 1)) n (xs.drop size) := by
  obtain ⟨h1, ⟨hv, h0⟩ | ⟨g, o, cap, cs, hv, hg, hb, hnc, hcm, hsz, hc⟩⟩ := h
  · cases h0
  · cases hv
    refine ⟨g, o, rfl, by omega, ?_⟩
    have hl : (xs.drop size).length = n * size := by rw [List.length_drop, h1, Nat.add_mul]; omega
    by_cases h1c : c = 1
    · subst h1c
      obtain rfl : n = 0 := by omega
      rw [if_pos rfl]
      refine ⟨hl, .inr ⟨g, o, 0, cs, rfl, hg, hb, Nat.le_refl _, Nat.zero_le _, by omega, fun j u hu => ?_⟩⟩
      have := (List.getElem?_eq_some_iff.1 hu).1
      omega
    · rw [if_neg h1c]
      refine ⟨hl, .inr ⟨g, o + size, c - 1, cs, rfl, hg, hb, by omega, by omega, ?_, fun j u hu => ?_⟩⟩
      · have : c * size = (c - 1) * size + size := by rw [← Nat.succ_mul]; congr 1; omega
        omega
      · rw [List.getElem?_drop] at hu
        have := hc _ _ hu
        rw [show o + size + j = o + (size + j) by omega]
        exact this
/-- a cell is stored -/
theorem OffRow.set {g o c : Nat} (h : OffRow w base e size (.slice (some ⟨g, o, none⟩) n c) n xs) (i : Nat) (u : Value) (hi : i < n * size) : OffRow (w.setCell ⟨g, o + i, none⟩ u) base e size (.slice (some ⟨g, o, none⟩) n c) n (xs.set i u) := by
  obtain ⟨h1, ⟨hv, h0⟩ | ⟨g, o, cap, cs, hv, hg, hb, hnc, hcm, hsz, hc⟩⟩ := h
  · cases hv
  · cases hv
    have hle : n * size ≤ c * size := Nat.mul_le_mul_right _ hnc
    refine ⟨by rw [List.length_set]; exact h1, .inr ⟨g, o, c, _, rfl, hg, hb.set _ u, hnc, hcm, by simpa using hsz, fun j u' hu => ?_⟩⟩
    by_cases hj : j = i
    · subst hj
      rw [List.getElem?_set_self (by omega)] at hu
      cases hu
      rw [Array.getElem?_setIfInBounds_self_of_lt (by omega)]
    · rw [List.getElem?_set_ne (fun e => hj e.symm)] at hu
      rw [Array.getElem?_setIfInBounds_ne (by omega)]
      exact hc j u' hu
theorem OffRow.there {g o c : Nat} (h : OffRow w base e size (.slice (some ⟨g, o, none⟩) n c) n xs) (i : Nat) : w.frozen? ⟨g, i, none⟩ = false := by
  obtain ⟨h1, ⟨hv, h0⟩ | ⟨g, o, cap, cs, hv, hg, hb, hnc, hcm, hsz, hc⟩⟩ := h
  · cases hv
  · cases hv
    exact hb.free i
end
/-- append of one element to such a row -/
theorem exec_appendO {P : Program} {ev : Operand → Value} {o : Oper} {w : World} (s x : Operand) (t : TypeId)
    (ho : o.op = .call { callee := .builtin .append, args := #[s, x], argTypes := #[t, t] })
    (base : Nat) (e : TypeId) (i : TypeInfo) (z : Value) (size bytes : Nat) (ht : P.underlying t = some (.slice e)) (hi : P.info? e = some i) (hz : i.zero = some z)
    (hsize : i.size = size) (hby : i.bytes = bytes) (hzs : z.cells.size = size) (hsz : 0 < size)
    (v : Value) (n : Nat) (xs : List Value) (hs : ev s = v) (hown : OffRow w base e size v n xs)
    (g : Nat) (cs : Array Value) (hx : ev x = .slice (some ⟨g, 0, none⟩) 1 1) (hk : Blk w g e cs) (hl : cs.toList.length = size) (h1 : ∀ u ∈ cs.toList, u.oneCell' = true)
    (h63 : n + 1 ≤ maxLen) (hbytes : (n + 1) * bytes ≤ 140737488355328) (hbase : base ≤ w.heap.size) :
    ∃ v' w', (execOp ev o).run P w = .ok (.value v') w' ∧ OffRow w' base e size v' (n + 1) (xs ++ cs.toList) ∧ Mod (fun k => v.ownBlock = some k) w w' ∧ NearV w v v' := by
  have hcells : ∀ j u, cs.toList[j]? = some u → w.cell? ((⟨g, 0, none⟩ : Addr).add j) = some u := fun j u hu => by
    rw [add_none, Nat.zero_add]
    exact hk.cell j u (by simpa using hu)
  obtain ⟨hlen, ⟨rfl, rfl⟩ | ⟨g1, o1, cap, c1, rfl, hg, hb, hnc, hcm, hfit, hc⟩⟩ := hown
  · obtain rfl : xs = [] := List.eq_nil_of_length_eq_zero (by simpa using hlen)
    obtain ⟨v', w', hr, h2, h3, h4⟩ := exec_append (P := P) (w := w) (ev := ev) s x t ho base e i z size bytes ht hi hz hsize hby hzs hsz (.slice none 0 0) 0 [] hs (World.ownsRow_nil _ _ _ _) g cs hx hk hl h1 h63 hbytes hbase
    refine ⟨v', w', hr, OffRow.of_own h2, Mod.of_grown h3, fun k hk => ?_⟩
    rcases h4 with h4 | h4
    · rw [h4] at hk; exact .inl hk
    · rw [h4] at hk
      have := Option.some.inj hk
      exact .inr (by omega)
  · by_cases hroom : n + 1 ≤ cap
    · have hle : (n + 1) * size ≤ cap * size := Nat.mul_le_mul_right _ hroom
      rw [Nat.add_mul, Nat.one_mul] at hle
      have hr := run_append_room_cells (P := P) w t o.type e i ht hi g1 o1 n cap ⟨g, 0, none⟩ 1 1 cs.toList (by rw [hl, hsize, Nat.one_mul]) hcells h1 hroom (fun j hj => by
        rw [hsize]
        have : o1 + n * size + j < c1.size := by omega
        rw [hb.cell _ _ (Array.getElem?_eq_getElem this)]
        rfl) (fun j hj => hb.free _)
      refine ⟨_, _, ?_, ⟨?_, .inr ⟨g1, o1, cap, _, rfl, hg, Blk.sets cs.toList (o1 + n * size) hb, hroom, hcm, by rw [setM_size]; exact hfit, fun j u hu => ?_⟩⟩, Mod.sets cs.toList (o1 + n * size) (Mod.refl _ w) (fun _ => rfl), fun k hk => .inl hk⟩
      · unfold execOp
        simp only [ho, resolve, invoke, builtin, Sem.run_bind, Sem.run_pure, Result.andThen_ok, List.map_toArray, List.map_cons, List.map_nil, hs, hx, hr, hsize]
      · rw [List.length_append, hlen, hl, Nat.add_mul, Nat.one_mul]
      · by_cases hj : j < xs.length
        · rw [List.getElem?_append_left hj] at hu
          rw [setM_out _ _ _ _ (.inl (by omega))]
          exact hc j u hu
        · rw [List.getElem?_append_right (by omega)] at hu
          have h2 := (List.getElem?_eq_some_iff.1 hu).1
          have := setM_in cs.toList c1 (o1 + n * size) (j - xs.length) (by omega) h2
          rw [show o1 + n * size + (j - xs.length) = o1 + j by omega] at this
          rw [this]
          exact hu
    · obtain ⟨v', w', hr, h2, h3⟩ := run_append_arg_grows (P := P) w t o.type e i z size bytes ht hi hz hsize hby hzs hsz ⟨g1, o1, none⟩ n cap xs hlen (fun j u hu => by
        rw [add_none]
        exact hb.cell _ u (hc j u hu)) ⟨g, 0, none⟩ 1 1 cs.toList (by rw [hl, Nat.one_mul]) hcells (by omega) h63 hbytes
      refine ⟨v', w', ?_, (OffRow.of_own h2).more hbase, (Mod.of_grown h3).mono (fun k _ h => by cases h), fun k hk => .inr (h2.lt k hk).1⟩
      unfold execOp
      simp only [ho, resolve, invoke, builtin, Sem.run_bind, Sem.run_pure, Result.andThen_ok, List.map_toArray, List.map_cons, List.map_nil, hs, hx, hr]
end Go.Proofs.Ytpnefacignalpaa
