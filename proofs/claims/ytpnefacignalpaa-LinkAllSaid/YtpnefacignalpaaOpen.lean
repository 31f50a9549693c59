/- How an argument is opened: what its cells hold, type by type. Conditions: those typed. -/
import Derived.Test.YtpnefacignalpaaWords
import Derived.Test.YtpnefacignalpaaRows
import Derived.SizedLaws
import Derived.Deep.CondSized
import Derived.JoinedCond
import Derived.ChangeOld
import Derived.ShutString
import Derived.Lib.SmallJoins
import Derived.Deep.Fields
namespace Go.Gy
open Go.RowKit Go.WideShapes Go.ChangeShapes
open Go.Proofs.Ytpnefacignalpaa (Rows.uptoBulk Rows.uptoBulkAll)

abbrev bulk {H : Type} (d : DataW H) : Nat := Rows.uptoBulk d
abbrev bulks {H : Type} (d : List (DataW H)) : Nat := Rows.uptoBulkAll d

theorem bulks_nil {H : Type} : bulks ([] : List (DataW H)) = 0 := by simp [bulks, Rows.uptoBulkAll]
theorem bulks_cons {H : Type} (d : DataW H) (r : List (DataW H)) : bulks (d :: r) = bulk d + bulks r := by simp [bulks, bulk, Rows.uptoBulkAll]
theorem bulk_agg {H : Type} (r : List (DataW H)) : bulk (.agg r) = bulks r + 1 := by simp [bulks, bulk, Rows.uptoBulk]
theorem bulk_slice {H : Type} (r s : List (DataW H)) : bulk (.slice r s) = bulks r + bulks s + 1 := by simp [bulks, bulk, Rows.uptoBulk]
theorem bulk_pos {H : Type} (d : DataW H) : 1 ≤ bulk d := by
  cases d with
  | lit l => cases l <;> simp [bulk, Rows.uptoBulk]
  | _ => simp [bulk, Rows.uptoBulk]
theorem bulks_len {H : Type} (r : List (DataW H)) : r.length ≤ bulks r := by
  induction r with
  | nil => simp
  | cons d r ih => rw [bulks_cons, List.length_cons]; have := bulk_pos d; omega
theorem bulk_mem {H : Type} {d : DataW H} {r : List (DataW H)} (h : d ∈ r) : bulk d ≤ bulks r := by
  induction r with
  | nil => cases h
  | cons a r ih =>
    rw [bulks_cons]
    cases h with
    | head => omega
    | tail _ h => have := ih h; omega

theorem weightsAll_mem {H : Type} {P : Program} {e : TypeId} {d : DataW H} {r : List (DataW H)} (h : d ∈ r) : ∀ m ∈ d.weights P e, m ∈ DataW.weightsAll P e r := by
  induction r with
  | nil => cases h
  | cons a r ih =>
    intro m hm
    simp only [DataW.weightsAll, List.mem_append]
    cases h with
    | head => exact .inl hm
    | tail _ h => exact .inr (ih h m hm)

/-- cells of type t, whatever they read as, meet V (the second argument: the reading's bulk). -/
def Opens (P : Program) (W : World) (t : TypeId) (V : List Value → Nat → Prop) : Prop :=
  ∀ (H : Type) (enc : TypeId × Value → H) (fuel : Nat) (cs : List Value) (x : DataW H × List MemPlace),
    DataW.trod enc P W 0 (fun _ => true) true fuel t cs = some x → (∀ m ∈ x.1.weights P t, m ≤ reachBytes) → V cs (bulk x.1)

section
variable {P : Program} {W : World}
theorem Opens.mono {t : TypeId} {V V' : List Value → Nat → Prop} (h : Opens P W t V) (hv : ∀ cs n, V cs n → V' cs n) : Opens P W t V' :=
  fun H enc fuel cs x hx hw => hv _ _ (h H enc fuel cs x hx hw)

theorem opens_int {t : TypeId} {k : IntKind} (ht : P.underlying t = some (.int k)) : Opens P W t fun cs _ => ∃ n, cs = [.int k n] ∧ (Lit.int k n).wf = true := by
  intro H enc fuel cs x hx _
  obtain ⟨n, h1, _, h2⟩ := DataW.trod_int ht hx
  exact ⟨n, h1, h2⟩

theorem opens_string {t : TypeId} (ht : P.underlying t = some .string) : Opens P W t fun cs b => ∃ s : ByteArray, cs = [.string s] ∧ s.size ≤ maxLen ∧ s.size ≤ reachBytes ∧ s.size < b := by
  intro H enc fuel cs x hx hw
  obtain ⟨s, h1, h2, h3⟩ := DataW.trod_string ht hx
  subst h2
  have := hw s.data.toList.length (by simp [DataW.weights])
  refine ⟨s, h1, h3, by simpa using this, ?_⟩
  show s.size < bulk (.lit (.string s.data.toList))
  simp [bulk, Rows.uptoBulk]

/-- A slice: its address, its cells element by element. -/
def SliceOf (W : World) (size bytes : Nat) (V : List Value → Nat → Prop) (cs : List Value) (b : Nat) : Prop :=
  ∃ (A : Option Addr) (n c : Nat) (xs : List (List Value)), cs = [.slice A n c] ∧ n ≤ c ∧ c ≤ maxLen ∧ c * bytes ≤ reachBytes ∧ c < b ∧ (A = none → c = 0) ∧ xs.length = n ∧
    (∀ x ∈ xs, x.length = size ∧ ∃ m, V x m ∧ m < b) ∧
    ∃ g o, (0 < n → g < W.heap.size) ∧ (0 < n → A = some ⟨g, o, none⟩) ∧ ∀ i x, xs[i]? = some x → ∀ j u, x[j]? = some u → W.cell? ⟨g, o + i * size + j, none⟩ = some u

theorem list_of {α : Type} (n : Nat) (R : Nat → α → Prop) (h : ∀ i, i < n → ∃ x, R i x) : ∃ xs : List α, xs.length = n ∧ ∀ i x, xs[i]? = some x → R i x := by
  induction n with
  | zero => exact ⟨[], rfl, fun i x hx => by simp at hx⟩
  | succ n ih =>
    obtain ⟨xs, hl, hxs⟩ := ih fun i hi => h i (by omega)
    obtain ⟨y, hy⟩ := h n (by omega)
    refine ⟨xs ++ [y], by simp [hl], fun i x hx => ?_⟩
    by_cases hi : i < n
    · rw [List.getElem?_append_left (by omega)] at hx; exact hxs i x hx
    · rw [List.getElem?_append_right (by omega)] at hx
      have : i - xs.length = 0 := by
        rcases Nat.eq_zero_or_pos (i - xs.length) with h0 | h0
        · exact h0
        · rw [List.getElem?_eq_none (by simp; omega)] at hx; cases hx
      rw [this] at hx
      simp at hx
      subst hx
      have : i = n := by omega
      subst this
      exact hy

theorem cell_lt {W : World} {b o : Nat} {u : Value} (h : W.cell? ⟨b, o, none⟩ = some u) : b < W.heap.size := by
  rcases Nat.lt_or_ge b W.heap.size with hlt | hge
  · exact hlt
  · simp [World.cell?, Array.getElem?_eq_none hge] at h

theorem opens_slice {t e : TypeId} {size bytes : Nat} {V : List Value → Nat → Prop} (ht : P.underlying t = some (.slice e)) (hs : P.cellsOf e = size) (hs0 : 0 < size) (hb : P.bytesOf e = bytes) (hV : Opens P W e V) :
    Opens P W t (SliceOf W size bytes V) := by
  intro H enc fuel cs x hx hw
  rcases Go.Deep.open_slice ht hx with ⟨rfl, rfl⟩ | ⟨a, len, cap, m, n, D, Pl, rfl, _, hl, hm, hmm, rfl, hi⟩
  · exact ⟨none, 0, 0, [], rfl, Nat.le_refl _, Nat.zero_le _, by simp, bulk_pos _, fun _ => rfl, rfl, by simp, 0, 0, by simp, by simp, by simp⟩
  · simp only [if_true] at hmm
    subst hmm
    have hw0 := hw ((((List.range len).map D).length + ((List.range (m - len)).map fun j => D (len + j)).length) * P.bytesOf e) (by simp [DataW.weights, ht])
    simp only [List.length_map, List.length_range, hb] at hw0
    have hbk : m < bulk (DataW.slice ((List.range len).map D) ((List.range (m - len)).map fun j => D (len + j))) := by
      rw [bulk_slice]
      have h1 := bulks_len ((List.range len).map D)
      have h2 := bulks_len ((List.range (m - len)).map fun j => D (len + j))
      simp only [List.length_map, List.length_range] at h1 h2
      omega
    obtain ⟨xs, hxl, hxs⟩ := list_of len (fun i x => W.cells? 0 (a.add (i * P.cellsOf e)) (P.cellsOf e) = some x ∧ DataW.trod enc P W 0 (fun _ => true) true n e x = some (D i, Pl i)) fun i hi' => by
      obtain ⟨cs', h1, h2⟩ := hi i (by omega)
      exact ⟨cs', h1, h2⟩
    refine ⟨some a, len, m, xs, rfl, hl, hm, by rwa [show len + (m - len) = m from by omega] at hw0, hbk, by simp, hxl, fun x hx => ?_, ?_⟩
    · obtain ⟨i, hi', hx'⟩ := List.getElem_of_mem hx
      obtain ⟨h1, h2⟩ := hxs i x (by rw [← hx']; exact List.getElem?_eq_getElem hi')
      obtain ⟨_, h3, _⟩ := World.cells?_some h1
      have hmem : D i ∈ (List.range len).map D := List.mem_map.2 ⟨i, by simp; omega, rfl⟩
      refine ⟨by omega, bulk (D i), hV H enc n x _ h2 fun q hq => hw q ?_, ?_⟩
      · simp only [DataW.weights, ht, List.mem_cons, List.mem_append]
        exact .inr (.inl (weightsAll_mem hmem q hq))
      · rw [bulk_slice]; have := bulk_mem hmem; omega
    · by_cases h0 : 0 < len
      · have hx0 : xs[0]? = some (xs[0]'(by omega)) := List.getElem?_eq_getElem (by omega)
        obtain ⟨h1, _⟩ := hxs 0 _ hx0
        obtain ⟨_, h2, h3⟩ := World.cells?_some h1
        have hc0 := h3 0 (by omega)
        rw [List.getElem?_eq_getElem (by omega)] at hc0
        have hsp := World.cell?_spot hc0
        simp only [Nat.zero_mul, show a.add 0 = a from by simp [Addr.add]] at hc0 hsp
        obtain ⟨g, o, sp⟩ := a
        simp only at hsp
        subst hsp
        refine ⟨g, o, fun _ => cell_lt hc0, fun _ => rfl, fun i x hx j u hu => ?_⟩
        obtain ⟨h1, _⟩ := hxs i x hx
        obtain ⟨_, h2, h3⟩ := World.cells?_some h1
        have hj : j < x.length := (List.getElem?_eq_some_iff.1 hu).1
        have h4 := h3 j (by omega)
        rw [add_none, add_none, hu, hs] at h4
        exact h4
      · refine ⟨0, 0, by omega, by omega, fun i x hx => ?_⟩
        rw [List.getElem?_eq_none (by omega)] at hx
        cases hx

theorem opens_struct {t : TypeId} {fs : Array Field} (ht : P.underlying t = some (.struct fs)) (Vs : Nat → List Value → Nat → Prop) (hV : ∀ i f, fs[i]? = some f → Opens P W f.type (Vs i)) :
    Opens P W t fun cs b => cs.length = P.cellsOf t ∧ ∀ i f, fs[i]? = some f → ∃ m, Vs i ((cs.drop f.offset).take (P.cellsOf f.type)) m ∧ m < b := by
  intro H enc fuel cs x hx hw
  obtain ⟨xs, n, _, rfl, hl, hxl, hf⟩ := DataW.trod_struct ht hx
  refine ⟨hl, fun i f hi => ?_⟩
  have hlt : i < fs.size := (Array.getElem?_eq_some_iff.1 hi).1
  have hxi : xs[i]? = some (xs[i]'(by omega)) := List.getElem?_eq_getElem (by omega)
  have h1 := hf i f hi
  rw [hxi] at h1
  refine ⟨bulk (xs[i]'(by omega)).1, hV i f hi H enc n _ _ h1 fun q hq => hw q ?_, ?_⟩
  · simp only [DataW.weights, ht]
    refine DataW.weights_mem_each (j := i) (t := f.type) (d := (xs[i]'(by omega)).1) ?_ ?_ q hq
    · rw [List.getElem?_map, Array.getElem?_toList, hi]; rfl
    · rw [List.getElem?_map, hxi]; rfl
  · have hmem : (xs[i]'(by omega)).1 ∈ xs.map (·.1) := List.mem_map.2 ⟨_, List.getElem_mem _, rfl⟩
    show _ < bulk (.agg (xs.map (·.1)))
    rw [bulk_agg]
    have := bulk_mem hmem
    omega

/-- A slice whose elements are 'enc a', a of a list: the argument as a walk takes it. -/
def SlArg {α : Type} (enc : α → List Value) (Q : α → Prop) (size bytes : Nat) (W : World) (v : Value) (b : Nat) : Prop :=
  ∃ (A : Option Addr) (n c : Nat) (xs : List α), v = .slice A n c ∧ xs.length = n ∧ n ≤ c ∧ c ≤ maxLen ∧ c * bytes ≤ reachBytes ∧ c < b ∧ (A = none → c = 0) ∧ Rd W W.heap.size size A n (xs.flatMap enc) ∧ ∀ a ∈ xs, Q a

theorem flatMap_get {α : Type} {enc : α → List Value} {size : Nat} : ∀ (xs : List α), (∀ a ∈ xs, (enc a).length = size) → 0 < size → ∀ j u, (xs.flatMap enc)[j]? = some u → ∃ a, xs[j / size]? = some a ∧ (enc a)[j % size]? = some u
  | [], _, _, j, u, h => by simp at h
  | a :: xs, hl, hs, j, u, h => by
    rw [List.flatMap_cons] at h
    have h0 := hl a (by simp)
    by_cases hj : j < size
    · rw [List.getElem?_append_left (by omega)] at h
      exact ⟨a, by rw [Nat.div_eq_of_lt hj]; rfl, by rw [Nat.mod_eq_of_lt hj]; exact h⟩
    · rw [List.getElem?_append_right (by omega), h0] at h
      obtain ⟨b, h1, h2⟩ := flatMap_get xs (fun a ha => hl a (by simp [ha])) hs (j - size) u h
      refine ⟨b, ?_, ?_⟩
      · rw [Nat.div_eq_sub_div hs (by omega), List.getElem?_cons_succ]; exact h1
      · rw [Nat.mod_eq_sub_mod (by omega)]; exact h2
theorem flatMap_len {α : Type} {enc : α → List Value} {size : Nat} : ∀ (xs : List α), (∀ a ∈ xs, (enc a).length = size) → (xs.flatMap enc).length = xs.length * size
  | [], _ => by simp
  | a :: xs, hl => by
    rw [List.flatMap_cons, List.length_append, hl a (by simp), flatMap_len xs fun a ha => hl a (by simp [ha]), List.length_cons, Nat.succ_mul, Nat.add_comm]

theorem SliceOf.arg {α : Type} {enc : α → List Value} {Q : α → Prop} {size bytes : Nat} {V : List Value → Nat → Prop} {v : Value} {b : Nat} (hv : v.cells.toList = [v]) (hs0 : 0 < size)
    (h : SliceOf W size bytes V v.cells.toList b) (hV : ∀ x m, V x m → ∃ a, x = enc a ∧ Q a) : SlArg enc Q size bytes W v b := by
  obtain ⟨A, n, c, xs, hcs, h1, h2, h3, h4, h5, h6, h7, g, o, h8, h9, h10⟩ := h
  rw [hv] at hcs
  obtain rfl : v = .slice A n c := by simpa using hcs
  obtain ⟨ys, hal, has⟩ := list_of n (fun i a => xs[i]? = some (enc a) ∧ Q a) fun i hi => by
    have hx : xs[i]? = some (xs[i]'(by omega)) := List.getElem?_eq_getElem (by omega)
    obtain ⟨_, m, hm, _⟩ := h7 _ (List.mem_of_getElem? hx)
    obtain ⟨a, ha, hq⟩ := hV _ _ hm
    exact ⟨a, by rw [hx, ha], hq⟩
  have hlen : ∀ a ∈ ys, (enc a).length = size := fun a ha => by
    obtain ⟨i, hi, rfl⟩ := List.getElem_of_mem ha
    obtain ⟨hx, _⟩ := has i _ (List.getElem?_eq_getElem hi)
    exact (h7 _ (List.mem_of_getElem? hx)).1
  refine ⟨A, n, c, ys, rfl, hal, h1, h2, h3, h4, h5, ⟨by rw [flatMap_len ys hlen, hal], fun hn => ⟨g, o, h9 hn, h8 hn, fun j u hu => ?_⟩⟩, fun a ha => ?_⟩
  · obtain ⟨a, ha, hu'⟩ := flatMap_get ys hlen hs0 j u hu
    obtain ⟨hx, _⟩ := has _ _ ha
    have := h10 _ _ hx _ _ hu'
    rw [Nat.add_assoc, Nat.mul_comm, Nat.div_add_mod] at this
    exact this
  · obtain ⟨i, hi, rfl⟩ := List.getElem_of_mem ha
    exact (has i _ (List.getElem?_eq_getElem hi)).2

theorem view {H : Type} {enc : TypeId × Value → H} {t : TypeId} {V : List Value → Nat → Prop} {v : Value} {d : DataW H} {p : List MemPlace} (ho : Opens P W t V) (h : DataW.Trod enc P W 0 (fun _ => true) true t v d p)
    (hw : ∀ m ∈ d.weights P t, m ≤ reachBytes) : V v.cells.toList (bulk d) := by
  obtain ⟨fuel, hf⟩ := h
  exact ho H enc fuel _ _ hf hw

abbrev encI (k : IntKind) (z : Int) : List Value := [.int k z]
abbrev wfI (k : IntKind) (z : Int) : Prop := (Lit.int k z).wf = true
theorem flat_int (k : IntKind) (zs : List Int) : zs.flatMap (encI k) = zs.map (Value.int k) := by
  induction zs with
  | nil => rfl
  | cons z zs ih => simp [encI] at ih ⊢; exact ih
theorem wf_u8 {n : Int} (h : wfI .u8 n) : 0 ≤ n ∧ n < 256 := by
  have : 0 ≤ n ∧ n ≤ 255 := by simpa [wfI, Lit.wf, IntKind.min, IntKind.max, IntKind.signed, IntKind.bits] using h
  omega
theorem wf_u32 {n : Int} (h : wfI .u32 n) : 0 ≤ n ∧ n < 4294967296 := by
  have : 0 ≤ n ∧ n ≤ 4294967295 := by simpa [wfI, Lit.wf, IntKind.min, IntKind.max, IntKind.signed, IntKind.bits] using h
  omega
theorem wf_i64 {n : Int} (h : wfI .i64 n) : -9223372036854775808 ≤ n ∧ n ≤ 9223372036854775807 := by simpa [wfI, Lit.wf, IntKind.min, IntKind.max, IntKind.signed, IntKind.bits] using h

theorem arg_ints {H : Type} {enc : TypeId × Value → H} {t e : TypeId} {k : IntKind} {bytes : Nat} {v : Value} {d : DataW H} {p : List MemPlace} {r : Reach} {b0 : Nat} (ht : P.underlying t = some (.slice e)) (he : P.underlying e = some (.int k))
    (hs : P.cellsOf e = 1) (hb : P.bytesOf e = bytes) (hv : Value.okWide P W r b0 t v) (h : DataW.Trod enc P W 0 (fun _ => true) true t v d p) (hw : ∀ m ∈ d.weights P t, m ≤ reachBytes) : SlArg (encI k) (wfI k) 1 bytes W v (bulk d) := by
  obtain ⟨a, n, c, rfl⟩ := okWide_slice ht hv
  exact (view (opens_slice ht hs (by omega) hb (opens_int he)) h hw).arg rfl (by omega) fun x m ⟨z, h1, h2⟩ => ⟨z, h1, h2⟩

theorem one_cell {cs : List Value} {k : Nat} {v : Value} (h : (cs.drop k).take 1 = [v]) : cs[k]? = some v := by
  have : ((cs.drop k).take 1)[0]? = some v := by rw [h]; rfl
  rw [List.getElem?_take, if_pos (by omega), List.getElem?_drop] at this
  simpa using this
theorem opens_struct2 {t : TypeId} {f0 f1 : Field} (ht : P.underlying t = some (.struct #[f0, f1])) (hc : P.cellsOf t = 2) (g0 : f0.offset = 0 ∧ P.cellsOf f0.type = 1) (g1 : f1.offset = 1 ∧ P.cellsOf f1.type = 1)
    {V0 V1 : Value → Nat → Prop} (o0 : Opens P W f0.type fun cs b => ∃ v, cs = [v] ∧ V0 v b) (o1 : Opens P W f1.type fun cs b => ∃ v, cs = [v] ∧ V1 v b) :
    Opens P W t fun cs b => ∃ v0 v1 b0 b1, cs = [v0, v1] ∧ V0 v0 b0 ∧ V1 v1 b1 ∧ b0 < b ∧ b1 < b := by
  refine (opens_struct ht (fun i cs b => match i with | 0 => ∃ v, cs = [v] ∧ V0 v b | _ => ∃ v, cs = [v] ∧ V1 v b) ?_).mono ?_
  · intro i f hi
    match i, hi with
    | 0, hi => simp at hi; subst hi; exact o0
    | 1, hi => simp at hi; subst hi; exact o1
    | i + 2, hi => simp at hi
  · rintro cs b ⟨hl, h⟩
    rw [hc] at hl
    obtain ⟨b0, ⟨v0, e0, h0⟩, l0⟩ := h 0 f0 rfl
    obtain ⟨b1, ⟨v1, e1, h1⟩, l1⟩ := h 1 f1 rfl
    rw [g0.1, g0.2] at e0; rw [g1.1, g1.2] at e1
    have e0 := one_cell e0; have e1 := one_cell e1
    match cs, hl with
    | [c0, c1], _ => simp at e0 e1; subst e0 e1; exact ⟨_, _, b0, b1, rfl, h0, h1, l0, l1⟩
theorem opens_struct3 {t : TypeId} {f0 f1 f2 : Field} (ht : P.underlying t = some (.struct #[f0, f1, f2])) (hc : P.cellsOf t = 3) (g0 : f0.offset = 0 ∧ P.cellsOf f0.type = 1) (g1 : f1.offset = 1 ∧ P.cellsOf f1.type = 1) (g2 : f2.offset = 2 ∧ P.cellsOf f2.type = 1)
    {V0 V1 V2 : Value → Nat → Prop} (o0 : Opens P W f0.type fun cs b => ∃ v, cs = [v] ∧ V0 v b) (o1 : Opens P W f1.type fun cs b => ∃ v, cs = [v] ∧ V1 v b) (o2 : Opens P W f2.type fun cs b => ∃ v, cs = [v] ∧ V2 v b) :
    Opens P W t fun cs b => ∃ v0 v1 v2 b0 b1 b2, cs = [v0, v1, v2] ∧ V0 v0 b0 ∧ V1 v1 b1 ∧ V2 v2 b2 ∧ b0 < b ∧ b1 < b ∧ b2 < b := by
  refine (opens_struct ht (fun i cs b => match i with | 0 => ∃ v, cs = [v] ∧ V0 v b | 1 => ∃ v, cs = [v] ∧ V1 v b | _ => ∃ v, cs = [v] ∧ V2 v b) ?_).mono ?_
  · intro i f hi
    match i, hi with
    | 0, hi => simp at hi; subst hi; exact o0
    | 1, hi => simp at hi; subst hi; exact o1
    | 2, hi => simp at hi; subst hi; exact o2
    | i + 3, hi => simp at hi
  · rintro cs b ⟨hl, h⟩
    rw [hc] at hl
    obtain ⟨b0, ⟨v0, e0, h0⟩, l0⟩ := h 0 f0 rfl
    obtain ⟨b1, ⟨v1, e1, h1⟩, l1⟩ := h 1 f1 rfl
    obtain ⟨b2, ⟨v2, e2, h2⟩, l2⟩ := h 2 f2 rfl
    rw [g0.1, g0.2] at e0; rw [g1.1, g1.2] at e1; rw [g2.1, g2.2] at e2
    have e0 := one_cell e0; have e1 := one_cell e1; have e2 := one_cell e2
    match cs, hl with
    | [c0, c1, c2], _ => simp at e0 e1 e2; subst e0 e1 e2; exact ⟨_, _, _, b0, b1, b2, rfl, h0, h1, h2, l0, l1, l2⟩
/-- an integer, as a field -/
theorem field_int {t : TypeId} {k : IntKind} (ht : P.underlying t = some (.int k)) : Opens P W t fun cs _ => ∃ v, cs = [v] ∧ ∃ n, v = .int k n ∧ wfI k n :=
  (opens_int ht).mono fun _ _ ⟨n, h1, h2⟩ => ⟨_, h1, n, rfl, h2⟩

/-! faults: structs of three ints -/
abbrev Fault := Int × Int × Int
def encF (f : Fault) : List Value := [.int .i64 f.1, .int .i64 f.2.1, .int .i64 f.2.2]
def wfF (f : Fault) : Prop := wfI .i64 f.1 ∧ wfI .i64 f.2.1 ∧ wfI .i64 f.2.2
theorem encF_len (f : Fault) : (encF f).length = 3 := rfl
theorem arg_faults {H : Type} {enc : TypeId × Value → H} {t e ti : TypeId} {f0 f1 f2 : Field} {v : Value} {d : DataW H} {p : List MemPlace} {r : Reach} {b0 : Nat} (ht : P.underlying t = some (.slice e)) (he : P.underlying e = some (.struct #[f0, f1, f2])) (hi : P.underlying ti = some (.int .i64))
    (hc : P.cellsOf e = 3) (g0 : f0.offset = 0 ∧ P.cellsOf f0.type = 1) (g1 : f1.offset = 1 ∧ P.cellsOf f1.type = 1) (g2 : f2.offset = 2 ∧ P.cellsOf f2.type = 1) (k0 : f0.type = ti) (k1 : f1.type = ti) (k2 : f2.type = ti)
    (hb : P.bytesOf e = 24) (hv : Value.okWide P W r b0 t v) (h : DataW.Trod enc P W 0 (fun _ => true) true t v d p) (hw : ∀ m ∈ d.weights P t, m ≤ reachBytes) : SlArg encF wfF 3 24 W v (bulk d) := by
  obtain ⟨a, n, c, rfl⟩ := okWide_slice ht hv
  have o := opens_struct3 (W := W) he hc g0 g1 g2 (k0 ▸ field_int hi) (k1 ▸ field_int hi) (k2 ▸ field_int hi)
  refine (view (opens_slice ht hc (by omega) hb o) h hw).arg rfl (by omega) ?_
  rintro x m ⟨_, _, _, _, _, _, rfl, ⟨n0, rfl, h0⟩, ⟨n1, rfl, h1⟩, ⟨n2, rfl, h2⟩, _⟩
  exact ⟨(n0, n1, n2), rfl, h0, h1, h2⟩

/-- a struct of one-cell fields, however many -/
theorem opens_fields {t : TypeId} {fs : Array Field} (ht : P.underlying t = some (.struct fs)) (hc : P.cellsOf t = fs.size) (hone : Go.Deep.oneCellFields P fs = true)
    (Vs : Nat → Value → Nat → Prop) (hV : ∀ i f, fs[i]? = some f → Opens P W f.type fun cs b => ∃ v, cs = [v] ∧ Vs i v b) :
    Opens P W t fun cs b => cs.length = fs.size ∧ ∀ i, i < fs.size → ∃ v m, cs[i]? = some v ∧ Vs i v m ∧ m < b := by
  refine (opens_struct ht (fun i cs b => ∃ v, cs = [v] ∧ Vs i v b) hV).mono ?_
  rintro cs b ⟨hl, h⟩
  refine ⟨by rw [hl, hc], fun i hi => ?_⟩
  have hf : fs[i]? = some fs[i] := Array.getElem?_eq_getElem hi
  obtain ⟨ho, hk⟩ := Go.Deep.hone_of hone i _ hf
  obtain ⟨m, ⟨v, e, hv⟩, hm⟩ := h i _ hf
  rw [ho, hk] at e
  exact ⟨v, m, one_cell e, hv, hm⟩
theorem field_string {t : TypeId} (ht : P.underlying t = some .string) : Opens P W t fun cs b => ∃ v, cs = [v] ∧ ∃ s : ByteArray, v = .string s ∧ s.size ≤ maxLen ∧ s.size ≤ reachBytes ∧ s.size < b :=
  (opens_string ht).mono fun _ _ ⟨s, h1, h2⟩ => ⟨_, h1, s, rfl, h2⟩
theorem field_slice {t e : TypeId} {size bytes : Nat} {V : List Value → Nat → Prop} (ht : P.underlying t = some (.slice e)) (hs : P.cellsOf e = size) (hs0 : 0 < size) (hb : P.bytesOf e = bytes) (hV : Opens P W e V) :
    Opens P W t fun cs b => ∃ v, cs = [v] ∧ SliceOf W size bytes V [v] b :=
  (opens_slice ht hs hs0 hb hV).mono fun cs b h => by
    obtain ⟨A, n, c, xs, rfl, h'⟩ := h
    exact ⟨_, rfl, A, n, c, xs, rfl, h'⟩
end
end Go.Gy
