/- net.Take, walked. Conditions: those typed. -/
import Derived.Test.YtpnefacignalpaaNetS
namespace Go.Proofs.Ytpnefacignalpaa
open Go.RowKit Go.Gy
set_option linter.unusedVariables false
set_option linter.unusedSimpArgs false
theorem info_msgI : (Try.prog.info? 43).map (fun i => (i.zero, i.size, i.bytes)) = some (some (.agg #[.int .i64 0, .int .i64 0, .int .i64 0, .int .i64 0, .int .u32 0, .slice none 0 0]), 6, 64) := by kernel_rfl
section
variable {P : Program} {ops : Array Oper} {rest : List Oper} {o : Oper} {a : Act} {wr : World} {Q : Exit → Act → World → Prop}
/-- append of one new element: where the row lies then -/
theorem wpList_pushN (hgd : o.guard = none) (s x : Operand) (t : TypeId)
    (ho : o.op = .call { callee := .builtin .append, args := #[s, x], argTypes := #[t, t] })
    (base : Nat) (e : TypeId) (i : TypeInfo) (z : Value) (size bytes : Nat) (ht : P.underlying t = some (.slice e)) (hi : P.info? e = some i) (hz : i.zero = some z)
    (hsize : i.size = size) (hby : i.bytes = bytes) (hzs : z.cells.size = size) (hsz : 0 < size)
    (v : Value) (n : Nat) (xs : List Value) (hs : a.eval s = v) (hown : wr.ownsRow base e size v n xs)
    (cs : List Value) (hx : a.eval x = .slice (some ⟨wr.heap.size, 0, none⟩) 1 1) (hl : cs.length = size) (h1 : ∀ u ∈ cs, u.oneCell' = true)
    (h63 : n + 1 ≤ maxLen) (hbytes : (n + 1) * bytes ≤ 140737488355328) (hbase : base ≤ wr.heap.size)
    (h : ∀ v' w', w'.ownsRow base e size v' (n + 1) (xs ++ cs) → Mod (fun k => v.ownBlock = some k) wr w' → NearV wr v v' → (∃ g c, v' = .slice (some ⟨g, 0, none⟩) (n + 1) c) → wpList P ops Q rest (a.put o.dst v') w') :
    wpList P ops Q (o :: rest) a (wr.alloc (.cells cs.toArray e)) :=
  wpList_plain hgd fun _ hK => by
    obtain ⟨v', w', hr, h2, h3, h4⟩ := exec_append (P := P) (w := wr.alloc (.cells cs.toArray e)) (ev := a.eval) s x t ho base e i z size bytes ht hi hz hsize hby hzs hsz v n xs hs (hown.alloc _) wr.heap.size cs.toArray hx (Blk.new _ _ _) hl h1 h63 hbytes (by simp; omega)
    unfold Oper.wp
    rw [hr]
    obtain ⟨g, c, hv, _⟩ := own_shape h2 (by omega)
    refine hK _ _ (h v' w' (by simpa using h2) ((Mod.of_below ((Below.refl _ _).alloc (Nat.le_refl _) _)).trans (Mod.of_grown h3) (fun _ _ h => h)) (fun g hg => ?_) ⟨g, c, hv⟩)
    rcases h4 with h4 | h4
    · rw [h4] at hg; exact .inl hg
    · rw [h4] at hg
      have := Option.some.inj hg
      simp only [World.size_alloc] at this
      exact .inr (by omega)
end
theorem encM_one (L : List SM) : ∀ u ∈ L.flatMap encM, u.oneCell' = true := by
  intro u hu
  obtain ⟨c, _, h⟩ := List.mem_flatMap.1 hu
  simp only [encM, List.mem_cons, List.not_mem_nil, or_false] at h
  rcases h with rfl | rfl | rfl | rfl | rfl | rfl <;> rfl
set_option maxRecDepth 100000 in
theorem sortnil (w : World) : Calls Try.prog 35 #[.slice none 0 0, .func (.func 36) #[] #[]] w fun e w' => e = .returned (.tuple #[]) ∧ Below w.heap.size w w' := by
  have hins : ∀ w : World, Calls Try.prog 45 #[.slice none 0 0, .int .i64 0, .int .i64 0, .func (.func 36) #[] #[]] w fun e w' => e = .returned (.tuple #[]) ∧ Below w.heap.size w w' := by
    intro w
    go_enter Try.func45, Try.ntmps45
    go_wp2_with fail
    go_loopw [8] (fun i wr => i = .int .i64 1 ∧ Below w.heap.size w wr) (fun _ _ => 0)
    case atStart => exact ⟨rfl, Below.refl _ _⟩
    case round =>
      obtain ⟨rfl, hb⟩ := hrel
      have HB := Lib.hid hb
      clear hb
      go_wp2
      go_end0
      exact ⟨rfl, HB.out⟩
  have HI := Lib.hid hins
  have hst : Calls Try.prog 42 #[.slice none 0 0, .int .i64 0, .func (.func 36) #[] #[]] w fun e w' => e = .returned (.tuple #[]) ∧ Below w.heap.size w w' := by
    clear hins
    go_enter Try.func42, Try.ntmps42
    go_wp2_with fail
    go_loopw [7, 8] (fun a b wr => a = .int .i64 0 ∧ b = .int .i64 20 ∧ Below w.heap.size w wr) (fun _ _ _ => 0)
    case atStart => exact ⟨rfl, rfl, Below.refl _ _⟩
    case round =>
      obtain ⟨rfl, rfl, hb⟩ := hrel
      have HB := Lib.hid hb
      clear hb
      go_wp2_with fail
      refine (HI.out _).mono ?_
      rintro e w2 ⟨rfl, hb2⟩
      have HB2 := Lib.hid (HB.out.trans (hb2.mono HB.out.size))
      clear hb2 HB
      go_wp2_with fail
      go_loopw [6] (fun b wr => b = .int .i64 20 ∧ Below w.heap.size w wr) (fun _ _ => 0)
      case atStart => exact ⟨rfl, HB2.out⟩
      case round =>
        obtain ⟨rfl, hb⟩ := hrel
        have HB := Lib.hid hb
        clear hb
        go_wp2
        go_end0
        exact ⟨rfl, HB.out⟩
  have HS := Lib.hid hst
  clear hst hins HI
  go_enter Try.func35, Try.ntmps35
  go_wp2_with fail
  refine HS.out.mono ?_
  rintro e w2 ⟨rfl, h1⟩
  have HX := Lib.hid h1
  clear h1
  go_wp2
  go_end0
  exact ⟨rfl, HX.out⟩
theorem dueSort_nil : dueSort [] = [] := List.flatMap_eq_nil_iff.2 (fun d _ => rfl)
/-- a row is sorted by due; equal ones keep their order -/
def SortPost (w : World) (base : Nat) (v : Value) (E : List SE) (e : Ending) (w' : World) : Prop := e = .returned (.tuple #[]) ∧ ∃ L : List SE, L.map absK = dueSort (E.map absK) ∧ L.Perm E ∧ w'.ownsRow base 82 7 v L.length (L.flatMap encS) ∧ Mod (fun k => v.ownBlock = some k) w w'
theorem sort_row (w : World) (base : Nat) (v : Value) (E : List SE) (h : w.ownsRow base 82 7 v E.length (E.flatMap encS)) (hd : ∀ k ∈ E, 0 ≤ k.1 ∧ k.1 ≤ 4001) (hn : E.length ≤ 1000) :
    Calls Try.prog 35 #[v, .func (.func 36) #[] #[]] w (SortPost w base v E) := by
  by_cases h0 : E.length = 0
  · have hE : E = [] := List.eq_nil_of_length_eq_zero h0
    subst hE
    obtain ⟨_, ⟨rfl, _⟩ | ⟨g, cap, cur, rfl, _, hh, hnc, hcm, hcs, htk⟩⟩ := id h
    · refine (sortnil w).mono ?_
      rintro e w' ⟨rfl, hb⟩
      exact ⟨rfl, [], dueSort_nil.symm, List.Perm.refl _, World.ownsRow_nil _ _ _ _, Mod.of_below hb⟩
    · refine (sortstable_any w base g 0 cap [] ⟨h, rfl⟩ (fun z hz => by cases hz) (by omega) (fun p q x y h1 h2 => by omega)).mono ?_
      rintro e w' ⟨rfl, ys, hp, _, hr, hg⟩
      have hy : ys = [] := hp.eq_nil
      subst hy
      refine ⟨rfl, [], dueSort_nil.symm, List.Perm.refl _, hr.1, (Mod.of_grow hg).mono (fun i _ e => ?_)⟩
      subst e
      rfl
  · obtain ⟨g, c, rfl, _⟩ := own_shape h (by omega)
    have hz : (E.zipIdx).map Prod.fst = E := by
      apply List.ext_getElem?
      intro i
      rw [List.getElem?_map, List.getElem?_zipIdx]
      cases E[i]? <;> rfl
    have hget : ∀ (i : Nat) (x : SE × Nat), (E.zipIdx)[i]? = some x → x.2 = i ∧ x.1 ∈ E := by
      intro i x hx
      rw [List.getElem?_zipIdx] at hx
      cases hE : E[i]? with
      | none => rw [hE] at hx; cases hx
      | some y =>
        rw [hE] at hx
        have := Option.some.inj hx
        subst this
        exact ⟨by simp, List.mem_of_getElem? hE⟩
    have hdu : ∀ z ∈ E.zipIdx, z.1 ∈ E := fun z hz' => by
      obtain ⟨i, hi, e⟩ := List.getElem_of_mem hz'
      exact (hget i z (by rw [List.getElem?_eq_getElem hi, e])).2
    have hix : ∀ p q (x y : SE × Nat), p < q → q < E.length → (E.zipIdx)[p]? = some x → (E.zipIdx)[q]? = some y → x.2 < y.2 := fun p q x y h1 h2 hx hy => by
      rw [(hget p x hx).1, (hget q y hy).1]
      exact h1
    refine (sortstable_any w base g E.length c E.zipIdx ⟨by rw [hz]; exact h, by rw [hz]⟩ (fun z hz' => ?_) (by omega) hix).mono ?_
    · have := hd z.1 (hdu z hz')
      exact ⟨this.1, by omega⟩
    · rintro e w' ⟨rfl, ys, hp, ho, hr, hg⟩
      have hl : ys.length = E.length := by rw [hp.length_eq, List.length_zipIdx]
      refine ⟨rfl, ys.map Prod.fst, ?_, ?_, ?_, (Mod.of_grow hg).mono (fun i _ e => ?_)⟩
      · have := sorted_due (g := absK) (due := dueE) (fun x => rfl) (xs := E.zipIdx) (ys := ys) (n := E.length) (by rw [List.length_zipIdx]) hix (fun x hx => by
          have := hd x.1 (hdu x hx)
          exact ⟨this.1, by show x.1.1 ≤ 5000; omega⟩) hp ho
        rw [List.map_map]
        show ys.map (fun x => absK x.1) = _
        rw [this]
        exact congrArg dueSort ((List.map_map (f := Prod.fst) (g := absK)).symm.trans (congrArg (List.map absK) hz))
      · have := hp.map Prod.fst
        rw [hz] at this
        exact this
      · rw [List.length_map, hl]
        exact hr.1
      · subst e
        rfl
def goesS (tick rcv : Int) (k : SE) : Bool := goesB tick rcv (absK k)
def T1Rel (w : World) (tick rcv : Int) (ks : List SE) (h r i : Value) (wr : World) : Prop := ∃ j : Nat, j ≤ ks.length ∧ i = .int .i64 j ∧ wr.ownsRow w.heap.size 82 7 h ((ks.take j).filter (goesS tick rcv)).length (((ks.take j).filter (goesS tick rcv)).flatMap encS) ∧
  wr.ownsRow w.heap.size 82 7 r ((ks.take j).filter (fun k => !goesS tick rcv k)).length (((ks.take j).filter (fun k => !goesS tick rcv k)).flatMap encS) ∧ (∀ g, h.ownBlock = some g → r.ownBlock ≠ some g) ∧ Below w.heap.size w wr
def T2Rel (w5 : World) (L : List SE) (n : Nat) (out i : Value) (wr : World) : Prop := ∃ j : Nat, j ≤ n ∧ i = .int .i64 j ∧ wr.ownsRow w5.heap.size 43 6 out j (((L.take j).map (·.2)).flatMap encM) ∧ Below w5.heap.size w5 wr
def TakePost (w : World) (base B : Nat) (FS : List GF) (T : Int) (K : List AK) (tick rcv : Int) (e : Ending) (w' : World) : Prop :=
  ∃ (out : Value) (Ls : List SM) (v' : Value), e = .returned out ∧ Ls.map (·.m) = (takeL K tick rcv).map (·.2) ∧ w'.ownsRow w.heap.size 43 6 out Ls.length (Ls.flatMap encM) ∧ (∀ s ∈ Ls, MOwn w' base s) ∧ NetAt w' base B FS T v' (restL K tick rcv) ∧ (∀ g, v'.ownBlock = some g → w.heap.size ≤ g) ∧ Mod (fun k => k = B) w w'
theorem take_end {w w3 w4 w5 w' : World} {base B : Nat} {FS : List GF} {T : Int} {v : Value} {K : List AK} {tick rcv : Int} {ks L : List SE} {h r out : Value} (hN : NetAt w base B FS T v K) (hks : ks.map absK = K) (hv : w.ownsRow base 82 7 v ks.length (ks.flatMap encS)) (hcs : ∀ k ∈ ks, MOwn w base k.2) (hbase : base ≤ w.heap.size)
    (hb3 : Below w.heap.size w w3) (hh : w3.ownsRow w.heap.size 82 7 h (ks.filter (goesS tick rcv)).length ((ks.filter (goesS tick rcv)).flatMap encS)) (hr : w3.ownsRow w.heap.size 82 7 r (ks.filter (fun k => !goesS tick rcv k)).length ((ks.filter (fun k => !goesS tick rcv k)).flatMap encS)) (hap : ∀ g, h.ownBlock = some g → r.ownBlock ≠ some g)
    (h4 : w4 = w3.setCell ⟨B, 2, none⟩ r) (hL : L.map absK = dueSort ((ks.filter (goesS tick rcv)).map absK)) (hLp : L.Perm (ks.filter (goesS tick rcv))) (h5 : Mod (fun k => h.ownBlock = some k) w4 w5) (h6 : Below w5.heap.size w5 w') (ho : w'.ownsRow w5.heap.size 43 6 out L.length ((L.map (·.2)).flatMap encM)) :
    TakePost w base B FS T K tick rcv (.returned out) w' := by
  subst h4
  have hBl := hN.lt
  obtain ⟨h1, hok, Af, nf, cf, ks', hk1, hk2, hk3, hk4, hk5, hk6⟩ := hN
  have hM4 : Mod (fun k => k = B) w (w3.setCell ⟨B, 2, none⟩ r) := (Mod.of_below (F := fun k => k = B) hb3).set (g := B) (fun _ => rfl) 2 r
  have hM5 : Mod (fun k => k = B) w w5 := hM4.trans h5 (fun i hi hf => by have := (hh.lt i hf).1; omega)
  have hM6 := hM5.call h6
  have hz3 := hb3.size
  have hfilt : ∀ p : AK → Bool, (ks.filter (fun k => p (absK k))).map absK = K.filter p := fun p => by
    rw [← hks, List.filter_map]
    rfl
  have hE : (ks.filter (goesS tick rcv)).map absK = K.filter (goesB tick rcv) := hfilt _
  have hF : (ks.filter (fun k => !goesS tick rcv k)).map absK = K.filter (fun k => !goesB tick rcv k) := hfilt (fun k => !goesB tick rcv k)
  have hcell : ∀ k ∈ ks, MOwn w' base k.2 := fun k hk => ⟨hM6.own (hcs k hk).1 (fun g cs _ hkb e => by
    subst e
    exact absurd (blk_type hkb hk2) (by decide)), (hcs k hk).2⟩
  have hB6 : Blk w' B 79 #[.slice Af nf cf, .int .i64 T, r] := by
    have a3 : Blk w3 B 79 #[.slice Af nf cf, .int .i64 T, v] := hk2.below hb3 hBl
    have a4 := a3.set 2 r
    have a5 := h5.blk a4 (fun e => by have := (hh.lt B e).1; omega)
    exact a5.below h6 a5.lt
  refine ⟨out, L.map (·.2), r, rfl, ?_, ?_, ?_, ⟨h1, hok.filter _, Af, nf, cf, ks.filter (fun k => !goesS tick rcv k), hF, hB6, hM6.own hk3 (fun g cs _ hkb e => by
    subst e
    exact absurd (blk_type hkb hk2) (by decide)), hk4, ?_, fun k hk => hcell k (List.mem_filter.1 hk).1⟩, fun g hg => (hr.lt g hg).1, hM6⟩
  · have e1 : (L.map absK).map (·.2) = (takeL K tick rcv).map (·.2) := by
      rw [hL, hE]
      rfl
    rw [← e1, List.map_map, List.map_map]
    rfl
  · rw [List.length_map]
    exact own_mono ho hM5.size
  · intro s hs
    obtain ⟨k, hk, rfl⟩ := List.mem_map.1 hs
    exact hcell k (List.mem_filter.1 (hLp.mem_iff.1 hk)).1
  · have r4 : (w3.setCell ⟨B, 2, none⟩ r).ownsRow w.heap.size 82 7 r (ks.filter (fun k => !goesS tick rcv k)).length ((ks.filter (fun k => !goesS tick rcv k)).flatMap encS) := ownsRow_setCell_below hr hBl r
    have r5 := h5.own r4 (fun g cs hg _ e => hap g e hg)
    exact own_mono (own_below r5 h6 (Nat.le_refl _)) hbase
set_option maxRecDepth 100000 in
set_option maxHeartbeats 8000000 in
theorem take_any (w : World) (base B : Nat) (FS : List GF) (T : Int) (v : Value) (K : List AK) (h : NetAt w base B FS T v K) (hbase : base ≤ w.heap.size) (tick rcv : Int) :
    Calls Try.prog 16 #[.pointer (some ⟨B, 0, none⟩), .int .i64 tick, .int .i64 rcv] w (TakePost w base B FS T K tick rcv) := by
  have HN := Lib.hid h
  obtain ⟨_, hok, Af, nf, cf, ks, hks, hkb, hkf, hfl, hkv, hmo⟩ := h
  obtain ⟨Av, cv, rfl, _, _, hrv⟩ := own_rd hkv
  obtain ⟨i0, hi0, hz0, hz1, hz2⟩ := info_parts info_sentI
  obtain ⟨j0, hj0, hy0, hy1, hy2⟩ := info_parts info_msgI
  have hkl : ks.length ≤ 1000 := by rw [← List.length_map (f := absK), hks]; exact hok.1
  have c2 := hkb.cell 2 _ rfl
  have HBL := Lib.hid hkb.lt
  have HKS := Lib.hid hks
  have HKB := Lib.hid hkb
  have HKV := Lib.hid hkv
  have HRV := Lib.hid hrv
  have HMO := Lib.hid hmo
  have HOK := Lib.hid hok
  have hst := Lib.hid (show T1Rel w tick rcv ks (.slice none 0 0) (.slice none 0 0) (.int .i64 0) w from ⟨0, Nat.zero_le _, rfl, World.ownsRow_nil _ _ _ _, World.ownsRow_nil _ _ _ _, (fun g hg => by cases hg), Below.refl _ _⟩)
  clear hks hkb hkf hfl hkv hrv hmo hok
  go_enter Try.func16, Try.ntmps16
  go_wp2_with fail
  go_loopw [7, 8, 19] (fun h r i wr => T1Rel w tick rcv ks h r i wr) (fun _ _ i _ => ks.length - (intOf i).toNat)
  case atStart => exact hst.out
  case round =>
    clear hst c2
    obtain ⟨j, hj, rfl, hoh, hor, hap, hbr⟩ := hrel
    obtain ⟨Ah, ch, rfl, _, _, _⟩ := own_rd hoh
    obtain ⟨Ar, cr, rfl, _, _, _⟩ := own_rd hor
    obtain ⟨E, hE⟩ : ∃ E, E = (ks.take j).filter (goesS tick rcv) := ⟨_, rfl⟩
    obtain ⟨F, hF⟩ : ∃ F, F = (ks.take j).filter (fun k => !goesS tick rcv k) := ⟨_, rfl⟩
    rw [← hE] at hoh hap ⊢
    rw [← hF] at hor hap ⊢
    have hEl : E.length ≤ 1000 := by rw [hE]; exact Nat.le_trans (List.length_filter_le _ _) (by rw [List.length_take]; omega)
    have hFl : F.length ≤ 1000 := by rw [hF]; exact Nat.le_trans (List.length_filter_le _ _) (by rw [List.length_take]; omega)
    have HE := Lib.hid hE
    have HF := Lib.hid hF
    have hz := hbr.size
    by_cases hlt : j < ks.length
    · have hji : (j : Int) < (ks.length : Int) := by omega
      have hwj : IntKind.i64.wrap ((j : Int) + 1) = (j : Int) + 1 := by rw [IntKind.wrap_i64]; omega
      obtain ⟨bf, of, ⟨d, ⟨⟨mk, ms, mt, mq, mc, ml⟩, A, n, c⟩⟩, rfl, hbB, hg, hcc⟩ := (HRV.out.below hbr).elem encS_len rfl hlt
      have x0 : wr.cell? ⟨bf, of + j * 7, none⟩ = some (.int .i64 d) := hcc 0 _ rfl
      have x1 : wr.cell? ⟨bf, of + j * 7 + 1, none⟩ = some (.int .i64 mk) := hcc 1 _ rfl
      have x2 : wr.cell? ⟨bf, of + j * 7 + 2, none⟩ = some (.int .i64 ms) := hcc 2 _ rfl
      have x3 : wr.cell? ⟨bf, of + j * 7 + 3, none⟩ = some (.int .i64 mt) := hcc 3 _ rfl
      have x4 : wr.cell? ⟨bf, of + j * 7 + 4, none⟩ = some (.int .i64 mq) := hcc 4 _ rfl
      have x5 : wr.cell? ⟨bf, of + j * 7 + 5, none⟩ = some (.int .u32 mc) := hcc 5 _ rfl
      have x6 : wr.cell? ⟨bf, of + j * 7 + 6, none⟩ = some (.slice A n c) := hcc 6 _ rfl
      have htk : ks.take (j + 1) = ks.take j ++ [(d, ⟨⟨mk, ms, mt, mq, mc, ml⟩, A, n, c⟩)] := by
        obtain ⟨hj', e⟩ := List.getElem?_eq_some_iff.1 hg
        rw [List.take_succ_eq_append_getElem hj', e]
      have HYES := Lib.hid (fun (W : World) (u : Value) (hgo : goesS tick rcv (d, ⟨⟨mk, ms, mt, mq, mc, ml⟩, A, n, c⟩) = true) (h1 : W.ownsRow w.heap.size 82 7 u (E.length + 1) (E.flatMap encS ++ encS (d, ⟨⟨mk, ms, mt, mq, mc, ml⟩, A, n, c⟩))) (h2 : W.ownsRow w.heap.size 82 7 (.slice Ar F.length cr) F.length (F.flatMap encS)) (h3 : ∀ g, u.ownBlock = some g → (Value.slice Ar F.length cr).ownBlock ≠ some g) (h4 : Below w.heap.size w W) => show T1Rel w tick rcv ks u (.slice Ar F.length cr) (.int .i64 ((j : Int) + 1)) W from ⟨j + 1, hlt, by simp, by
        rw [htk, List.filter_append, ← HE.out, List.filter_cons_of_pos hgo, List.filter_nil, List.length_append, List.flatMap_append]
        simpa using h1, by
        rw [htk, List.filter_append, ← HF.out, List.filter_cons_of_neg (by simp [hgo]), List.filter_nil, List.append_nil]
        exact h2, h3, h4⟩)
      have HNO := Lib.hid (fun (W : World) (u : Value) (hgo : goesS tick rcv (d, ⟨⟨mk, ms, mt, mq, mc, ml⟩, A, n, c⟩) = false) (h1 : W.ownsRow w.heap.size 82 7 u (F.length + 1) (F.flatMap encS ++ encS (d, ⟨⟨mk, ms, mt, mq, mc, ml⟩, A, n, c⟩))) (h2 : W.ownsRow w.heap.size 82 7 (.slice Ah E.length ch) E.length (E.flatMap encS)) (h3 : ∀ g, (Value.slice Ah E.length ch).ownBlock = some g → u.ownBlock ≠ some g) (h4 : Below w.heap.size w W) => show T1Rel w tick rcv ks (.slice Ah E.length ch) u (.int .i64 ((j : Int) + 1)) W from ⟨j + 1, hlt, by simp, by
        rw [htk, List.filter_append, ← HE.out, List.filter_cons_of_neg (by simp [hgo]), List.filter_nil, List.append_nil]
        exact h2, by
        rw [htk, List.filter_append, ← HF.out, List.filter_cons_of_pos (by simp [hgo]), List.filter_nil, List.length_append, List.flatMap_append]
        simpa using h1, h3, h4⟩)
      have HAP := Lib.hid hap
      have HBR := Lib.hid hbr
      clear hcc hg htk hE hF hap hbr
      go_upto_region 5 with (fail)
      have hk3 := Blk.new wr 82 #[.int .i64 d, .int .i64 mk, .int .i64 ms, .int .i64 mt, .int .i64 mq, .int .u32 mc, .slice A n c]
      have hb3 : Below wr.heap.size wr (wr.alloc (.cells #[.int .i64 d, .int .i64 mk, .int .i64 ms, .int .i64 mt, .int .i64 mq, .int .u32 mc, .slice A n c] 82)) := (Below.refl _ _).alloc (Nat.le_refl _) _
      generalize wr.alloc (.cells #[.int .i64 d, .int .i64 mk, .int .i64 ms, .int .i64 mt, .int .i64 mq, .int .u32 mc, .slice A n c] 82) = w3 at hk3 hb3 ⊢
      have y0 := hk3.cell 0 _ rfl
      have y1 := hk3.cell 1 _ rfl
      have y2 := hk3.cell 2 _ rfl
      have y3 := hk3.cell 3 _ rfl
      have y4 := hk3.cell 4 _ rfl
      have y5 := hk3.cell 5 _ rfl
      have y6 := hk3.cell 6 _ rfl
      have hh3 := own_below hoh hb3 (Nat.le_refl _)
      have hr3 := own_below hor hb3 (Nat.le_refl _)
      have hz3 : w.heap.size ≤ w3.heap.size := Nat.le_trans hz hb3.size
      have HB3 := Lib.hid (HBR.out.trans (hb3.mono hz))
      have HH3 := Lib.hid hh3
      have HR3 := Lib.hid hr3
      clear hk3 hb3 x0 x1 x2 x3 x4 x5 x6 hoh hor hh3 hr3
      by_cases hto : mt = rcv
      · subst hto
        by_cases hd : d ≤ tick
        · have hgo : goesS tick mt (d, ⟨⟨mk, ms, mt, mq, mc, ml⟩, A, n, c⟩) = true := by simp [goesS, goesB, absK, hd]
          go_wp2_with (at_builtin; refine wpList_pushN rfl (.tmp 34) (.tmp 36) 77 rfl w.heap.size 82 i0 (.agg #[.int .i64 0, .int .i64 0, .int .i64 0, .int .i64 0, .int .i64 0, .int .u32 0, .slice none 0 0]) 7 72 Try.underlying77 hi0 hz0 hz1 hz2 rfl (by omega) _ E.length _ rfl HH3.out [.int .i64 d, .int .i64 mk, .int .i64 ms, .int .i64 mt, .int .i64 mq, .int .u32 mc, .slice A n c] rfl rfl (by simp [Value.oneCell']) (by unfold maxLen; omega) (by omega) hz3 ?_; intro v4 w4 hn4 hm4 hv4 hs4; have HX := Lib.hid (HYES.out w4 v4 hgo hn4 (hm4.own HR3.out (fun g cs hg _ hf => HAP.out g hf hg)) (fun g hg hf => (hv4 g hg).elim (fun h => HAP.out g h hf) (fun h => by have := (HR3.out.lt g hf).2; omega)) (HB3.out.trans (hm4.below (fun k hk hf => by have := (HH3.out.lt k hf).1; omega) hz3))); obtain ⟨g4, c4, rfl⟩ := hs4; clear hn4 hm4 hv4)
          go_roundw
          case rel => exact HX.out
          case measure => simp [intOf]; omega
        · have hgo : goesS tick mt (d, ⟨⟨mk, ms, mt, mq, mc, ml⟩, A, n, c⟩) = false := by simp [goesS, goesB, absK, hd]
          go_wp2_with (at_builtin; refine wpList_pushN rfl (.tmp 38) (.tmp 40) 77 rfl w.heap.size 82 i0 (.agg #[.int .i64 0, .int .i64 0, .int .i64 0, .int .i64 0, .int .i64 0, .int .u32 0, .slice none 0 0]) 7 72 Try.underlying77 hi0 hz0 hz1 hz2 rfl (by omega) _ F.length _ rfl HR3.out [.int .i64 d, .int .i64 mk, .int .i64 ms, .int .i64 mt, .int .i64 mq, .int .u32 mc, .slice A n c] rfl rfl (by simp [Value.oneCell']) (by unfold maxLen; omega) (by omega) hz3 ?_; intro v4 w4 hn4 hm4 hv4 hs4; have HX := Lib.hid (HNO.out w4 v4 hgo hn4 (hm4.own HH3.out (fun g cs hg _ hf => HAP.out g hg hf)) (fun g hg hf => (hv4 g hf).elim (fun h => HAP.out g hg h) (fun h => by have := (HH3.out.lt g hg).2; omega)) (HB3.out.trans (hm4.below (fun k hk hf => by have := (HR3.out.lt k hf).1; omega) hz3))); obtain ⟨g4, c4, rfl⟩ := hs4; clear hn4 hm4 hv4)
          go_roundw
          case rel => exact HX.out
          case measure => simp [intOf]; omega
      · have hq : (mt == rcv) = false := by simpa using hto
        have hgo : goesS tick rcv (d, ⟨⟨mk, ms, mt, mq, mc, ml⟩, A, n, c⟩) = false := by simp [goesS, goesB, absK, hto]
        go_wp2_with (at_builtin; refine wpList_pushN rfl (.tmp 38) (.tmp 40) 77 rfl w.heap.size 82 i0 (.agg #[.int .i64 0, .int .i64 0, .int .i64 0, .int .i64 0, .int .i64 0, .int .u32 0, .slice none 0 0]) 7 72 Try.underlying77 hi0 hz0 hz1 hz2 rfl (by omega) _ F.length _ rfl HR3.out [.int .i64 d, .int .i64 mk, .int .i64 ms, .int .i64 mt, .int .i64 mq, .int .u32 mc, .slice A n c] rfl rfl (by simp [Value.oneCell']) (by unfold maxLen; omega) (by omega) hz3 ?_; intro v4 w4 hn4 hm4 hv4 hs4; have HX := Lib.hid (HNO.out w4 v4 hgo hn4 (hm4.own HH3.out (fun g cs hg _ hf => HAP.out g hg hf)) (fun g hg hf => (hv4 g hf).elim (fun h => HAP.out g hg h) (fun h => by have := (HH3.out.lt g hg).2; omega)) (HB3.out.trans (hm4.below (fun k hk hf => by have := (HR3.out.lt k hf).1; omega) hz3))); obtain ⟨g4, c4, rfl⟩ := hs4; clear hn4 hm4 hv4)
        go_roundw
        case rel => exact HX.out
        case measure => simp [intOf]; omega
    · obtain rfl : j = ks.length := by omega
      have hji : ¬ (ks.length : Int) < (ks.length : Int) := by omega
      rw [List.take_length] at hE hF
      have hkb4 := HKB.out.below hbr HKB.out.lt
      have c2 := hkb4.cell 2 _ rfl
      have f2 := hkb4.free 2
      have HBR := Lib.hid hbr
      have HOH := Lib.hid hoh
      have HOR := Lib.hid hor
      have HAP := Lib.hid hap
      have hEk : ∀ k ∈ E, 0 ≤ k.1 ∧ k.1 ≤ 4001 := fun k hk => by
        rw [hE] at hk
        have := HOK.out.2 (absK k) (by rw [← HKS.out]; exact List.mem_map_of_mem (List.mem_filter.1 hk).1)
        exact ⟨this.1, this.2.1⟩
      have hoh4 : (wr.setCell ⟨B, 2, none⟩ (.slice Ar F.length cr)).ownsRow w.heap.size 82 7 (.slice Ah E.length ch) E.length (E.flatMap encS) := ownsRow_setCell_below hoh HBL.out _
      have HSR := Lib.hid (sort_row (wr.setCell ⟨B, 2, none⟩ (.slice Ar F.length cr)) w.heap.size (.slice Ah E.length ch) E hoh4 hEk hEl)
      have HE2 := Lib.hid hE
      have HF2 := Lib.hid hF
      clear hE hF HE HF hkb4 hbr hoh hor hap hEk hoh4
      go_upto_region 10 with (fail)
      obtain ⟨w4, hw4⟩ : ∃ w4, w4 = wr.setCell ⟨B, 2, none⟩ (.slice Ar F.length cr) := ⟨_, rfl⟩
      rw [← hw4] at HSR ⊢
      have HW4 := Lib.hid hw4
      clear hw4 c2 f2
      go_wp2_with fail
      refine HSR.out.mono ?_
      rintro e w5 ⟨rfl, L, hL, hLp, hoL, hm5⟩
      have hLl : L.length = E.length := hLp.length_eq
      obtain ⟨_, _, hse, _, _, hrL⟩ := own_rd hoL
      injection hse with e1 e2 e3
      subst e1 e3
      have HLL := Lib.hid hLl
      have HRL := Lib.hid (show Rd w5 w5.heap.size 7 Ah E.length (L.flatMap encS) by rw [← hLl]; exact hrL)
      have HL := Lib.hid hL
      have HLP := Lib.hid hLp
      have HM5 := Lib.hid hm5
      have hst2 := Lib.hid (show T2Rel w5 L E.length (.slice none 0 0) (.int .i64 0) w5 from ⟨0, Nat.zero_le _, rfl, World.ownsRow_nil _ _ _ _, Below.refl _ _⟩)
      clear hL hLp hoL hm5 e2 hrL hLl HSR
      go_wp2_with fail
      go_loopw [11, 51] (fun out i wr => T2Rel w5 L E.length out i wr) (fun _ i _ => E.length - (intOf i).toNat)
      case atStart => exact hst2.out
      case round =>
        clear hst2
        obtain ⟨j, hj, rfl, hou, hbr⟩ := hrel
        obtain ⟨Ao, co, rfl, _, _, _⟩ := own_rd hou
        have hz := hbr.size
        by_cases hlt : j < E.length
        · have hji : (j : Int) < (E.length : Int) := by omega
          have hwj : IntKind.i64.wrap ((j : Int) + 1) = (j : Int) + 1 := by rw [IntKind.wrap_i64]; omega
          obtain ⟨bf, of, ⟨d, ⟨⟨mk, ms, mt, mq, mc, ml⟩, A, n, c⟩⟩, rfl, hbB, hg, hcc⟩ := (HRL.out.below hbr).elem encS_len HLL.out hlt
          have x0 : wr.cell? ⟨bf, of + j * 7, none⟩ = some (.int .i64 d) := hcc 0 _ rfl
          have x1 : wr.cell? ⟨bf, of + j * 7 + 1, none⟩ = some (.int .i64 mk) := hcc 1 _ rfl
          have x2 : wr.cell? ⟨bf, of + j * 7 + 2, none⟩ = some (.int .i64 ms) := hcc 2 _ rfl
          have x3 : wr.cell? ⟨bf, of + j * 7 + 3, none⟩ = some (.int .i64 mt) := hcc 3 _ rfl
          have x4 : wr.cell? ⟨bf, of + j * 7 + 4, none⟩ = some (.int .i64 mq) := hcc 4 _ rfl
          have x5 : wr.cell? ⟨bf, of + j * 7 + 5, none⟩ = some (.int .u32 mc) := hcc 5 _ rfl
          have x6 : wr.cell? ⟨bf, of + j * 7 + 6, none⟩ = some (.slice A n c) := hcc 6 _ rfl
          have htk : L.take (j + 1) = L.take j ++ [(d, ⟨⟨mk, ms, mt, mq, mc, ml⟩, A, n, c⟩)] := by
            obtain ⟨hj', e⟩ := List.getElem?_eq_some_iff.1 hg
            rw [List.take_succ_eq_append_getElem hj', e]
          have HST := Lib.hid (fun (W : World) (u : Value) (h1 : W.ownsRow w5.heap.size 43 6 u (j + 1) (((L.take j).map (·.2)).flatMap encM ++ encM ⟨⟨mk, ms, mt, mq, mc, ml⟩, A, n, c⟩)) (h4 : Below w5.heap.size w5 W) => show T2Rel w5 L E.length u (.int .i64 ((j : Int) + 1)) W from ⟨j + 1, hlt, by simp, by
            rw [htk, List.map_append, List.flatMap_append]
            simpa using h1, h4⟩)
          have HBQ := Lib.hid hbr
          clear hcc hg htk hbr
          go_upto_region 15 with (fail)
          have hk3 := Blk.new wr 82 #[.int .i64 d, .int .i64 mk, .int .i64 ms, .int .i64 mt, .int .i64 mq, .int .u32 mc, .slice A n c]
          have hb3 : Below wr.heap.size wr (wr.alloc (.cells #[.int .i64 d, .int .i64 mk, .int .i64 ms, .int .i64 mt, .int .i64 mq, .int .u32 mc, .slice A n c] 82)) := (Below.refl _ _).alloc (Nat.le_refl _) _
          generalize wr.alloc (.cells #[.int .i64 d, .int .i64 mk, .int .i64 ms, .int .i64 mt, .int .i64 mq, .int .u32 mc, .slice A n c] 82) = w6 at hk3 hb3 ⊢
          have y1 := hk3.cell 1 _ rfl
          have y2 := hk3.cell 2 _ rfl
          have y3 := hk3.cell 3 _ rfl
          have y4 := hk3.cell 4 _ rfl
          have y5 := hk3.cell 5 _ rfl
          have y6 := hk3.cell 6 _ rfl
          have ho6 := own_below hou hb3 (Nat.le_refl _)
          have hz6 : w5.heap.size ≤ w6.heap.size := Nat.le_trans hz hb3.size
          have HB6 := Lib.hid (HBQ.out.trans (hb3.mono hz))
          have HO6 := Lib.hid ho6
          clear hk3 hb3 x0 x1 x2 x3 x4 x5 x6 hou ho6
          go_wp2_with (at_builtin; refine wpList_pushN rfl (.tmp 55) (.tmp 58) 23 rfl w5.heap.size 43 j0 (.agg #[.int .i64 0, .int .i64 0, .int .i64 0, .int .i64 0, .int .u32 0, .slice none 0 0]) 6 64 Try.underlying23 hj0 hy0 hy1 hy2 rfl (by omega) _ j _ rfl HO6.out [.int .i64 mk, .int .i64 ms, .int .i64 mt, .int .i64 mq, .int .u32 mc, .slice A n c] rfl rfl (by simp [Value.oneCell']) (by unfold maxLen; omega) (by omega) hz6 ?_; intro v4 w4' hn4 hm4 hv4 hs4; have HX := Lib.hid (HST.out w4' v4 hn4 (HB6.out.trans (hm4.below (fun k hk hf => by have := (HO6.out.lt k hf).1; omega) hz6))); obtain ⟨g4, c4, rfl⟩ := hs4; clear hn4 hm4 hv4)
          go_roundw
          case rel => exact HX.out
          case measure => simp [intOf]; omega
        · obtain rfl : j = E.length := by omega
          have hji : ¬ (E.length : Int) < (E.length : Int) := by omega
          have HX := Lib.hid (show TakePost w base B FS T K tick rcv (.returned (.slice Ao E.length co)) wr from by
            have hou2 : wr.ownsRow w5.heap.size 43 6 (.slice Ao E.length co) L.length ((L.map (·.2)).flatMap encM) := by
              rw [← HLL.out, List.take_length] at hou
              rw [HLL.out] at hou ⊢
              exact hou
            have hEe := HE2.out
            have hFe := HF2.out
            have hoh := HOH.out
            have hor := HOR.out
            have hL := HL.out
            have hLp := HLP.out
            have hap := HAP.out
            have hm5 := HM5.out
            have hw4 := HW4.out
            subst hEe hFe
            exact take_end HN.out HKS.out HKV.out HMO.out hbase HBR.out hoh hor hap hw4 hL hLp hm5 hbr hou2)
          clear hou hbr
          go_wp2
          go_ret
          exact HX.out
end Go.Proofs.Ytpnefacignalpaa
