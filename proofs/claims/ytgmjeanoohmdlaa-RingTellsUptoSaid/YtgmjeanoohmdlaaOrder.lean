/- slices.ContainsFunc at integers over any closure; ring.Order. Conditions: those typed. -/
import Derived.Test.YtgmjeanoohmdlaaOrderPlain
namespace Go.Proofs.Ytgmjeanoohmdlaa
open Go.RowKit Go.Gy
set_option linter.unusedVariables false
def idxP (l : List Int) (p : Int → Bool) : Int := match l.findIdx? p with
  | some i => i
  | none => -1
set_option maxRecDepth 100000 in
set_option maxHeartbeats 400000 in
theorem idxf_any (F : Nat) (hF : ∀ args w, (callFunc F args).run Try.prog w = .ok (.enter F args) w) (w : World) (cap : Array Value) (p : Int → Bool) (v : Value) (B : Nat) (l : List Int) (hv : SlI w B v l) (hn : l.length ≤ 140737488355328)
    (hp : ∀ x, x ∈ l → Calls Try.prog F (#[iv x] ++ cap) w fun e w' => e = .returned (.bool (p x)) ∧ w = w') :
    Calls Try.prog 23 #[v, .func (.func F) #[] cap] w fun e w' => e = .returned (.int .i64 (idxP l p)) ∧ w = w' := by
  obtain ⟨A, n, c, rfl, hl, _, _, hr⟩ := hv
  rw [hl] at hn
  have Hl := Lib.hid hl
  have Hp := Lib.hid hp
  clear hl hp
  go_enter Try.func23, Try.ntmps23
  go_wp2
  go_loop [8] (fun i => ∃ k : Nat, k ≤ n ∧ i = .int .i64 k ∧ ∀ j a, j < k → l[j]? = some a → p a = false) (fun i => n - (intOf i).toNat)
  case atStart => exact ⟨0, Nat.zero_le _, rfl, fun j a h => absurd h (by omega)⟩
  case round =>
    obtain ⟨k, hk, rfl, hno⟩ := hrel
    have Hno := Lib.hid hno
    clear hno
    by_cases hlt : k < n
    · obtain ⟨b, o, z, rfl, hbb, hz, hc⟩ := hr.one hlt
      have Hz := Lib.hid hz
      have Hc := Lib.hid (Hp.out z (List.mem_of_getElem? hz))
      have hlt' : (k : Int) < (n : Int) := by omega
      clear hz
      go_wp2_with fail
      refine Hc.out.mono ?_
      rintro e w' ⟨rfl, rfl⟩
      obtain ⟨q, hq⟩ : ∃ q, p z = q := ⟨_, rfl⟩
      rw [hq]
      have Hq := Lib.hid hq
      clear hq
      cases q
      · go_wp2
        go_round
        case rel =>
          refine ⟨k + 1, by omega, by go_num, fun i x hi hx => ?_⟩
          by_cases hik : i = k
          · subst hik
            rw [Hz.out] at hx
            injection hx with hx
            subst hx
            exact Hq.out
          · exact Hno.out i x (by omega) hx
        case measure => simp [intOf]; omega
      · go_wp2
        go_ret
        refine ⟨ret_int ?_, rfl⟩
        have hkl : k < l.length := by rw [Hl.out]; omega
        have : l.findIdx? p = some k := by
          rw [List.findIdx?_eq_some_iff_getElem]
          refine ⟨hkl, ?_, fun i hi => ?_⟩
          · have := Hz.out
            rw [List.getElem?_eq_getElem hkl] at this
            injection this with this
            rw [this]; exact Hq.out
          · rw [Hno.out i _ hi (List.getElem?_eq_getElem (by omega))]; simp
        simp [idxP, this]
    · obtain rfl : k = n := by omega
      go_wp2
      go_ret
      refine ⟨ret_int ?_, rfl⟩
      have : l.findIdx? p = none := by
        rw [List.findIdx?_eq_none_iff]
        intro a ha
        obtain ⟨j, hj, rfl⟩ := List.getElem_of_mem ha
        exact Hno.out j _ (by rw [Hl.out] at hj; exact hj) (List.getElem?_eq_getElem hj)
      simp [idxP, this]
theorem any_find (l : List Int) (p : Int → Bool) : decide (0 ≤ idxP l p) = l.any p := by
  unfold idxP
  cases h : l.findIdx? p with
  | none =>
    rw [List.findIdx?_eq_none_iff] at h
    have : l.any p = false := by rw [List.any_eq_false]; intro x hx; simp [h x hx]
    simp [this]
  | some i =>
    rw [List.findIdx?_eq_some_iff_getElem] at h
    obtain ⟨hi, h1, _⟩ := h
    have : l.any p = true := by rw [List.any_eq_true]; exact ⟨_, List.getElem_mem hi, h1⟩
    simp [this]
set_option maxRecDepth 100000 in
theorem contf_any (F : Nat) (hF : ∀ args w, (callFunc F args).run Try.prog w = .ok (.enter F args) w) (w : World) (cap : Array Value) (p : Int → Bool) (v : Value) (B : Nat) (l : List Int) (hv : SlI w B v l) (hn : l.length ≤ 140737488355328)
    (hp : ∀ x, x ∈ l → Calls Try.prog F (#[iv x] ++ cap) w fun e w' => e = .returned (.bool (p x)) ∧ w = w') :
    Calls Try.prog 12 #[v, .func (.func F) #[] cap] w fun e w' => e = .returned (.bool (l.any p)) ∧ w = w' := by
  have Hc := Lib.hid (idxf_any F hF w cap p v B l hv hn hp)
  have He := Lib.hid (any_find l p)
  obtain ⟨A, n, c, rfl, _⟩ := hv
  clear hp hF
  go_enter Try.func12, Try.ntmps12
  go_wp2_with fail
  refine Hc.out.mono ?_
  rintro e w' ⟨rfl, rfl⟩
  obtain ⟨q, hq⟩ : ∃ q : Int, q = idxP l p := ⟨_, rfl⟩
  rw [← hq]
  have He' := He.out
  rw [← hq] at He'
  have He'' := Lib.hid He'
  clear hq He' He Hc
  go_wp2
  go_ret
  exact ⟨ret_bool He''.out, rfl⟩
set_option maxRecDepth 100000 in
theorem enters_own {f : FuncId} {fn : Func} {c : Code} (hf : Try.prog.funcs[f]? = some fn) (hname : (fn.name == "runtime.NumGoroutine") = false) (hb : fn.body = some c) (args : Array Value) (w : World) : (callFunc f args).run Try.prog w = .ok (.enter f args) w := by
  have h1 : fn.name ≠ "runtime.NumGoroutine" := by simpa using hname
  simp [callFunc, hf, h1, hb, mark]
set_option maxRecDepth 100000 in
theorem closure_order (w : World) (x : Int) (b B : Nat) (v : Value) (l : List Int) (hc : w.cell? ⟨b, 0, none⟩ = some v) (hv : SlI w B v l) (hn : l.length ≤ 140737488355328) :
    Calls Try.prog 24 #[iv x, .pointer (some ⟨b, 0, none⟩)] w fun e w' => e = .returned (.bool (!decide (x ∈ l))) ∧ w = w' := by
  have HC := Lib.hid (contains_ints w v B l x hv hn)
  obtain ⟨A, n, c, rfl, _⟩ := hv
  go_enter Try.func24, Try.ntmps24
  go_wp2_with fail
  refine HC.out.mono ?_
  rintro e w' ⟨rfl, rfl⟩
  obtain ⟨q, hq⟩ : ∃ q, decide (x ∈ l) = q := ⟨_, rfl⟩
  rw [hq]
  have Hq := Lib.hid hq
  clear hq HC
  go_wp2
  go_ret
  exact ⟨ret_bool (by rw [Hq.out]), rfl⟩
def OrdRel (w : World) (G : Nat) (rs : List (List Int)) (g : Nat) (wr : World) : Prop := ∃ (m : Nat) (v : Value), m + g = rs.length ∧ Blk wr G 22 #[v] ∧ wr.ownsRow (G + 1) 3 1 v m ((orderN rs m).map iv) ∧ Below w.heap.size w wr
set_option maxRecDepth 100000 in
set_option maxHeartbeats 2000000 in
theorem order_good (w : World) (v : Value) (rs : List (List Int)) (hv : RowsI w w.heap.size v rs) (hg : GoodG rs) (p : Nat → Bool) (hp : ∀ i, p i = true ↔ Reach rs i i) (h0 : stuckI p rs.length = []) :
    Calls Try.prog 14 #[v] w (OwnIE w (orderN rs rs.length)) := by
  have HS := Lib.hid (stuck_good w v rs hv hg p hp)
  have hn64 := hg.len
  have hac : ∀ i, ¬ Reach rs i i := by
    intro i hi
    have hl : i < rs.length := by
      cases hi with
      | one h => exact hg.edge h
      | more _ h => exact hg.edge h
    have := mem_stuckI hl ((hp i).2 hi)
    rw [h0] at this
    cases this
  rw [h0] at HS
  have Hac := Lib.hid hac
  have Hg := Lib.hid hg
  obtain ⟨A, n, c, vs, rfl, hN, hcap, hA, hr, hs⟩ := hv
  have HN := Lib.hid hN
  have Hs := Lib.hid hs
  obtain ⟨j0, hji, hy0, hy1, hy2⟩ := info_parts info_int
  rw [hN] at hn64
  clear hg hp h0 hN hs hac
  go_enter Try.func14, Try.ntmps14
  go_wp2_with fail
  refine HS.out.mono ?_
  rintro e w1 ⟨v1, rfl, hown, hb1⟩
  obtain ⟨A1, c1, rfl, _, _, _⟩ := own_rd hown
  have hz1 := hb1.size
  have Hb1 := Lib.hid hb1
  clear hown hb1 HS
  go_wp2_with fail
  go_loopg [] n (fun g wr => OrdRel w w1.heap.size rs g wr)
  case atStart =>
    exact ⟨0, .slice none 0 0, by rw [HN.out]; omega, Blk.new _ _ _, World.ownsRow_nil _ _ _ _, Hb1.out.alloc hz1 _⟩
  case round =>
    obtain ⟨wq, rfl⟩ : ∃ wq, wq = wr := ⟨_, rfl⟩
    obtain ⟨m, vo, hmg, hB, hown, hb⟩ := hrel
    rw [HN.out] at hmg
    have hcb := hB.cell 0 vo rfl
    have hfz := hB.free 0
    have hzq := hb.size
    have HB := Lib.hid hB
    have hGl := hB.lt
    have hol := SlI.own (r := orderN rs m) hown
    obtain ⟨Ao, co, rfl, _, _, _⟩ := own_rd hown
    have Hown := Lib.hid hown
    have Hol := Lib.hid hol
    clear hB hown hol
    by_cases hmn : m < n
    · obtain ⟨i0, hi0, hnext, hok, hfirst⟩ := next_ok Hg.out Hac.out (orderN_inv Hg.out Hac.out m (by rw [HN.out]; omega)) (by rw [orderN_len, HN.out]; exact hmn)
      rw [HN.out] at hi0
      have hmn' : (m : Int) < (n : Int) := by omega
      have Hnext := Lib.hid hnext
      have Hok := Lib.hid hok
      have Hfirst := Lib.hid hfirst
      clear hnext hok hfirst
      go_wp2_with fail
      go_loop [27] (fun i => ∃ k : Nat, k ≤ i0 ∧ i = .int .i64 (k : Int)) (fun i => n - (intOf i).toNat)
      case atStart => exact ⟨0, Nat.zero_le _, rfl⟩
      case round =>
        obtain ⟨k, hk, rfl⟩ := hrel
        have hkn : k < n := by omega
        have hkn' : (k : Int) < (n : Int) := by omega
        obtain ⟨b, o, u, rfl, hbB, hu, hc⟩ := (hr.below hb).at_ hkn
        have hrk : rs[k]? = some (rs[k]'(by have := HN.out; omega)) := List.getElem?_eq_getElem _
        obtain ⟨r, hr0⟩ : ∃ r, r = rs[k]'(by have := HN.out; omega) := ⟨_, rfl⟩
        rw [← hr0] at hrk
        have hsr := (Hs.out.below hb).2 k u r hu hrk
        obtain ⟨Ar, mr, cr, rfl, hmr, _, _, hrr⟩ := id hsr
        have hgd : rs.getD k [] = r := by rw [List.getD_eq_getElem?_getD, hrk]; rfl
        have hrb := Hg.out.row (List.mem_of_getElem? hrk)
        have hokk : okB rs (orderN rs m) k = (!decide ((k : Int) ∈ orderN rs m) && !(r.any fun x => !decide (x ∈ orderN rs m))) := by unfold okB; rw [hgd]
        have HC := Lib.hid (contains_ints wq (.slice Ao m co) _ (orderN rs m) (k : Int) Hol.out (by rw [orderN_len]; omega))
        have HF := Lib.hid (contf_any 24 (enters_own Try.func24 (by kernel_rfl) rfl) wq #[.pointer (some ⟨w1.heap.size, 0, none⟩)] (fun x => !decide (x ∈ orderN rs m)) _ _ r hsr (by omega) (fun x _ => closure_order wq x w1.heap.size _ _ (orderN rs m) hcb Hol.out (by rw [orderN_len]; omega)))
        have Hokk := Lib.hid hokk
        clear hu hr0 hrk hsr hgd hokk hmr
        go_wp2_with fail
        refine HC.out.mono ?_
        rintro e w' ⟨rfl, rfl⟩
        by_cases hin : (k : Int) ∈ orderN rs m
        · have hkk : k ≠ i0 := by
            rintro rfl
            have := Hok.out
            rw [Hokk.out] at this
            simp [hin] at this
          rw [decide_eq_true hin]
          clear HC HF hin
          go_wp2_with fail
          go_round
          case rel => exact ⟨k + 1, by omega, by go_num⟩
          case measure => simp [intOf]; omega
        · have Hin := Lib.hid hin
          rw [decide_eq_false hin]
          clear HC hin
          go_wp2_with fail
          refine HF.out.mono ?_
          rintro e w' ⟨rfl, rfl⟩
          obtain ⟨q, hq⟩ : ∃ q, (r.any fun x => !decide (x ∈ orderN rs m)) = q := ⟨_, rfl⟩
          rw [hq]
          have Hq := Lib.hid hq
          clear hq HF
          cases q with
          | true =>
            have hkk : k ≠ i0 := by
              rintro rfl
              have := Hok.out
              rw [Hokk.out, Hq.out] at this
              simp at this
            go_wp2_with fail
            go_round
            case rel => exact ⟨k + 1, by omega, by go_num⟩
            case measure => simp [intOf]; omega
          | false =>
            obtain rfl : k = i0 := by
              rcases Nat.lt_or_ge k i0 with h1 | h1
              · have h2 := Hfirst.out k h1
                rw [Hokk.out, Hq.out, decide_eq_false Hin.out] at h2
                cases h2
              · omega
            have hlm : m + 1 ≤ maxLen := by unfold maxLen; omega
            go_wp2_with (at_builtin; refine wpList_push rfl (.tmp 39) (.tmp 41) 22 rfl (w1.heap.size + 1) 3 j0 (.int .i64 0) 1 8 Try.underlying22 hji hy0 hy1 hy2 rfl (by omega) _ m _ rfl Hown.out [_] rfl rfl (by simp [Value.oneCell']) hlm (by omega) hGl ?_; intro v6 w6 hn6 hb6 hv6; obtain ⟨g6, c6, rfl, hg6, hg6l⟩ := hv6; have hB6 := HB.out.below hb6 (by omega); have hcb6 := hB6.cell 0 _ rfl; have hfz6 := hB6.free 0)
            go_roundg (n - (m + 1))
            case measure => omega
            case rel => exact ⟨m + 1, _, by rw [HN.out]; omega, hB6.set 0 _, ownsRow_setCell_below (by simp only [orderN, Hnext.out, List.map_append]; exact hn6) (by show w1.heap.size < _; omega) _, (hb.trans (hb6.mono (by omega))).setCell hz1 _⟩
    · obtain rfl : m = n := by omega
      have HP := Lib.hid (show OwnIE w (orderN rs rs.length) (.returned (.tuple #[.slice Ao m co, .int .i64 0])) wq from ⟨_, rfl, by rw [orderN_len, HN.out]; exact own_mono Hown.out (by omega), hb⟩)
      go_wp2_with fail
      go_ret2
      exact HP.out
end Go.Proofs.Ytgmjeanoohmdlaa
