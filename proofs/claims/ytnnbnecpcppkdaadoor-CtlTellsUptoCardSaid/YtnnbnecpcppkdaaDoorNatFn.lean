/- nat.short, nat.trim, nat.fromShort: numbers of at most 8 bytes; without leading zeros. nat.words, nat.text: a number as digits of 32 bits, and back. nat.Of, nat.Int, nat.Cmp: from and to integers, comparison. nat.Add: the sum of two numbers. nat.less, nat.Sub: differences. nat.Mul: the product of two numbers. nat.left, nat.takeAway, nat.putBack: what long division does. nat.long: long division. nat.Div: quotient and remainder. Conditions: those typed. -/
import Derived.Test.YtnnbnecpcppkdaaDoorWords
import Derived.Test.YtnnbnecpcppkdaaDoorNatP
import Derived.Test.YtnnbnecpcppkdaaDoorProg
import Derived.Laws.BytesArg
import Derived.StillTailTactics
import Derived.Test.YtnnbnecpcppkdaaDoorShelf
import Derived.Deep.DeepCutAuto
import Derived.Deep.RegionWith
import Derived.Deep.CutBlock
import Derived.RegionTactic
namespace Go.Proofs.YtnnbnecpcppkdaaDoor
open Go.RowKit Go.Gy
set_option linter.unusedVariables false
theorem ret_str {a b : ByteArray} (h : a = b) : Ending.returned (.string a) = .returned (.string b) := by rw [h]
theorem take_snoc (s : ByteArray) (k : Nat) (h : k < s.size) : s.data.toList.take (k + 1) = s.data.toList.take k ++ [s[k]] := by
  rw [List.take_succ_eq_append_getElem (by simpa using h)]; rfl
theorem ofInt_u64 (a : Nat) (ha : a < 18446744073709551616) : (BitVec.ofInt 64 (a : Int)).toNat = a := by
  rw [BitVec.ofInt_natCast, BitVec.toNat_ofNat]; exact Nat.mod_eq_of_lt (by omega)
theorem u64_or (a b : Nat) (ha : a < 18446744073709551616) (hb : b < 18446744073709551616) : bits .or .u64 (a : Int) (b : Int) = ((a ||| b : Nat) : Int) := by
  have hx : a ||| b < 2 ^ 64 := Nat.or_lt_two_pow (by omega) (by omega)
  show IntKind.u64.wrap ((BitVec.ofInt 64 (a : Int) ||| BitVec.ofInt 64 (b : Int)).toNat : Int) = _
  rw [BitVec.toNat_or, ofInt_u64 a ha, ofInt_u64 b hb, IntKind.wrap_u64]
  omega
theorem or_add (m k x : Nat) (hx : x < 2 ^ k) : (2 ^ k * m) ||| x = 2 ^ k * m + x := (Nat.two_pow_add_eq_or_of_lt hx m).symm
theorem or_byte (m x : Nat) (hm : m < 72057594037927936) (hx : x < 256) : bits .or .u64 ((m : Int) * 256) (x : Int) = ((256 * m + x : Nat) : Int) := by
  have := u64_or (256 * m) x (by omega) (by omega)
  rw [or_add m 8 x (by omega)] at this
  rw [← this]
  congr 1
  omega
set_option maxRecDepth 100000 in
set_option maxHeartbeats 1000000 in
theorem short_any (w : World) (s : ByteArray) (hs : s.size ≤ 8) :
    Calls Tryd.prog 107 #[.string s] w fun e w' => e = .returned (.int .u64 ((sval s : Nat) : Int)) ∧ w = w' := by
  go_enter Tryd.func107, Tryd.ntmps107
  go_wp2
  go_loop [3, 7] (fun n i => ∃ k m : Nat, k ≤ s.size ∧ i = .int .i64 k ∧ n = .int .u64 m ∧ Hid (m = bval (s.data.toList.take k))) (fun _ i => s.size - (intOf i).toNat)
  case atStart => exact ⟨0, 0, Nat.zero_le _, rfl, rfl, Lib.hid rfl⟩
  case round =>
    obtain ⟨k, m, hk, rfl, rfl, Hm⟩ := hrel
    by_cases hlt : k < s.size
    · have hm : m < 72057594037927936 := by
        rw [Hm.out]
        have h1 := bval_lt (s.data.toList.take k)
        rw [List.length_take] at h1
        exact Nat.lt_of_lt_of_le h1 (Nat.le_trans (Nat.pow_le_pow_right (by omega) (show min k s.data.toList.length ≤ 7 by omega)) (by decide))
      have hx := s[k].toNat_lt
      have Ho := or_byte m s[k].toNat hm hx
      have Hs := Lib.hid (show 256 * m + s[k].toNat = bval (s.data.toList.take (k + 1)) by rw [take_snoc s k hlt, bval_snoc, Hm.out])
      go_wp2
      go_round
      case rel => exact ⟨k + 1, 256 * m + s[k].toNat, by omega, by go_num, by go_num, Hs⟩
      case measure => simp [intOf]; omega
    · obtain rfl : k = s.size := by omega
      go_wp2
      go_ret
      refine ⟨ret_int ?_, rfl⟩
      rw [Hm.out, List.take_of_length_le (by simp)]
      rfl
theorem natS_of {t : ByteArray} (h : ∀ c r, t.data.toList = c :: r → c ≠ 0) : t = natS (sval t) := by
  apply ByteArray.ext
  apply Array.toList_inj.mp
  rw [natS_list]
  exact (natL_bval h).symm
theorem str_cons (t : ByteArray) (h : 0 < t.size) : t.data.toList = t[0] :: (t.extract 1 t.size).data.toList := by
  have h1 := take_snoc t 0 h
  have h2 : (t.extract 1 t.size).data.toList = t.data.toList.drop 1 := by
    simp
    rw [List.take_of_length_le (by simp)]
  rw [h2]
  have h3 := (List.take_append_drop 1 t.data.toList).symm
  rw [h1] at h3
  simpa using h3
set_option maxRecDepth 100000 in
set_option maxHeartbeats 1000000 in
theorem trim_any (w : World) (s : ByteArray) (hs : s.size ≤ 140737488355328) :
    Calls Tryd.prog 104 #[.string s] w fun e w' => e = .returned (.string (natS (sval s))) ∧ w = w' := by
  go_enter Tryd.func104, Tryd.ntmps104
  go_wp2
  go_loop [0] (fun v => ∃ t : ByteArray, v = .string t ∧ t.size ≤ s.size ∧ Hid (sval t = sval s)) (fun v => match v with | .string t => t.size | _ => 0)
  case atStart => exact ⟨s, rfl, Nat.le_refl _, Lib.hid rfl⟩
  case round =>
    obtain ⟨t, rfl, ht, Hv⟩ := hrel
    by_cases h0 : t.size = 0
    · have hd : decide (0 < t.size) = false := by simpa using h0
      have He := Lib.hid (show t = natS (sval s) by
        rw [← Hv.out]
        exact natS_of fun c r e => by
          have : t.data.toList.length = 0 := by simpa using h0
          rw [e] at this
          cases this)
      clear h0
      go_wp2
      go_ret
      exact ⟨ret_str He.out, rfl⟩
    · have hpos : 0 < t.size := by omega
      have hcons := str_cons t hpos
      by_cases hc : t[0].toNat = 0
      · have hcb : ((t[0].toNat : Int) == 0) = true := by rw [hc]; rfl
        have Hs := Lib.hid (show sval (t.extract 1 t.size) = sval s by
          rw [← Hv.out]
          unfold sval
          rw [hcons, bval_cons, hc]
          simp)
        have hz : (t.extract 1 t.size).size = t.size - 1 := by simp
        clear hcons hc h0
        go_wp2
        go_round
        case rel => exact ⟨_, rfl, by omega, Hs⟩
        case measure => simp; omega
      · have hcb : ((t[0].toNat : Int) == 0) = false := by simpa using hc
        have He := Lib.hid (show t = natS (sval s) by
          rw [← Hv.out]
          exact natS_of fun c r e => by
            rw [hcons] at e
            injection e with e1 e2
            intro h
            rw [← e1] at h
            rw [h] at hc
            exact hc rfl)
        clear hcons hc h0
        go_wp2
        go_ret
        exact ⟨ret_str He.out, rfl⟩
/-- a list, the first k of it written over zeros -/
def filled (l : List Nat) (k : Nat) : List Nat := l.take k ++ List.replicate (l.length - k) 0
theorem filled_len (l : List Nat) (k : Nat) (h : k ≤ l.length) : (filled l k).length = l.length := by
  unfold filled
  rw [List.length_append, List.length_take, List.length_replicate]
  omega
theorem filled_zero (l : List Nat) : filled l 0 = List.replicate l.length 0 := by simp [filled]
theorem filled_all (l : List Nat) : filled l l.length = l := by simp [filled]
theorem filled_set (l : List Nat) (k x : Nat) (h : l[k]? = some x) : (filled l k).set k x = filled l (k + 1) := by
  have hk : k < l.length := (List.getElem?_eq_some_iff.1 h).1
  unfold filled
  rw [List.set_append_right _ _ (by rw [List.length_take]; omega), List.length_take, Nat.min_eq_left (by omega), Nat.sub_self]
  rw [show l.length - k = (l.length - (k + 1)) + 1 by omega, List.replicate_succ, List.set_cons_zero, List.take_add_one, h]
  simp
theorem filled_at (l : List Nat) (k : Nat) (h : k < l.length) : (filled l k)[k]? = some 0 := by
  unfold filled
  rw [List.getElem?_append_right (by rw [List.length_take]; omega), List.length_take, List.getElem?_replicate]
  simp
  omega
/-- the bytes of a number, the most significant first -/
def beL (m n : Nat) : List Nat := (digs 256 m n).reverse
theorem beL_len (m n : Nat) : (beL m n).length = m := by simp [beL, digs_len]
theorem beL_get (m n j : Nat) (h : j < m) : (beL m n)[j]? = some (n / 256 ^ (m - 1 - j) % 256) := by
  unfold beL
  rw [List.getElem?_reverse (by rw [digs_len]; exact h), digs_len, digs_get _ _ _ _ (by omega)]
theorem beL_lt (m n : Nat) : ∀ x ∈ beL m n, x < 256 := fun x h => digs_lt (by omega) m n x (by simpa [beL] using h)
def strOf (l : List Nat) : ByteArray := ⟨(l.map UInt8.ofNat).toArray⟩
theorem bval_rev (l : List Nat) (h : ∀ x ∈ l, x < 256) : bval (l.reverse.map UInt8.ofNat) = wval 256 l := by
  induction l with
  | nil => rfl
  | cons x l ih =>
    have h1 := ih fun y hy => h y (List.mem_cons_of_mem _ hy)
    have h2 := h x (List.mem_cons_self ..)
    rw [List.reverse_cons, List.map_append, List.map_cons, List.map_nil, bval_snoc, h1, UInt8.toNat_ofNat', wval]
    omega
theorem sval_beL (m n : Nat) : sval (strOf (beL m n)) = n % 256 ^ m := by
  unfold sval strOf beL
  simp only
  rw [bval_rev _ (digs_lt (by omega) m n), wval_digs]
def bvn (n : Nat) : Value := .int .u8 n
theorem strOfNums_nat (l : List Nat) : strOfNums (l.map (fun x : Nat => ((x : Nat) : Int))) = strOf l := by
  unfold strOf strOfNums
  rw [List.map_map]
  rfl
theorem conv_blk {w : World} {b cap : Nat} {T : TypeId} {l : List Nat} {cs : Array Value} (hB : Blk w b T cs) (hc : cs.toList.take l.length = l.map bvn) :
    (convert 165 9 (.slice (some ⟨b, 0, none⟩) l.length cap)).run Tryd.prog w = .ok (.string (strOf l)) w := by
  have h := run_convert_bytes_arg (P := Tryd.prog) w 165 5 Tryd.underlying165 Tryd.underlying5 b 0 l.length cap (l.map (fun x : Nat => ((x : Nat) : Int))) (by simp) (fun i hi => by
    have h1 : (l.map bvn)[i]? = some (.int .u8 (l[i] : Nat)) := by rw [List.getElem?_map, List.getElem?_eq_getElem hi]; rfl
    rw [← hc, List.getElem?_take] at h1
    rw [if_pos hi] at h1
    rw [Nat.zero_add, hB.cell i (.int .u8 (l[i] : Nat)) (by simpa using h1)]
    simp [List.getD, List.getElem?_eq_getElem hi]) 9 Tryd.underlying9
  rw [h, strOfNums_nat]
def S8 (w : World) (n : Nat) (i : Value) (wr : World) : Prop := ∃ k : Nat, k ≤ 8 ∧ i = .int .i64 k ∧ Blk wr w.heap.size 167 ((filled (beL 8 n) k).map bvn).toArray ∧ Below w.heap.size w wr
theorem blk_setn {w : World} {b : Nat} {T : TypeId} {f : Nat → Value} {l : List Nat} (hB : Blk w b T (l.map f).toArray) (k x : Nat) : Blk (w.setCell ⟨b, k, none⟩ (f x)) b T ((l.set k x).map f).toArray := by
  have := hB.set k (f x)
  rw [List.map_set]
  simpa using this
set_option maxRecDepth 100000 in
set_option maxHeartbeats 2000000 in
theorem fromShort_any (w : World) (n : Nat) (hn : n < 18446744073709551616) :
    Calls Tryd.prog 106 #[.int .u64 n] w fun e w' => e = .returned (.string (natS n)) ∧ Below w.heap.size w w' := by
  go_enter Tryd.func106, Tryd.ntmps106
  go_wp2
  go_loopw [5] (fun i wr => S8 w n i wr) (fun i _ => (8 - intOf i).toNat)
  case atStart => exact ⟨0, by omega, rfl, by rw [filled_zero, beL_len]; exact Blk.new w _ _, (Below.refl _ _).alloc (Nat.le_refl _) _⟩
  case round =>
    obtain ⟨k, hk, rfl, hB, hb⟩ := hrel
    by_cases hlt : k < 8
    · have hc := hB.cell k (bvn 0) (by simp [filled_at (beL 8 n) k (by rw [beL_len]; exact hlt)])
      have hf := hB.free k
      have Hset := Lib.hid (filled_set (beL 8 n) k _ (beL_get 8 n k hlt))
      have Hb := Lib.hid (blk_setn hB k (n / 256 ^ (8 - 1 - k) % 256))
      have He := Lib.hid (show ((n : Int) / 2 ^ (56 - 8 * k) % 256) = ((n / 256 ^ (8 - 1 - k) % 256 : Nat) : Int) by
        rw [show (256 : Nat) = 2 ^ 8 from rfl, ← Nat.pow_mul, show 8 * (8 - 1 - k) = 56 - 8 * k by omega]
        simp)
      clear hB
      go_wp2
      go_roundw
      case rel => exact ⟨k + 1, by omega, by go_num, by rw [He.out, ← Hset.out]; exact Hb.out, hb.setCell (Nat.le_refl _) _⟩
      case measure => simp [intOf]; omega
    · obtain rfl : k = 8 := by omega
      have h8 : filled (beL 8 n) 8 = beL 8 n := by
        have := filled_all (beL 8 n)
        rwa [beL_len] at this
      rw [h8] at hB
      have hcv := conv_blk (cap := 8) hB (l := beL 8 n) (List.take_of_length_le (by simp [beL_len]))
      rw [beL_len] at hcv
      have Ht := Lib.hid (fun w => trim_any w (strOf (beL 8 n)) (by simp [strOf, ByteArray.size, beL_len]))
      have Hv := Lib.hid (show sval (strOf (beL 8 n)) = n by rw [sval_beL]; exact Nat.mod_eq_of_lt (by omega))
      clear h8 hB
      go_wp2_with fail
      refine (Ht.out _).mono ?_
      rintro e w' ⟨rfl, rfl⟩
      go_wp2
      go_ret
      exact ⟨ret_str (by rw [Hv.out]), hb⟩
end Go.Proofs.YtnnbnecpcppkdaaDoor
namespace Go.Proofs.YtnnbnecpcppkdaaDoor
open Go.RowKit Go.Gy
set_option linter.unusedVariables false
def wvn (n : Nat) : Value := .int .u32 n
theorem info_u32 : (Tryd.prog.info? 149).map (fun i => (i.zero, i.size, i.bytes)) = some (some (.int .u32 0), 1, 4) := by kernel_rfl
theorem u32_or (a b : Nat) (ha : a < 4294967296) (hb : b < 4294967296) : bits .or .u32 (a : Int) (b : Int) = ((a ||| b : Nat) : Int) := by
  have hx : a ||| b < 2 ^ 32 := Nat.or_lt_two_pow (by omega) (by omega)
  have h0 : ∀ x : Nat, x < 4294967296 → (BitVec.ofInt 32 (x : Int)).toNat = x := fun x hx => by
    rw [BitVec.ofInt_natCast, BitVec.toNat_ofNat]; exact Nat.mod_eq_of_lt (by omega)
  have h1 := h0 a ha
  have h2 := h0 b hb
  show IntKind.u32.wrap ((BitVec.ofInt 32 (a : Int) ||| BitVec.ofInt 32 (b : Int)).toNat : Int) = _
  rw [BitVec.toNat_or, h1, h2, IntKind.wrap_u32]
  omega
theorem made_reps (f : Nat → Value) (n : Nat) : madeCells #[f 0] n = ((List.replicate n 0).map f).toArray := by
  apply Array.toList_inj.mp
  rw [toList_madeCells_one]
  simp
theorem make_u32 (n : Nat) (hn : n ≤ 35184372088832) (W : World) : (Instr.makeSlice 147 (.int .i64 (n : Int)) (.int .i64 (n : Int))).run Tryd.prog W = .ok (.slice (some ⟨W.heap.size, 0, none⟩) n n) (W.alloc (.cells ((List.replicate n 0).map wvn).toArray 149)) := by
  obtain ⟨i0, hi, hz0, hz1, hz2⟩ := info_parts info_u32
  have h := run_make (P := Tryd.prog) W 147 149 i0 (.int .u32 0) Tryd.underlying147 hi hz0 .i64 .i64 (n : Int) (n : Int) (by omega) (Int.le_refl _) (by rw [hz2]; omega) (by omega)
  rw [Int.toNat_natCast, hz1, Nat.mul_one] at h
  rw [show (Value.int .u32 0).cells = #[wvn 0] from rfl, made_reps] at h
  exact h
def WRel (w : World) (G m N L : Nat) (i : Value) (wr : World) : Prop := ∃ k : Nat, k ≤ L ∧ i = .int .i64 k ∧ Blk wr G 149 ((digs 4294967296 m (N % 256 ^ k)).map wvn).toArray ∧ Below w.heap.size w wr
def WordsPost (w : World) (N : Nat) (e : Ending) (w' : World) : Prop := ∃ G, e = .returned (.slice (some ⟨G, 0, none⟩) (wlen N) (wlen N)) ∧ w.heap.size ≤ G ∧ Blk w' G 149 ((digs 4294967296 (wlen N) N).map wvn).toArray ∧ Below w.heap.size w w'
theorem natL_byte (n k : Nat) (h : k < (natL n).length) : ((natL n)[(natL n).length - 1 - k]'(by omega)).toNat = n / 256 ^ k % 256 := by
  induction k generalizing n with
  | zero =>
    have hn : n ≠ 0 := fun e => by rw [e, natL_zero] at h; cases h
    simp only [natL_pos hn]
    simp
  | succ k ih =>
    have hn : n ≠ 0 := fun e => by rw [e, natL_zero] at h; cases h
    have e := natL_pos hn
    have hl : (natL n).length = (natL (n / 256)).length + 1 := by rw [e]; simp
    have h1 := ih (n / 256) (by omega)
    rw [Nat.div_div_eq_div_mul, Nat.mul_comm, ← Nat.pow_succ] at h1
    rw [← h1]
    congr 1
    have h2 : (natL n)[(natL n).length - 1 - (k + 1)]? = (natL (n / 256))[(natL (n / 256)).length - 1 - k]? := by
      rw [hl, e, List.getElem?_append_left (by omega)]
      congr 1
      omega
    rw [List.getElem?_eq_getElem (by omega), List.getElem?_eq_getElem (by omega)] at h2
    exact Option.some.inj h2
theorem natS_byte (n k : Nat) (h : k < (natS n).size) : ((natS n)[(natS n).size - 1 - k]'(by omega)).toNat = n / 256 ^ k % 256 := by
  have hz := natS_size n
  have := natL_byte n k (by omega)
  rw [← this]
  have h1 : ∀ j (hj : j < (natS n).size), (natS n)[j] = (natL n)[j]'(by omega) := by
    intro j hj
    show (natS n).data[j] = _
    simp [natS]
  rw [h1]
  simp only [hz]
set_option maxRecDepth 100000 in
set_option maxHeartbeats 1000000 in
theorem words_any (w : World) (s : ByteArray) (hs : s.size ≤ 35184372088832) :
    Calls Tryd.prog 108 #[.string s] w (WordsPost w (sval s)) := by
  have Ht := Lib.hid (trim_any w s (by omega))
  obtain ⟨N, hN⟩ : ∃ N, N = sval s := ⟨_, rfl⟩
  have hz : (natS N).size ≤ 35184372088832 := by
    rw [natS_size, hN]
    have h1 := natL_len_le (sval s) s.size
    have h2 := bval_lt s.data.toList
    have h3 : s.data.toList.length = s.size := by simp
    rw [h3] at h2
    exact Nat.le_trans (h1.mpr h2) hs
  have hwl : wlen N = ((natS N).size + 3) / 4 := by rw [natS_size]; rfl
  rw [← hN] at Ht ⊢
  obtain ⟨m, hm⟩ : ∃ m, m = wlen N := ⟨_, rfl⟩
  rw [← hm] at hwl
  have Hm := Lib.hid hm
  clear hN hm
  obtain ⟨t, ht⟩ : ∃ t, t = natS N := ⟨_, rfl⟩
  rw [← ht] at Ht hz hwl
  have Hby := Lib.hid (show ∀ k (h : k < t.size), (t[t.size - 1 - k]'(by omega)).toNat = N / 256 ^ k % 256 by subst ht; exact natS_byte N)
  have Htn := Lib.hid ht
  clear ht
  have hq : ((t.size : Int) + 3) / 4 = (m : Int) := by omega
  have hmk := make_u32 m (by omega) w
  have Hwl := Lib.hid hwl
  clear hwl
  go_enter Tryd.func108, Tryd.ntmps108
  go_wp2_with fail
  refine Ht.out.mono ?_
  rintro e w' ⟨rfl, rfl⟩
  go_wp2
  simp only [hq]
  go_loopw [15] (fun i wr => WRel w w.heap.size m N t.size i wr) (fun i _ => t.size - (intOf i).toNat)
  case atStart =>
    refine ⟨0, Nat.zero_le _, rfl, ?_, (Below.refl _ _).alloc (Nat.le_refl _) _⟩
    rw [Nat.pow_zero, Nat.mod_one, digs_zero]
    have := Blk.new w 149 ((List.replicate m 0).map wvn).toArray
    simpa using this
  case round =>
    obtain ⟨k, hk, rfl, hB, hb⟩ := hrel
    by_cases hlt : k < t.size
    · obtain ⟨q, hq4⟩ : ∃ q, q = k / 4 := ⟨_, rfl⟩
      obtain ⟨r, hr4⟩ : ∃ r, r = k % 4 := ⟨_, rfl⟩
      have hqm : q < m := by have := Hwl.out; omega
      have hqi : ((k : Int)) / 4 = (q : Int) := by omega
      have hri : ((k : Int)).tmod 4 = (r : Int) := by rw [Int.tmod_eq_emod_of_nonneg (by omega)]; omega
      have hr : r < 4 := by omega
      have w1 : IntKind.i64.wrap (q : Int) = q := by rw [IntKind.wrap_i64]; omega
      have w2 : IntKind.i64.wrap (r : Int) = r := by rw [IntKind.wrap_i64]; omega
      have w3 : IntKind.i64.wrap ((r : Int) * 8) = (r : Int) * 8 := by rw [IntKind.wrap_i64]; omega
      obtain ⟨d, hd⟩ : ∃ d, d = N % 256 ^ k / 4294967296 ^ q % 4294967296 := ⟨_, rfl⟩
      have hc := hB.cell q (.int .u32 (d : Int)) (by simp [digs_get 4294967296 m (N % 256 ^ k) q hqm, hd, wvn])
      have hf := hB.free q
      obtain ⟨j, hj⟩ : ∃ j, j = t.size - 1 - k := ⟨_, rfl⟩
      have hji : (t.size : Int) - 1 - (k : Int) = (j : Int) := by omega
      have hjl : j < t.size := by omega
      have hx : (t[j]'hjl).toNat = N / 256 ^ k % 256 := by subst hj; exact Hby.out k hlt
      obtain ⟨c, hcc⟩ : ∃ c, c = N / 256 ^ k % 256 := ⟨_, rfl⟩
      rw [← hcc] at hx
      have hc8 : c < 256 := by rw [hcc]; exact Nat.mod_lt _ (by omega)
      have w4 : IntKind.u32.wrap (c : Int) = c := by rw [IntKind.wrap_u32]; omega
      have hkq : (256 : Nat) ^ k = 4294967296 ^ q * 256 ^ r := by rw [pow_word, ← Nat.pow_add]; congr 1; omega
      have hdr : N % 256 ^ k / 4294967296 ^ q < 256 ^ r := by
        rw [Nat.div_lt_iff_lt_mul (Nat.pow_pos (by omega)), Nat.mul_comm, ← hkq]
        exact Nat.mod_lt _ (Nat.pow_pos (by omega))
      have hr3 : (256 : Nat) ^ r ≤ 16777216 := by
        have : r = 0 ∨ r = 1 ∨ r = 2 ∨ r = 3 := by omega
        rcases this with rfl | rfl | rfl | rfl <;> decide
      have hd2 : d = N % 256 ^ k / 4294967296 ^ q := by rw [hd]; exact Nat.mod_eq_of_lt (by omega)
      have hd3 : d < 256 ^ r := by omega
      obtain ⟨z, hz2⟩ : ∃ z, z = c * 256 ^ r := ⟨_, rfl⟩
      have hzl : z < 4294967296 := by
        rw [hz2]
        have : c * 256 ^ r ≤ 255 * 256 ^ r := Nat.mul_le_mul_right _ (by omega)
        omega
      have w5 : IntKind.u32.wrap ((c : Int) * 2 ^ ((r : Int) * 8).toNat) = ((z : Nat) : Int) := by
        have e : ((r : Int) * 8).toNat = 8 * r := by omega
        have e2 : ((c : Int) * 2 ^ (8 * r)) = ((c * 256 ^ r : Nat) : Int) := by
          rw [show (256 : Nat) = 2 ^ 8 from rfl, ← Nat.pow_mul]
          simp
        rw [e, e2, ← hz2, IntKind.wrap_u32]
        omega
      have w6 : bits .or .u32 (d : Int) (z : Int) = ((d + z : Nat) : Int) := by
        rw [u32_or d z (by omega) hzl]
        congr 1
        rw [hz2, Nat.mul_comm, show (256 : Nat) ^ r = 2 ^ (8 * r) by rw [Nat.pow_mul], Nat.or_comm, or_add _ _ _ (by rw [Nat.pow_mul]; exact hd3)]
        omega
      have hdz : d + z < 4294967296 := by
        have h1 : c * 256 ^ r ≤ 255 * 256 ^ r := Nat.mul_le_mul_right _ (by omega)
        omega
      have hset := digs_upd (B := 4294967296) (m := m) (N := N % 256 ^ k) (N' := N % 256 ^ (k + 1)) (j := q) (v := d + z) (by omega) hqm hdz (by
        rw [← hd, mod_succ, ← hcc, hkq, hz2]
        grind)
      have Hst := Lib.hid (blk_setn hB q (d + z))
      rw [hset] at Hst
      have Hcc := Lib.hid hcc
      clear hB hset hz2 hdz hd2 hd hkq hdr hq4 hr4
      have Hj := Lib.hid hj
      clear hj hcc
      go_wp2
      have hb2 : Below w.heap.size w wr.drew := hb.drew
      have hc2 : wr.drew.cell? ⟨w.heap.size, q, none⟩ = some (.int .u32 (d : Int)) := hc
      have hf2 : wr.drew.frozen? ⟨w.heap.size, q, none⟩ = false := hf
      have Hst2 : Hid (Blk (wr.drew.setCell ⟨w.heap.size, q, none⟩ (wvn (d + z))) w.heap.size 149 ((digs 4294967296 m (N % 256 ^ (k + 1))).map wvn).toArray) := Lib.hid (Hst.out)
      go_still_tail 15, (by kernel_rfl)
      change wpList _ _ _ _ _ wr.drew
      generalize wr.drew = w2 at hb2 hc2 hf2 Hst2 ⊢
      clear hc hf hb
      go_wp2
      go_roundw
      case rel => exact ⟨k + 1, by omega, by go_num, Hst2.out, hb2.setCell (Nat.le_refl _) _⟩
      case measure => simp [intOf]; omega
    · obtain rfl : k = t.size := by omega
      have Hl := Lib.hid (show N % 256 ^ t.size = N from by
        apply Nat.mod_eq_of_lt
        rw [Htn.out, natS_size, ← natL_len_le]
        exact Nat.le_refl _)
      go_wp2
      go_ret
      refine ⟨w.heap.size, by rw [← Hm.out]; rfl, Nat.le_refl _, ?_, hb⟩
      rw [Hl.out] at hB
      rw [← Hm.out]
      exact hB
theorem digs_new {B m N j v : Nat} (hB : 0 < B) (hj : j < m) (hv : v < B) (h0 : N / B ^ j % B = 0) : (digs B m N).set j v = digs B m (N + B ^ j * v) :=
  digs_upd hB hj hv (by rw [h0]; rfl)
theorem rev_set {l : List Nat} {p j v : Nat} (h : p + j + 1 = l.length) : l.reverse.set p v = (l.set j v).reverse := by
  apply List.ext_getElem?
  intro i
  by_cases hi : i < l.length
  · rw [List.getElem?_reverse (by simpa using hi), List.getElem?_set, List.getElem?_set, List.getElem?_reverse hi]
    simp only [List.length_reverse, List.length_set]
    by_cases hp : p = i
    · subst hp
      rw [if_pos rfl, if_pos (by omega), if_pos (by omega), if_pos (by omega)]
    · rw [if_neg hp, if_neg (by omega)]
  · rw [List.getElem?_eq_none (by simp; omega), List.getElem?_eq_none (by simp; omega)]
theorem four_zero {X j b i : Nat} (hX : X < 256 ^ i) (hj : i ≤ j) : (X + 256 ^ (j + 1) * b) / 256 ^ j % 256 = 0 := by
  have h1 : X < 256 ^ j := Nat.lt_of_lt_of_le hX (Nat.pow_le_pow_right (by omega) hj)
  rw [Nat.pow_succ, Nat.mul_assoc, low_div h1]
  omega
/-- four bytes of a word are written, the most significant first -/
theorem four_set {M p i X b0 b1 b2 b3 : Nat} (hM : p + 4 + i = M) (hX : X < 256 ^ i) (h0 : b0 < 256) (h1 : b1 < 256) (h2 : b2 < 256) (h3 : b3 < 256) :
    ((((beL M X).set p b3).set (p + 1) b2).set (p + 2) b1).set (p + 3) b0 = beL M (X + 256 ^ i * (b0 + 256 * b1 + 65536 * b2 + 16777216 * b3)) := by
  unfold beL
  have e3 : (digs 256 M X).set (i + 3) b3 = digs 256 M (X + 256 ^ (i + 3) * b3) := digs_new (by omega) (by omega) h3 (by
    rw [Nat.div_eq_of_lt (Nat.lt_of_lt_of_le hX (Nat.pow_le_pow_right (by omega) (by omega)))])
  have e2 : (digs 256 M (X + 256 ^ (i + 3) * b3)).set (i + 2) b2 = digs 256 M (X + 256 ^ (i + 3) * b3 + 256 ^ (i + 2) * b2) := digs_new (by omega) (by omega) h2 (four_zero hX (by omega))
  have e1 : (digs 256 M (X + 256 ^ (i + 3) * b3 + 256 ^ (i + 2) * b2)).set (i + 1) b1 = digs 256 M (X + 256 ^ (i + 3) * b3 + 256 ^ (i + 2) * b2 + 256 ^ (i + 1) * b1) := digs_new (by omega) (by omega) h1 (by
    have : X + 256 ^ (i + 3) * b3 + 256 ^ (i + 2) * b2 = X + 256 ^ (i + 1 + 1) * (256 * b3 + b2) := by rw [Nat.pow_succ _ (i + 2)]; grind
    rw [this]
    exact four_zero hX (by omega))
  have e0 : (digs 256 M (X + 256 ^ (i + 3) * b3 + 256 ^ (i + 2) * b2 + 256 ^ (i + 1) * b1)).set i b0 = digs 256 M (X + 256 ^ (i + 3) * b3 + 256 ^ (i + 2) * b2 + 256 ^ (i + 1) * b1 + 256 ^ i * b0) := digs_new (by omega) (by omega) h0 (by
    have : X + 256 ^ (i + 3) * b3 + 256 ^ (i + 2) * b2 + 256 ^ (i + 1) * b1 = X + 256 ^ (i + 1) * (65536 * b3 + 256 * b2 + b1) := by rw [Nat.pow_succ _ (i + 2), Nat.pow_succ _ (i + 1)]; grind
    rw [this]
    exact four_zero hX (by omega))
  rw [rev_set (j := i + 3) (by rw [digs_len]; omega), e3, rev_set (j := i + 2) (by rw [digs_len]; omega), e2, rev_set (j := i + 1) (by rw [digs_len]; omega), e1, rev_set (j := i) (by rw [digs_len]; omega), e0]
  congr 2
  rw [Nat.pow_succ _ (i + 2), Nat.pow_succ _ (i + 1), Nat.pow_succ _ i]
  grind
theorem info_u8 : (Tryd.prog.info? 5).map (fun i => (i.zero, i.size, i.bytes)) = some (some (.int .u8 0), 1, 1) := by kernel_rfl
theorem make_u8 (n : Nat) (hn : n ≤ 140737488355328) (W : World) : (Instr.makeSlice 165 (.int .i64 (n : Int)) (.int .i64 (n : Int))).run Tryd.prog W = .ok (.slice (some ⟨W.heap.size, 0, none⟩) n n) (W.alloc (.cells ((List.replicate n 0).map bvn).toArray 5)) := by
  obtain ⟨i0, hi, hz0, hz1, hz2⟩ := info_parts info_u8
  have h := run_make (P := Tryd.prog) W 165 5 i0 (.int .u8 0) Tryd.underlying165 hi hz0 .i64 .i64 (n : Int) (n : Int) (by omega) (Int.le_refl _) (by rw [hz2]; omega) (by omega)
  rw [Int.toNat_natCast, hz1, Nat.mul_one] at h
  rw [show (Value.int .u8 0).cells = #[bvn 0] from rfl, made_reps] at h
  exact h
theorem beL_zero (M : Nat) : beL M 0 = List.replicate M 0 := by unfold beL; rw [digs_zero, List.reverse_replicate]
def TRel (w : World) (n N : Nat) (i : Value) (wr : World) : Prop := ∃ k : Nat, k ≤ n ∧ i = .int .i64 k ∧ Blk wr w.heap.size 5 ((beL (4 * n) (N % 4294967296 ^ k)).map bvn).toArray ∧ Below w.heap.size w wr
set_option maxRecDepth 100000 in
set_option maxHeartbeats 1000000 in
theorem text_any (w : World) (A : Option Addr) (n c N : Nat) (hn : n ≤ 8796093022208) (hr : Rd w w.heap.size 1 A n ((digs 4294967296 n N).map wvn)) :
    Calls Tryd.prog 109 #[.slice A n c] w fun e w' => e = .returned (.string (natS (N % 4294967296 ^ n))) ∧ Below w.heap.size w w' := by
  have h4 : (4 : Int) * (n : Int) = ((4 * n : Nat) : Int) := by omega
  have hmk := make_u8 (4 * n) (by omega) w
  obtain ⟨M, hM⟩ : ∃ M, M = 4 * n := ⟨_, rfl⟩
  rw [← hM] at h4 hmk
  have HM := Lib.hid hM
  clear hM
  go_enter Tryd.func109, Tryd.ntmps109
  go_wp2
  go_loopw [13] (fun i wr => TRel w n N i wr) (fun i _ => n - (intOf i).toNat)
  case atStart =>
    refine ⟨0, Nat.zero_le _, rfl, ?_, (Below.refl _ _).alloc (Nat.le_refl _) _⟩
    rw [Nat.pow_zero, Nat.mod_one, beL_zero, ← HM.out]
    have := Blk.new w 5 ((List.replicate M 0).map bvn).toArray
    simpa using this
  case round =>
    obtain ⟨k, hk, rfl, hB, hb⟩ := hrel
    by_cases hlt : k < n
    · obtain ⟨ab, ao, rfl, hab, hac⟩ := hr.2 (by omega)
      have hcl := hac k (wvn (N / 4294967296 ^ k % 4294967296)) (by rw [List.getElem?_map, digs_get _ _ _ _ hlt]; rfl)
      obtain ⟨x, hx⟩ : ∃ x, x = N / 4294967296 ^ k % 4294967296 := ⟨_, rfl⟩
      have hxl : x < 4294967296 := by rw [hx]; exact Nat.mod_lt _ (by omega)
      rw [← hx] at hcl
      have hc : wr.cell? ⟨ab, ao + k, none⟩ = some (.int .u32 (x : Int)) := (hb.cell (p := ⟨ab, ao + k, none⟩) hab).trans hcl
      obtain ⟨d, hd⟩ : ∃ d, d = n - 1 - k := ⟨_, rfl⟩
      have hdi : (n : Int) - 1 - (k : Int) = (d : Int) := by omega
      obtain ⟨p, hp⟩ : ∃ p, p = 4 * d := ⟨_, rfl⟩
      have hpi : (4 : Int) * (d : Int) = (p : Int) := by omega
      have hpM : p + 4 + 4 * k = M := by have := HM.out; omega
      have hpl : p + 3 < M := by omega
      have Hset := Lib.hid (four_set (M := M) (p := p) (i := 4 * k) (X := N % 4294967296 ^ k) (b0 := x % 256) (b1 := x / 256 % 256) (b2 := x / 65536 % 256) (b3 := x / 16777216) hpM (by rw [← pow_word]; exact Nat.mod_lt _ (Nat.pow_pos (by omega))) (by omega) (by omega) (by omega) (by omega))
      have Hnx := Lib.hid (show N % 4294967296 ^ k + 256 ^ (4 * k) * (x % 256 + 256 * (x / 256 % 256) + 65536 * (x / 65536 % 256) + 16777216 * (x / 16777216)) = N % 4294967296 ^ (k + 1) by
        rw [mod_succ, ← hx, ← pow_word]
        congr 2
        omega)
      rw [← HM.out] at hB
      have hc0 := hB.cell p (bvn ((N % 4294967296 ^ k) / 256 ^ (M - 1 - p) % 256)) (by simp [beL_get M _ p (by omega)])
      have hc1 := hB.cell (p + 1) (bvn ((N % 4294967296 ^ k) / 256 ^ (M - 1 - (p + 1)) % 256)) (by simp [beL_get M _ (p + 1) (by omega)])
      have hc2 := hB.cell (p + 2) (bvn ((N % 4294967296 ^ k) / 256 ^ (M - 1 - (p + 2)) % 256)) (by simp [beL_get M _ (p + 2) (by omega)])
      have hc3 := hB.cell (p + 3) (bvn ((N % 4294967296 ^ k) / 256 ^ (M - 1 - (p + 3)) % 256)) (by simp [beL_get M _ (p + 3) (by omega)])
      have hf := fun j => hB.free j
      have hB1 := blk_setn (blk_setn (blk_setn (blk_setn hB p (x / 16777216)) (p + 1) (x / 65536 % 256)) (p + 2) (x / 256 % 256)) (p + 3) (x % 256)
      rw [Hset.out, Hnx.out, show bvn (x / 16777216) = .int .u8 ((x : Int) / 16777216) from by unfold bvn; congr 1, show bvn (x / 65536 % 256) = .int .u8 ((x : Int) / 65536 % 256) from by unfold bvn; congr 1, show bvn (x / 256 % 256) = .int .u8 ((x : Int) / 256 % 256) from by unfold bvn; congr 1, show bvn (x % 256) = .int .u8 ((x : Int) % 256) from by unfold bvn; congr 1] at hB1
      have Hst := Lib.hid hB1
      clear hx hd hp hac hcl hpM Hset Hnx hB hB1
      go_wp2
      go_roundw
      case rel => exact ⟨k + 1, by omega, by go_num, by rw [← HM.out]; exact Hst.out, (((hb.setCell (Nat.le_refl _) _).setCell (Nat.le_refl _) _).setCell (Nat.le_refl _) _).setCell (Nat.le_refl _) _⟩
      case measure => simp [intOf]; omega
    · obtain rfl : k = n := by omega
      rw [← HM.out] at hB
      have hcv := conv_blk (cap := M) hB (l := beL M (N % 4294967296 ^ k)) (List.take_of_length_le (by simp [beL_len]))
      rw [beL_len] at hcv
      have Ht := Lib.hid (fun w => trim_any w (strOf (beL M (N % 4294967296 ^ k))) (by simp [strOf, ByteArray.size, beL_len]; omega))
      have Hv := Lib.hid (show sval (strOf (beL M (N % 4294967296 ^ k))) = N % 4294967296 ^ k by
        rw [sval_beL]
        apply Nat.mod_eq_of_lt
        rw [HM.out, ← pow_word]
        exact Nat.mod_lt _ (Nat.pow_pos (by omega)))
      clear hB hr
      go_wp2_with fail
      refine (Ht.out _).mono ?_
      rintro e w' ⟨rfl, rfl⟩
      go_wp2
      go_ret
      exact ⟨ret_str (by rw [Hv.out]), hb⟩
end Go.Proofs.YtnnbnecpcppkdaaDoor
namespace Go.Proofs.YtnnbnecpcppkdaaDoor
open Go.RowKit Go.Gy
set_option linter.unusedVariables false
theorem sval_trim_le (s : ByteArray) : (natS (sval s)).size ≤ s.size := by
  rw [natS_size]
  have h1 := natL_len_le (sval s) s.size
  have h2 := bval_lt s.data.toList
  have h3 : s.data.toList.length = s.size := by simp
  rw [h3] at h2
  exact h1.mpr h2
set_option maxRecDepth 100000 in
set_option maxHeartbeats 1000000 in
theorem of_any (w : World) (n : Int) (hn' : -9223372036854775808 ≤ n ∧ n ≤ 9223372036854775807) :
    Calls Tryd.prog 80 #[.int .i64 n] w fun e w' => e = .returned (.string (natS n.toNat)) ∧ Below w.heap.size w w' := by
  by_cases h : n < 1
  · have e : n.toNat = 0 := by omega
    rw [e]
    have Hz := Lib.hid (show natS 0 = { data := #[] } by unfold natS; rw [natL_zero])
    go_enter Tryd.func80, Tryd.ntmps80
    go_wp2
    go_ret
    exact ⟨ret_str (by rw [Hz.out]), Below.refl _ _⟩
  · obtain ⟨k, rfl⟩ : ∃ k : Nat, n = (k : Int) := ⟨n.toNat, by omega⟩
    have Hf := Lib.hid (fromShort_any w k (by omega))
    have hw : IntKind.u64.wrap (k : Int) = k := by rw [IntKind.wrap_u64]; omega
    have hk2 := hn'.2
    clear hn'
    go_enter Tryd.func80, Tryd.ntmps80
    go_wp2_with fail
    refine Hf.out.mono ?_
    rintro e w' ⟨rfl, hb⟩
    go_wp2
    go_ret
    exact ⟨rfl, hb⟩
def intF (n : Nat) : Nat × Nat := if n ≤ 9223372036854775807 then (n, 0) else (0, 2)
set_option maxRecDepth 100000 in
set_option maxHeartbeats 1000000 in
theorem int_any (w : World) (s : ByteArray) (hs : s.size ≤ 140737488355328) :
    Calls Tryd.prog 100 #[.string s] w fun e w' => e = .returned (.tuple #[.int .i64 ((intF (sval s)).1 : Nat), .int .i64 ((intF (sval s)).2 : Nat)]) ∧ w = w' := by
  have Ht := Lib.hid (trim_any w s hs)
  obtain ⟨N, hN⟩ : ∃ N, N = sval s := ⟨_, rfl⟩
  have hle := sval_trim_le s
  rw [← hN] at Ht hle ⊢
  obtain ⟨t, ht⟩ : ∃ t, t = natS N := ⟨_, rfl⟩
  have hz : 8 < t.size ↔ 256 ^ 8 ≤ N := by rw [ht, natS_size, natL_len_lt]
  have hv : sval t = N := by rw [ht, sval_natS]
  rw [← ht] at Ht hle
  have hle2 : t.size ≤ 140737488355328 := by omega
  have Hs : t.size ≤ 8 → Hid (Calls Tryd.prog 107 #[.string t] w fun e w' => e = .returned (.int .u64 ((N : Nat) : Int)) ∧ w = w') := fun h => Lib.hid (by rw [← hv]; exact short_any w t h)
  clear hN ht hv hle
  by_cases h8 : 8 < t.size
  · have he : intF N = (0, 2) := by
      unfold intF
      rw [if_neg (by have := hz.mp h8; omega)]
    rw [he]
    clear he hz Hs
    go_enter Tryd.func100, Tryd.ntmps100
    go_wp2_with fail
    refine Ht.out.mono ?_
    rintro e w' ⟨rfl, rfl⟩
    go_wp2
    go_ret2
    exact ⟨rfl, rfl⟩
  · have hS := Hs (by omega)
    have hN8 : N < 18446744073709551616 := by
      rcases Nat.lt_or_ge N (256 ^ 8) with h | h
      · omega
      · exact absurd (hz.mpr h) h8
    clear Hs hz
    by_cases hb : N ≤ 9223372036854775807
    · have he : intF N = (N, 0) := by unfold intF; rw [if_pos hb]
      rw [he]
      have hc : ¬ (9223372036854775807 : Int) < (N : Int) := by omega
      have hw : IntKind.i64.wrap (N : Int) = N := by rw [IntKind.wrap_i64]; omega
      clear he
      go_enter Tryd.func100, Tryd.ntmps100
      go_wp2_with fail
      refine Ht.out.mono ?_
      rintro e w' ⟨rfl, rfl⟩
      go_wp2_with (refine hS.out.mono ?_; rintro e w' ⟨rfl, rfl⟩)
      go_ret2
      exact ⟨rfl, rfl⟩
    · have he : intF N = (0, 2) := by unfold intF; rw [if_neg hb]
      rw [he]
      have hc : (9223372036854775807 : Int) < (N : Int) := by omega
      clear he
      go_enter Tryd.func100, Tryd.ntmps100
      go_wp2_with fail
      refine Ht.out.mono ?_
      rintro e w' ⟨rfl, rfl⟩
      go_wp2_with (refine hS.out.mono ?_; rintro e w' ⟨rfl, rfl⟩)
      go_ret2
      exact ⟨rfl, rfl⟩
def cmpN (a b : Nat) : Int := if a < b then -1 else if b < a then 1 else 0
theorem cmpL : ∀ (l m : List UInt8), l.length = m.length → Lib.compareBytes l m = cmpN (bval l) (bval m)
  | [], [], _ => by simp [Lib.compareBytes, cmpN]
  | a :: l, b :: m, h => by
    have hl : l.length = m.length := by simpa using h
    have ih := cmpL l m hl
    have h1 := bval_lt l
    have h2 := bval_lt m
    rw [Lib.compareBytes, ih, bval_cons, bval_cons, hl]
    rw [hl] at h1
    generalize (256 : Nat) ^ m.length = p at *
    have hab : a < b ↔ a.toNat < b.toNat := UInt8.lt_iff_toNat_lt
    have hba : b < a ↔ b.toNat < a.toNat := UInt8.lt_iff_toNat_lt
    unfold cmpN
    rcases Nat.lt_trichotomy a.toNat b.toNat with h3 | h3 | h3
    · have h4 : (a.toNat + 1) * p ≤ b.toNat * p := Nat.mul_le_mul_right p h3
      rw [Nat.add_mul] at h4
      rw [if_pos (hab.mpr h3), if_pos (by omega)]
    · rw [if_neg (by rw [hab]; omega), if_neg (by rw [hba]; omega), h3]
      simp only [Nat.add_lt_add_iff_left]
    · have h4 : (b.toNat + 1) * p ≤ a.toNat * p := Nat.mul_le_mul_right p h3
      rw [Nat.add_mul] at h4
      rw [if_neg (by rw [hab]; omega), if_pos (hba.mpr h3), if_neg (by omega), if_pos (by omega)]
set_option maxRecDepth 100000 in
set_option maxHeartbeats 1000000 in
theorem cmp_any (w : World) (s t : ByteArray) (hs : s.size ≤ 140737488355328) (ht : t.size ≤ 140737488355328) :
    Calls Tryd.prog 69 #[.string s, .string t] w fun e w' => e = .returned (.int .i64 (cmpN (sval s) (sval t))) ∧ w = w' := by
  have H1 := Lib.hid (trim_any w s hs)
  have H2 := Lib.hid (trim_any w t ht)
  obtain ⟨M, hM⟩ : ∃ M, M = sval s := ⟨_, rfl⟩
  obtain ⟨N, hN⟩ : ∃ N, N = sval t := ⟨_, rfl⟩
  have hl1 := sval_trim_le s
  have hl2 := sval_trim_le t
  rw [← hM] at H1 hl1 ⊢
  rw [← hN] at H2 hl2 ⊢
  have HC := Lib.hid (Tryd.strings_Compare (natS M) (natS N) w)
  have hcm := cmpL (natL M) (natL N)
  rw [natS_list, natS_list] at HC
  rw [bval_natL, bval_natL] at hcm
  have hlen : (natS M).size < (natS N).size → M < N := fun h => by
    rw [natS_size, natS_size] at h
    rcases Nat.lt_or_ge M N with h1 | h1
    · exact h1
    · have := natL_len_mono h1; omega
  have hlen2 : (natS N).size < (natS M).size → N < M := fun h => by
    rw [natS_size, natS_size] at h
    rcases Nat.lt_or_ge N M with h1 | h1
    · exact h1
    · have := natL_len_mono h1; omega
  have hsz : (natL M).length = (natL N).length ↔ (natS M).size = (natS N).size := by rw [natS_size, natS_size]
  obtain ⟨a, ha⟩ : ∃ a, a = natS M := ⟨_, rfl⟩
  obtain ⟨b, hb⟩ : ∃ b, b = natS N := ⟨_, rfl⟩
  rw [← ha] at H1 HC hl1 hlen hlen2 hsz
  rw [← hb] at H2 HC hl2 hlen hlen2 hsz
  have ha2 : a.size ≤ 140737488355328 := by omega
  have hb2 : b.size ≤ 140737488355328 := by omega
  clear hM hN ha hb hl1 hl2
  rcases Nat.lt_trichotomy a.size b.size with h | h | h
  · have he : cmpN M N = -1 := by unfold cmpN; rw [if_pos (hlen h)]
    rw [he]
    clear he hlen hlen2 hcm hsz HC
    go_enter Tryd.func69, Tryd.ntmps69
    go_wp2_with fail
    refine H1.out.mono ?_
    rintro e w' ⟨rfl, rfl⟩
    go_wp2_with fail
    refine H2.out.mono ?_
    rintro e w' ⟨rfl, rfl⟩
    go_wp2
    go_ret
    exact ⟨rfl, rfl⟩
  · rw [← hcm (hsz.mpr h)]
    have h1 : ¬ a.size < b.size := by omega
    have h2 : ¬ b.size < a.size := by omega
    clear hlen hlen2 hcm hsz h
    go_enter Tryd.func69, Tryd.ntmps69
    go_wp2_with fail
    refine H1.out.mono ?_
    rintro e w' ⟨rfl, rfl⟩
    go_wp2_with fail
    refine H2.out.mono ?_
    rintro e w' ⟨rfl, rfl⟩
    go_wp2_with fail
    refine HC.out.mono ?_
    rintro e w' ⟨rfl, rfl⟩
    go_wp2
    go_ret
    exact ⟨rfl, rfl⟩
  · have he : cmpN M N = 1 := by
      have := hlen2 h
      unfold cmpN; rw [if_neg (by omega), if_pos this]
    rw [he]
    have h1 : ¬ a.size < b.size := by omega
    clear he hlen hlen2 hcm hsz HC
    go_enter Tryd.func69, Tryd.ntmps69
    go_wp2_with fail
    refine H1.out.mono ?_
    rintro e w' ⟨rfl, rfl⟩
    go_wp2_with fail
    refine H2.out.mono ?_
    rintro e w' ⟨rfl, rfl⟩
    go_wp2
    go_ret
    exact ⟨rfl, rfl⟩
end Go.Proofs.YtnnbnecpcppkdaaDoor
namespace Go.Proofs.YtnnbnecpcppkdaaDoor
open Go.RowKit Go.Gy
set_option linter.unusedVariables false
theorem Rd.blk {w : World} {g n : Nat} {T : TypeId} {l : List Value} (hB : Blk w g T l.toArray) (hn : l.length = n) : Rd w w.heap.size 1 (some ⟨g, 0, none⟩) n l :=
  ⟨by omega, fun _ => ⟨g, 0, rfl, hB.lt, fun j u hu => by rw [Nat.zero_add]; exact hB.cell j u (by simpa using hu)⟩⟩
theorem blk_dig {w : World} {g m N k : Nat} {T : TypeId} (hB : Blk w g T ((digs 4294967296 m N).map wvn).toArray) (hk : k < m) : w.cell? ⟨g, k, none⟩ = some (.int .u32 ((N / 4294967296 ^ k % 4294967296 : Nat) : Int)) :=
  hB.cell k _ (by simp [digs_get 4294967296 m N k hk, wvn])
def AddCut (A B : Nat) (w2 : World) (x y : Value) (wx : World) : Prop := ∃ gx gy X Y, x = .slice (some ⟨gx, 0, none⟩) (wlen X) (wlen X) ∧ y = .slice (some ⟨gy, 0, none⟩) (wlen Y) (wlen Y) ∧ X + Y = A + B ∧ wlen Y ≤ wlen X ∧ wlen X ≤ 2199023255552 ∧ Blk w2 gx 149 ((digs 4294967296 (wlen X) X).map wvn).toArray ∧ Blk w2 gy 149 ((digs 4294967296 (wlen Y) Y).map wvn).toArray ∧ wx = w2
def AddRel (w3 : World) (X Y lx : Nat) (c i : Value) (wr : World) : Prop := ∃ k : Nat, k ≤ lx ∧ i = .int .i64 k ∧ c = .int .u64 ((addS 4294967296 X Y k / 4294967296 ^ k : Nat) : Int) ∧ Blk wr w3.heap.size 149 ((digs 4294967296 (lx + 1) (addS 4294967296 X Y k % 4294967296 ^ k)).map wvn).toArray ∧ Below w3.heap.size w3 wr
theorem wlen_size (s : ByteArray) (h : s.size ≤ 8796093022208) : wlen (sval s) ≤ 2199023255552 := by
  have := sval_trim_le s
  rw [natS_size] at this
  unfold wlen
  omega
set_option maxRecDepth 100000 in
set_option maxHeartbeats 2000000 in
theorem add_any (w : World) (s t : ByteArray) (hs : s.size ≤ 8796093022208) (ht : t.size ≤ 8796093022208) :
    Calls Tryd.prog 81 #[.string s, .string t] w fun e w' => e = .returned (.string (natS (sval s + sval t))) ∧ Below w.heap.size w w' := by
  have H1 := Lib.hid (trim_any w s (by omega))
  have H2 := Lib.hid (trim_any w t (by omega))
  have hw1 := wlen_size s hs
  have hw2 := wlen_size t ht
  obtain ⟨A, hA⟩ : ∃ A, A = sval s := ⟨_, rfl⟩
  obtain ⟨B, hB⟩ : ∃ B, B = sval t := ⟨_, rfl⟩
  have hl1 := sval_trim_le s
  have hl2 := sval_trim_le t
  rw [← hA] at H1 hl1 hw1 ⊢
  rw [← hB] at H2 hl2 hw2 ⊢
  have hz1 : (natS A).size < 8 → A < 256 ^ 7 := fun h => (natL_len_le A 7).mp (by rw [natS_size] at h; omega)
  have hz2 : (natS B).size < 8 → B < 256 ^ 7 := fun h => (natL_len_le B 7).mp (by rw [natS_size] at h; omega)
  have hv1 := sval_natS A
  have hv2 := sval_natS B
  obtain ⟨a, ha⟩ : ∃ a, a = natS A := ⟨_, rfl⟩
  obtain ⟨b, hb⟩ : ∃ b, b = natS B := ⟨_, rfl⟩
  rw [← ha] at H1 hl1 hz1 hv1
  rw [← hb] at H2 hl2 hz2 hv2
  clear hA hB ha hb
  by_cases h8 : a.size < 8 ∧ b.size < 8
  · obtain ⟨h1, h2⟩ := h8
    have e1 := hz1 h1
    have e2 := hz2 h2
    have S1 := Lib.hid (short_any w a (by omega))
    have S2 := Lib.hid (short_any w b (by omega))
    rw [hv1] at S1
    rw [hv2] at S2
    have F := Lib.hid (fromShort_any w (A + B) (by omega))
    have hA : A < 72057594037927936 := by omega
    have hB : B < 72057594037927936 := by omega
    clear hz1 hz2 hv1 hv2 hl1 hl2 e1 e2
    go_enter Tryd.func81, Tryd.ntmps81
    go_wp2_with fail
    refine H1.out.mono ?_
    rintro e w' ⟨rfl, rfl⟩
    go_wp2_with fail
    refine H2.out.mono ?_
    rintro e w' ⟨rfl, rfl⟩
    go_wp2_with fail
    refine S1.out.mono ?_
    rintro e w' ⟨rfl, rfl⟩
    go_wp2_with fail
    refine S2.out.mono ?_
    rintro e w' ⟨rfl, rfl⟩
    go_wp2_with fail
    refine F.out.mono ?_
    rintro e w' ⟨rfl, hb⟩
    go_wp2
    go_ret
    exact ⟨rfl, hb⟩
  · have W1 := Lib.hid (words_any w a (by omega))
    have W2 := Lib.hid (fun w' => words_any w' b (by omega))
    rw [hv1] at W1
    rw [hv2] at W2
    have hg : a.size < 8 → ¬ b.size < 8 := fun h1 h2 => h8 ⟨h1, h2⟩
    clear hz1 hz2 hv1 hv2 hl1 hl2 h8
    go_enter Tryd.func81, Tryd.ntmps81
    go_wp2_with fail
    refine H1.out.mono ?_
    rintro e w' ⟨rfl, rfl⟩
    go_wp2_with fail
    refine H2.out.mono ?_
    rintro e w' ⟨rfl, rfl⟩
    have hor : (a.size < 8 ∧ ¬ b.size < 8) ∨ ¬ a.size < 8 := by omega
    clear hg
    rcases hor with ⟨ha8, hb8⟩ | ha8
    all_goals
      go_wp2_with fail
      refine W1.out.mono ?_
      rintro e w1 ⟨gx, rfl, hgx, hX, hb1⟩
      go_wp2_with fail
      refine (W2.out w1).mono ?_
      rintro e w2 ⟨gy, rfl, hgy, hY, hb2⟩
      have hgl := hX.lt
      have HX := Lib.hid (hX.below hb2 hgl)
      have HY := Lib.hid hY
      have Hb := Lib.hid (hb1.trans (hb2.mono hb1.size))
      clear hX hY hb1 hb2 hgx hgy hgl
      go_upto_if 37 with (fail)
      go_cut [5, 6] (fun x y wx => AddCut A B w2 x y wx)
      case first =>
        by_cases hc : wlen A < wlen B
        · go_wp2
          go_meet
          exact ⟨gy, gx, B, A, rfl, rfl, Nat.add_comm _ _, by omega, hw2, HY.out, HX.out, rfl⟩
        · go_wp2
          go_meet
          exact ⟨gx, gy, A, B, rfl, rfl, rfl, by omega, hw1, HX.out, HY.out, rfl⟩
      case rest =>
        obtain ⟨gx, gy, X, Y, rfl, rfl, hXY, hle, hlx, hBx, hBy, rfl⟩ := hcut
        clear HX HY W1 W2 H1 H2
        obtain ⟨lx, hlxe⟩ : ∃ lx, lx = wlen X := ⟨_, rfl⟩
        obtain ⟨ly, hlye⟩ : ∃ ly, ly = wlen Y := ⟨_, rfl⟩
        have hXl : X < 4294967296 ^ lx := by rw [hlxe]; exact wlen_lt X
        have hYl : Y < 4294967296 ^ ly := by rw [hlye]; exact wlen_lt Y
        rw [← hlxe] at hle hlx hBx ⊢
        rw [← hlye] at hle hBy ⊢
        have hmk := make_u32 (lx + 1) (by omega) wc
        have hc1 : ((lx + 1 : Nat) : Int) = (lx : Int) + 1 := by omega
        rw [hc1] at hmk
        have Hx := Lib.hid (show ∀ k, k < lx → ∀ wr, Below wc.heap.size wc wr → wr.cell? ⟨gx, k, none⟩ = some (.int .u32 ((X / 4294967296 ^ k % 4294967296 : Nat) : Int)) from fun k hk wr hb => (hb.cell (p := ⟨gx, k, none⟩) hBx.lt).trans (blk_dig hBx hk))
        have Hy := Lib.hid (show ∀ k, k < ly → ∀ wr, Below wc.heap.size wc wr → wr.cell? ⟨gy, k, none⟩ = some (.int .u32 ((Y / 4294967296 ^ k % 4294967296 : Nat) : Int)) from fun k hk wr hb => (hb.cell (p := ⟨gy, k, none⟩) hBy.lt).trans (blk_dig hBy hk))
        have HXl := Lib.hid hXl
        have HYl := Lib.hid hYl
        have HXY := Lib.hid hXY
        clear hBx hBy hlxe hlye hXl hYl hXY hc1
        go_wp2
        go_loopw [8, 46] (fun c i wr => AddRel wc X Y lx c i wr) (fun _ i _ => lx - (intOf i).toNat)
        case atStart =>
          refine ⟨0, Nat.zero_le _, rfl, ?_, ?_, (Below.refl _ _).alloc (Nat.le_refl _) _⟩
          · simp [addS_zero]
          · rw [addS_zero, Nat.zero_mod, digs_zero]
            have := Blk.new wc 149 ((List.replicate (lx + 1) 0).map wvn).toArray
            simpa using this
        case round =>
          obtain ⟨k, hk, rfl, rfl, hB, hb3⟩ := hrel
          by_cases hlt : k < lx
          · have hcx := Hx.out k hlt wr hb3
            obtain ⟨x, hx⟩ : ∃ x, x = X / 4294967296 ^ k % 4294967296 := ⟨_, rfl⟩
            obtain ⟨y, hy⟩ : ∃ y, y = Y / 4294967296 ^ k % 4294967296 := ⟨_, rfl⟩
            obtain ⟨c, hc⟩ : ∃ c, c = addS 4294967296 X Y k / 4294967296 ^ k := ⟨_, rfl⟩
            have hxl : x < 4294967296 := by rw [hx]; exact Nat.mod_lt _ (by omega)
            have hyl : y < 4294967296 := by rw [hy]; exact Nat.mod_lt _ (by omega)
            have hcl : c ≤ 1 := by rw [hc]; exact addS_carry_le (by omega) X Y k
            have Hcar := Lib.hid (show addS 4294967296 X Y (k + 1) / 4294967296 ^ (k + 1) = (c + x + y) / 4294967296 by rw [addS_carry (by omega), ← hx, ← hy, ← hc])
            have hset := addS_digs (B := 4294967296) (by omega) X Y k (lx + 1) (by omega)
            rw [← hx, ← hy, ← hc] at hset
            have hfz := hB.free k
            have hck := blk_dig hB (k := k) (by omega)
            have hst := blk_setn hB k ((c + x + y) % 4294967296)
            rw [hset] at hst
            rw [← hx] at hcx
            rw [← hc]
            have Hst := Lib.hid hst
            by_cases hky : k < ly
            · have hcy := Hy.out k hky wr hb3
              rw [← hy] at hcy
              clear hx hy hc hset hst hB
              go_wp2
              go_roundw
              case rel => exact ⟨k + 1, by omega, by go_num, by rw [Hcar.out]; go_num, Hst.out, hb3.setCell (Nat.le_refl _) _⟩
              case measure => simp [intOf]; omega
            · have hy0 : y = 0 := by
                rw [hy, Nat.div_eq_of_lt (Nat.lt_of_lt_of_le HYl.out (Nat.pow_le_pow_right (by omega) (by omega)))]
              subst hy0
              clear hx hy hc hset hst hB
              go_wp2
              go_roundw
              case rel => exact ⟨k + 1, by omega, by go_num, by rw [Hcar.out]; go_num, Hst.out, hb3.setCell (Nat.le_refl _) _⟩
              case measure => simp [intOf]; omega
          · obtain rfl : k = lx := by omega
            have hcl := addS_carry_le (B := 4294967296) (by omega) X Y k
            have hst := blk_setn hB k (addS 4294967296 X Y k / 4294967296 ^ k)
            rw [addS_last (by omega) HXl.out (Nat.lt_of_lt_of_le HYl.out (Nat.pow_le_pow_right (by omega) hle))] at hst
            obtain ⟨c, hc⟩ : ∃ c, c = addS 4294967296 X Y k / 4294967296 ^ k := ⟨_, rfl⟩
            rw [← hc] at hcl hst ⊢
            have hfz := hB.free k
            have hck := blk_dig hB (k := k) (by omega)
            rw [show wvn c = Value.int .u32 (c : Int) from rfl] at hst
            have HT := Lib.hid (text_any _ (some ⟨wc.heap.size, 0, none⟩) (k + 1) (k + 1) (X + Y) (by omega) (Rd.blk hst (by simp [digs_len])))
            have Hv := Lib.hid (show (X + Y) % 4294967296 ^ (k + 1) = A + B by
              rw [HXY.out]
              apply Nat.mod_eq_of_lt
              rw [← HXY.out, Nat.pow_succ]
              have h1 := HXl.out
              have h2 := Nat.lt_of_lt_of_le HYl.out (Nat.pow_le_pow_right (show 0 < 4294967296 by omega) hle)
              omega)
            have Hbb := Lib.hid (show Below wc.heap.size wc (wr.setCell ⟨wc.heap.size, k, none⟩ (.int .u32 (c : Int))) from hb3.setCell (Nat.le_refl _) _)
            clear hc hst hB
            go_wp2_with fail
            refine HT.out.mono ?_
            rintro e w4 ⟨rfl, hb4⟩
            go_wp2
            go_ret
            exact ⟨ret_str (by rw [Hv.out]), Hb.out.trans ((Hbb.out.trans (hb4.mono Hbb.out.size)).mono Hb.out.size)⟩
end Go.Proofs.YtnnbnecpcppkdaaDoor
namespace Go.Proofs.YtnnbnecpcppkdaaDoor
open Go.RowKit Go.Gy
set_option linter.unusedVariables false
/-- only block g has changed -/
def Chg (g : Nat) (w w' : World) : Prop := w.grownBy w' (some g) ∧ w'.heap.size = w.heap.size
theorem Chg.refl (g : Nat) (w : World) : Chg g w w := ⟨⟨rfl, rfl, rfl, Nat.le_refl _, fun _ _ _ => rfl⟩, rfl⟩
theorem Chg.set {g : Nat} {w w' : World} (h : Chg g w w') (i : Nat) (v : Value) : Chg g w (w'.setCell ⟨g, i, none⟩ v) :=
  ⟨⟨h.1.os, h.1.tape, h.1.output, by simpa using h.1.size, fun k hk hne => (Below.heap_setCell w' ⟨g, i, none⟩ v k (fun e => hne (by rw [e]))).trans (h.1.block k hk hne)⟩, by simpa using h.2⟩
theorem Chg.drew {g : Nat} {w w' : World} (h : Chg g w w') : Chg g w w'.drew := ⟨⟨h.1.os, h.1.tape, h.1.output, h.1.size, h.1.block⟩, h.2⟩
theorem Chg.trans {g : Nat} {w w' w'' : World} (h : Chg g w w') (h' : Chg g w' w'') : Chg g w w'' :=
  ⟨⟨h'.1.os.trans h.1.os, h'.1.tape.trans h.1.tape, h'.1.output.trans h.1.output, Nat.le_trans h.1.size h'.1.size, fun k hk hne => (h'.1.block k (by have := h.1.size; omega) hne).trans (h.1.block k hk hne)⟩, h'.2.trans h.2⟩
theorem Chg.below {g B : Nat} {w w' : World} (h : Chg g w w') (hB : B ≤ g) (hw : B ≤ w.heap.size) : Below B w w' := (Below.refl B w).grown h.1 hw (fun k hk => by injection hk with hk; omega)
theorem Chg.blk {g g' : Nat} {w w' : World} {t : TypeId} {cs : Array Value} (h : Chg g w w') (hB : Blk w g' t cs) (hne : g' ≠ g) : Blk w' g' t cs := (h.1.block g' hB.lt (fun e => hne (by injection e))).trans hB
theorem Chg.cell {g g' o : Nat} {w w' : World} (h : Chg g w w') (hg : g' < w.heap.size) (hne : g' ≠ g) : w'.cell? ⟨g', o, none⟩ = w.cell? ⟨g', o, none⟩ := World.cell?_of_block (h.1.block g' hg (fun e => hne (by injection e)))
def LessRel (w : World) (gx : Nat) (X Y m : Nat) (c i : Value) (wr : World) : Prop := ∃ k : Nat, k ≤ m ∧ i = .int .i64 k ∧ c = .int .u64 ((subB 4294967296 X Y k : Nat) : Int) ∧ Blk wr gx 149 ((digs 4294967296 m (subN 4294967296 X Y k)).map wvn).toArray ∧ Chg gx w wr
theorem word_sub (x y c : Nat) (hx : x < 4294967296) (hy : y < 4294967296) (hc : c ≤ 1) : Value.int .u32 (IntKind.u64.wrap (IntKind.u64.wrap ((x : Int) - (c : Int)) - (y : Int)) % 4294967296) = wvn ((x + 4294967296 - y - c) % 4294967296) ∧ Value.int .u64 (IntKind.u64.wrap (IntKind.u64.wrap ((x : Int) - (c : Int)) - (y : Int)) / 9223372036854775808) = .int .u64 ((if x < y + c then 1 else 0 : Nat) : Int) := by
  unfold wvn
  rw [IntKind.wrap_u64, IntKind.wrap_u64]
  constructor
  · congr 1
    omega
  · congr 1
    by_cases h : x < y + c
    · rw [if_pos h]; omega
    · rw [if_neg h]; omega
theorem word_sub0 (x c : Nat) (hx : x < 4294967296) (hc : c ≤ 1) : Value.int .u32 (IntKind.u64.wrap ((x : Int) - (c : Int)) % 4294967296) = wvn ((x + 4294967296 - 0 - c) % 4294967296) ∧ Value.int .u64 (IntKind.u64.wrap ((x : Int) - (c : Int)) / 9223372036854775808) = .int .u64 ((if x < 0 + c then 1 else 0 : Nat) : Int) := by
  unfold wvn
  rw [IntKind.wrap_u64]
  constructor
  · congr 1
    omega
  · congr 1
    by_cases h : x < 0 + c
    · rw [if_pos h]; omega
    · rw [if_neg h]; omega
set_option maxRecDepth 100000 in
set_option maxHeartbeats 2000000 in
theorem less_any (w : World) (gx gy m n X Y : Nat) (hne : gy ≠ gx) (hnm : n ≤ m) (hm : m ≤ 35184372088832) (hX : Blk w gx 149 ((digs 4294967296 m X).map wvn).toArray) (hY : Blk w gy 149 ((digs 4294967296 n Y).map wvn).toArray) (hYl : Y < 4294967296 ^ n) :
    Calls Tryd.prog 126 #[.slice (some ⟨gx, 0, none⟩) m m, .slice (some ⟨gy, 0, none⟩) n n] w fun e w' => e = .returned (.tuple #[]) ∧ Blk w' gx 149 ((digs 4294967296 m (subN 4294967296 X Y m)).map wvn).toArray ∧ Chg gx w w' := by
  have Hy := Lib.hid (show ∀ k, k < n → ∀ wr, Chg gx w wr → wr.cell? ⟨gy, k, none⟩ = some (.int .u32 ((Y / 4294967296 ^ k % 4294967296 : Nat) : Int)) from fun k hk wr hb => (hb.cell hY.lt hne).trans (blk_dig hY hk))
  have HYl := Lib.hid hYl
  have Hst := Lib.hid (show LessRel w gx X Y m (.int .u64 0) (.int .i64 0) w from ⟨0, Nat.zero_le _, rfl, by rw [subB_zero]; rfl, by rw [subN_zero]; exact hX, Chg.refl _ _⟩)
  clear hY hYl hX
  go_enter Tryd.func126, Tryd.ntmps126
  go_wp2
  go_loopw [4, 10] (fun c i wr => LessRel w gx X Y m c i wr) (fun _ i _ => m - (intOf i).toNat)
  case atStart => exact Hst.out
  case round =>
    obtain ⟨k, hk, rfl, rfl, hB, hb3⟩ := hrel
    by_cases hlt : k < m
    · obtain ⟨x, hx⟩ : ∃ x, x = X / 4294967296 ^ k % 4294967296 := ⟨_, rfl⟩
      obtain ⟨y, hy⟩ : ∃ y, y = Y / 4294967296 ^ k % 4294967296 := ⟨_, rfl⟩
      obtain ⟨c, hc⟩ : ∃ c, c = subB 4294967296 X Y k := ⟨_, rfl⟩
      have hxl : x < 4294967296 := by rw [hx]; exact Nat.mod_lt _ (by omega)
      have hyl : y < 4294967296 := by rw [hy]; exact Nat.mod_lt _ (by omega)
      have hcl : c ≤ 1 := by rw [hc]; exact subB_le _ X Y k
      have hcx := blk_dig hB hlt
      rw [subN_dig (by omega), ← hx] at hcx
      have hset := subN_digs (B := 4294967296) (by omega) X Y k m hlt
      have hcar := subB_succ (B := 4294967296) (by omega) X Y k
      rw [← hx, ← hy, ← hc] at hset hcar
      have hfz := hB.free k
      have hst := blk_setn hB k ((x + 4294967296 - y - c) % 4294967296)
      rw [hset] at hst
      have Hst := Lib.hid hst
      have HC := Lib.hid hcar
      rw [← hc]
      by_cases hky : k < n
      · have hcy := Hy.out k hky wr hb3
        rw [← hy] at hcy
        have HE := Lib.hid (word_sub x y c hxl hyl hcl)
        clear hx hy hc hset hst hB hcar
        go_wp2
        go_roundw
        case rel => exact ⟨k + 1, by omega, by go_num, by rw [HE.out.2, HC.out], by rw [HE.out.1]; exact Hst.out, hb3.set _ _⟩
        case measure => simp [intOf]; omega
      · have hy0 : y = 0 := by
          rw [hy, Nat.div_eq_of_lt (Nat.lt_of_lt_of_le HYl.out (Nat.pow_le_pow_right (by omega) (by omega)))]
        subst hy0
        have HE := Lib.hid (word_sub0 x c hxl hcl)
        clear hx hy hc hset hst hB hcar
        go_wp2
        go_roundw
        case rel => exact ⟨k + 1, by omega, by go_num, by rw [HE.out.2, HC.out], by rw [HE.out.1]; exact Hst.out, hb3.set _ _⟩
        case measure => simp [intOf]; omega
    · obtain rfl : k = m := by omega
      go_wp2
      go_end0
      exact ⟨rfl, hB, hb3⟩
def subF (a b : Nat) : Nat × Nat := if a < b then (0, 1) else (a - b, 0)
set_option maxRecDepth 100000 in
set_option maxHeartbeats 2000000 in
theorem sub_any (w : World) (s t : ByteArray) (hs : s.size ≤ 8796093022208) (ht : t.size ≤ 8796093022208) :
    Calls Tryd.prog 117 #[.string s, .string t] w fun e w' => e = .returned (.tuple #[.string (natS (subF (sval s) (sval t)).1), .int .i64 ((subF (sval s) (sval t)).2 : Nat)]) ∧ Below w.heap.size w w' := by
  have H1 := Lib.hid (cmp_any w s t (by omega) (by omega))
  have W1 := Lib.hid (words_any w s (by omega))
  have W2 := Lib.hid (fun w' => words_any w' t (by omega))
  have hw1 := wlen_size s hs
  have hw2 := wlen_size t ht
  obtain ⟨A, hA⟩ : ∃ A, A = sval s := ⟨_, rfl⟩
  obtain ⟨B, hB⟩ : ∃ B, B = sval t := ⟨_, rfl⟩
  rw [← hA] at H1 W1 hw1 ⊢
  rw [← hB] at H1 W2 hw2 ⊢
  clear hA hB
  by_cases hlt : A < B
  · have e1 : cmpN A B = -1 := by unfold cmpN; rw [if_pos hlt]
    have e2 : subF A B = (0, 1) := by unfold subF; rw [if_pos hlt]
    rw [e1] at H1
    rw [e2]
    have Hz := Lib.hid (show natS 0 = { data := #[] } by unfold natS; rw [natL_zero])
    clear e1 e2 W1 W2
    go_enter Tryd.func117, Tryd.ntmps117
    go_wp2_with fail
    refine H1.out.mono ?_
    rintro e w' ⟨rfl, rfl⟩
    go_wp2
    go_ret2
    exact ⟨by rw [Hz.out]; rfl, Below.refl _ _⟩
  · have e2 : subF A B = (A - B, 0) := by unfold subF; rw [if_neg hlt]
    have e1 : 0 ≤ cmpN A B := by unfold cmpN; rw [if_neg hlt]; split <;> omega
    obtain ⟨c, hc⟩ : ∃ c, c = cmpN A B := ⟨_, rfl⟩
    rw [← hc] at e1 H1
    rw [e2]
    have hcn : ¬ c < 0 := by omega
    have hle : wlen B ≤ wlen A := by
      rw [wlen_le]
      exact Nat.lt_of_le_of_lt (by omega) (wlen_lt A)
    have Hend := Lib.hid (subN_end (B := 4294967296) (by omega) (wlen_lt A) (Nat.lt_of_lt_of_le (wlen_lt B) (Nat.pow_le_pow_right (by omega) hle)) (by omega))
    have Hlt := Lib.hid (show (A - B) % 4294967296 ^ wlen A = A - B from Nat.mod_eq_of_lt (Nat.lt_of_le_of_lt (Nat.sub_le _ _) (wlen_lt A)))
    have HBl := Lib.hid (wlen_lt B)
    obtain ⟨m, hm⟩ : ∃ m, m = wlen A := ⟨_, rfl⟩
    obtain ⟨n, hn⟩ : ∃ n, n = wlen B := ⟨_, rfl⟩
    have W1' := Lib.hid (show Calls Tryd.prog 108 #[.string s] w fun e w' => ∃ G, e = .returned (.slice (some ⟨G, 0, none⟩) m m) ∧ w.heap.size ≤ G ∧ Blk w' G 149 ((digs 4294967296 m A).map wvn).toArray ∧ Below w.heap.size w w' by rw [hm]; exact W1.out)
    have W2' := Lib.hid (show ∀ w, Calls Tryd.prog 108 #[.string t] w fun e w' => ∃ G, e = .returned (.slice (some ⟨G, 0, none⟩) n n) ∧ w.heap.size ≤ G ∧ Blk w' G 149 ((digs 4294967296 n B).map wvn).toArray ∧ Below w.heap.size w w' by rw [hn]; exact W2.out)
    rw [← hm] at hle hw1 Hend Hlt
    rw [← hn] at hle HBl
    clear hc e2 hm hn W1 W2 hw2 hlt
    go_enter Tryd.func117, Tryd.ntmps117
    go_wp2_with fail
    refine H1.out.mono ?_
    rintro e w' ⟨rfl, rfl⟩
    go_wp2_with fail
    refine W1'.out.mono ?_
    rintro e w1 ⟨gx, rfl, hgx, hX, hb1⟩
    go_wp2_with fail
    refine (W2'.out w1).mono ?_
    rintro e w2 ⟨gy, rfl, hgy, hY, hb2⟩
    have hgl := hX.lt
    have HL := Lib.hid (less_any w2 gx gy m n A B (by omega) hle (by omega) (hX.below hb2 hgl) hY HBl.out)
    have Hgx := Lib.hid hgx
    have Hb := Lib.hid (hb1.trans (hb2.mono hb1.size))
    clear hX hY hb1 hb2 hgx hgy hgl
    go_wp2_with fail
    refine HL.out.mono ?_
    rintro e w3 ⟨rfl, hB3, hc3⟩
    rw [Hend.out] at hB3
    have hb3 := hc3.below Hgx.out Hb.out.size
    have HT := Lib.hid (text_any w3 (some ⟨gx, 0, none⟩) m m (A - B) (by omega) (Rd.blk hB3 (by simp [digs_len])))
    have Hb3 := Lib.hid (Hb.out.trans hb3)
    clear hB3 hc3 hb3
    go_wp2_with fail
    refine HT.out.mono ?_
    rintro e w4 ⟨rfl, hb4⟩
    go_wp2
    go_ret2
    exact ⟨by rw [Hlt.out]; rfl, Hb3.out.trans (hb4.mono Hb3.out.size)⟩
end Go.Proofs.YtnnbnecpcppkdaaDoor
namespace Go.Proofs.YtnnbnecpcppkdaaDoor
open Go.RowKit Go.Gy
set_option linter.unusedVariables false
def MulO (w3 : World) (X Y lx m : Nat) (i : Value) (wr : World) : Prop := ∃ k : Nat, k ≤ lx ∧ i = .int .i64 k ∧ Blk wr w3.heap.size 149 ((digs 4294967296 m (X % 4294967296 ^ k * Y)).map wvn).toArray ∧ Below w3.heap.size w3 wr
def MulI (w3 : World) (X Y i ly m : Nat) (c k : Value) (wr : World) : Prop := ∃ j N z : Nat, j ≤ ly ∧ k = .int .i64 j ∧ c = .int .u64 z ∧ z < 4294967296 ∧ Hid (N + z * 4294967296 ^ (i + j) = X % 4294967296 ^ i * Y + 4294967296 ^ i * (X / 4294967296 ^ i % 4294967296) * (Y % 4294967296 ^ j)) ∧ Hid (N < 4294967296 ^ (i + ly)) ∧ Blk wr w3.heap.size 149 ((digs 4294967296 m N).map wvn).toArray ∧ Below w3.heap.size w3 wr
theorem mul_le_bound {x y : Nat} (hx : x < 4294967296) (hy : y < 4294967296) : x * y ≤ 18446744065119617025 := by
  have := Nat.mul_le_mul (show x ≤ 4294967295 by omega) (show y ≤ 4294967295 by omega)
  omega
set_option maxRecDepth 100000 in
set_option maxHeartbeats 4000000 in
theorem mul_any (w : World) (s t : ByteArray) (hs : s.size ≤ 8796093022208) (ht : t.size ≤ 8796093022208) :
    Calls Tryd.prog 70 #[.string s, .string t] w fun e w' => e = .returned (.string (natS (sval s * sval t))) ∧ Below w.heap.size w w' := by
  have H1 := Lib.hid (trim_any w s (by omega))
  have H2 := Lib.hid (trim_any w t (by omega))
  have hw1 := wlen_size s hs
  have hw2 := wlen_size t ht
  obtain ⟨A, hA⟩ : ∃ A, A = sval s := ⟨_, rfl⟩
  obtain ⟨B, hB⟩ : ∃ B, B = sval t := ⟨_, rfl⟩
  have hl1 := sval_trim_le s
  have hl2 := sval_trim_le t
  rw [← hA] at H1 hl1 hw1 ⊢
  rw [← hB] at H2 hl2 hw2 ⊢
  have hz1 : A < 256 ^ (natS A).size := (natL_len_le A _).mp (by rw [natS_size]; exact Nat.le_refl _)
  have hz2 : B < 256 ^ (natS B).size := (natL_len_le B _).mp (by rw [natS_size]; exact Nat.le_refl _)
  have hv1 := sval_natS A
  have hv2 := sval_natS B
  obtain ⟨a, ha⟩ : ∃ a, a = natS A := ⟨_, rfl⟩
  obtain ⟨b, hb⟩ : ∃ b, b = natS B := ⟨_, rfl⟩
  rw [← ha] at H1 hl1 hz1 hv1
  rw [← hb] at H2 hl2 hz2 hv2
  clear hA hB ha hb
  by_cases h8 : a.size + b.size ≤ 8
  · have S1 := Lib.hid (short_any w a (by omega))
    have S2 := Lib.hid (short_any w b (by omega))
    rw [hv1] at S1
    rw [hv2] at S2
    have hAB : A * B < 18446744073709551616 := by
      have h1 : A * B < 256 ^ a.size * 256 ^ b.size := Nat.lt_of_le_of_lt (Nat.mul_le_mul_left A (Nat.le_of_lt hz2)) (Nat.mul_lt_mul_of_pos_right hz1 (Nat.pow_pos (by omega)))
      rw [← Nat.pow_add] at h1
      exact Nat.lt_of_lt_of_le h1 (Nat.le_trans (Nat.pow_le_pow_right (by omega) h8) (by decide))
    have F := Lib.hid (fromShort_any w (A * B) hAB)
    obtain ⟨p, hp⟩ : ∃ p, p = A * B := ⟨_, rfl⟩
    rw [← hp] at F hAB ⊢
    have hpi : (A : Int) * (B : Int) = (p : Int) := by rw [hp]; simp
    have hle : (a.size : Int) + (b.size : Int) ≤ 8 := by omega
    have hpw : IntKind.u64.wrap (p : Int) = p := by rw [IntKind.wrap_u64]; omega
    have ha2 : a.size ≤ 8 := by omega
    have hb2 : b.size ≤ 8 := by omega
    clear hz1 hz2 hv1 hv2 hl1 hl2 hp
    go_enter Tryd.func70, Tryd.ntmps70
    go_wp2_with fail
    refine H1.out.mono ?_
    rintro e w' ⟨rfl, rfl⟩
    go_wp2_with fail
    refine H2.out.mono ?_
    rintro e w' ⟨rfl, rfl⟩
    go_wp2_with fail
    refine S1.out.mono ?_
    rintro e w' ⟨rfl, rfl⟩
    go_wp2_with fail
    refine S2.out.mono ?_
    rintro e w' ⟨rfl, rfl⟩
    go_wp2_with fail
    refine F.out.mono ?_
    rintro e w' ⟨rfl, hb⟩
    go_wp2
    go_ret
    exact ⟨rfl, hb⟩
  · have W1 := Lib.hid (words_any w a (by omega))
    have W2 := Lib.hid (fun w' => words_any w' b (by omega))
    rw [hv1] at W1
    rw [hv2] at W2
    have hle : ¬ (a.size : Int) + (b.size : Int) ≤ 8 := by omega
    obtain ⟨m, hm⟩ : ∃ m, m = wlen A := ⟨_, rfl⟩
    obtain ⟨n, hn⟩ : ∃ n, n = wlen B := ⟨_, rfl⟩
    have W1' := Lib.hid (show Calls Tryd.prog 108 #[.string a] w fun e w' => ∃ G, e = .returned (.slice (some ⟨G, 0, none⟩) m m) ∧ w.heap.size ≤ G ∧ Blk w' G 149 ((digs 4294967296 m A).map wvn).toArray ∧ Below w.heap.size w w' by rw [hm]; exact W1.out)
    have W2' := Lib.hid (show ∀ w, Calls Tryd.prog 108 #[.string b] w fun e w' => ∃ G, e = .returned (.slice (some ⟨G, 0, none⟩) n n) ∧ w.heap.size ≤ G ∧ Blk w' G 149 ((digs 4294967296 n B).map wvn).toArray ∧ Below w.heap.size w w' by rw [hn]; exact W2.out)
    have HAl := Lib.hid (show A < 4294967296 ^ m by rw [hm]; exact wlen_lt A)
    have HBl := Lib.hid (show B < 4294967296 ^ n by rw [hn]; exact wlen_lt B)
    rw [← hm] at hw1
    rw [← hn] at hw2
    have ha2 : a.size ≤ 8796093022208 := by omega
    have hb2 : b.size ≤ 8796093022208 := by omega
    clear hz1 hz2 hv1 hv2 hl1 hl2 h8 hm hn W1 W2
    go_enter Tryd.func70, Tryd.ntmps70
    go_wp2_with fail
    refine H1.out.mono ?_
    rintro e w' ⟨rfl, rfl⟩
    go_wp2_with fail
    refine H2.out.mono ?_
    rintro e w' ⟨rfl, rfl⟩
    go_wp2_with fail
    refine W1'.out.mono ?_
    rintro e w1 ⟨gx, rfl, hgx, hX, hb1⟩
    go_wp2_with fail
    refine (W2'.out w1).mono ?_
    rintro e w2 ⟨gy, rfl, hgy, hY, hb2⟩
    have hgl := hX.lt
    have hX2 := hX.below hb2 hgl
    have Hb := Lib.hid (hb1.trans (hb2.mono hb1.size))
    have Hx := Lib.hid (show ∀ k, k < m → ∀ wr, Below w2.heap.size w2 wr → wr.cell? ⟨gx, k, none⟩ = some (.int .u32 ((A / 4294967296 ^ k % 4294967296 : Nat) : Int)) from fun k hk wr hb => (hb.cell (p := ⟨gx, k, none⟩) hX2.lt).trans (blk_dig hX2 hk))
    have Hy := Lib.hid (show ∀ k, k < n → ∀ wr, Below w2.heap.size w2 wr → wr.cell? ⟨gy, k, none⟩ = some (.int .u32 ((B / 4294967296 ^ k % 4294967296 : Nat) : Int)) from fun k hk wr hb => (hb.cell (p := ⟨gy, k, none⟩) hY.lt).trans (blk_dig hY hk))
    have hmk := make_u32 (m + n) (by omega) w2
    have hc1 : ((m + n : Nat) : Int) = (m : Int) + (n : Int) := by omega
    rw [hc1] at hmk
    clear hX hX2 hY hb1 hb2 hgx hgy hgl hc1 W1' W2' H1 H2
    go_wp2
    go_loopw [41] (fun i wr => MulO w2 A B m (m + n) i wr) (fun i _ => m - (intOf i).toNat)
    case atStart =>
      refine ⟨0, Nat.zero_le _, rfl, ?_, (Below.refl _ _).alloc (Nat.le_refl _) _⟩
      rw [Nat.pow_zero, Nat.mod_one, Nat.zero_mul, digs_zero]
      have := Blk.new w2 149 ((List.replicate (m + n) 0).map wvn).toArray
      simpa using this
    case round =>
      obtain ⟨wo, rfl⟩ : ∃ wo : World, wo = wr := ⟨_, rfl⟩
      obtain ⟨i, hi, rfl, hB, hb3⟩ := hrel
      by_cases hlt : i < m
      · have hcx := Hx.out i hlt wo hb3
        obtain ⟨x, hx⟩ : ∃ x, x = A / 4294967296 ^ i % 4294967296 := ⟨_, rfl⟩
        have hxl : x < 4294967296 := by rw [hx]; exact Nat.mod_lt _ (by omega)
        rw [← hx] at hcx
        have Hst := Lib.hid (show MulI w2 A B i n (m + n) (.int .u64 0) (.int .i64 0) wo from ⟨0, _, 0, Nat.zero_le _, rfl, rfl, by omega, Lib.hid (mul_start 4294967296 A B i), Lib.hid (mul_row_lt (by omega) HBl.out), hB, hb3⟩)
        have HX := Lib.hid hx
        clear hx hB hb3
        go_wp2
        go_loopw [10, 48] (fun c k wr => MulI w2 A B i n (m + n) c k wr) (fun _ k _ => n - (intOf k).toNat)
        case atStart => exact Hst.out
        case round =>
          obtain ⟨j, N, z, hj, rfl, rfl, hz, HN, HNl, hB, hb3⟩ := hrel
          by_cases hjn : j < n
          · have hcy := Hy.out j hjn wr hb3
            obtain ⟨y, hy⟩ : ∃ y, y = B / 4294967296 ^ j % 4294967296 := ⟨_, rfl⟩
            obtain ⟨o, ho⟩ : ∃ o, o = N / 4294967296 ^ (i + j) % 4294967296 := ⟨_, rfl⟩
            have hyl : y < 4294967296 := by rw [hy]; exact Nat.mod_lt _ (by omega)
            have hol : o < 4294967296 := by rw [ho]; exact Nat.mod_lt _ (by omega)
            rw [← hy] at hcy
            have hco := blk_dig hB (k := i + j) (by omega)
            rw [← ho] at hco
            have hfo := hB.free (i + j)
            have hpb := mul_le_bound hxl hyl
            have hstep := mul_step (B := 4294967296) (by omega) HN.out
            rw [← HX.out, ← hy, ← ho] at hstep
            obtain ⟨p, hp⟩ : ∃ p, p = x * y := ⟨_, rfl⟩
            rw [← hp] at hpb hstep
            have hpi : (x : Int) * (y : Int) = (p : Int) := by rw [hp]; simp
            have hset := updN_digs (B := 4294967296) (m := m + n) (N := N) (j := i + j) (v := (z + p + o) % 4294967296) (by omega) (by omega) (Nat.mod_lt _ (by omega))
            have hst := blk_setn hB (i + j) ((z + p + o) % 4294967296)
            rw [hset] at hst
            have Hst := Lib.hid hst
            have Hstep := Lib.hid (hstep.trans (by rw [HX.out]))
            have HNl2 := Lib.hid (updN_lt (B := 4294967296) (v := (z + p + o) % 4294967296) (by omega) (Nat.mod_lt _ (by omega)) (show i + j < i + n by omega) HNl.out)
            have hij : ((i + j : Nat) : Int) = (i : Int) + (j : Int) := by omega
            have E1 := Lib.hid (show wvn ((z + p + o) % 4294967296) = .int .u32 (((z : Int) + ((p : Int) + (o : Int))) % 4294967296) by unfold wvn; congr 1; omega)
            have E2 := Lib.hid (show Value.int .u64 (((z : Int) + ((p : Int) + (o : Int))) / 4294967296) = .int .u64 (((z + p + o) / 4294967296 : Nat) : Int) by congr 1; omega)
            have E3 := Lib.hid (show (z + p + o) / 4294967296 < 4294967296 by omega)
            clear hy ho hp hset hst hstep hB HN HNl hij
            go_wp2
            go_roundw
            case rel => exact ⟨j + 1, _, _, by omega, by go_num, E2.out, E3.out, Hstep, HNl2, by rw [← E1.out]; exact Hst.out, hb3.setCell (Nat.le_refl _) _⟩
            case measure => simp [intOf]; omega
          · obtain rfl : j = n := by omega
            have hco := blk_dig hB (k := i + j) (by omega)
            have hfo := hB.free (i + j)
            have hst := blk_setn hB (i + j) z
            rw [digs_put (by omega) (by omega) HNl.out hz, mul_row (by omega) HBl.out HN.out, show wvn z = Value.int .u32 (z : Int) from rfl] at hst
            have Hst := Lib.hid hst
            clear hB hst
            go_wp2
            go_roundw
            case rel => exact ⟨i + 1, by omega, by go_num, Hst.out, hb3.setCell (Nat.le_refl _) _⟩
            case measure => simp [intOf]; omega
      · obtain rfl : i = m := by omega
        have HT := Lib.hid (text_any wo (some ⟨w2.heap.size, 0, none⟩) (i + n) (i + n) (A % 4294967296 ^ i * B) (by omega) (Rd.blk hB (by simp [digs_len])))
        have Hv := Lib.hid (show A % 4294967296 ^ i * B % 4294967296 ^ (i + n) = A * B by
          rw [Nat.mod_eq_of_lt (mul_row_lt (by omega) HBl.out), Nat.mod_eq_of_lt HAl.out])
        clear hB
        go_wp2_with fail
        refine HT.out.mono ?_
        rintro e w4 ⟨rfl, hb4⟩
        go_wp2
        go_ret
        exact ⟨ret_str (by rw [Hv.out]), Hb.out.trans ((hb3.trans (hb4.mono hb3.size)).mono Hb.out.size)⟩
end Go.Proofs.YtnnbnecpcppkdaaDoor
namespace Go.Proofs.YtnnbnecpcppkdaaDoor
open Go.RowKit Go.Gy
set_option linter.unusedVariables false
/-- a number whose digits from one on are another's -/
def winU (B U off N : Nat) : Nat := U % B ^ off + B ^ off * N
theorem winU_dig {B : Nat} (hB : 0 < B) (U off N i : Nat) : winU B U off N / B ^ (off + i) % B = N / B ^ i % B := by
  unfold winU
  rw [Nat.pow_add, ← Nat.div_div_eq_div_mul, low_div (Nat.mod_lt _ (pow_pos' hB off))]
theorem winU_set {B M U off N i v : Nat} (hB : 0 < B) (hi : off + i < M) (hv : v < B) : (digs B M (winU B U off N)).set (off + i) v = digs B M (winU B U off (updN B N i v)) := by
  refine digs_upd hB hi hv ?_
  rw [winU_dig hB]
  have h1 := updN_eq hB N i v
  unfold winU
  rw [Nat.pow_add, Nat.mul_assoc, Nat.mul_assoc]
  have h2 : B ^ off * (updN B N i v + B ^ i * (N / B ^ i % B)) = B ^ off * (N + B ^ i * v) := by rw [h1]
  rw [Nat.mul_add, Nat.mul_add] at h2
  omega
theorem winU_self (B U off : Nat) : winU B U off (U / B ^ off) = U := Nat.mod_add_div U (B ^ off)
def TakeRel (w : World) (gu M U off n V d : Nat) (c b i : Value) (wr : World) : Prop := ∃ k N x y : Nat, k ≤ n ∧ i = .int .i64 k ∧ c = .int .u64 x ∧ b = .int .u64 y ∧ x < 4294967296 ∧ y ≤ 1 ∧ Hid (N + d * (V % 4294967296 ^ k) = U / 4294967296 ^ off + (x + y) * 4294967296 ^ k) ∧ Hid (N / 4294967296 ^ k = U / 4294967296 ^ off / 4294967296 ^ k) ∧ Blk wr gu 149 ((digs 4294967296 M (winU 4294967296 U off N)).map wvn).toArray ∧ Chg gu w wr
def TakePost (w : World) (gu M U off n V d : Nat) (e : Ending) (w' : World) : Prop := ∃ (b : Bool) (N : Nat), e = .returned (.bool b) ∧ Blk w' gu 149 ((digs 4294967296 M (winU 4294967296 U off N)).map wvn).toArray ∧ Chg gu w w' ∧ N + d * V = U / 4294967296 ^ off + (if b then 1 else 0) * 4294967296 ^ (n + 1) ∧ N < 4294967296 ^ (n + 1)
theorem word_sub2 (u s b : Nat) (hu : u < 4294967296) (hs : s < 4294967296) (hb : b ≤ 1) : Value.int .u32 (IntKind.u64.wrap (IntKind.u64.wrap ((u : Int) - (s : Int)) - (b : Int)) % 4294967296) = wvn ((u + 4294967296 - s + 4294967296 - b) % 4294967296) ∧ Value.int .u64 (IntKind.u64.wrap (IntKind.u64.wrap ((u : Int) - (s : Int)) - (b : Int)) / 9223372036854775808) = .int .u64 ((if u < s + b then 1 else 0 : Nat) : Int) := by
  unfold wvn
  rw [IntKind.wrap_u64, IntKind.wrap_u64]
  constructor
  · congr 1
    omega
  · congr 1
    by_cases h : u < s + b
    · rw [if_pos h]; omega
    · rw [if_neg h]; omega
set_option maxRecDepth 100000 in
set_option maxHeartbeats 4000000 in
theorem take_any (w : World) (gu gv M K U V off n d c1 c2 : Nat) (hne : gv ≠ gu) (hM : off + n + 1 ≤ M) (hK : n ≤ K) (hm : M ≤ 35184372088832) (hc1 : n + 1 ≤ c1) (hd : d < 4294967296) (hVl : V < 4294967296 ^ n) (hW : U / 4294967296 ^ off < 4294967296 ^ (n + 1))
    (hU : Blk w gu 149 ((digs 4294967296 M U).map wvn).toArray) (hV : Blk w gv 149 ((digs 4294967296 K V).map wvn).toArray) :
    Calls Tryd.prog 136 #[.slice (some ⟨gu, off, none⟩) (n + 1) c1, .slice (some ⟨gv, 0, none⟩) n c2, .int .u64 d] w (TakePost w gu M U off n V d) := by
  have Hv := Lib.hid (show ∀ k, k < n → ∀ wr, Chg gu w wr → wr.cell? ⟨gv, k, none⟩ = some (.int .u32 ((V / 4294967296 ^ k % 4294967296 : Nat) : Int)) from fun k hk wr hb => (hb.cell hV.lt hne).trans (blk_dig hV (by omega)))
  have Hst := Lib.hid (show TakeRel w gu M U off n V d (.int .u64 0) (.int .u64 0) (.int .i64 0) w from ⟨0, _, 0, 0, Nat.zero_le _, rfl, rfl, rfl, by omega, by omega, Lib.hid (by simp [Nat.mod_one]), Lib.hid rfl, by rw [winU_self]; exact hU, Chg.refl _ _⟩)
  have HVl := Lib.hid hVl
  have HW := Lib.hid hW
  clear hU hV hVl hW
  go_enter Tryd.func136, Tryd.ntmps136
  go_wp2
  go_loopw [7, 8, 15] (fun c b i wr => TakeRel w gu M U off n V d c b i wr) (fun _ _ i _ => n - (intOf i).toNat)
  case atStart => exact Hst.out
  case round =>
    obtain ⟨k, N, x, y, hk, rfl, rfl, rfl, hx, hy, HN, HD, hB, hch⟩ := hrel
    by_cases hlt : k < n
    · have hcv := Hv.out k hlt wr hch
      obtain ⟨v, hv⟩ : ∃ v, v = V / 4294967296 ^ k % 4294967296 := ⟨_, rfl⟩
      obtain ⟨u, hu⟩ : ∃ u, u = U / 4294967296 ^ off / 4294967296 ^ k % 4294967296 := ⟨_, rfl⟩
      have hvl : v < 4294967296 := by rw [hv]; exact Nat.mod_lt _ (by omega)
      have hul : u < 4294967296 := by rw [hu]; exact Nat.mod_lt _ (by omega)
      rw [← hv] at hcv
      have hcu := blk_dig hB (k := off + k) (by omega)
      rw [winU_dig (by omega), HD.out, ← hu] at hcu
      have hfu := hB.free (off + k)
      obtain ⟨s1, s2, s3, s4, s5⟩ := take_step (B := 4294967296) (n := n) (by omega) HN.out HD.out hy hx hd
      rw [← hv, ← hu] at s1 s2 s4 s5
      rw [← hv] at s3
      have hpb := mul_le_bound hd hvl
      obtain ⟨p, hp⟩ : ∃ p, p = d * v := ⟨_, rfl⟩
      rw [← hp] at hpb s1 s2 s3 s4 s5
      have hpi : (d : Int) * (v : Int) = (p : Int) := by rw [hp]; simp
      obtain ⟨t, ht⟩ : ∃ t, t = x + p := ⟨_, rfl⟩
      rw [← ht] at s1 s2 s3 s4 s5
      have hti : (x : Int) + (p : Int) = (t : Int) := by omega
      have htl : t ≤ 18446744069414584320 := by omega
      obtain ⟨s, hs⟩ : ∃ s, s = t % 4294967296 := ⟨_, rfl⟩
      rw [← hs] at s1 s2 s4 s5
      have hsi : (t : Int) % 4294967296 = (s : Int) := by omega
      have hsl : s < 4294967296 := by omega
      have E := Lib.hid (word_sub2 u s y hul hsl hy)
      have hst := blk_setn hB (off + k) ((u + 4294967296 - s + 4294967296 - y) % 4294967296)
      rw [winU_set (by omega) (by omega) s5, ← E.out.1] at hst
      have Hst := Lib.hid hst
      have S1 := Lib.hid s1
      have S2 := Lib.hid s2
      have S3 := Lib.hid s3
      have S4 := Lib.hid s4
      have E2 := Lib.hid (show Value.int .u64 ((t : Int) / 4294967296) = .int .u64 ((t / 4294967296 : Nat) : Int) by congr 1)
      clear hv hu hp ht hs hst hB HN HD s1 s2 s3 s4 s5
      go_wp2
      go_roundw
      case rel => exact ⟨k + 1, _, _, _, by omega, by go_num, E2.out, E.out.2, S3.out, S4.out, S1, S2, Hst.out, hch.set _ _⟩
      case measure => simp [intOf]; omega
    · obtain rfl : k = n := by omega
      obtain ⟨u, hu⟩ : ∃ u, u = U / 4294967296 ^ off / 4294967296 ^ k % 4294967296 := ⟨_, rfl⟩
      have hul : u < 4294967296 := by rw [hu]; exact Nat.mod_lt _ (by omega)
      have hcu := blk_dig hB (k := off + k) (by omega)
      rw [winU_dig (by omega), HD.out, ← hu] at hcu
      have hfu := hB.free (off + k)
      obtain ⟨s1, s2, s3⟩ := take_end (B := 4294967296) (by omega) HN.out HD.out HVl.out HW.out hy hx
      rw [← hu] at s1 s2 s3
      have E := Lib.hid (word_sub2 u x y hul hx hy)
      have hst := blk_setn hB (off + k) ((u + 4294967296 - x + 4294967296 - y) % 4294967296)
      rw [winU_set (by omega) (by omega) s3, ← E.out.1] at hst
      have HP := Lib.hid (show ∀ b : Bool, b = decide (u < x + y) → TakePost w gu M U off k V d (.returned (.bool b)) (wr.setCell ⟨gu, off + k, none⟩ (.int .u32 (IntKind.u64.wrap (IntKind.u64.wrap ((u : Int) - (x : Int)) - (y : Int)) % 4294967296))) from fun b hb => ⟨b, _, rfl, hst, hch.set _ _, by
        rw [s1, hb]
        by_cases h : u < x + y
        · simp [h]
        · simp [h], s2⟩)
      have HE := Lib.hid (show (0 < IntKind.u64.wrap (IntKind.u64.wrap ((u : Int) - (x : Int)) - (y : Int)) / 9223372036854775808) ↔ u < x + y by
        have := E.out.2
        injection this with _ h
        rw [h]
        by_cases h : u < x + y
        · simp [h]
        · simp [h])
      clear hu hst hB HN HD s1 s2 s3
      go_wp2
      go_ret
      exact HP.out _ (decide_eq_decide.mpr HE.out)
def BackRel (w : World) (gu M U off n V W : Nat) (c i : Value) (wr : World) : Prop := ∃ k N x : Nat, k ≤ n ∧ i = .int .i64 k ∧ c = .int .u64 x ∧ x ≤ 1 ∧ Hid (N + x * 4294967296 ^ k = W + V % 4294967296 ^ k) ∧ Hid (N / 4294967296 ^ k = W / 4294967296 ^ k) ∧ Blk wr gu 149 ((digs 4294967296 M (winU 4294967296 U off N)).map wvn).toArray ∧ Chg gu w wr
set_option maxRecDepth 100000 in
set_option maxHeartbeats 4000000 in
theorem back_any (w : World) (gu gv M K U V W off n c1 c2 : Nat) (hne : gv ≠ gu) (hM : off + n + 1 ≤ M) (hK : n ≤ K) (hm : M ≤ 35184372088832) (hc1 : n + 1 ≤ c1) (hVl : V < 4294967296 ^ n) (hW : W < 4294967296 ^ (n + 1))
    (hU : Blk w gu 149 ((digs 4294967296 M (winU 4294967296 U off W)).map wvn).toArray) (hV : Blk w gv 149 ((digs 4294967296 K V).map wvn).toArray) :
    Calls Tryd.prog 137 #[.slice (some ⟨gu, off, none⟩) (n + 1) c1, .slice (some ⟨gv, 0, none⟩) n c2] w fun e w' => e = .returned (.tuple #[]) ∧ Blk w' gu 149 ((digs 4294967296 M (winU 4294967296 U off ((W + V) % 4294967296 ^ (n + 1)))).map wvn).toArray ∧ Chg gu w w' := by
  have Hv := Lib.hid (show ∀ k, k < n → ∀ wr, Chg gu w wr → wr.cell? ⟨gv, k, none⟩ = some (.int .u32 ((V / 4294967296 ^ k % 4294967296 : Nat) : Int)) from fun k hk wr hb => (hb.cell hV.lt hne).trans (blk_dig hV (by omega)))
  have Hst := Lib.hid (show BackRel w gu M U off n V W (.int .u64 0) (.int .i64 0) w from ⟨0, _, 0, Nat.zero_le _, rfl, rfl, by omega, Lib.hid (by simp [Nat.mod_one]), Lib.hid rfl, hU, Chg.refl _ _⟩)
  have HVl := Lib.hid hVl
  have HW := Lib.hid hW
  clear hU hV hVl hW
  go_enter Tryd.func137, Tryd.ntmps137
  go_wp2
  go_loopw [4, 9] (fun c i wr => BackRel w gu M U off n V W c i wr) (fun _ i _ => n - (intOf i).toNat)
  case atStart => exact Hst.out
  case round =>
    obtain ⟨k, N, x, hk, rfl, rfl, hx, HN, HD, hB, hch⟩ := hrel
    by_cases hlt : k < n
    · have hcv := Hv.out k hlt wr hch
      obtain ⟨v, hv⟩ : ∃ v, v = V / 4294967296 ^ k % 4294967296 := ⟨_, rfl⟩
      obtain ⟨u, hu⟩ : ∃ u, u = W / 4294967296 ^ k % 4294967296 := ⟨_, rfl⟩
      have hvl : v < 4294967296 := by rw [hv]; exact Nat.mod_lt _ (by omega)
      have hul : u < 4294967296 := by rw [hu]; exact Nat.mod_lt _ (by omega)
      rw [← hv] at hcv
      have hcu := blk_dig hB (k := off + k) (by omega)
      rw [winU_dig (by omega), HD.out, ← hu] at hcu
      have hfu := hB.free (off + k)
      obtain ⟨s1, s2, s3⟩ := back_step (B := 4294967296) (by omega) HN.out HD.out hx
      rw [← hv, ← hu] at s1 s2 s3
      have hst := blk_setn hB (off + k) ((x + u + v) % 4294967296)
      rw [winU_set (by omega) (by omega) (Nat.mod_lt _ (by omega)), show wvn ((x + u + v) % 4294967296) = .int .u32 (((x : Int) + ((u : Int) + (v : Int))) % 4294967296) by unfold wvn; congr 1; omega] at hst
      have Hst := Lib.hid hst
      have S1 := Lib.hid s1
      have S2 := Lib.hid s2
      have S3 := Lib.hid s3
      have E2 := Lib.hid (show Value.int .u64 (((x : Int) + ((u : Int) + (v : Int))) / 4294967296) = .int .u64 (((x + u + v) / 4294967296 : Nat) : Int) by congr 1; omega)
      clear hv hu hst hB HN HD s1 s2 s3
      go_wp2
      go_roundw
      case rel => exact ⟨k + 1, _, _, by omega, by go_num, E2.out, S3.out, S1, S2, Hst.out, hch.set _ _⟩
      case measure => simp [intOf]; omega
    · obtain rfl : k = n := by omega
      obtain ⟨u, hu⟩ : ∃ u, u = W / 4294967296 ^ k % 4294967296 := ⟨_, rfl⟩
      have hul : u < 4294967296 := by rw [hu]; exact Nat.mod_lt _ (by omega)
      have hcu := blk_dig hB (k := off + k) (by omega)
      rw [winU_dig (by omega), HD.out, ← hu] at hcu
      have hfu := hB.free (off + k)
      have s1 := back_end (B := 4294967296) (by omega) HN.out HD.out HVl.out HW.out
      rw [← hu] at s1
      have hst := blk_setn hB (off + k) ((u + x) % 4294967296)
      rw [winU_set (by omega) (by omega) (Nat.mod_lt _ (by omega)), s1, show wvn ((u + x) % 4294967296) = .int .u32 (((u : Int) + (x : Int)) % 4294967296) by unfold wvn; congr 1] at hst
      have Hst := Lib.hid hst
      clear hu hst hB HN HD s1
      go_wp2
      go_end0
      exact ⟨rfl, Hst.out, hch.set _ _⟩
def LeftRel (w : World) (X p m : Nat) (i : Value) (wr : World) : Prop := ∃ k : Nat, k ≤ m ∧ i = .int .i64 k ∧ Blk wr w.heap.size 149 ((digs 4294967296 (m + 1) (X % 4294967296 ^ k * p)).map wvn).toArray ∧ Below w.heap.size w wr
set_option maxRecDepth 100000 in
set_option maxHeartbeats 4000000 in
theorem left_any (w : World) (gx m X b : Nat) (hm : m ≤ 17592186044416) (hb : b < 32) (hX : Blk w gx 149 ((digs 4294967296 m X).map wvn).toArray) (hXl : X < 4294967296 ^ m) :
    Calls Tryd.prog 135 #[.slice (some ⟨gx, 0, none⟩) m m, .int .i64 b] w fun e w' => e = .returned (.slice (some ⟨w.heap.size, 0, none⟩) (m + 1) (m + 1)) ∧ Blk w' w.heap.size 149 ((digs 4294967296 (m + 1) (X * 2 ^ b)).map wvn).toArray ∧ Below w.heap.size w w' := by
  have Hx := Lib.hid (show ∀ k, k < m → ∀ wr, Below w.heap.size w wr → wr.cell? ⟨gx, k, none⟩ = some (.int .u32 ((X / 4294967296 ^ k % 4294967296 : Nat) : Int)) from fun k hk wr hb => (hb.cell (p := ⟨gx, k, none⟩) hX.lt).trans (blk_dig hX hk))
  have hmk := make_u32 (m + 1) (by omega) w
  have hc1 : ((m + 1 : Nat) : Int) = (m : Int) + 1 := by omega
  rw [hc1] at hmk
  have HXl := Lib.hid hXl
  clear hX hXl hc1
  go_enter Tryd.func135, Tryd.ntmps135
  go_wp2
  go_loopw [15] (fun i wr => LeftRel w X (2 ^ b) m i wr) (fun i _ => m - (intOf i).toNat)
  case atStart =>
    refine ⟨0, Nat.zero_le _, rfl, ?_, (Below.refl _ _).alloc (Nat.le_refl _) _⟩
    rw [Nat.pow_zero, Nat.mod_one, Nat.zero_mul, digs_zero]
    have := Blk.new w 149 ((List.replicate (m + 1) 0).map wvn).toArray
    simpa using this
  case round =>
    obtain ⟨k, hk, rfl, hB, hbw⟩ := hrel
    by_cases hlt : k < m
    · have hcx := Hx.out k hlt wr hbw
      obtain ⟨x, hx⟩ : ∃ x, x = X / 4294967296 ^ k % 4294967296 := ⟨_, rfl⟩
      have hxl : x < 4294967296 := by rw [hx]; exact Nat.mod_lt _ (by omega)
      rw [← hx] at hcx
      have hb0 : 0 < 2 ^ b := Nat.pow_pos (by omega)
      have hb1 : 2 ^ b ≤ 2147483648 := Nat.le_trans (Nat.pow_le_pow_right (by omega) (show b ≤ 31 by omega)) (by decide)
      obtain ⟨t, ht⟩ : ∃ t, t = X % 4294967296 ^ k * 2 ^ b / 4294967296 ^ k := ⟨_, rfl⟩
      have htl : t < 2 ^ b := by rw [ht]; exact shl_top (by omega) hb0 X k
      have htB : t < 4294967296 := by omega
      have hcb := blk_dig hB (k := k) (by omega)
      rw [← ht, Nat.mod_eq_of_lt htB] at hcb
      have hcb2 := blk_dig hB (k := k + 1) (by omega)
      obtain ⟨y, hy⟩ : ∃ y, y = X % 4294967296 ^ k * 2 ^ b / 4294967296 ^ (k + 1) % 4294967296 := ⟨_, rfl⟩
      rw [← hy] at hcb2
      have hfb := fun j => hB.free j
      obtain ⟨p, hp⟩ : ∃ p, p = x * 2 ^ b := ⟨_, rfl⟩
      have hpl : p < 9223372036854775808 := by
        rw [hp]
        have := Nat.mul_le_mul (show x ≤ 4294967295 by omega) hb1
        omega
      have hpw : IntKind.u64.wrap ((x : Int) * 2 ^ b) = (p : Int) := by
        rw [show (x : Int) * 2 ^ b = (p : Int) by rw [hp]; simp, IntKind.wrap_u64]
        omega
      obtain ⟨q, hq⟩ : ∃ q, q = p % 4294967296 := ⟨_, rfl⟩
      obtain ⟨r, hr⟩ : ∃ r, r = p / 4294967296 := ⟨_, rfl⟩
      have hqi : (p : Int) % 4294967296 = (q : Int) := by omega
      have hri : (p : Int) / 4294967296 = (r : Int) := by omega
      have hql : q < 4294967296 := by omega
      have hrl : r < 4294967296 := by omega
      have hqz : q = 2 ^ b * (x % 2 ^ (32 - b)) := by
        rw [hq, hp, Nat.mul_comm, show (4294967296 : Nat) = 2 ^ b * 2 ^ (32 - b) by rw [← Nat.pow_add, show b + (32 - b) = 32 by omega], Nat.mul_mod_mul_left]
      have hor : bits .or .u32 (t : Int) (q : Int) = ((t + q : Nat) : Int) := by
        rw [u32_or t q htB hql]
        congr 1
        rw [Nat.or_comm, hqz, or_add _ _ _ htl]
        omega
      have htq : t + q < 4294967296 := by
        have h1 : x % 2 ^ (32 - b) < 2 ^ (32 - b) := Nat.mod_lt _ (Nat.pow_pos (by omega))
        have h2 : 2 ^ b * (x % 2 ^ (32 - b) + 1) ≤ 2 ^ b * 2 ^ (32 - b) := Nat.mul_le_mul_left _ h1
        rw [← Nat.pow_add, show b + (32 - b) = 32 by omega, Nat.mul_add, ← hqz] at h2
        omega
      have hset := shl_digs (B := 4294967296) (p := 2 ^ b) (X := X) (i := k) (m := m + 1) (by omega) hb0 (by omega) (by omega) (by rw [← ht, ← hx, ← hp, ← hq]; exact htq)
      rw [← ht, ← hx, ← hp, ← hq, ← hr] at hset
      have hst := blk_setn (blk_setn hB k (t + q)) (k + 1) r
      rw [hset, show wvn (t + q) = .int .u32 ((t : Int) + (q : Int)) by unfold wvn; congr 1, show wvn r = .int .u32 (r : Int) from rfl] at hst
      have Hst := Lib.hid hst
      have hor2 : ((t + q : Nat) : Int) = (t : Int) + (q : Int) := by omega
      rw [hor2] at hor
      clear hx ht hy hp hq hr hqz hset hst hB hor2 hb0 hb1 htl
      go_wp2
      go_roundw
      case rel => exact ⟨k + 1, by omega, by go_num, Hst.out, (hbw.setCell (Nat.le_refl _) _).setCell (Nat.le_refl _) _⟩
      case measure => simp [intOf]; omega
    · obtain rfl : k = m := by omega
      go_wp2
      go_ret
      refine ⟨rfl, ?_, hbw⟩
      rw [Nat.mod_eq_of_lt HXl.out] at hB
      exact hB
end Go.Proofs.YtnnbnecpcppkdaaDoor
namespace Go.Proofs.YtnnbnecpcppkdaaDoor
open Go.RowKit Go.Gy
set_option linter.unusedVariables false
theorem bitLenAux_lt : ∀ (f x : Nat), x < 2 ^ f → x < 2 ^ Lib.bitLenAux f x ∧ Lib.bitLenAux f x ≤ f ∧ (x ≠ 0 → 1 ≤ Lib.bitLenAux f x)
  | 0, x, h => by
    have : x = 0 := by simpa using h
    subst this
    exact ⟨by simp [Lib.bitLenAux], by simp [Lib.bitLenAux], fun h => absurd rfl h⟩
  | f + 1, x, h => by
    unfold Lib.bitLenAux
    by_cases hx : x = 0
    · subst hx; simp
    · rw [if_neg hx]
      obtain ⟨h1, h2, _⟩ := bitLenAux_lt f (x / 2) (by rw [Nat.pow_succ] at h; omega)
      refine ⟨?_, by omega, fun _ => by omega⟩
      rw [Nat.add_comm, Nat.pow_succ]
      omega
theorem bitLen_lt (x : Nat) (h : x < 4294967296) : x < 2 ^ Lib.bitLen x ∧ Lib.bitLen x ≤ 32 ∧ (x ≠ 0 → 1 ≤ Lib.bitLen x) := by
  have e : Lib.bitLen x = Lib.bitLenAux 32 x := Lib.bitLenAux_fuel 32 x (by omega) 64 (by omega)
  rw [e]
  exact bitLenAux_lt 32 x (by omega)
/-- what is shifted fits -/
theorem shift_fits {Y n b : Nat} (hn : 1 ≤ n) (hY : Y < 4294967296 ^ n) (hb : Y / 4294967296 ^ (n - 1) < 2 ^ b) (hb2 : b ≤ 32) : Y * 2 ^ (32 - b) < 4294967296 ^ n := by
  have h1 : Y < 2 ^ b * 4294967296 ^ (n - 1) := by rwa [← Nat.div_lt_iff_lt_mul (Nat.pow_pos (by omega))]
  have h2 : Y * 2 ^ (32 - b) < 2 ^ b * 4294967296 ^ (n - 1) * 2 ^ (32 - b) := Nat.mul_lt_mul_of_pos_right h1 (Nat.pow_pos (by omega))
  have h3 : 2 ^ b * 4294967296 ^ (n - 1) * 2 ^ (32 - b) = 4294967296 ^ n := by
    obtain ⟨m, rfl⟩ : ∃ m, n = m + 1 := ⟨n - 1, by omega⟩
    rw [Nat.add_sub_cancel, Nat.pow_succ, Nat.mul_right_comm, ← Nat.pow_add, show b + (32 - b) = 32 by omega, Nat.mul_comm]
  omega
def LeftP (m N : Nat) (w : World) (e : Ending) (w' : World) : Prop := ∃ g, e = .returned (.slice (some ⟨g, 0, none⟩) (m + 1) (m + 1)) ∧ w.heap.size ≤ g ∧ Blk w' g 149 ((digs 4294967296 (m + 1) N).map wvn).toArray ∧ Below w.heap.size w w'
def LongCut (w : World) (m n U V : Nat) (u v : Value) (wx : World) : Prop := ∃ gu gv, u = .slice (some ⟨gu, 0, none⟩) (m + 1) (m + 1) ∧ v = .slice (some ⟨gv, 0, none⟩) n (n + 1) ∧ gu ≠ gv ∧ w.heap.size ≤ gu ∧ w.heap.size ≤ gv ∧ Blk wx gu 149 ((digs 4294967296 (m + 1) U).map wvn).toArray ∧ Blk wx gv 149 ((digs 4294967296 (n + 1) V).map wvn).toArray ∧ Below w.heap.size w wx
def LongRel (w : World) (gu gv gq m n lq U0 V : Nat) (i : Value) (wr : World) : Prop := ∃ K U Q : Nat, K ≤ lq ∧ ((K = 0 ∧ i = .int .i64 (-1)) ∨ ∃ k : Nat, K = k + 1 ∧ i = .int .i64 k) ∧ Hid (U + V * Q = U0) ∧ Hid (U < V * 4294967296 ^ K) ∧ Hid (Q % 4294967296 ^ K = 0) ∧ Blk wr gu 149 ((digs 4294967296 (m + 1) U).map wvn).toArray ∧ Blk wr gv 149 ((digs 4294967296 (n + 1) V).map wvn).toArray ∧ Blk wr gq 149 ((digs 4294967296 lq Q).map wvn).toArray ∧ Below w.heap.size w wr
theorem LongRel.start {w wc : World} {gu gv m n lq U0 V : Nat} (h1 : 1 ≤ lq) (hu : U0 < V * 4294967296 ^ lq) (hB : Blk wc gu 149 ((digs 4294967296 (m + 1) U0).map wvn).toArray) (hV : Blk wc gv 149 ((digs 4294967296 (n + 1) V).map wvn).toArray) (hb : Below w.heap.size w wc) :
    LongRel w gu gv wc.heap.size m n lq U0 V (.int .i64 ((lq : Int) - 1)) (wc.alloc (.cells (Array.replicate lq (wvn 0)) 149)) := by
  refine ⟨lq, U0, 0, Nat.le_refl _, .inr ⟨lq - 1, by omega, by congr 1; omega⟩, Lib.hid (by omega), Lib.hid hu, Lib.hid (Nat.zero_mod _), hB.alloc _, hV.alloc _, ?_, hb.alloc hb.size _⟩
  rw [digs_zero]
  have := Blk.new wc 149 ((List.replicate lq 0).map wvn).toArray
  simpa using this
theorem LongRel.step {w wr : World} {gu gv gq m n lq U0 U V Q W d i : Nat} (h1 : i ≤ lq) (hl : W / V < 4294967296 ∧ U % 4294967296 ^ i + 4294967296 ^ i * (W % V) + V * (Q + 4294967296 ^ i * (W / V)) = U0 ∧ U % 4294967296 ^ i + 4294967296 ^ i * (W % V) < V * 4294967296 ^ i ∧ (Q + 4294967296 ^ i * (W / V)) % 4294967296 ^ i = 0 ∧ Q / 4294967296 ^ i % 4294967296 = 0) (hd : d = W / V)
    (hB : Blk wr gu 149 ((digs 4294967296 (m + 1) (winU 4294967296 U i (W % V))).map wvn).toArray) (hV : Blk wr gv 149 ((digs 4294967296 (n + 1) V).map wvn).toArray) (hq : Blk wr gq 149 ((digs 4294967296 lq (Q + 4294967296 ^ i * d)).map wvn).toArray) (hb : Below w.heap.size w wr) :
    LongRel w gu gv gq m n lq U0 V (.int .i64 ((i : Int) - 1)) wr := by
  subst hd
  refine ⟨i, _, _, h1, ?_, Lib.hid hl.2.1, Lib.hid hl.2.2.1, Lib.hid hl.2.2.2.1, hB, hV, hq, hb⟩
  rcases Nat.eq_zero_or_pos i with h | h
  · subst h; exact .inl ⟨rfl, rfl⟩
  · exact .inr ⟨i - 1, by omega, by congr 1; omega⟩
def ShrRel (w : World) (gu gq m n lq b U R : Nat) (i : Value) (wr : World) : Prop := ∃ k : Nat, k ≤ n ∧ i = .int .i64 k ∧ Blk wr gu 149 ((digs 4294967296 (m + 1) (shrN 4294967296 U (2 ^ b) k)).map wvn).toArray ∧ Blk wr gq 149 ((digs 4294967296 lq R).map wvn).toArray ∧ Below w.heap.size w wr
theorem shr32 {U b i : Nat} (hb : b < 32) : U / 2 ^ b / 4294967296 ^ i % 4294967296 = U / 4294967296 ^ i % 4294967296 / 2 ^ b + U / 4294967296 ^ (i + 1) % 4294967296 * 2 ^ (32 - b) % 4294967296 := by
  have h := shr_dig (p := 2 ^ b) (q := 2 ^ (32 - b)) (U := U) (i := i) (Nat.pow_pos (by omega)) (Nat.pow_pos (by omega))
  rwa [← Nat.pow_add, show b + (32 - b) = 32 by omega] at h
theorem u64_pair (x y : Nat) (hx : x < 4294967296) (hy : y < 4294967296) : bits .or .u64 ((x : Int) * 4294967296) (y : Int) = ((x * 4294967296 + y : Nat) : Int) := by
  have h := u64_or (x * 4294967296) y (by omega) (by omega)
  have e : ((x * 4294967296 : Nat) : Int) = (x : Int) * 4294967296 := by omega
  rw [e] at h
  rw [h]
  congr 1
  have := or_add x 32 y hy
  rw [Nat.mul_comm x]
  exact this
def LongPost (w : World) (m n X Y : Nat) (e : Ending) (w' : World) : Prop := ∃ gq gr c, e = .returned (.tuple #[.slice (some ⟨gq, 0, none⟩) (m + 1 - n) (m + 1 - n), .slice (some ⟨gr, 0, none⟩) n c]) ∧ Blk w' gq 149 ((digs 4294967296 (m + 1 - n) (X / Y)).map wvn).toArray ∧ Blk w' gr 149 ((digs 4294967296 (m + 1) (X % Y)).map wvn).toArray ∧ Below w.heap.size w w'
set_option maxRecDepth 100000 in
set_option maxHeartbeats 8000000 in
theorem long_any (w : World) (gx gy m n X Y : Nat) (hn : 2 ≤ n) (hnm : n ≤ m) (hm : m ≤ 2199023255552) (hX : Blk w gx 149 ((digs 4294967296 m X).map wvn).toArray) (hY : Blk w gy 149 ((digs 4294967296 n Y).map wvn).toArray)
    (hXl : X < 4294967296 ^ m) (hYl : Y < 4294967296 ^ n) (hYt : 4294967296 ^ (n - 1) ≤ Y) (hne : gx ≠ gy) :
    Calls Tryd.prog 125 #[.slice (some ⟨gx, 0, none⟩) m m, .slice (some ⟨gy, 0, none⟩) n n] w (LongPost w m n X Y) := by
  obtain ⟨v, hv⟩ : ∃ v, v = Y / 4294967296 ^ (n - 1) := ⟨_, rfl⟩
  have hvl : v < 4294967296 := by
    rw [hv, Nat.div_lt_iff_lt_mul (Nat.pow_pos (by omega)), Nat.mul_comm, ← Nat.pow_succ, show (n - 1).succ = n by omega]
    exact hYl
  have hv0 : v ≠ 0 := by
    rw [hv]
    have := Nat.div_pos hYt (Nat.pow_pos (by omega))
    omega
  have hcy := blk_dig hY (k := n - 1) (by omega)
  rw [← hv, Nat.mod_eq_of_lt hvl] at hcy
  obtain ⟨hb1, hb2, hb3⟩ := bitLen_lt v hvl
  obtain ⟨b, hb⟩ : ∃ b, b = 32 - Lib.bitLen v := ⟨_, rfl⟩
  have hb4 := hb3 hv0
  have hbl : b < 32 := by omega
  have HZ := Lib.hid (show Calls Tryd.prog 134 #[.int .u32 (v : Int)] w fun e w' => e = .returned (.int .i64 (b : Int)) ∧ w = w' from (Tryd.bits_LeadingZeros32 v w (by omega) (by omega)).mono fun e w' ⟨h1, h2⟩ => ⟨by rw [h1]; exact ret_int (by rw [Int.toNat_natCast]; omega), h2.symm⟩)
  have HV := Lib.hid (show Y * 2 ^ b < 4294967296 ^ n by rw [hb]; exact shift_fits (by omega) hYl (by rw [← hv]; exact hb1) hb2)
  have HX := Lib.hid (show ∀ w', Below w.heap.size w w' → Calls Tryd.prog 135 #[.slice (some ⟨gx, 0, none⟩) m m, .int .i64 b] w' (LeftP m (X * 2 ^ b) w') from fun w' hbw => (left_any w' gx m X b (by omega) hbl (hX.below hbw hX.lt) hXl).mono fun e w'' ⟨h1, h2, h3⟩ => ⟨_, h1, Nat.le_refl _, h2, h3⟩)
  have HY := Lib.hid (show ∀ w', Below w.heap.size w w' → Calls Tryd.prog 135 #[.slice (some ⟨gy, 0, none⟩) n n, .int .i64 b] w' (LeftP n (Y * 2 ^ b) w') from fun w' hbw => (left_any w' gy n Y b (by omega) hbl (hY.below hbw hY.lt) hYl).mono fun e w'' ⟨h1, h2, h3⟩ => ⟨_, h1, Nat.le_refl _, h2, h3⟩)
  have HXl := Lib.hid hXl
  have HYt := Lib.hid hYt
  have hn1 : ((n : Int) - 1) = ((n - 1 : Nat) : Int) := by omega
  have hn1l : n - 1 < n := by omega
  obtain ⟨n1, hn1e⟩ : ∃ n1, n1 = n - 1 := ⟨_, rfl⟩
  rw [← hn1e] at hn1 hn1l hcy
  have Hne := Lib.hid hne
  have Hn1 := Lib.hid hn1e
  clear hX hY hXl hYl hYt hv hb hb1 hb2 hb3 hb4 hv0 hne hn1e
  go_enter Tryd.func125, Tryd.ntmps125
  go_wp2_with fail
  refine HZ.out.mono ?_
  rintro e w' ⟨rfl, rfl⟩
  go_upto_region 3 with (fail)
  go_cut [8, 9] (fun u v wx => LongCut w m n (X * 2 ^ b) (Y * 2 ^ b) u v wx)
  case first =>
    go_region_with (first
      | (go_at_call_of 135 (Value.slice (some ⟨gx, 0, none⟩) m m); refine (HX.out _ ?_).mono ?_; (first | exact (Below.refl _ _).drew | exact hbx); rintro e wa ⟨g1, rfl, hg1, hB1, hba⟩; (first | (have hbx := hbx.trans (hba.mono hbx.size)) | (have hbx : Below w.heap.size w wa := (Below.refl _ _).drew.trans hba)))
      | (go_at_call_of 135 (Value.slice (some ⟨gy, 0, none⟩) n n); refine (HY.out _ ?_).mono ?_; (first | exact (Below.refl _ _).drew | exact hbx); rintro e wb ⟨g2, rfl, hg2, hB2, hbb⟩; (first | (have hbx := hbx.trans (hbb.mono hbx.size)) | (have hbx : Below w.heap.size w wb := (Below.refl _ _).drew.trans hbb))))
    go_wp2_with fail
    go_meet
    have hg1l := hB1.lt
    exact ⟨g1, g2, rfl, rfl, by omega, hg1, by have := hba.size; simp at this; omega, hB1.below hbb hg1l, hB2, hbx⟩
  case rest =>
    obtain ⟨gu, gv, rfl, rfl, hguv, hgu, hgv, hBu, hBv, hbw⟩ := hcut
    have hp0 : 0 < 2 ^ b := Nat.pow_pos (by omega)
    obtain ⟨V, hV⟩ : ∃ V, V = Y * 2 ^ b := ⟨_, rfl⟩
    obtain ⟨U0, hU0⟩ : ∃ U0, U0 = X * 2 ^ b := ⟨_, rfl⟩
    have hVl := HV.out
    have hVt : 4294967296 ^ (n - 1) ≤ V := by rw [hV]; exact Nat.le_trans HYt.out (Nat.le_mul_of_pos_right Y hp0)
    have hUV : U0 < V * 4294967296 ^ (m + 1 - n) := by
      rw [hU0, hV, Nat.mul_right_comm]
      refine Nat.mul_lt_mul_of_pos_right (Nat.lt_of_lt_of_le HXl.out ?_) hp0
      have e : (4294967296 : Nat) ^ m = 4294967296 ^ (n - 1) * 4294967296 ^ (m + 1 - n) := by rw [← Nat.pow_add]; congr 1; omega
      rw [e]
      exact Nat.mul_le_mul_right _ HYt.out
    have Hdiv := Lib.hid (show U0 / V = X / Y by rw [hU0, hV, Nat.mul_div_mul_right _ _ hp0])
    have Hmod := Lib.hid (show U0 % V = X % Y * 2 ^ b by rw [hU0, hV, Nat.mul_mod_mul_right])
    rw [← hV] at hVl hBv
    rw [← hU0] at hBu
    have hVpos : 0 < V := Nat.lt_of_lt_of_le (Nat.pow_pos (by omega)) hVt
    obtain ⟨lq, hlq⟩ : ∃ lq, lq = m + 1 - n := ⟨_, rfl⟩
    have hlqi : (m : Int) + 1 - (n : Int) = (lq : Int) := by omega
    rw [← hlq] at hUV
    have hmk := make_u32 lq (by omega) wc
    have HVl := Lib.hid hVl
    have HVt := Lib.hid hVt
    have HUV := Lib.hid hUV
    have Hlq := Lib.hid hlq
    have HBu := Lib.hid hBu
    have HBv := Lib.hid hBv
    have Hbw := Lib.hid hbw
    clear hV hU0 hVl hVt hUV hlq hBu hBv hbw HX HY HZ HV HXl hcy hp0
    have hlq1 : 1 ≤ lq := by have := Hlq.out; omega
    go_wp2
    go_loopw [10] (fun i wr => LongRel w gu gv wc.heap.size m n lq U0 V i wr) (fun i _ => (intOf i + 1).toNat)
    case atStart =>
      have := LongRel.start hlq1 HUV.out HBu.out HBv.out Hbw.out
      simpa using this
    case round =>
      obtain ⟨K, U, Q, hK, hi, HU, HUl, HQ, hBu, hBv, hBq, hbw⟩ := hrel
      rcases hi with ⟨rfl, rfl⟩ | ⟨k, rfl, rfl⟩
      · have hUV2 : U < V := by have := HUl.out; rwa [Nat.pow_zero, Nat.mul_one] at this
        have hq1 : Q = U0 / V := by rw [← HU.out, Nat.add_mul_div_left _ _ hVpos, Nat.div_eq_of_lt hUV2, Nat.zero_add]
        have hq2 : U = U0 % V := by rw [← HU.out, Nat.add_mul_mod_self_left, Nat.mod_eq_of_lt hUV2]
        rw [hq1, Hdiv.out] at hBq
        have hUd : U / 2 ^ b = X % Y := by rw [hq2, Hmod.out, Nat.mul_div_cancel _ (Nat.pow_pos (by omega))]
        have hUl : U < 4294967296 ^ n := Nat.lt_trans hUV2 HVl.out
        have hguq : gu < wc.heap.size := HBu.out.lt
        have hwq := Hbw.out.size
        have HUd := Lib.hid hUd
        have HUl2 := Lib.hid hUl
        have Hst := Lib.hid (show ShrRel w gu wc.heap.size m n lq b U (X / Y) (.int .i64 0) wr from ⟨0, Nat.zero_le _, rfl, by rw [shrN_zero]; exact hBu, hBq, hbw⟩)
        clear hUV2 hq1 hq2 hBq hUd hUl hBu hBv hbw
        go_wp2_with fail
        go_loopw [146] (fun i wr => ShrRel w gu wc.heap.size m n lq b U (X / Y) i wr) (fun i _ => n - (intOf i).toNat)
        case atStart => exact Hst.out
        case round =>
          obtain ⟨k, hk, rfl, hB, hBq, hbw⟩ := hrel
          by_cases hlt : k < n
          · obtain ⟨x, hx⟩ : ∃ x, x = U / 4294967296 ^ k % 4294967296 := ⟨_, rfl⟩
            have hxl : x < 4294967296 := by rw [hx]; exact Nat.mod_lt _ (by omega)
            have hcx := blk_dig hB (k := k) (by omega)
            rw [shrN_dig (by omega), ← hx] at hcx
            have hfx := hB.free k
            obtain ⟨x1, hx1⟩ : ∃ x1, x1 = x / 2 ^ b := ⟨_, rfl⟩
            have hx1i : (x : Int) / 2 ^ b = (x1 : Int) := by rw [hx1]; simp
            have hdig := shr32 (U := U) (i := k) hbl
            rw [← hx, ← hx1] at hdig
            have hset := shrN_digs (B := 4294967296) (U := U) (p := 2 ^ b) (i := k) (m := m + 1) (by omega) (by omega)
            by_cases hk1 : k + 1 < n
            · obtain ⟨y, hy⟩ : ∃ y, y = U / 4294967296 ^ (k + 1) % 4294967296 := ⟨_, rfl⟩
              have hyl : y < 4294967296 := by rw [hy]; exact Nat.mod_lt _ (by omega)
              have hcy := blk_dig hB (k := k + 1) (by omega)
              rw [shrN_next (by omega), ← hy] at hcy
              rw [← hy] at hdig
              obtain ⟨c, hc⟩ : ∃ c, c = 32 - b := ⟨_, rfl⟩
              have hci : (32 : Int) - (b : Int) = (c : Int) := by omega
              have hcl : c ≤ 32 := by omega
              rw [← hc] at hdig
              have hpc : (2 : Nat) ^ c ≤ 4294967296 := Nat.le_trans (Nat.pow_le_pow_right (by omega) hcl) (by decide)
              obtain ⟨p, hp⟩ : ∃ p, p = y * 2 ^ c := ⟨_, rfl⟩
              have hpl : p < 18446744073709551616 := by
                rw [hp]
                have := Nat.mul_le_mul (show y ≤ 4294967295 by omega) hpc
                omega
              rw [← hp] at hdig
              obtain ⟨z, hz⟩ : ∃ z, z = p % 4294967296 := ⟨_, rfl⟩
              have hzl : z < 4294967296 := by omega
              rw [← hz] at hdig
              have hx1l : x1 < 2 ^ c := by
                rw [hx1, Nat.div_lt_iff_lt_mul (Nat.pow_pos (by omega)), ← Nat.pow_add, show c + b = 32 by omega]
                exact hxl
              have hx1B : x1 < 4294967296 := by omega
              have hzc : z = 2 ^ c * (y % 2 ^ b) := by
                rw [hz, hp, Nat.mul_comm, show (4294967296 : Nat) = 2 ^ c * 2 ^ b by rw [← Nat.pow_add, show c + b = 32 by omega], Nat.mul_mod_mul_left]
              have hor : bits .or .u32 (x1 : Int) (z : Int) = ((x1 + z : Nat) : Int) := by
                rw [u32_or x1 z hx1B hzl]
                congr 1
                rw [Nat.or_comm, hzc, or_add _ _ _ hx1l]
                omega
              have hxz : x1 + z < 4294967296 := by rw [← hdig]; exact Nat.mod_lt _ (by omega)
              have w1 : IntKind.u64.wrap ((y : Int) * 2 ^ c) = (p : Int) := by
                rw [show (y : Int) * 2 ^ c = (p : Int) by rw [hp]; simp, IntKind.wrap_u64]
                omega
              have w2 : IntKind.u32.wrap (p : Int) = (z : Int) := by rw [IntKind.wrap_u32]; omega
              have w3 : IntKind.u64.wrap (y : Int) = y := by rw [IntKind.wrap_u64]; omega
              have w4 : IntKind.i64.wrap (c : Int) = c := by rw [IntKind.wrap_i64]; omega
              obtain ⟨k2, hk2⟩ : ∃ k2, k2 = k + 1 := ⟨_, rfl⟩
              have w5 : IntKind.i64.wrap (k2 : Int) = (k2 : Int) := by rw [IntKind.wrap_i64]; omega
              have w6 : (k : Int) + 1 = (k2 : Int) := by omega
              have w7 : k2 < m + 1 := by omega
              have w7' : (k2 : Int) < (m : Int) + 1 := by omega
              have w7'' : k2 ≤ m := by omega
              have hk1i : (k2 : Int) < (n : Int) := by omega
              rw [hdig] at hset
              have hB8 := blk_setn hB k x1
              rw [show wvn x1 = Value.int .u32 (x1 : Int) from rfl] at hB8
              have hq8 := hBq.far (show wc.heap.size ≠ gu by omega) (p := ⟨gu, k, none⟩) (.int .u32 (x1 : Int))
              have hb8 := hbw.setCell (p := ⟨gu, k, none⟩) hgu (.int .u32 (x1 : Int))
              have Hset := Lib.hid hset
              have HB8 := Lib.hid hB8
              have Hq8 := Lib.hid hq8
              have Hb8 := Lib.hid hb8
              have hcy8 : (wr.setCell ⟨gu, k, none⟩ (.int .u32 (x1 : Int))).cell? ⟨gu, k2, none⟩ = some (.int .u32 (y : Int)) := by
                rw [hk2]
                exact (World.cell?_setCell_other (w := wr) (v := .int .u32 (x1 : Int)) (a := ⟨gu, k, none⟩) (b := ⟨gu, k + 1, none⟩) (h := by simp)).trans hcy
              have hcx8 := World.cell?_setCell_same (w := wr) (v := .int .u32 (x1 : Int)) (h := hcx)
              have hfx8 := hB8.free k
              have hxz2 : ((x1 + z : Nat) : Int) = (x1 : Int) + (z : Int) := by omega
              rw [hxz2] at hor
              have Hk2 := Lib.hid hk2
              clear hk2 hB hBq hbw hx hx1 hdig hset hz hzc hp hc hy hB8 hq8 hb8 hxz2 hx1l hpc
              go_upto_region 24 with (fail)
              generalize wr.setCell ⟨gu, k, none⟩ (.int .u32 (x1 : Int)) = w8 at hcy8 hcx8 hfx8 HB8 Hq8 Hb8 ⊢
              clear hcx hfx hcy
              have hb9 : Below w.heap.size w w8.drew := Hb8.out.drew
              have hB9 : Blk w8.drew gu 149 (((digs 4294967296 (m + 1) (shrN 4294967296 U (2 ^ b) k)).set k x1).map wvn).toArray := HB8.out
              have hq9 : Blk w8.drew wc.heap.size 149 ((digs 4294967296 lq (X / Y)).map wvn).toArray := Hq8.out
              have hcx9 : w8.drew.cell? ⟨gu, k, none⟩ = some (.int .u32 (x1 : Int)) := hcx8
              have hfx9 : w8.drew.frozen? ⟨gu, k, none⟩ = false := hfx8
              go_still_tail 16, (by kernel_rfl)
              change wpList _ _ _ _ _ w8.drew
              generalize w8.drew = w9 at hb9 hB9 hq9 hcx9 hfx9 ⊢
              have hst := blk_setn hB9 k (x1 + z)
              rw [List.set_set, Hset.out, show wvn (x1 + z) = Value.int .u32 ((x1 : Int) + (z : Int)) by unfold wvn; congr 1] at hst
              have HP := Lib.hid (show ShrRel w gu wc.heap.size m n lq b U (X / Y) (.int .i64 (k2 : Int)) (w9.setCell ⟨gu, k, none⟩ (.int .u32 ((x1 : Int) + (z : Int)))) from ⟨k + 1, by omega, by rw [Hk2.out], hst, hq9.far (show wc.heap.size ≠ gu by omega) _, hb9.setCell hgu _⟩)
              clear hB9 hq9 hb9 hst hcx8 hfx8 hcy8 HB8 Hq8 Hb8
              go_wp2
              go_roundw
              case rel => exact HP.out
              case measure => have := Hk2.out; simp [intOf]; omega
            · have hz : U / 4294967296 ^ (k + 1) = 0 := by
                rw [show k + 1 = n by omega]
                exact Nat.div_eq_of_lt HUl2.out
              rw [hz] at hdig
              simp only [Nat.zero_mod, Nat.zero_mul, Nat.add_zero] at hdig
              rw [hdig] at hset
              have hst := blk_setn hB k x1
              rw [hset, show wvn x1 = Value.int .u32 (x1 : Int) from rfl] at hst
              have HP := Lib.hid (show ShrRel w gu wc.heap.size m n lq b U (X / Y) (.int .i64 ((k : Int) + 1)) (wr.setCell ⟨gu, k, none⟩ (.int .u32 (x1 : Int))) from ⟨k + 1, by omega, by go_num, hst, hBq.far (show wc.heap.size ≠ gu by omega) _, hbw.setCell hgu _⟩)
              have hk1i : ¬ (k : Int) + 1 < (n : Int) := by omega
              clear hB hBq hbw hx hx1 hdig hset hz hst
              go_wp2
              go_roundw
              case rel => exact HP.out
              case measure => simp [intOf]; omega
          · obtain rfl : k = n := by omega
            rw [shrN_end HUl2.out, HUd.out] at hB
            have HP := Lib.hid (show LongPost w m k X Y (.returned (.tuple #[.slice (some ⟨wc.heap.size, 0, none⟩) lq lq, .slice (some ⟨gu, 0, none⟩) k (m + 1)])) wr from ⟨wc.heap.size, gu, m + 1, by rw [Hlq.out], by rw [← Hlq.out]; exact hBq, hB, hbw⟩)
            clear hB hBq hbw
            go_wp2
            go_ret2
            exact HP.out
      · obtain ⟨a, ha⟩ : ∃ a, a = k + n := ⟨_, rfl⟩
        obtain ⟨a1, ha1⟩ : ∃ a1, a1 = k + n - 1 := ⟨_, rfl⟩
        have hai : (k : Int) + (n : Int) = (a : Int) := by omega
        have ha1i : (a : Int) - 1 = (a1 : Int) := by omega
        have ham : a < m + 1 := by have := Hlq.out; omega
        have ha1m : a1 < m + 1 := by omega
        have wa : IntKind.i64.wrap (a : Int) = a := by rw [IntKind.wrap_i64]; omega
        have wa1 : IntKind.i64.wrap (a1 : Int) = a1 := by rw [IntKind.wrap_i64]; omega
        obtain ⟨u1, hu1⟩ : ∃ u1, u1 = U / 4294967296 ^ a % 4294967296 := ⟨_, rfl⟩
        obtain ⟨u2, hu2⟩ : ∃ u2, u2 = U / 4294967296 ^ a1 % 4294967296 := ⟨_, rfl⟩
        have hu1l : u1 < 4294967296 := by rw [hu1]; exact Nat.mod_lt _ (by omega)
        have hu2l : u2 < 4294967296 := by rw [hu2]; exact Nat.mod_lt _ (by omega)
        have c1 := blk_dig hBu ham
        have c2 := blk_dig hBu ha1m
        rw [← hu1] at c1
        rw [← hu2] at c2
        obtain ⟨t, ht⟩ : ∃ t, t = u1 * 4294967296 + u2 := ⟨_, rfl⟩
        have htl : t < 18446744073709551616 := by omega
        have hor := u64_pair u1 u2 hu1l hu2l
        rw [← ht] at hor
        have wu1 : IntKind.u64.wrap (u1 : Int) = u1 := by rw [IntKind.wrap_u64]; omega
        have wu2 : IntKind.u64.wrap (u2 : Int) = u2 := by rw [IntKind.wrap_u64]; omega
        have wu3 : IntKind.u64.wrap ((u1 : Int) * 4294967296) = (u1 : Int) * 4294967296 := by rw [IntKind.wrap_u64]; omega
        have Ha := Lib.hid ha
        have Ha1 := Lib.hid ha1
        have Hu1 := Lib.hid hu1
        have Hu2 := Lib.hid hu2
        have Ht := Lib.hid ht
        clear ha ha1 hu1 hu2 ht
        go_wp2
        go_quiet (fail)
        have hBu := hBu.drewN nq
        have hBv := hBv.drewN nq
        have hBq := hBq.drewN nq
        have hbw := below_drewN hbw nq
        generalize wr.drewN nq = w3 at hBu hBv hBq hbw ⊢
        clear c1 c2
        obtain ⟨v1, hv1⟩ : ∃ v1, v1 = V / 4294967296 ^ (n - 1) := ⟨_, rfl⟩
        have hv1l : v1 < 4294967296 := by
          rw [hv1, Nat.div_lt_iff_lt_mul (Nat.pow_pos (by omega)), Nat.mul_comm, ← Nat.pow_succ, show (n - 1).succ = n by omega]
          exact HVl.out
        have hv1p : 0 < v1 := by rw [hv1]; exact Nat.div_pos HVt.out (Nat.pow_pos (by omega))
        have cv1 := blk_dig hBv (k := n1) (by omega)
        rw [Hn1.out, ← hv1, Nat.mod_eq_of_lt hv1l, ← Hn1.out] at cv1
        obtain ⟨d0, hd0⟩ : ∃ d0, d0 = t / v1 := ⟨_, rfl⟩
        obtain ⟨r0, hr0⟩ : ∃ r0, r0 = t % v1 := ⟨_, rfl⟩
        have hd0l : d0 < 18446744073709551616 := by rw [hd0]; exact Nat.lt_of_le_of_lt (Nat.div_le_self _ _) htl
        have hr0l : r0 < v1 := by rw [hr0]; exact Nat.mod_lt _ hv1p
        have e1 : (t : Int).tdiv (v1 : Int) = (d0 : Int) := by rw [hd0]; rfl
        have e2 : (t : Int).tmod (v1 : Int) = (r0 : Int) := by rw [hr0]; rfl
        have e3 : (t : Int) / (v1 : Int) = (d0 : Int) := by rw [hd0]; rfl
        have e4 : (t : Int) % (v1 : Int) = (r0 : Int) := by rw [hr0]; rfl
        have e5 : ((v1 : Int) == 0) = false := by simp; omega
        have e6 : IntKind.u64.wrap (d0 : Int) = d0 := by rw [IntKind.wrap_u64]; omega
        have e7 : IntKind.u64.wrap (r0 : Int) = r0 := by rw [IntKind.wrap_u64]; omega
        have e8 : IntKind.u64.wrap (v1 : Int) = v1 := by rw [IntKind.wrap_u64]; omega
        have wn1 : IntKind.i64.wrap (n1 : Int) = n1 := by rw [IntKind.wrap_i64]; omega
        have Hv1 := Lib.hid hv1
        have Hd0 := Lib.hid hd0
        have Hr0 := Lib.hid hr0
        clear hv1 hd0 hr0
        go_wp2
        go_quiet (fail)
        have hBu := hBu.drewN nq
        have hBv := hBv.drewN nq
        have hBq := hBq.drewN nq
        have hbw := below_drewN hbw nq
        generalize w3.drewN nq = w4 at hBu hBv hBq hbw ⊢
        obtain ⟨W, hW⟩ : ∃ W, W = U / 4294967296 ^ k := ⟨_, rfl⟩
        obtain ⟨l1, l2, l3, l4, l5, l6⟩ := long_step (B := 4294967296) (k := k) (by omega) hVpos HU.out HUl.out HQ.out
        rw [← hW] at l1 l2 l3 l4 l5
        have hWl : W < 4294967296 ^ (n + 1) := by
          rw [Nat.pow_succ]
          exact Nat.lt_trans l1 (Nat.mul_lt_mul_of_pos_right HVl.out (by omega))
        have hWd : ∀ j, U / 4294967296 ^ (k + j) = W / 4294967296 ^ j := fun j => by rw [hW, Nat.div_div_eq_div_mul, Nat.pow_add]
        have htW : t = W / 4294967296 ^ (n - 1) := by
          rw [Ht.out, Hu1.out, Hu2.out, Ha.out, Ha1.out, hWd, show k + n - 1 = k + (n - 1) by omega, hWd]
          exact top_two (by omega) (by omega) hWl
        obtain ⟨a2, ha2⟩ : ∃ a2, a2 = k + n - 2 := ⟨_, rfl⟩
        obtain ⟨n2, hn2⟩ : ∃ n2, n2 = n - 2 := ⟨_, rfl⟩
        have ha2i : (a : Int) - 2 = (a2 : Int) := by have := Ha.out; omega
        have hn2i : (n : Int) - 2 = (n2 : Int) := by omega
        have hn2l : n2 < n := by omega
        have ha2m : a2 < m + 1 := by omega
        have wa2 : IntKind.i64.wrap (a2 : Int) = a2 := by rw [IntKind.wrap_i64]; omega
        have wn2 : IntKind.i64.wrap (n2 : Int) = n2 := by rw [IntKind.wrap_i64]; omega
        obtain ⟨v2, hv2⟩ : ∃ v2, v2 = V / 4294967296 ^ (n - 2) % 4294967296 := ⟨_, rfl⟩
        obtain ⟨u3, hu3⟩ : ∃ u3, u3 = W / 4294967296 ^ (n - 2) % 4294967296 := ⟨_, rfl⟩
        have hv2l : v2 < 4294967296 := by rw [hv2]; exact Nat.mod_lt _ (by omega)
        have hu3l : u3 < 4294967296 := by rw [hu3]; exact Nat.mod_lt _ (by omega)
        have cv2 := blk_dig hBv (k := n2) (by omega)
        rw [hn2, ← hv2, ← hn2] at cv2
        have cu3 := blk_dig hBu (k := a2) (by omega)
        rw [ha2, show k + n - 2 = k + (n - 2) by omega, hWd, ← hu3, ← show k + n - 2 = k + (n - 2) by omega, ← ha2] at cu3
        have cv1 := blk_dig hBv (k := n1) (by omega)
        rw [Hn1.out, ← Hv1.out, Nat.mod_eq_of_lt hv1l, ← Hn1.out] at cv1
        have HG0 := Lib.hid (show Guess 4294967296 V W n d0 r0 by
          rw [Hd0.out, Hr0.out, htW, Hv1.out]
          exact Guess.start (by omega) hn (by rw [← Hv1.out]; exact hv1p) (by rw [← Hv1.out]; omega) hVpos)
        have HWV := Lib.hid l1
        have Hl := Lib.hid (And.intro l2 (And.intro l3 (And.intro l4 (And.intro l5 l6))))
        have HWl := Lib.hid hWl
        have HW := Lib.hid hW
        have Hv2 := Lib.hid hv2
        have Hu3 := Lib.hid hu3
        clear hW l1 l2 l3 l4 l5 l6 hWl hWd htW ha2 hn2 hv2 hu3 hr0l e1 e2 e3 e4 e5 e6 e7 HU HUl HQ hor wu1 wu2 wu3
        go_upto_block 2 with (fail)
        go_cut [12] (fun dv wx => ∃ d q : Nat, dv = .int .u64 d ∧ Hid (Guessed 4294967296 V W d) ∧ wx = w4.drewN q)
        case first =>
          go_wp2_with fail
          go_loopw [12, 13] (fun dv rv wr => ∃ d r q : Nat, dv = .int .u64 d ∧ rv = .int .u64 r ∧ d ≤ d0 ∧ r < 4294967296 ∧ Hid (Guess 4294967296 V W n d r) ∧ wr = w4.drewN q) (fun dv _ _ => (intOf dv).toNat)
          case atStart => exact ⟨d0, r0, 0, rfl, rfl, Nat.le_refl _, HG0.out.2.1, HG0, rfl⟩
          case round =>
            obtain ⟨d, r, q, rfl, rfl, hd, hr, HG, rfl⟩ := hrel
            by_cases hdB : 4294967296 ≤ d
            · have g0 : (0 : Int) < (d : Int) / 4294967296 := by omega
              have g1 : decide ((0 : Int) < (d : Int) / 4294967296) = true := decide_eq_true g0
              have wd : IntKind.u64.wrap (d : Int) = d := by rw [IntKind.wrap_u64]; omega
              have wd2 : IntKind.u64.wrap ((d : Int) / 4294967296) = (d : Int) / 4294967296 := by rw [IntKind.wrap_u64]; omega
              have hdec := HG.out.dec (by omega) hn hVpos HWV.out (.inl hdB)
              have hdv := (show ((d : Int) - 1) = ((d - 1 : Nat) : Int) from by have := hdec.1; omega)
              have hrv1 := (show ((r : Int) + (v1 : Int)) = ((r + v1 : Nat) : Int) from by omega)
              have hd1 := hdec.1
              have Hdec := Lib.hid hdec
              clear hdec
              by_cases hrv : 4294967296 ≤ r + v1
              · have g2 : (0 : Int) < ((r + v1 : Nat) : Int) / 4294967296 := by omega
                have g3 : decide ((0 : Int) < ((r + v1 : Nat) : Int) / 4294967296) = true := decide_eq_true g2
                have HP := Lib.hid (show Guessed 4294967296 V W (d - 1) from HG.out.left (by omega) hn (by rw [← Hv1.out]; exact hv1p) HWV.out Hdec.out (by rw [← Hv1.out]; exact hrv))
                have Hdv := Lib.hid hdv
                clear hdv hrv1
                go_wp2
                go_quiet (fail)
                go_wp2
                go_meet
                exact ⟨d - 1, q + nq, by rw [← Hdv.out], HP, rfl⟩
              · have g2 : ¬ (0 : Int) < ((r + v1 : Nat) : Int) / 4294967296 := by omega
                have HP := Lib.hid (show Guess 4294967296 V W n (d - 1) (r + v1) from by
                  have := HG.out.down Hdec.out (by rw [← Hv1.out]; omega)
                  rwa [← Hv1.out] at this)
                have Hdv := Lib.hid hdv
                have Hrv := Lib.hid hrv1
                clear hdv hrv1
                go_wp2
                go_quiet (fail)
                go_wp2
                go_roundw
                case rel => exact ⟨d - 1, r + v1, q + nq, by rw [← Hdv.out], by rw [← Hrv.out], by omega, by omega, HP, rfl⟩
                case measure => have := Hdec.out.1; simp [intOf]; omega
            · have g0 : ¬ (0 : Int) < (d : Int) / 4294967296 := by omega
              have g1 : decide ((0 : Int) < (d : Int) / 4294967296) = false := decide_eq_false g0
              have wd : IntKind.u64.wrap (d : Int) = d := by rw [IntKind.wrap_u64]; omega
              have wr1 : IntKind.u64.wrap (r : Int) = r := by rw [IntKind.wrap_u64]; omega
              have wr2 : IntKind.u64.wrap ((r : Int) * 4294967296) = (r : Int) * 4294967296 := by rw [IntKind.wrap_u64]; omega
              have wv2 : IntKind.u64.wrap (v2 : Int) = v2 := by rw [IntKind.wrap_u64]; omega
              have wu3 : IntKind.u64.wrap (u3 : Int) = u3 := by rw [IntKind.wrap_u64]; omega
              have hpb := mul_le_bound (show d < 4294967296 by omega) hv2l
              obtain ⟨p, hp⟩ : ∃ p, p = d * v2 := ⟨_, rfl⟩
              rw [← hp] at hpb
              have hpi : (d : Int) * (v2 : Int) = (p : Int) := by rw [hp]; simp
              have wp : IntKind.u64.wrap (p : Int) = p := by rw [IntKind.wrap_u64]; omega
              have hor2 := u64_pair r u3 hr hu3l
              obtain ⟨s, hs⟩ : ∃ s, s = r * 4294967296 + u3 := ⟨_, rfl⟩
              rw [← hs] at hor2
              by_cases hsp : s < p
              · have g4 : (s : Int) < (p : Int) := by omega
                have hdec := HG.out.dec (by omega) hn hVpos HWV.out (.inr (by rw [← Hu3.out, ← Hv2.out, ← hs, ← hp]; exact hsp))
                clear hp hs
                have hdv := (show ((d : Int) - 1) = ((d - 1 : Nat) : Int) from by have := hdec.1; omega)
                have hrv1 := (show ((r : Int) + (v1 : Int)) = ((r + v1 : Nat) : Int) from by omega)
                have hd1 := hdec.1
                have Hdec := Lib.hid hdec
                clear hdec
                by_cases hrv : 4294967296 ≤ r + v1
                · have g2 : (0 : Int) < ((r + v1 : Nat) : Int) / 4294967296 := by omega
                  have g3 : decide ((0 : Int) < ((r + v1 : Nat) : Int) / 4294967296) = true := decide_eq_true g2
                  have HP := Lib.hid (show Guessed 4294967296 V W (d - 1) from HG.out.left (by omega) hn (by rw [← Hv1.out]; exact hv1p) HWV.out Hdec.out (by rw [← Hv1.out]; exact hrv))
                  have Hdv := Lib.hid hdv
                  clear hdv hrv1
                  go_wp2
                  go_quiet (fail)
                  go_wp2
                  go_meet
                  exact ⟨d - 1, q + nq, by rw [← Hdv.out], HP, rfl⟩
                · have g2 : ¬ (0 : Int) < ((r + v1 : Nat) : Int) / 4294967296 := by omega
                  have HP := Lib.hid (show Guess 4294967296 V W n (d - 1) (r + v1) from by
                    have := HG.out.down Hdec.out (by rw [← Hv1.out]; omega)
                    rwa [← Hv1.out] at this)
                  have Hdv := Lib.hid hdv
                  have Hrv := Lib.hid hrv1
                  clear hdv hrv1
                  go_wp2
                  go_quiet (fail)
                  go_wp2
                  go_roundw
                  case rel => exact ⟨d - 1, r + v1, q + nq, by rw [← Hdv.out], by rw [← Hrv.out], by omega, by omega, HP, rfl⟩
                  case measure => have := Hdec.out.1; simp [intOf]; omega
              · have g4 : ¬ (s : Int) < (p : Int) := by omega
                have g5 : decide ((s : Int) < (p : Int)) = false := decide_eq_false g4
                have HP := Lib.hid (show Guessed 4294967296 V W d from HG.out.done (by omega) hn (by rw [← Hv1.out]; exact hv1p) (by omega) (by rw [← Hu3.out, ← Hv2.out, ← hs, ← hp]; omega))
                clear hp hs
                go_wp2
                go_quiet (fail)
                go_wp2
                go_meet
                exact ⟨d, q + nq, rfl, HP, by rw [World.drewN_drewN]⟩
        case rest =>
          obtain ⟨d, q, rfl, HGd, rfl⟩ := hcut
          have hBu := hBu.drewN q
          have hBv := hBv.drewN q
          have hBq := hBq.drewN q
          have hbw := below_drewN hbw q
          generalize w4.drewN q = w5 at hBu hBv hBq hbw ⊢
          have hdB := HGd.out.1
          have hgq : wc.heap.size < w5.heap.size := hBq.lt
          have hwcl := Hbw.out.size
          have hgul := HBu.out.lt
          have hgvl := HBv.out.lt
          have HT := Lib.hid (take_any w5 gu gv (m + 1) (n + 1) U V k n d (m + 1 - k) (n + 1) (fun e => hguv e.symm) (by omega) (by omega) (by omega) (by omega) hdB HVl.out (by rw [← HW.out]; exact HWl.out) hBu hBv)
          have HBv5 := Lib.hid hBv
          have HBq5 := Lib.hid hBq
          have Hbw5 := Lib.hid hbw
          have hsz : a + 1 - k = n + 1 := by have := Ha.out; omega
          clear hBu hBv hBq hbw cv1 cv2 cu3
          have hVB : V ≤ 4294967296 ^ (n + 1) := Nat.le_of_lt (Nat.lt_of_lt_of_le HVl.out (Nat.pow_le_pow_right (by omega) (by omega)))
          have HVB := Lib.hid hVB
          clear hVB
          go_wp2_with fail
          refine HT.out.mono ?_
          rintro e w6 ⟨bb, N, rfl, hB6, hch6, hN, hNl⟩
          rw [← HW.out] at hN
          have hBv6 := hch6.blk HBv5.out (fun e => hguv e.symm)
          have hBq6 := hch6.blk HBq5.out (by omega)
          have hbw6 := Hbw5.out.trans (hch6.below hgu Hbw5.out.size)
          cases bb
          · obtain ⟨r1, r2⟩ := HGd.out.right (M := 1) hVpos (by simpa using hN)
            rw [r2] at hB6
            have hdl := Hl.out.1
            rw [← r1] at hdl
            have hcq := blk_dig hBq6 (k := k) (by omega)
            have hfq := hBq6.free k
            have hst := blk_setn hBq6 k d
            rw [digs_new (by omega) (by omega) hdl Hl.out.2.2.2.2, show wvn d = Value.int .u32 (d : Int) from rfl] at hst
            have HP := Lib.hid (LongRel.step (i := k) (by omega) Hl.out r1 (hB6.far (show gu ≠ wc.heap.size by omega) _) (hBv6.far (show gv ≠ wc.heap.size by omega) _) hst (hbw6.setCell (show w.heap.size ≤ wc.heap.size by omega) _))
            clear hB6 hch6 hN hNl hBv6 hBq6 hbw6 r1 r2 hst
            go_wp2
            go_roundw
            case rel => exact HP.out
            case measure => simp [intOf]
          · obtain ⟨r1, r2⟩ := HGd.out.wrong hVpos HVB.out hNl (by simpa using hN)
            have HBk := Lib.hid (back_any w6 gu gv (m + 1) (n + 1) U V N k n (m + 1 - k) (n + 1) (fun e => hguv e.symm) (by omega) (by omega) (by omega) (by omega) HVl.out hNl hB6 hBv6)
            have HBv6 := Lib.hid hBv6
            have HBq6 := Lib.hid hBq6
            have Hbw6 := Lib.hid hbw6
            have hd1 : 1 ≤ d := by rw [r1]; exact Nat.le_add_left _ _
            have R1 := Lib.hid r1
            have R2 := Lib.hid r2
            clear hB6 hch6 hN hNl hBv6 hBq6 hbw6 r1 r2
            go_wp2_with fail
            refine HBk.out.mono ?_
            rintro e w7 ⟨rfl, hB7, hch7⟩
            rw [R2.out] at hB7
            have hBv7 := hch7.blk HBv6.out (fun e => hguv e.symm)
            have hBq7 := hch7.blk HBq6.out (by omega)
            have hbw7 := Hbw6.out.trans (hch7.below hgu Hbw6.out.size)
            have hdl := Hl.out.1
            have hde : d - 1 = W / V := by rw [R1.out, Nat.add_sub_cancel]
            rw [← hde] at hdl
            have hcq := blk_dig hBq7 (k := k) (by omega)
            have hfq := hBq7.free k
            have hst := blk_setn hBq7 k (d - 1)
            have hdi : ((d - 1 : Nat) : Int) = (d : Int) - 1 := by omega
            rw [digs_new (by omega) (by omega) hdl Hl.out.2.2.2.2, show wvn (d - 1) = Value.int .u32 ((d : Int) - 1) by unfold wvn; rw [hdi]] at hst
            have HP := Lib.hid (LongRel.step (i := k) (by omega) Hl.out hde (hB7.far (show gu ≠ wc.heap.size by omega) _) (hBv7.far (show gv ≠ wc.heap.size by omega) _) hst (hbw7.setCell (show w.heap.size ≤ wc.heap.size by omega) _))
            clear hB7 hch7 hBv7 hBq7 hbw7 hst hde hdi
            go_wp2
            go_roundw
            case rel => exact HP.out
            case measure => simp [intOf]
end Go.Proofs.YtnnbnecpcppkdaaDoor
namespace Go.Proofs.YtnnbnecpcppkdaaDoor
open Go.RowKit Go.Gy
set_option linter.unusedVariables false
def divF (a b : Nat) : Nat × Nat × Nat := if b = 0 then (0, 0, 12) else (a / b, a % b, 0)
def DivPost (w : World) (a b : Nat) (e : Ending) (w' : World) : Prop := e = .returned (.tuple #[.string (natS (divF a b).1), .string (natS (divF a b).2.1), .int .i64 ((divF a b).2.2 : Nat)]) ∧ Below w.heap.size w w'
theorem DivPost.of {w w' : World} {a b : Nat} {s t : ByteArray} {v : Value} (hb : b ≠ 0) (h1 : s = natS (a / b)) (h2 : t = natS (a % b)) (h3 : v = .int .i64 0) (h : Below w.heap.size w w') : DivPost w a b (.returned (.tuple #[.string s, .string t, v])) w' := by
  refine ⟨?_, h⟩
  unfold divF
  rw [if_neg hb, h1, h2, h3]
  rfl
def OneRel (w : World) (gx gy A D m : Nat) (r i : Value) (wr : World) : Prop := ∃ K : Nat, K ≤ m ∧ ((K = 0 ∧ i = .int .i64 (-1)) ∨ ∃ k : Nat, K = k + 1 ∧ i = .int .i64 k) ∧ r = .int .u64 ((A / 4294967296 ^ K % D : Nat) : Int) ∧ Blk wr gx 149 ((digs 4294967296 m (divN 4294967296 A D K)).map wvn).toArray ∧ Blk wr gy 149 #[wvn D] ∧ Below w.heap.size w wr
theorem idx_or (K : Nat) : (K = 0 ∧ Value.int .i64 ((K : Int) - 1) = .int .i64 (-1)) ∨ ∃ k : Nat, K = k + 1 ∧ Value.int .i64 ((K : Int) - 1) = .int .i64 k := by
  rcases Nat.eq_zero_or_pos K with h | h
  · subst h; exact .inl ⟨rfl, rfl⟩
  · exact .inr ⟨K - 1, by omega, by congr 1; omega⟩
set_option maxRecDepth 100000 in
set_option maxHeartbeats 4000000 in
theorem div_any (w : World) (s t : ByteArray) (hs : s.size ≤ 8796093022208) (ht : t.size ≤ 8796093022208) :
    Calls Tryd.prog 116 #[.string s, .string t] w (DivPost w (sval s) (sval t)) := by
  have H1 := Lib.hid (trim_any w s (by omega))
  have H2 := Lib.hid (trim_any w t (by omega))
  have hw1 := wlen_size s hs
  have hw2 := wlen_size t ht
  obtain ⟨A, hA⟩ : ∃ A, A = sval s := ⟨_, rfl⟩
  obtain ⟨D, hD⟩ : ∃ D, D = sval t := ⟨_, rfl⟩
  have hl1 := sval_trim_le s
  have hl2 := sval_trim_le t
  rw [← hA] at H1 hl1 hw1 ⊢
  rw [← hD] at H2 hl2 hw2 ⊢
  have hz1 := natL_len_le A 8
  have hz2 := natL_len_le D 8
  rw [← natS_size] at hz1 hz2
  have hv1 := sval_natS A
  have hv2 := sval_natS D
  have hem : (natS D).toList = [] ↔ D = 0 := by rw [ByteArray.toList_eq, natS_list]; exact natL_nil
  obtain ⟨a, ha⟩ : ∃ a, a = natS A := ⟨_, rfl⟩
  obtain ⟨b, hb⟩ : ∃ b, b = natS D := ⟨_, rfl⟩
  rw [← ha] at H1 hl1 hz1 hv1
  rw [← hb] at H2 hl2 hz2 hv2 hem
  have Ha := Lib.hid ha
  clear hA hD ha hb
  have hzz : natS 0 = { data := #[] } := by unfold natS; rw [natL_zero]
  by_cases hD0 : D = 0
  · have he := hem.mpr hD0
    have he2 : (!b.toList.isEmpty) = false := by rw [he]; rfl
    have he3 : b.toList.isEmpty = true := by rw [he]; rfl
    have HP := Lib.hid (show DivPost w A D (.returned (.tuple #[.string { data := #[] }, .string { data := #[] }, .int .i64 12])) w from ⟨by unfold divF; rw [if_pos hD0]; simp only; rw [hzz]; rfl, Below.refl _ _⟩)
    clear hz1 hz2 hv1 hv2 hem hzz hD0
    go_enter Tryd.func116, Tryd.ntmps116
    go_wp2_with fail
    refine H1.out.mono ?_
    rintro e w' ⟨rfl, rfl⟩
    go_wp2_with fail
    refine H2.out.mono ?_
    rintro e w' ⟨rfl, rfl⟩
    go_wp2
    go_ret3
    exact HP.out
  · have he : ¬ b.toList = [] := fun h => hD0 (hem.mp h)
    have he3 : b.toList.isEmpty = false := by simpa using he
    have he2 : (!b.toList.isEmpty) = true := by rw [he3]; rfl
    have HD0 := Lib.hid hD0
    have Hzz := Lib.hid hzz
    clear hem hD0 hzz
    by_cases h8 : a.size ≤ 8 ∧ b.size ≤ 8
    · obtain ⟨h1, h2⟩ := h8
      have hA8 : A < 18446744073709551616 := hz1.mp h1
      have hD8 : D < 18446744073709551616 := hz2.mp h2
      have S1 := Lib.hid (fun w => short_any w a h1)
      have S2 := Lib.hid (fun w => short_any w b h2)
      rw [hv1] at S1
      rw [hv2] at S2
      have hDp := Nat.pos_of_ne_zero HD0.out
      have hql : A / D < 18446744073709551616 := Nat.lt_of_le_of_lt (Nat.div_le_self _ _) hA8
      have hrl : A % D < 18446744073709551616 := Nat.lt_trans (Nat.mod_lt _ hDp) hD8
      obtain ⟨q, hq⟩ : ∃ q, q = A / D := ⟨_, rfl⟩
      obtain ⟨r, hr⟩ : ∃ r, r = A % D := ⟨_, rfl⟩
      have e1 : (A : Int).tdiv (D : Int) = (q : Int) := by rw [hq]; rfl
      have e2 : (A : Int).tmod (D : Int) = (r : Int) := by rw [hr]; rfl
      have e3 : (A : Int) / (D : Int) = (q : Int) := by rw [hq]; rfl
      have e4 : (A : Int) % (D : Int) = (r : Int) := by rw [hr]; rfl
      have e5 : ((D : Int) == 0) = false := by simp; omega
      rw [← hq] at hql
      rw [← hr] at hrl
      have F1 := Lib.hid (fun w => fromShort_any w q hql)
      have F2 := Lib.hid (fun w => fromShort_any w r hrl)
      have Hq := Lib.hid hq
      have Hr := Lib.hid hr
      clear hz1 hz2 hv1 hv2 hq hr
      go_enter Tryd.func116, Tryd.ntmps116
      go_wp2_with fail
      refine H1.out.mono ?_
      rintro e w' ⟨rfl, rfl⟩
      go_wp2_with fail
      refine H2.out.mono ?_
      rintro e w' ⟨rfl, rfl⟩
      go_wp2_with fail
      refine (S1.out _).mono ?_
      rintro e w' ⟨rfl, rfl⟩
      go_wp2_with fail
      refine (S2.out _).mono ?_
      rintro e w' ⟨rfl, rfl⟩
      go_wp2_with fail
      refine (F1.out _).mono ?_
      rintro e w1 ⟨rfl, hb1⟩
      go_wp2_with fail
      refine (S1.out _).mono ?_
      rintro e w' ⟨rfl, rfl⟩
      go_wp2_with fail
      refine (S2.out _).mono ?_
      rintro e w' ⟨rfl, rfl⟩
      go_wp2_with fail
      refine (F2.out _).mono ?_
      rintro e w2 ⟨rfl, hb2⟩
      go_wp2
      go_ret3
      exact DivPost.of HD0.out (by rw [Hq.out]) (by rw [Hr.out]) rfl (hb1.trans (hb2.mono hb1.size))
    · have hor : (a.size ≤ 8 ∧ ¬ b.size ≤ 8) ∨ ¬ a.size ≤ 8 := by omega
      have HC := Lib.hid (cmp_any w a b (by omega) (by omega))
      rw [hv1, hv2] at HC
      by_cases hlt : A < D
      · have e1 : cmpN A D = -1 := by unfold cmpN; rw [if_pos hlt]
        rw [e1] at HC
        have Hlt := Lib.hid hlt
        clear e1 hlt hz1 hz2 hv1 hv2 h8
        go_enter Tryd.func116, Tryd.ntmps116
        go_wp2_with fail
        refine H1.out.mono ?_
        rintro e w' ⟨rfl, rfl⟩
        go_wp2_with fail
        refine H2.out.mono ?_
        rintro e w' ⟨rfl, rfl⟩
        rcases hor with ⟨ha8, hb8⟩ | ha8
        all_goals
          go_wp2_with fail
          refine HC.out.mono ?_
          rintro e w' ⟨rfl, rfl⟩
          go_wp2
          go_ret3
          exact DivPost.of HD0.out (by rw [Nat.div_eq_of_lt Hlt.out, Hzz.out]) (by rw [Nat.mod_eq_of_lt Hlt.out, Ha.out]) rfl (Below.refl _ _)
      · have e1 : 0 ≤ cmpN A D := by unfold cmpN; rw [if_neg hlt]; split <;> omega
        obtain ⟨cc, hcc⟩ : ∃ c, c = cmpN A D := ⟨_, rfl⟩
        rw [← hcc] at e1 HC
        have hcn : ¬ cc < 0 := by omega
        have W1 := Lib.hid (words_any w a (by omega))
        have W2 := Lib.hid (fun w' => words_any w' b (by omega))
        rw [hv1] at W1
        rw [hv2] at W2
        have hle : wlen D ≤ wlen A := by
          rw [wlen_le]
          exact Nat.lt_of_le_of_lt (by omega) (wlen_lt A)
        have hDpos := Nat.pos_of_ne_zero HD0.out
        have hn1 : 1 ≤ wlen D := by
          rcases Nat.eq_zero_or_pos (wlen D) with h | h
          · have := wlen_lt D
            rw [h] at this
            omega
          · exact h
        have HDt := Lib.hid (show 4294967296 ^ (wlen D - 1) ≤ D from by
          rcases Nat.lt_or_ge D (4294967296 ^ (wlen D - 1)) with h | h
          · have := (wlen_le D (wlen D - 1)).mpr h
            omega
          · exact h)
        have HAl := Lib.hid (wlen_lt A)
        have HDl := Lib.hid (wlen_lt D)
        obtain ⟨m, hm⟩ : ∃ m, m = wlen A := ⟨_, rfl⟩
        obtain ⟨n, hn⟩ : ∃ n, n = wlen D := ⟨_, rfl⟩
        have W1' := Lib.hid (show Calls Tryd.prog 108 #[.string a] w fun e w' => ∃ G, e = .returned (.slice (some ⟨G, 0, none⟩) m m) ∧ w.heap.size ≤ G ∧ Blk w' G 149 ((digs 4294967296 m A).map wvn).toArray ∧ Below w.heap.size w w' by rw [hm]; exact W1.out)
        have W2' := Lib.hid (show ∀ w, Calls Tryd.prog 108 #[.string b] w fun e w' => ∃ G, e = .returned (.slice (some ⟨G, 0, none⟩) n n) ∧ w.heap.size ≤ G ∧ Blk w' G 149 ((digs 4294967296 n D).map wvn).toArray ∧ Below w.heap.size w w' by rw [hn]; exact W2.out)
        rw [← hm] at hle hw1 HAl
        rw [← hn] at hle hw2 HDl HDt hn1
        clear hcc hm hn W1 W2 hz1 hz2 hv1 hv2 h8 hlt
        go_enter Tryd.func116, Tryd.ntmps116
        go_wp2_with fail
        refine H1.out.mono ?_
        rintro e w' ⟨rfl, rfl⟩
        go_wp2_with fail
        refine H2.out.mono ?_
        rintro e w' ⟨rfl, rfl⟩
        rcases hor with ⟨ha8, hb8⟩ | ha8
        all_goals
          go_wp2_with fail
          refine HC.out.mono ?_
          rintro e w' ⟨rfl, rfl⟩
          go_wp2_with fail
          refine W1'.out.mono ?_
          rintro e w1 ⟨gx, rfl, hgx, hX, hb1⟩
          go_wp2_with fail
          refine (W2'.out w1).mono ?_
          rintro e w2 ⟨gy, rfl, hgy, hY, hb2⟩
          have hgl := hX.lt
          have hX2 := hX.below hb2 hgl
          have hYl := hY.lt
          have Hb := Lib.hid (hb1.trans (hb2.mono hb1.size))
          have hgyw : w.heap.size ≤ gy := Nat.le_trans hb1.size hgy
          have hgne : gx ≠ gy := by omega
          clear hb1 hb2 hX
          by_cases hn1' : n = 1
          · subst hn1'
            have hDl : D < 4294967296 := by have := HDl.out; omega
            have hst : OneRel w gx gy A D m (.int .u64 0) (.int .i64 ((m : Int) - 1)) w2 := ⟨m, Nat.le_refl _, idx_or m, by rw [Nat.div_eq_of_lt HAl.out, Nat.zero_mod]; rfl, by rw [divN_top HAl.out]; exact hX2, by
              have e : digs 4294967296 1 D = [D] := by simp [digs, Nat.mod_eq_of_lt hDl]
              rw [e] at hY
              exact hY, Hb.out⟩
            have Hst := Lib.hid hst
            clear hst hX2 hY
            go_wp2
            go_loopw [9, 10] (fun r i wr => OneRel w gx gy A D m r i wr) (fun _ i _ => (intOf i + 1).toNat)
            case atStart => exact Hst.out
            case round =>
              obtain ⟨K, hK, hi, rfl, hB, hBy, hbw⟩ := hrel
              rcases hi with ⟨rfl, rfl⟩ | ⟨k, rfl, rfl⟩
              · have hrl : A % D < 18446744073709551616 := Nat.lt_trans (Nat.mod_lt _ hDpos) (by omega)
                have hAD : A / D < 4294967296 ^ m := Nat.lt_of_le_of_lt (Nat.div_le_self _ _) HAl.out
                rw [divN_zero] at hB
                have HT := Lib.hid (text_any wr (some ⟨gx, 0, none⟩) m m (A / D) (by omega) (Rd.blk hB (by simp [digs_len])))
                have HF := Lib.hid (fun w => fromShort_any w (A % D) hrl)
                rw [Nat.mod_eq_of_lt hAD] at HT
                simp only [Nat.pow_zero, Nat.div_one]
                obtain ⟨r, hr⟩ : ∃ r, r = A % D := ⟨_, rfl⟩
                obtain ⟨q, hq⟩ : ∃ q, q = A / D := ⟨_, rfl⟩
                rw [← hr] at HF ⊢
                rw [← hq] at HT
                have Hr := Lib.hid hr
                have Hq := Lib.hid hq
                have Hbw := Lib.hid hbw
                clear hB hBy hbw hr hq hrl hAD
                go_wp2_with fail
                refine HT.out.mono ?_
                rintro e w3 ⟨rfl, hb3⟩
                go_wp2_with fail
                refine (HF.out _).mono ?_
                rintro e w4 ⟨rfl, hb4⟩
                go_wp2
                go_ret3
                exact DivPost.of HD0.out (by rw [Hq.out]) (by rw [Hr.out]) rfl (Hbw.out.trans ((hb3.trans (hb4.mono hb3.size)).mono Hbw.out.size))
              · obtain ⟨r, hr⟩ : ∃ r, r = A / 4294967296 ^ (k + 1) % D := ⟨_, rfl⟩
                have hrl : r < D := by rw [hr]; exact Nat.mod_lt _ hDpos
                obtain ⟨x, hx⟩ : ∃ x, x = A / 4294967296 ^ k % 4294967296 := ⟨_, rfl⟩
                have hxl : x < 4294967296 := by rw [hx]; exact Nat.mod_lt _ (by omega)
                have hcx := blk_dig hB (k := k) (by omega)
                rw [divN_dig (by omega), ← hx] at hcx
                have hcy := hBy.cell 0 (.int .u32 (D : Int)) rfl
                have hfx := hB.free k
                have hor := u64_pair r x (by omega) hxl
                obtain ⟨t, ht⟩ : ∃ t, t = r * 4294967296 + x := ⟨_, rfl⟩
                rw [← ht] at hor
                have htl : t < 18446744073709551616 := by omega
                have hset := divN_digs (B := 4294967296) (X := A) (y := D) (j := k) (m := m) (by omega) hDpos (by omega)
                have hrs := rest_step (B := 4294967296) (X := A) (y := D) (j := k) (by omega) hDpos
                rw [← hr, ← hx, ← ht] at hset hrs
                obtain ⟨q, hq⟩ : ∃ q, q = t / D := ⟨_, rfl⟩
                obtain ⟨r2, hr2⟩ : ∃ r2, r2 = t % D := ⟨_, rfl⟩
                rw [← hq] at hset
                rw [← hr2] at hrs
                have hql : q < 4294967296 := by
                  rw [hq, Nat.div_lt_iff_lt_mul hDpos, ht]
                  have h1 : (r + 1) * 4294967296 ≤ D * 4294967296 := Nat.mul_le_mul_right _ hrl
                  omega
                have hr2l : r2 < 4294967296 := by rw [hr2]; exact Nat.lt_trans (Nat.mod_lt _ hDpos) hDl
                have e1 : (t : Int).tdiv (D : Int) = (q : Int) := by rw [hq]; rfl
                have e2 : (t : Int).tmod (D : Int) = (r2 : Int) := by rw [hr2]; rfl
                have e3 : (t : Int) / (D : Int) = (q : Int) := by rw [hq]; rfl
                have e4 : (t : Int) % (D : Int) = (r2 : Int) := by rw [hr2]; rfl
                have e5 : ((D : Int) == 0) = false := by simp; omega
                have e6 : IntKind.u64.wrap (q : Int) = q := by rw [IntKind.wrap_u64]; omega
                have e7 : IntKind.u64.wrap (r2 : Int) = r2 := by rw [IntKind.wrap_u64]; omega
                have e8 : IntKind.u64.wrap (D : Int) = D := by rw [IntKind.wrap_u64]; omega
                have hrl2 : r < 4294967296 := by omega
                have e10 : IntKind.u64.wrap ((r : Int) * 4294967296) = (r : Int) * 4294967296 := by rw [IntKind.wrap_u64]; omega
                have e9 : IntKind.u32.wrap (q : Int) = q := by rw [IntKind.wrap_u32]; omega
                have hkm : k < m := by omega
                have hst := blk_setn hB k q
                rw [hset, show wvn q = Value.int .u32 (q : Int) from rfl] at hst
                have HP := Lib.hid (show OneRel w gx gy A D m (.int .u64 (r2 : Int)) (.int .i64 ((k : Int) - 1)) (wr.setCell ⟨gx, k, none⟩ (.int .u32 (q : Int))).drew from ⟨k, by omega, idx_or k, by rw [← hrs], hst, hBy.far (show gy ≠ gx from fun e => hgne e.symm) _, (hbw.setCell hgx _).drew⟩)
                rw [← hr]
                clear hr hx hq hr2 ht hset hrs hB hBy hbw hrl hst
                go_wp2
                go_region
                go_wp2
                go_roundw
                case rel => exact HP.out
                case measure => simp [intOf]
          · have HL := Lib.hid (long_any w2 gx gy m n A D (by omega) hle hw1 hX2 hY HAl.out HDl.out HDt.out hgne)
            have hqB : A / D < 4294967296 ^ (m + 1 - n) := by
              rw [Nat.div_lt_iff_lt_mul hDpos]
              refine Nat.lt_of_lt_of_le HAl.out ?_
              have e : (4294967296 : Nat) ^ m = 4294967296 ^ (m + 1 - n) * 4294967296 ^ (n - 1) := by rw [← Nat.pow_add]; congr 1; omega
              rw [e]
              exact Nat.mul_le_mul_left _ HDt.out
            have hrB : A % D < 4294967296 ^ n := Nat.lt_trans (Nat.mod_lt _ hDpos) HDl.out
            have HqB := Lib.hid (Nat.mod_eq_of_lt hqB)
            have HrB := Lib.hid (Nat.mod_eq_of_lt hrB)
            have hn1i : ((n : Int) == 1) = false := by simp; omega
            obtain ⟨lq, hlq⟩ : ∃ lq, lq = m + 1 - n := ⟨_, rfl⟩
            have hlql : lq ≤ 8796093022208 := by omega
            have HL' := Lib.hid (show Calls Tryd.prog 125 #[.slice (some ⟨gx, 0, none⟩) m m, .slice (some ⟨gy, 0, none⟩) n n] w2 (fun e w' => ∃ gq gr c, e = .returned (.tuple #[.slice (some ⟨gq, 0, none⟩) lq lq, .slice (some ⟨gr, 0, none⟩) n c]) ∧ Blk w' gq 149 ((digs 4294967296 lq (A / D)).map wvn).toArray ∧ Blk w' gr 149 ((digs 4294967296 (m + 1) (A % D)).map wvn).toArray ∧ Below w2.heap.size w2 w') by rw [hlq]; exact HL.out)
            rw [← hlq] at HqB
            clear hX2 hY HL hqB hrB hlq
            go_wp2_with fail
            refine HL'.out.mono ?_
            rintro e w3 ⟨gq, gr, c, rfl, hBq, hBr, hb3⟩
            have HT1 := Lib.hid (text_any w3 (some ⟨gq, 0, none⟩) lq lq (A / D) hlql (Rd.blk hBq (by simp [digs_len])))
            have hrd : Rd w3 w3.heap.size 1 (some ⟨gr, 0, none⟩) n ((digs 4294967296 n (A % D)).map wvn) := by
              have h1 := (Rd.blk hBr (n := m + 1) (by simp [digs_len])).take (k := n) (by omega)
              rwa [Nat.mul_one, ← List.map_take, digs_take _ _ _ _ (by omega)] at h1
            have HT2 := Lib.hid (show ∀ w', Below w3.heap.size w3 w' → Calls Tryd.prog 109 #[.slice (some ⟨gr, 0, none⟩) n c] w' fun e w'' => e = .returned (.string (natS (A % D % 4294967296 ^ n))) ∧ Below w'.heap.size w' w'' from fun w' hb => text_any w' (some ⟨gr, 0, none⟩) n c (A % D) (by omega) ((hrd.below hb).more hb.size))
            have Hb3 := Lib.hid (Hb.out.trans (hb3.mono Hb.out.size))
            clear hBq hBr hb3 hrd
            go_wp2_with fail
            refine HT1.out.mono ?_
            rintro e w4 ⟨rfl, hb4⟩
            go_wp2_with fail
            refine (HT2.out w4 hb4).mono ?_
            rintro e w5 ⟨rfl, hb5⟩
            go_wp2
            go_ret3
            exact DivPost.of HD0.out (by rw [HqB.out]) (by rw [HrB.out]) rfl (Hb3.out.trans ((hb4.trans (hb5.mono hb4.size)).mono Hb3.out.size))
end Go.Proofs.YtnnbnecpcppkdaaDoor
