/- nat.short, nat.trim, nat.fromShort: numbers of at most 8 bytes; without leading zeros. Conditions: those typed. -/
import Derived.Test.YthmgcbpmfipfiaaDoorWords
import Derived.Test.YthmgcbpmfipfiaaDoorNatGcd
import Derived.Test.YthmgcbpmfipfiaaDoorProg
import Derived.Laws.BytesArg
namespace Go.Proofs.YthmgcbpmfipfiaaDoor
open Go.RowKit Go.Gy
set_option linter.unusedVariables false
theorem ret_str {a b : ByteArray} (h : a = b) : Ending.returned (.string a) = .returned (.string b) := by rw [h]
theorem take_snoc (s : ByteArray) (k : Nat) (h : k < s.size) : s.data.toList.take (k + 1) = s.data.toList.take k ++ [s[k]] := by
  rw [List.take_succ_eq_append_getElem (by simpa using h)]; rfl
theorem ofInt_u64 (a : Nat) (ha : a < 18446744073709551616) : (BitVec.ofInt 64 (a : Int)).toNat = a := by
  rw [BitVec.ofInt_natCast, BitVec.toNat_ofNat]; exact Nat.mod_eq_of_lt (by omega)
theorem u64_or (a b : Nat) (ha : a < 18446744073709551616) (hb : b < 18446744073709551616) : bits .or .u64 (a : Int) (b : Int) = ((a ||| b : Nat) : Int) := by
  have hx : a ||| b < 2 ^ 64 := Nat.or_lt_two_pow (by omega) (by omega)
  show IntKind.u64.wrap ((BitVec.ofInt 64 (a : Int) ||| BitVec.ofInt 64 (b : Int)).toNat : Int) = _
  rw [BitVec.toNat_or, ofInt_u64 a ha, ofInt_u64 b hb, IntKind.wrap_u64]
  omega
theorem or_add (m k x : Nat) (hx : x < 2 ^ k) : (2 ^ k * m) ||| x = 2 ^ k * m + x := (Nat.two_pow_add_eq_or_of_lt hx m).symm
theorem or_byte (m x : Nat) (hm : m < 72057594037927936) (hx : x < 256) : bits .or .u64 ((m : Int) * 256) (x : Int) = ((256 * m + x : Nat) : Int) := by
  have := u64_or (256 * m) x (by omega) (by omega)
  rw [or_add m 8 x (by omega)] at this
  rw [← this]
  congr 1
  omega
set_option maxRecDepth 100000 in
set_option maxHeartbeats 1000000 in
theorem short_any (w : World) (s : ByteArray) (hs : s.size ≤ 8) :
    Calls Tryd.prog 97 #[.string s] w fun e w' => e = .returned (.int .u64 ((sval s : Nat) : Int)) ∧ w = w' := by
  go_enter Tryd.func97, Tryd.ntmps97
  go_wp2
  go_loop [3, 7] (fun n i => ∃ k m : Nat, k ≤ s.size ∧ i = .int .i64 k ∧ n = .int .u64 m ∧ Hid (m = bval (s.data.toList.take k))) (fun _ i => s.size - (intOf i).toNat)
  case atStart => exact ⟨0, 0, Nat.zero_le _, rfl, rfl, Lib.hid rfl⟩
  case round =>
    obtain ⟨k, m, hk, rfl, rfl, Hm⟩ := hrel
    by_cases hlt : k < s.size
    · have hm : m < 72057594037927936 := by
        rw [Hm.out]
        have h1 := bval_lt (s.data.toList.take k)
        rw [List.length_take] at h1
        exact Nat.lt_of_lt_of_le h1 (Nat.le_trans (Nat.pow_le_pow_right (by omega) (show min k s.data.toList.length ≤ 7 by omega)) (by decide))
      have hx := s[k].toNat_lt
      have Ho := or_byte m s[k].toNat hm hx
      have Hs := Lib.hid (show 256 * m + s[k].toNat = bval (s.data.toList.take (k + 1)) by rw [take_snoc s k hlt, bval_snoc, Hm.out])
      go_wp2
      go_round
      case rel => exact ⟨k + 1, 256 * m + s[k].toNat, by omega, by go_num, by go_num, Hs⟩
      case measure => simp [intOf]; omega
    · obtain rfl : k = s.size := by omega
      go_wp2
      go_ret
      refine ⟨ret_int ?_, rfl⟩
      rw [Hm.out, List.take_of_length_le (by simp)]
      rfl
theorem natS_of {t : ByteArray} (h : ∀ c r, t.data.toList = c :: r → c ≠ 0) : t = natS (sval t) := by
  apply ByteArray.ext
  apply Array.toList_inj.mp
  rw [natS_list]
  exact (natL_bval h).symm
theorem str_cons (t : ByteArray) (h : 0 < t.size) : t.data.toList = t[0] :: (t.extract 1 t.size).data.toList := by
  have h1 := take_snoc t 0 h
  have h2 : (t.extract 1 t.size).data.toList = t.data.toList.drop 1 := by
    simp
    rw [List.take_of_length_le (by simp)]
  rw [h2]
  have h3 := (List.take_append_drop 1 t.data.toList).symm
  rw [h1] at h3
  simpa using h3
set_option maxRecDepth 100000 in
set_option maxHeartbeats 1000000 in
theorem trim_any (w : World) (s : ByteArray) (hs : s.size ≤ 140737488355328) :
    Calls Tryd.prog 95 #[.string s] w fun e w' => e = .returned (.string (natS (sval s))) ∧ w = w' := by
  go_enter Tryd.func95, Tryd.ntmps95
  go_wp2
  go_loop [0] (fun v => ∃ t : ByteArray, v = .string t ∧ t.size ≤ s.size ∧ Hid (sval t = sval s)) (fun v => match v with | .string t => t.size | _ => 0)
  case atStart => exact ⟨s, rfl, Nat.le_refl _, Lib.hid rfl⟩
  case round =>
    obtain ⟨t, rfl, ht, Hv⟩ := hrel
    by_cases h0 : t.size = 0
    · have hd : decide (0 < t.size) = false := by simpa using h0
      have He := Lib.hid (show t = natS (sval s) by
        rw [← Hv.out]
        exact natS_of fun c r e => by
          have : t.data.toList.length = 0 := by simpa using h0
          rw [e] at this
          cases this)
      clear h0
      go_wp2
      go_ret
      exact ⟨ret_str He.out, rfl⟩
    · have hpos : 0 < t.size := by omega
      have hcons := str_cons t hpos
      by_cases hc : t[0].toNat = 0
      · have hcb : ((t[0].toNat : Int) == 0) = true := by rw [hc]; rfl
        have Hs := Lib.hid (show sval (t.extract 1 t.size) = sval s by
          rw [← Hv.out]
          unfold sval
          rw [hcons, bval_cons, hc]
          simp)
        have hz : (t.extract 1 t.size).size = t.size - 1 := by simp
        clear hcons hc h0
        go_wp2
        go_round
        case rel => exact ⟨_, rfl, by omega, Hs⟩
        case measure => simp; omega
      · have hcb : ((t[0].toNat : Int) == 0) = false := by simpa using hc
        have He := Lib.hid (show t = natS (sval s) by
          rw [← Hv.out]
          exact natS_of fun c r e => by
            rw [hcons] at e
            injection e with e1 e2
            intro h
            rw [← e1] at h
            rw [h] at hc
            exact hc rfl)
        clear hcons hc h0
        go_wp2
        go_ret
        exact ⟨ret_str He.out, rfl⟩
/-- a list, the first k of it written over zeros -/
def filled (l : List Nat) (k : Nat) : List Nat := l.take k ++ List.replicate (l.length - k) 0
theorem filled_len (l : List Nat) (k : Nat) (h : k ≤ l.length) : (filled l k).length = l.length := by
  unfold filled
  rw [List.length_append, List.length_take, List.length_replicate]
  omega
theorem filled_zero (l : List Nat) : filled l 0 = List.replicate l.length 0 := by simp [filled]
theorem filled_all (l : List Nat) : filled l l.length = l := by simp [filled]
theorem filled_set (l : List Nat) (k x : Nat) (h : l[k]? = some x) : (filled l k).set k x = filled l (k + 1) := by
  have hk : k < l.length := (List.getElem?_eq_some_iff.1 h).1
  unfold filled
  rw [List.set_append_right _ _ (by rw [List.length_take]; omega), List.length_take, Nat.min_eq_left (by omega), Nat.sub_self]
  rw [show l.length - k = (l.length - (k + 1)) + 1 by omega, List.replicate_succ, List.set_cons_zero, List.take_add_one, h]
  simp
theorem filled_at (l : List Nat) (k : Nat) (h : k < l.length) : (filled l k)[k]? = some 0 := by
  unfold filled
  rw [List.getElem?_append_right (by rw [List.length_take]; omega), List.length_take, List.getElem?_replicate]
  simp
  omega
/-- the bytes of a number, the most significant first -/
def beL (m n : Nat) : List Nat := (digs 256 m n).reverse
theorem beL_len (m n : Nat) : (beL m n).length = m := by simp [beL, digs_len]
theorem beL_get (m n j : Nat) (h : j < m) : (beL m n)[j]? = some (n / 256 ^ (m - 1 - j) % 256) := by
  unfold beL
  rw [List.getElem?_reverse (by rw [digs_len]; exact h), digs_len, digs_get _ _ _ _ (by omega)]
theorem beL_lt (m n : Nat) : ∀ x ∈ beL m n, x < 256 := fun x h => digs_lt (by omega) m n x (by simpa [beL] using h)
def strOf (l : List Nat) : ByteArray := ⟨(l.map UInt8.ofNat).toArray⟩
theorem bval_rev (l : List Nat) (h : ∀ x ∈ l, x < 256) : bval (l.reverse.map UInt8.ofNat) = wval 256 l := by
  induction l with
  | nil => rfl
  | cons x l ih =>
    have h1 := ih fun y hy => h y (List.mem_cons_of_mem _ hy)
    have h2 := h x (List.mem_cons_self ..)
    rw [List.reverse_cons, List.map_append, List.map_cons, List.map_nil, bval_snoc, h1, UInt8.toNat_ofNat', wval]
    omega
theorem sval_beL (m n : Nat) : sval (strOf (beL m n)) = n % 256 ^ m := by
  unfold sval strOf beL
  simp only
  rw [bval_rev _ (digs_lt (by omega) m n), wval_digs]
def bvn (n : Nat) : Value := .int .u8 n
theorem strOfNums_nat (l : List Nat) : strOfNums (l.map (fun x : Nat => ((x : Nat) : Int))) = strOf l := by
  unfold strOf strOfNums
  rw [List.map_map]
  rfl
theorem conv_blk {w : World} {b cap : Nat} {T : TypeId} {l : List Nat} {cs : Array Value} (hB : Blk w b T cs) (hc : cs.toList.take l.length = l.map bvn) :
    (convert 153 9 (.slice (some ⟨b, 0, none⟩) l.length cap)).run Tryd.prog w = .ok (.string (strOf l)) w := by
  have h := run_convert_bytes_arg (P := Tryd.prog) w 153 5 Tryd.underlying153 Tryd.underlying5 b 0 l.length cap (l.map (fun x : Nat => ((x : Nat) : Int))) (by simp) (fun i hi => by
    have h1 : (l.map bvn)[i]? = some (.int .u8 (l[i] : Nat)) := by rw [List.getElem?_map, List.getElem?_eq_getElem hi]; rfl
    rw [← hc, List.getElem?_take] at h1
    rw [if_pos hi] at h1
    rw [Nat.zero_add, hB.cell i (.int .u8 (l[i] : Nat)) (by simpa using h1)]
    simp [List.getD, List.getElem?_eq_getElem hi]) 9 Tryd.underlying9
  rw [h, strOfNums_nat]
def S8 (w : World) (n : Nat) (i : Value) (wr : World) : Prop := ∃ k : Nat, k ≤ 8 ∧ i = .int .i64 k ∧ Blk wr w.heap.size 152 ((filled (beL 8 n) k).map bvn).toArray ∧ Below w.heap.size w wr
theorem blk_setn {w : World} {b : Nat} {T : TypeId} {f : Nat → Value} {l : List Nat} (hB : Blk w b T (l.map f).toArray) (k x : Nat) : Blk (w.setCell ⟨b, k, none⟩ (f x)) b T ((l.set k x).map f).toArray := by
  have := hB.set k (f x)
  rw [List.map_set]
  simpa using this
set_option maxRecDepth 100000 in
set_option maxHeartbeats 2000000 in
theorem fromShort_any (w : World) (n : Nat) (hn : n < 18446744073709551616) :
    Calls Tryd.prog 96 #[.int .u64 n] w fun e w' => e = .returned (.string (natS n)) ∧ Below w.heap.size w w' := by
  go_enter Tryd.func96, Tryd.ntmps96
  go_wp2
  go_loopw [5] (fun i wr => S8 w n i wr) (fun i _ => (8 - intOf i).toNat)
  case atStart => exact ⟨0, by omega, rfl, by rw [filled_zero, beL_len]; exact Blk.new w _ _, (Below.refl _ _).alloc (Nat.le_refl _) _⟩
  case round =>
    obtain ⟨k, hk, rfl, hB, hb⟩ := hrel
    by_cases hlt : k < 8
    · have hc := hB.cell k (bvn 0) (by simp [filled_at (beL 8 n) k (by rw [beL_len]; exact hlt)])
      have hf := hB.free k
      have Hset := Lib.hid (filled_set (beL 8 n) k _ (beL_get 8 n k hlt))
      have Hb := Lib.hid (blk_setn hB k (n / 256 ^ (8 - 1 - k) % 256))
      have He := Lib.hid (show ((n : Int) / 2 ^ (56 - 8 * k) % 256) = ((n / 256 ^ (8 - 1 - k) % 256 : Nat) : Int) by
        rw [show (256 : Nat) = 2 ^ 8 from rfl, ← Nat.pow_mul, show 8 * (8 - 1 - k) = 56 - 8 * k by omega]
        simp)
      clear hB
      go_wp2
      go_roundw
      case rel => exact ⟨k + 1, by omega, by go_num, by rw [He.out, ← Hset.out]; exact Hb.out, hb.setCell (Nat.le_refl _) _⟩
      case measure => simp [intOf]; omega
    · obtain rfl : k = 8 := by omega
      have h8 : filled (beL 8 n) 8 = beL 8 n := by
        have := filled_all (beL 8 n)
        rwa [beL_len] at this
      rw [h8] at hB
      have hcv := conv_blk (cap := 8) hB (l := beL 8 n) (List.take_of_length_le (by simp [beL_len]))
      rw [beL_len] at hcv
      have Ht := Lib.hid (fun w => trim_any w (strOf (beL 8 n)) (by simp [strOf, ByteArray.size, beL_len]))
      have Hv := Lib.hid (show sval (strOf (beL 8 n)) = n by rw [sval_beL]; exact Nat.mod_eq_of_lt (by omega))
      clear h8 hB
      go_wp2_with fail
      refine (Ht.out _).mono ?_
      rintro e w' ⟨rfl, rfl⟩
      go_wp2
      go_ret
      exact ⟨ret_str (by rw [Hv.out]), hb⟩
end Go.Proofs.YthmgcbpmfipfiaaDoor
