/- The parts Pure, PureHash, PureFrame of the proof, in one text. -/
import Derived.WalkKit
import Derived.PlainAid
set_option linter.unusedSimpArgs false
set_option linter.unusedVariables false

namespace Go.Pure

/-- The varint of a number. -/
def uvar (n : Nat) : List UInt8 := if h : n < 128 then [UInt8.ofNat n] else UInt8.ofNat (128 + n % 128) :: uvar (n / 128)
termination_by n
decreasing_by omega
theorem uvar_lt {n : Nat} (h : n < 128) : uvar n = [UInt8.ofNat n] := by rw [uvar, dif_pos h]
theorem uvar_ge {n : Nat} (h : 128 ≤ n) : uvar n = UInt8.ofNat (128 + n % 128) :: uvar (n / 128) := by rw [uvar, dif_neg (by omega)]

theorem uvar_pos (n : Nat) : 1 ≤ (uvar n).length := by
  rw [uvar]; split <;> simp
theorem uvar_len_pow (k : Nat) : ∀ n, n < 128 ^ (k + 1) → (uvar n).length ≤ k + 1 := by
  induction k with
  | zero => intro n h; rw [uvar_lt (by simpa using h)]; simp
  | succ k ih =>
    intro n h
    by_cases hn : n < 128
    · rw [uvar_lt hn]; simp
    · rw [uvar_ge (by omega), List.length_cons]
      have := ih (n / 128) (by rw [Nat.div_lt_iff_lt_mul (by omega)]; rw [Nat.pow_succ] at h; exact h)
      omega
theorem uvar_len {n : Nat} (h : n < 18446744073709551616) : (uvar n).length ≤ 10 := uvar_len_pow 9 n (Nat.lt_trans h (by decide))

theorem or128 : ∀ x : Fin 256, (x.val ||| 128) = 128 + x.val % 128 := by decide +kernel
theorem or_byte (m : Nat) : bits .or .u8 ((m : Int) % 256) 128 = ((UInt8.ofNat (128 + m % 128)).toNat : Int) := by
  have h : ((m : Int) % 256) = ((m % 256 : Nat) : Int) := by omega
  rw [h]
  have := u8_or_nat (m % 256) 128 (by omega) (by omega)
  rw [show ((128 : Nat) : Int) = 128 from rfl] at this
  rw [this]
  have h2 := or128 ⟨m % 256, by omega⟩
  simp only at h2
  rw [h2]
  simp
  omega
theorem ofNat_byte {m : Nat} (h : m < 128) : (m : Int) = ((UInt8.ofNat m).toNat : Int) := by simp; omega
theorem ofNat_mod (m : Nat) : ((m : Int) % 256) = ((UInt8.ofNat m).toNat : Int) := by simp

/-- The zigzag form of a number. -/
def zig (n : Int) : Nat := if n < 0 then (2 * (-(n + 1)) + 1).toNat else (2 * n).toNat
theorem xor_ones (a : Nat) (h : a < 18446744073709551616) : a ^^^ 18446744073709551615 = 18446744073709551615 - a := by
  have h1 := BitVec.xor_allOnes (x := BitVec.ofNat 64 a)
  have h2 := congrArg BitVec.toNat h1
  simp only [BitVec.toNat_xor, BitVec.toNat_ofNat, BitVec.toNat_not, BitVec.toNat_allOnes] at h2
  rw [Nat.mod_eq_of_lt (by simpa using h)] at h2
  simpa using h2
theorem zig_eq (n : Int) (hlo : -9223372036854775808 ≤ n) (hhi : n ≤ 9223372036854775807) :
    bits .xor .u64 (IntKind.u64.wrap (IntKind.u64.wrap n * 2)) (IntKind.u64.wrap (n / 9223372036854775808)) = (zig n : Int) := by
  unfold zig
  rw [IntKind.wrap_u64, IntKind.wrap_u64, IntKind.wrap_u64]
  split
  · rename_i h
    have e1 : n % 18446744073709551616 * 2 % 18446744073709551616 = ((2 * n + 18446744073709551616).toNat : Int) := by omega
    have e2 : n / 9223372036854775808 % 18446744073709551616 = ((18446744073709551615 : Nat) : Int) := by omega
    rw [e1, e2, u64_xor_nat _ _ (by omega) (by omega), xor_ones _ (by omega)]
    omega
  · rename_i h
    have e1 : n % 18446744073709551616 * 2 % 18446744073709551616 = ((2 * n).toNat : Int) := by omega
    have e2 : n / 9223372036854775808 % 18446744073709551616 = ((0 : Nat) : Int) := by omega
    rw [e1, e2, u64_xor_nat _ _ (by omega) (by omega), Nat.xor_zero]
theorem zig_lt (n : Int) (hlo : -9223372036854775808 ≤ n) (hhi : n ≤ 9223372036854775807) : zig n < 18446744073709551616 := by
  unfold zig; split <;> omega

end Go.Pure

namespace Go.Pure
open Go.RowKit

/-- A word: the bytes in little-endian order. -/
def word (l : List UInt8) : Nat := l.foldr (fun c a => a * 256 + c.toNat) 0
theorem word_nil : word [] = 0 := rfl
theorem word_cons (c : UInt8) (l : List UInt8) : word (c :: l) = word l * 256 + c.toNat := rfl
theorem word_lt (l : List UInt8) : word l < 256 ^ l.length := by
  induction l with
  | nil => simp [word_nil]
  | cons c l ih =>
    rw [word_cons, List.length_cons, Nat.pow_succ]
    have := c.toNat_lt
    omega
theorem word_lt7 {l : List UInt8} (h : l.length ≤ 7) : word l < 72057594037927936 :=
  Nat.lt_of_lt_of_le (word_lt l) (Nat.le_trans (Nat.pow_le_pow_right (by omega) h) (by decide))
theorem word_lt8 {l : List UInt8} (h : l.length ≤ 8) : word l < 18446744073709551616 :=
  Nat.lt_of_lt_of_le (word_lt l) (Nat.le_trans (Nat.pow_le_pow_right (by omega) h) (by decide))
theorem word_step {b : List UInt8} {p m : Nat} {c : UInt8} (h : b[p]? = some c) : word ((b.drop p).take (m + 1)) = word ((b.drop (p + 1)).take m) * 256 + c.toNat := by
  obtain ⟨hp, rfl⟩ := List.getElem?_eq_some_iff.1 h
  rw [List.drop_eq_getElem_cons hp, List.take_succ_cons, word_cons]
/-- The i-th word of bytes, and how many there are. -/
def wd (b : List UInt8) (i : Nat) : Nat := word ((b.drop (8 * i)).take 8)
theorem wd_lt (b : List UInt8) (i : Nat) : wd b i < 18446744073709551616 := word_lt8 (List.length_take_le _ _)
def nw (b : List UInt8) : Nat := (b.length + 7) / 8
def wds (b : List UInt8) : List Nat := (List.range (nw b)).map (wd b)
theorem wds_length (b : List UInt8) : (wds b).length = nw b := by simp [wds]
def wdsTo (b : List UInt8) (k : Nat) : List Nat := (List.range k).map (wd b)
theorem wdsTo_succ (b : List UInt8) (k : Nat) : wdsTo b (k + 1) = wdsTo b k ++ [wd b k] := by simp [wdsTo, List.range_succ]
theorem wdsTo_length (b : List UInt8) (k : Nat) : (wdsTo b k).length = k := by simp [wdsTo]

theorem shl_or (w c : Nat) (hw : w < 72057594037927936) (hc : c < 256) : bits .or .u64 ((w : Int) * 256) (c : Int) = ((w * 256 + c : Nat) : Int) := by
  have e : (w : Int) * 256 = ((w * 256 : Nat) : Int) := by omega
  rw [e, u64_or_nat _ _ (by omega) (by omega)]
  have := Nat.shiftLeft_add_eq_or_of_lt (show c < 2 ^ 8 by omega) w
  rw [Nat.shiftLeft_eq] at this
  rw [show w * 256 = w * 2 ^ 8 by rfl, ← this]

theorem grp_val {b : List UInt8} {p m : Nat} {x : UInt8} (hx : b[p]? = some x) (hm : m ≤ 7) :
    bits .or .u64 ((word ((b.drop (p + 1)).take m) : Int) * 256) (IntKind.u64.wrap (x.toNat : Int)) = ((word ((b.drop p).take (m + 1)) : Nat) : Int) := by
  have hx2 := x.toNat_lt
  have h7 := word_lt7 (l := (b.drop (p + 1)).take m) (by simp; omega)
  have e : IntKind.u64.wrap (x.toNat : Int) = (x.toNat : Int) := by rw [IntKind.wrap_u64]; omega
  rw [e, shl_or _ _ h7 (by omega), word_step hx]
theorem wd_of_cnt {b : List UInt8} {k cnt len : Nat} (hl : b.length = len) (h : cnt = 8 ∨ 8 * k + cnt = len) (h8 : cnt ≤ 8) : word ((b.drop (8 * k)).take cnt) = wd b k := by
  unfold wd
  rcases h with rfl | h
  · rfl
  · rw [List.take_of_length_le (by simp; omega), List.take_of_length_le (by simp; omega)]

/-- One mixing step, in the walk's own spelling. -/
def mixI (a b : Int) : Int :=
  bits .xor .u64 (IntKind.u64.wrap (bits .xor .u64 a b * 11400714819323198485)) (IntKind.u64.wrap (bits .xor .u64 a b * 11400714819323198485) / 4294967296)
theorem mixI_range (a b : Int) : 0 ≤ mixI a b ∧ mixI a b ≤ 18446744073709551615 := ⟨bits_lo_u64 _ _ _, bits_hi_u64 _ _ _⟩
/-- The state behind some words. -/
def absorb (s : Int) (l : List Int) : Int := l.foldl mixI s
theorem absorb_snoc (s : Int) (l : List Int) (x : Int) : absorb s (l ++ [x]) = mixI (absorb s l) x := by simp [absorb]
/-- The state behind the first k of some ints. -/
def absTo (s : Int) (l : List Int) (k : Nat) : Int := absorb s ((l.take k).map IntKind.u64.wrap)
theorem absTo_zero (s : Int) (l : List Int) : absTo s l 0 = s := rfl
theorem absTo_succ {s : Int} {l : List Int} {k : Nat} {z : Int} (h : l[k]? = some z) : absTo s l (k + 1) = mixI (absTo s l k) (IntKind.u64.wrap z) := by
  unfold absTo; rw [List.take_add_one, h, List.map_append]; exact absorb_snoc _ _ _
theorem absTo_all (s : Int) (l : List Int) : absTo s l l.length = absorb s (l.map IntKind.u64.wrap) := by
  unfold absTo; rw [List.take_length]
/-- The hash of a label and words. -/
def sumI (label : List UInt8) (l : List Int) : Int :=
  mixI (absorb (mixI (mixI (absorb 0 ((wds label).map (fun n : Nat => (n : Int)))) label.length) l.length) (l.map IntKind.u64.wrap)) 0
/-- The hash of a label and bytes. -/
def bytesI (label b : List UInt8) : Int := sumI label ((wds b).map (fun n : Nat => wrap64 (n : Int)) ++ [(b.length : Int)])

end Go.Pure

namespace Go.Pure

/-- The bytes of the label of a record's sum. -/
def entryL : List UInt8 := [101, 110, 116, 114, 121]
def coreP (n : Int) (b : List UInt8) : List UInt8 := uvar (zig n) ++ (uvar b.length ++ b)
def rawP (b : List UInt8) : List UInt8 := uvar b.length ++ b
/-- The sum of a core. -/
def sumP (c : List UInt8) : Nat := (bytesI entryL c).toNat
def frameP (n : Int) (b : List UInt8) : List UInt8 := rawP (coreP n b) ++ uvar (sumP (coreP n b))

theorem sumI_range (lab : List UInt8) (l : List Int) : 0 ≤ sumI lab l ∧ sumI lab l ≤ 18446744073709551615 := mixI_range _ _
theorem bytesI_toNat (c : List UInt8) : bytesI entryL c = (sumP c : Int) := by
  unfold sumP
  exact (Int.toNat_of_nonneg (sumI_range _ _).1).symm
theorem sumP_lt (c : List UInt8) : sumP c < 18446744073709551616 := by
  have h := sumI_range entryL ((wds c).map (fun n : Nat => Go.RowKit.wrap64 (n : Int)) ++ [(c.length : Int)])
  unfold sumP bytesI
  omega
theorem coreP_len (n : Int) (b : List UInt8) (hlo : -9223372036854775808 ≤ n) (hhi : n ≤ 9223372036854775807) (hb : b.length ≤ 1000000000) : (coreP n b).length ≤ b.length + 20 := by
  unfold coreP
  have h1 := uvar_len (zig_lt n hlo hhi)
  have h2 := uvar_len (n := b.length) (by omega)
  simp only [List.length_append]
  omega
theorem frameP_len (n : Int) (b : List UInt8) (hlo : -9223372036854775808 ≤ n) (hhi : n ≤ 9223372036854775807) (hb : b.length ≤ 100000000) : (frameP n b).length ≤ b.length + 40 := by
  have h0 := coreP_len n b hlo hhi (by omega)
  have h1 := uvar_len (n := (coreP n b).length) (by omega)
  have h2 := uvar_len (sumP_lt (coreP n b))
  unfold frameP rawP
  simp only [List.length_append]
  omega

end Go.Pure
