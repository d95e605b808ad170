/- Plain functions on bytes and numbers: the varint, the zigzag form. No program is named here. -/
import Derived.WalkKit
import Derived.PlainAid
namespace Go.Pure

/-- The varint of a number. -/
def uvar (n : Nat) : List UInt8 := if h : n < 128 then [UInt8.ofNat n] else UInt8.ofNat (128 + n % 128) :: uvar (n / 128)
termination_by n
decreasing_by omega
theorem uvar_lt {n : Nat} (h : n < 128) : uvar n = [UInt8.ofNat n] := by rw [uvar, dif_pos h]
theorem uvar_ge {n : Nat} (h : 128 ≤ n) : uvar n = UInt8.ofNat (128 + n % 128) :: uvar (n / 128) := by rw [uvar, dif_neg (by omega)]

theorem uvar_pos (n : Nat) : 1 ≤ (uvar n).length := by
  rw [uvar]; split <;> simp
theorem uvar_len_pow (k : Nat) : ∀ n, n < 128 ^ (k + 1) → (uvar n).length ≤ k + 1 := by
  induction k with
  | zero => intro n h; rw [uvar_lt (by simpa using h)]; simp
  | succ k ih =>
    intro n h
    by_cases hn : n < 128
    · rw [uvar_lt hn]; simp
    · rw [uvar_ge (by omega), List.length_cons]
      have := ih (n / 128) (by rw [Nat.div_lt_iff_lt_mul (by omega)]; rw [Nat.pow_succ] at h; exact h)
      omega
theorem uvar_len {n : Nat} (h : n < 18446744073709551616) : (uvar n).length ≤ 10 := uvar_len_pow 9 n (Nat.lt_trans h (by decide))

theorem or128 : ∀ x : Fin 256, (x.val ||| 128) = 128 + x.val % 128 := by decide +kernel
theorem or_byte (m : Nat) : bits .or .u8 ((m : Int) % 256) 128 = ((UInt8.ofNat (128 + m % 128)).toNat : Int) := by
  have h : ((m : Int) % 256) = ((m % 256 : Nat) : Int) := by omega
  rw [h]
  have := u8_or_nat (m % 256) 128 (by omega) (by omega)
  rw [show ((128 : Nat) : Int) = 128 from rfl] at this
  rw [this]
  have h2 := or128 ⟨m % 256, by omega⟩
  simp only at h2
  rw [h2]
  simp
  omega
theorem ofNat_byte {m : Nat} (h : m < 128) : (m : Int) = ((UInt8.ofNat m).toNat : Int) := by simp; omega
theorem ofNat_mod (m : Nat) : ((m : Int) % 256) = ((UInt8.ofNat m).toNat : Int) := by simp

/-- The zigzag form of a number. -/
def zig (n : Int) : Nat := if n < 0 then (2 * (-(n + 1)) + 1).toNat else (2 * n).toNat
theorem xor_ones (a : Nat) (h : a < 18446744073709551616) : a ^^^ 18446744073709551615 = 18446744073709551615 - a := by
  have h1 := BitVec.xor_allOnes (x := BitVec.ofNat 64 a)
  have h2 := congrArg BitVec.toNat h1
  simp only [BitVec.toNat_xor, BitVec.toNat_ofNat, BitVec.toNat_not, BitVec.toNat_allOnes] at h2
  rw [Nat.mod_eq_of_lt (by simpa using h)] at h2
  simpa using h2
theorem zig_eq (n : Int) (hlo : -9223372036854775808 ≤ n) (hhi : n ≤ 9223372036854775807) :
    bits .xor .u64 (IntKind.u64.wrap (IntKind.u64.wrap n * 2)) (IntKind.u64.wrap (n / 9223372036854775808)) = (zig n : Int) := by
  unfold zig
  rw [IntKind.wrap_u64, IntKind.wrap_u64, IntKind.wrap_u64]
  split
  · rename_i h
    have e1 : n % 18446744073709551616 * 2 % 18446744073709551616 = ((2 * n + 18446744073709551616).toNat : Int) := by omega
    have e2 : n / 9223372036854775808 % 18446744073709551616 = ((18446744073709551615 : Nat) : Int) := by omega
    rw [e1, e2, u64_xor_nat _ _ (by omega) (by omega), xor_ones _ (by omega)]
    omega
  · rename_i h
    have e1 : n % 18446744073709551616 * 2 % 18446744073709551616 = ((2 * n).toNat : Int) := by omega
    have e2 : n / 9223372036854775808 % 18446744073709551616 = ((0 : Nat) : Int) := by omega
    rw [e1, e2, u64_xor_nat _ _ (by omega) (by omega), Nat.xor_zero]
theorem zig_lt (n : Int) (hlo : -9223372036854775808 ≤ n) (hhi : n ≤ 9223372036854775807) : zig n < 18446744073709551616 := by
  unfold zig; split <;> omega

end Go.Pure
