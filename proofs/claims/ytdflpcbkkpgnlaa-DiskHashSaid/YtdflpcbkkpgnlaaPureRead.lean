/- Reading encoded values, on plain bytes. -/
import Derived.Test.YtdflpcbkkpgnlaaPure
namespace Go.Pure

/-- Reading a varint: i bytes have been read, with the value acc; an error (3: more, 2: form), or the value and the rest. -/
def scanU : Nat → Nat → List UInt8 → Except Int (Nat × List UInt8)
  | _, _, [] => .error 3
  | i, acc, c :: t =>
    if (i = 9 ∧ 1 < c.toNat) ∨ (0 < i ∧ c.toNat = 0) then .error 2
    else if c.toNat < 128 then .ok (acc + c.toNat * 128 ^ i, t)
    else scanU (i + 1) (acc + (c.toNat % 128) * 128 ^ i) t
def getU (l : List UInt8) : Except Int (Nat × List UInt8) := scanU 0 0 l

/-- Uint of a reader with the bytes l and the error e: the value, the bytes and the error behind it. -/
def uintR (l : List UInt8) (e : Int) : Nat × List UInt8 × Int :=
  if e = 0 then match getU l with
    | .ok (n, t) => (n, t, 0)
    | .error x => (0, l, x)
  else (0, l, e)

theorem scanU_nil (i acc : Nat) : scanU i acc [] = .error 3 := rfl
theorem scanU_bad {i acc : Nat} {c : UInt8} {t : List UInt8} (h : (i = 9 ∧ 1 < c.toNat) ∨ (0 < i ∧ c.toNat = 0)) : scanU i acc (c :: t) = .error 2 := by
  rw [scanU, if_pos h]
theorem scanU_end {i acc : Nat} {c : UInt8} {t : List UInt8} (h : ¬ ((i = 9 ∧ 1 < c.toNat) ∨ (0 < i ∧ c.toNat = 0))) (hc : c.toNat < 128) : scanU i acc (c :: t) = .ok (acc + c.toNat * 128 ^ i, t) := by
  rw [scanU, if_neg h, if_pos hc]
theorem scanU_on {i acc : Nat} {c : UInt8} {t : List UInt8} (h : ¬ ((i = 9 ∧ 1 < c.toNat) ∨ (0 < i ∧ c.toNat = 0))) (hc : ¬ c.toNat < 128) : scanU i acc (c :: t) = scanU (i + 1) (acc + (c.toNat % 128) * 128 ^ i) t := by
  rw [scanU, if_neg h, if_neg hc]
theorem pow7 (k : Nat) : 2 ^ (7 * k) = 128 ^ k := by rw [Nat.pow_mul]
theorem uint_val {k acc x : Nat} (hk : k ≤ 9) (hacc : acc < 128 ^ k) (hx : x < 256) (h9 : k = 9 → x ≤ 1) :
    bits .or .u64 (acc : Int) (IntKind.u64.wrap (IntKind.u64.wrap (bits .and .u8 (x : Int) 127) * 2 ^ (7 * k))) = ((acc + x % 128 * 128 ^ k : Nat) : Int) := by
  have h1 : bits .and .u8 (x : Int) 127 = ((x % 128 : Nat) : Int) := by
    have := u8_and_nat x 127 hx (by omega)
    rw [show ((127 : Nat) : Int) = 127 from rfl] at this
    rw [this, show (127 : Nat) = 2 ^ 7 - 1 from rfl, Nat.and_two_pow_sub_one_eq_mod]
  have hp : x % 128 * 128 ^ k < 18446744073709551616 := by
    rcases Nat.lt_or_ge k 9 with h | h
    · have h2 : 128 ^ k ≤ 128 ^ 8 := Nat.pow_le_pow_right (by omega) (by omega)
      have h3 : x % 128 * 128 ^ k ≤ 127 * 128 ^ 8 := Nat.mul_le_mul (by omega) h2
      have h4 : 127 * 128 ^ 8 < 18446744073709551616 := by decide
      exact Nat.lt_of_le_of_lt h3 h4
    · obtain rfl : k = 9 := by omega
      have := h9 rfl
      have h4 : x % 128 * 128 ^ 9 ≤ 1 * 128 ^ 9 := Nat.mul_le_mul (by omega) (Nat.le_refl _)
      have h5 : 1 * 128 ^ 9 < 18446744073709551616 := by decide
      exact Nat.lt_of_le_of_lt h4 h5
  have ha : acc < 18446744073709551616 := by
    have h2 : 128 ^ k ≤ 128 ^ 9 := Nat.pow_le_pow_right (by omega) hk
    have h5 : 128 ^ 9 < 18446744073709551616 := by decide
    exact Nat.lt_of_lt_of_le hacc (Nat.le_trans h2 (Nat.le_of_lt h5))
  rw [h1]
  have e1 : IntKind.u64.wrap ((x % 128 : Nat) : Int) = ((x % 128 : Nat) : Int) := by rw [IntKind.wrap_u64]; omega
  have e2 : ((x % 128 : Nat) : Int) * 2 ^ (7 * k) = ((x % 128 * 128 ^ k : Nat) : Int) := by
    rw [← pow7 k]; simp
  have e3 : IntKind.u64.wrap ((x % 128 * 128 ^ k : Nat) : Int) = ((x % 128 * 128 ^ k : Nat) : Int) := by rw [IntKind.wrap_u64]; omega
  rw [e1, e2, e3, u64_or_nat _ _ ha hp]
  have := Nat.shiftLeft_add_eq_or_of_lt (show acc < 2 ^ (7 * k) by rw [pow7]; exact hacc) (x % 128)
  rw [Nat.shiftLeft_eq, pow7] at this
  rw [Nat.or_comm, ← this, Nat.add_comm]
theorem uint_lt {k acc x : Nat} (hacc : acc < 128 ^ k) : acc + x % 128 * 128 ^ k < 128 ^ (k + 1) := by
  have : x % 128 * 128 ^ k ≤ 127 * 128 ^ k := Nat.mul_le_mul (by omega) (Nat.le_refl _)
  rw [Nat.pow_succ]
  omega

theorem uintR_err {l : List UInt8} {x : Int} (h : getU l = .error x) : uintR l 0 = (0, l, x) := by unfold uintR; rw [if_pos rfl, h]
theorem uintR_ok {l t : List UInt8} {n : Nat} (h : getU l = .ok (n, t)) : uintR l 0 = (n, t, 0) := by unfold uintR; rw [if_pos rfl, h]
theorem uintR_bad {l : List UInt8} {e : Int} (h : e ≠ 0) : uintR l e = (0, l, e) := by unfold uintR; rw [if_neg h]
theorem drop_cons {l : List UInt8} {k : Nat} {x : UInt8} (h : l[k]? = some x) : l.drop k = x :: l.drop (k + 1) := by
  obtain ⟨hk, rfl⟩ := List.getElem?_eq_some_iff.1 h
  exact List.drop_eq_getElem_cons hk
/-- A length that the bytes allow. -/
def lengthR (l : List UInt8) (e : Int) : Nat × List UInt8 × Int :=
  if (uintR l e).2.2 = 0 then
    if (uintR l e).2.1.length < (uintR l e).1 then (0, (uintR l e).2.1, 3) else ((uintR l e).1, (uintR l e).2.1, 0)
  else (0, (uintR l e).2.1, (uintR l e).2.2)
theorem lengthR_big {l t : List UInt8} {e : Int} {m : Nat} (h : uintR l e = (m, t, 0)) (hm : t.length < m) : lengthR l e = (0, t, 3) := by
  unfold lengthR; rw [h]; simp [hm]
theorem lengthR_ok {l t : List UInt8} {e : Int} {m : Nat} (h : uintR l e = (m, t, 0)) (hm : ¬ t.length < m) : lengthR l e = (m, t, 0) := by
  unfold lengthR; rw [h]; simp [hm]
theorem lengthR_err {l t : List UInt8} {e x : Int} {m : Nat} (h : uintR l e = (m, t, x)) (hx : x ≠ 0) : lengthR l e = (0, t, x) := by
  unfold lengthR; rw [h]; simp [hx]
/-- Raw of a reader. -/
def rawR (l : List UInt8) (e : Int) : List UInt8 × List UInt8 × Int :=
  ((lengthR l e).2.1.take (lengthR l e).1, (lengthR l e).2.1.drop (lengthR l e).1, (lengthR l e).2.2)
/-- The number with a zigzag form. -/
def unzig (z : Nat) : Int := if z % 2 = 1 then -((z / 2 : Nat) : Int) - 1 else ((z / 2 : Nat) : Int)
def intR (l : List UInt8) (e : Int) : Int × List UInt8 × Int := (unzig (uintR l e).1, (uintR l e).2.1, (uintR l e).2.2)
def endR (l : List UInt8) (e : Int) : Int := if e = 0 then (if l = [] then 0 else 2) else e

theorem scanU_lt : ∀ (l : List UInt8) (i acc : Nat), i ≤ 9 → acc < 128 ^ i → ∀ n t, scanU i acc l = .ok (n, t) → n < 18446744073709551616 := by
  intro l
  induction l with
  | nil => intro i acc _ _ n t h; cases h
  | cons c l ih =>
    intro i acc hi hacc n t h
    by_cases hb : (i = 9 ∧ 1 < c.toNat) ∨ (0 < i ∧ c.toNat = 0)
    · rw [scanU_bad hb] at h; cases h
    · by_cases hc : c.toNat < 128
      · rw [scanU_end hb hc] at h
        injection h with h
        injection h with h1 h2
        subst h1
        have hx := c.toNat_lt
        have := uint_val (x := c.toNat) hi hacc hx (fun h => by omega)
        have h2 := bits_hi_u64 .or (acc : Int) (IntKind.u64.wrap (IntKind.u64.wrap (bits .and .u8 (c.toNat : Int) 127) * 2 ^ (7 * i)))
        rw [this, Nat.mod_eq_of_lt hc] at h2
        omega
      · rw [scanU_on hb hc] at h
        exact ih (i + 1) _ (by omega) (uint_lt hacc) n t h
theorem uintR_lt (l : List UInt8) (e : Int) : (uintR l e).1 < 18446744073709551616 := by
  unfold uintR
  split
  · cases h : getU l with
    | error x => simp
    | ok p =>
      obtain ⟨n, t⟩ := p
      exact scanU_lt l 0 0 (by omega) (by simp) n t h
  · simp
theorem xor_ones64 (a : Nat) (h : a < 9223372036854775808) : bits .xor .i64 (a : Int) (-1) = -(a : Int) - 1 := by
  have hx : BitVec.ofInt 64 (a : Int) ^^^ BitVec.ofInt 64 (-1) = ~~~ (BitVec.ofNat 64 a) := by
    rw [show BitVec.ofInt 64 (-1) = BitVec.allOnes 64 by decide, BitVec.ofInt_natCast, BitVec.xor_allOnes]
  show IntKind.i64.wrap ((BitVec.ofInt 64 (a : Int) ^^^ BitVec.ofInt 64 (-1)).toNat : Int) = _
  rw [hx, BitVec.toNat_not, BitVec.toNat_ofNat, IntKind.wrap_i64]
  omega
theorem xor_zero64 (a : Nat) (h : a < 9223372036854775808) : bits .xor .i64 (a : Int) 0 = (a : Int) := by
  have hx : BitVec.ofInt 64 (a : Int) ^^^ BitVec.ofInt 64 0 = BitVec.ofNat 64 a := by
    rw [show BitVec.ofInt 64 0 = 0#64 by decide, BitVec.ofInt_natCast, BitVec.xor_zero]
  show IntKind.i64.wrap ((BitVec.ofInt 64 (a : Int) ^^^ BitVec.ofInt 64 0).toNat : Int) = _
  rw [hx, BitVec.toNat_ofNat, IntKind.wrap_i64]
  omega
theorem unzig_eq (m : Nat) (hm : m < 18446744073709551616) : bits .xor .i64 ((m : Int) / 2) (RowKit.wrap64 (-RowKit.wrap64 (bits .and .u64 (m : Int) 1))) = unzig m := by
  have h1 : bits .and .u64 (m : Int) 1 = ((m % 2 : Nat) : Int) := by
    have := u64_and_nat m 1 hm (by omega)
    rw [show ((1 : Nat) : Int) = 1 from rfl] at this
    rw [this, Nat.and_one_is_mod]
  rw [h1]
  have h2 : (m : Int) / 2 = ((m / 2 : Nat) : Int) := by omega
  rw [h2]
  unfold unzig RowKit.wrap64
  rcases Nat.mod_two_eq_zero_or_one m with h | h
  · rw [h, if_neg (by omega)]
    exact xor_zero64 _ (by omega)
  · rw [h, if_pos rfl]
    exact xor_ones64 _ (by omega)
theorem scanU_rest : ∀ (l : List UInt8) (i acc n : Nat) (t : List UInt8), scanU i acc l = .ok (n, t) → t.length ≤ l.length := by
  intro l
  induction l with
  | nil => intro i acc n t h; cases h
  | cons c l ih =>
    intro i acc n t h
    by_cases hb : (i = 9 ∧ 1 < c.toNat) ∨ (0 < i ∧ c.toNat = 0)
    · rw [scanU_bad hb] at h; cases h
    · by_cases hc : c.toNat < 128
      · rw [scanU_end hb hc] at h
        injection h with h
        injection h with _ h2
        subst h2
        simp
      · rw [scanU_on hb hc] at h
        have := ih _ _ _ _ h
        simp; omega
theorem uintR_rest (l : List UInt8) (e : Int) : (uintR l e).2.1.length ≤ l.length := by
  unfold uintR
  split
  · cases h : getU l with
    | error x => simp
    | ok p => obtain ⟨n, t⟩ := p; exact scanU_rest l 0 0 n t h
  · simp
theorem lengthR_rest (l : List UInt8) (e : Int) : (lengthR l e).2.1.length ≤ l.length := by
  have := uintR_rest l e
  unfold lengthR
  split
  · split <;> simpa using this
  · simpa using this
theorem lengthR_le (l : List UInt8) (e : Int) : (lengthR l e).1 ≤ (lengthR l e).2.1.length := by
  unfold lengthR
  split
  · split
    · simp
    · rename_i h; simp at h ⊢; omega
  · simp
theorem rawR_rest (l : List UInt8) (e : Int) : (rawR l e).1.length + (rawR l e).2.1.length ≤ l.length := by
  have h1 := lengthR_rest l e
  have h2 := lengthR_le l e
  unfold rawR
  simp
  omega
theorem lengthR_zero (l : List UInt8) (e : Int) (h : (lengthR l e).2.2 ≠ 0) : (lengthR l e).1 = 0 := by
  unfold lengthR at h ⊢
  split
  · rename_i h1
    rw [if_pos h1] at h
    split
    · rfl
    · rename_i h2
      rw [if_neg h2] at h
      exact absurd rfl h
  · rfl
end Go.Pure
