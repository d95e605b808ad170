/- Plain facts: a decimal text read in parts of four digits; the bounds of the range in powers of ten. -/
import Derived.Test.YtgofjkppeobjfaaDoorB5
namespace Go.Txt
set_option linter.unusedVariables false
open Go.Dig

theorem decVal_split (t : List UInt8) (a z : Nat) (haz : a ≤ z) (hz : z ≤ t.length) : decVal (t.take z) = decVal (t.take a) * 10 ^ (z - a) + decVal ((t.drop a).take (z - a)) := by
  have h : t.take z = t.take a ++ (t.drop a).take (z - a) := by rw [← List.take_add]; congr 1; omega
  rw [h, decVal_append]
  congr 3
  simp; omega

/-- What the loop of the reference's Parse holds: the text t, the end z of what is left, the digits d so far. -/
def PrI (t : List UInt8) (z : Int) (d : List Nat) : Prop :=
  Digs 10000 d ∧ z = (t.length : Int) - 4 * (d.length : Int) ∧ val 10000 d + 10000 ^ d.length * decVal (t.take z.toNat) = decVal t
theorem PrI.start (t : List UInt8) : PrI t (t.length : Int) [] := by
  refine ⟨Digs.nil _, by simp, ?_⟩
  rw [Int.toNat_natCast, List.take_length]
  simp [val]
theorem PrI.step {t : List UInt8} {z : Nat} {d : List Nat} (ht : AllDig t) (h : PrI t z d) (hz : 0 < z) :
    PrI t ((z : Int) - 4) (d ++ [decVal ((t.drop (z - 4)).take (z - (z - 4)))]) := by
  obtain ⟨h1, h2, h3⟩ := h
  have hzl : z ≤ t.length := by omega
  have hv := decVal_split t (z - 4) z (by omega) hzl
  have hlt := decVal_lt ((ht.drop (z - 4)).take (z - (z - 4)))
  generalize hd : decVal ((t.drop (z - 4)).take (z - (z - 4))) = v at *
  have hvb : v < 10000 := by
    refine Nat.lt_of_lt_of_le hlt ?_
    exact Nat.le_trans (Nat.pow_le_pow_right (by omega) (show _ ≤ 4 by simp; omega)) (by decide)
  have hv2 : decVal (t.take z) = decVal (t.take (z - 4)) * 10000 + v := by
    by_cases h4 : 4 ≤ z
    · rw [hv, show z - (z - 4) = 4 by omega]
    · rw [hv, show z - 4 = 0 by omega, List.take_zero, decVal_nil]; omega
  refine ⟨h1.snoc hvb, by simp; omega, ?_⟩
  rw [Int.toNat_natCast, hv2] at h3
  rw [show ((z : Int) - 4).toNat = z - 4 by omega, val_snoc, ← h3, List.length_append, List.length_singleton, Nat.pow_succ]
  rw [Nat.mul_add, Nat.mul_assoc, Nat.add_assoc, Nat.mul_comm (decVal (t.take (z - 4))) 10000, Nat.add_comm (10000 ^ d.length * v)]
theorem PrI.done {t : List UInt8} {z : Int} {d : List Nat} (h : PrI t z d) (hz : z ≤ 0) : Digs 10000 d ∧ val 10000 d = decVal t := by
  obtain ⟨h1, h2, h3⟩ := h
  rw [show z.toNat = 0 by omega, List.take_zero, decVal_nil] at h3
  exact ⟨h1, by omega⟩
theorem PrI.len {t : List UInt8} {z : Int} {d : List Nat} (h : PrI t z d) (hz : -4 < z) : d.length ≤ t.length := by
  have := h.2.1
  omega
/-- The inner loop: the value of some digits. -/
theorem decVal_next {t : List UInt8} {a j : Nat} {c : UInt8} (h : t[a + j]? = some c) : decVal ((t.drop a).take (j + 1)) = decVal ((t.drop a).take j) * 10 + (c.toNat - 48) := by
  rw [List.take_add_one, List.getElem?_drop, h]
  exact decVal_snoc _ _
end Go.Txt
