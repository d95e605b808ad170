/- Plain functions of the hash: words of bytes, mixing, sums. No program is named here. -/
import Derived.WalkKit
import Derived.PlainAid
namespace Go.Pure
open Go.RowKit

/-- A word: the bytes in little-endian order. -/
def word (l : List UInt8) : Nat := l.foldr (fun c a => a * 256 + c.toNat) 0
theorem word_nil : word [] = 0 := rfl
theorem word_cons (c : UInt8) (l : List UInt8) : word (c :: l) = word l * 256 + c.toNat := rfl
theorem word_lt (l : List UInt8) : word l < 256 ^ l.length := by
  induction l with
  | nil => simp [word_nil]
  | cons c l ih =>
    rw [word_cons, List.length_cons, Nat.pow_succ]
    have := c.toNat_lt
    omega
theorem word_lt7 {l : List UInt8} (h : l.length ≤ 7) : word l < 72057594037927936 :=
  Nat.lt_of_lt_of_le (word_lt l) (Nat.le_trans (Nat.pow_le_pow_right (by omega) h) (by decide))
theorem word_lt8 {l : List UInt8} (h : l.length ≤ 8) : word l < 18446744073709551616 :=
  Nat.lt_of_lt_of_le (word_lt l) (Nat.le_trans (Nat.pow_le_pow_right (by omega) h) (by decide))
theorem word_step {b : List UInt8} {p m : Nat} {c : UInt8} (h : b[p]? = some c) : word ((b.drop p).take (m + 1)) = word ((b.drop (p + 1)).take m) * 256 + c.toNat := by
  obtain ⟨hp, rfl⟩ := List.getElem?_eq_some_iff.1 h
  rw [List.drop_eq_getElem_cons hp, List.take_succ_cons, word_cons]
/-- The i-th word of bytes, and how many there are. -/
def wd (b : List UInt8) (i : Nat) : Nat := word ((b.drop (8 * i)).take 8)
theorem wd_lt (b : List UInt8) (i : Nat) : wd b i < 18446744073709551616 := word_lt8 (List.length_take_le _ _)
def nw (b : List UInt8) : Nat := (b.length + 7) / 8
def wds (b : List UInt8) : List Nat := (List.range (nw b)).map (wd b)
theorem wds_length (b : List UInt8) : (wds b).length = nw b := by simp [wds]
def wdsTo (b : List UInt8) (k : Nat) : List Nat := (List.range k).map (wd b)
theorem wdsTo_succ (b : List UInt8) (k : Nat) : wdsTo b (k + 1) = wdsTo b k ++ [wd b k] := by simp [wdsTo, List.range_succ]
theorem wdsTo_length (b : List UInt8) (k : Nat) : (wdsTo b k).length = k := by simp [wdsTo]

theorem shl_or (w c : Nat) (hw : w < 72057594037927936) (hc : c < 256) : bits .or .u64 ((w : Int) * 256) (c : Int) = ((w * 256 + c : Nat) : Int) := by
  have e : (w : Int) * 256 = ((w * 256 : Nat) : Int) := by omega
  rw [e, u64_or_nat _ _ (by omega) (by omega)]
  have := Nat.shiftLeft_add_eq_or_of_lt (show c < 2 ^ 8 by omega) w
  rw [Nat.shiftLeft_eq] at this
  rw [show w * 256 = w * 2 ^ 8 by rfl, ← this]

theorem grp_val {b : List UInt8} {p m : Nat} {x : UInt8} (hx : b[p]? = some x) (hm : m ≤ 7) :
    bits .or .u64 ((word ((b.drop (p + 1)).take m) : Int) * 256) (IntKind.u64.wrap (x.toNat : Int)) = ((word ((b.drop p).take (m + 1)) : Nat) : Int) := by
  have hx2 := x.toNat_lt
  have h7 := word_lt7 (l := (b.drop (p + 1)).take m) (by simp; omega)
  have e : IntKind.u64.wrap (x.toNat : Int) = (x.toNat : Int) := by rw [IntKind.wrap_u64]; omega
  rw [e, shl_or _ _ h7 (by omega), word_step hx]
theorem wd_of_cnt {b : List UInt8} {k cnt len : Nat} (hl : b.length = len) (h : cnt = 8 ∨ 8 * k + cnt = len) (h8 : cnt ≤ 8) : word ((b.drop (8 * k)).take cnt) = wd b k := by
  unfold wd
  rcases h with rfl | h
  · rfl
  · rw [List.take_of_length_le (by simp; omega), List.take_of_length_le (by simp; omega)]

/-- One mixing step, in the walk's own spelling. -/
def mixI (a b : Int) : Int :=
  bits .xor .u64 (IntKind.u64.wrap (bits .xor .u64 a b * 11400714819323198485)) (IntKind.u64.wrap (bits .xor .u64 a b * 11400714819323198485) / 4294967296)
theorem mixI_range (a b : Int) : 0 ≤ mixI a b ∧ mixI a b ≤ 18446744073709551615 := ⟨bits_lo_u64 _ _ _, bits_hi_u64 _ _ _⟩
/-- The state behind some words. -/
def absorb (s : Int) (l : List Int) : Int := l.foldl mixI s
theorem absorb_snoc (s : Int) (l : List Int) (x : Int) : absorb s (l ++ [x]) = mixI (absorb s l) x := by simp [absorb]
/-- The state behind the first k of some ints. -/
def absTo (s : Int) (l : List Int) (k : Nat) : Int := absorb s ((l.take k).map IntKind.u64.wrap)
theorem absTo_zero (s : Int) (l : List Int) : absTo s l 0 = s := rfl
theorem absTo_succ {s : Int} {l : List Int} {k : Nat} {z : Int} (h : l[k]? = some z) : absTo s l (k + 1) = mixI (absTo s l k) (IntKind.u64.wrap z) := by
  unfold absTo; rw [List.take_add_one, h, List.map_append]; exact absorb_snoc _ _ _
theorem absTo_all (s : Int) (l : List Int) : absTo s l l.length = absorb s (l.map IntKind.u64.wrap) := by
  unfold absTo; rw [List.take_length]
/-- The hash of a label and words. -/
def sumI (label : List UInt8) (l : List Int) : Int :=
  mixI (absorb (mixI (mixI (absorb 0 ((wds label).map (fun n : Nat => (n : Int)))) label.length) l.length) (l.map IntKind.u64.wrap)) 0
/-- The hash of a label and bytes. -/
def bytesI (label b : List UInt8) : Int := sumI label ((wds b).map (fun n : Nat => wrap64 (n : Int)) ++ [(b.length : Int)])

end Go.Pure
