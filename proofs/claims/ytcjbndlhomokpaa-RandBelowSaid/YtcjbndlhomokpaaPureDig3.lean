/- Plain facts on digits: dividing lists of digits. No program is named here. -/
import Derived.Test.YtcjbndlhomokpaaPureDig2
namespace Go.Dig
set_option linter.unusedVariables false

/-- A quotient's digits from i on, and the rest. -/
structure DivI (B : Nat) (a : List Nat) (b i : Nat) (q : List Nat) (r : Nat) : Prop where
  len : q.length = a.length
  digs : Digs B q
  rest : r < b
  eq : val B (a.drop i) = val B (q.drop i) * b + r
theorem DivI.start {B : Nat} {a : List Nat} {b i : Nat} (hB : 1 ≤ B) (h : val B (a.drop i) < b) : DivI B a b i (List.replicate a.length 0) (val B (a.drop i)) :=
  ⟨by simp, Digs.zeros hB _, h, by rw [List.drop_replicate, val_zeros]; omega⟩
theorem DivI.quo_lt {B : Nat} {a : List Nat} {b i : Nat} {q : List Nat} {r : Nat} (ha : Digs B a) (hB : 1 ≤ B) (h : DivI B a b (i + 1) q r) : B * r + dg a i < B * b := by
  have h1 := dg_lt ha hB i
  have h2 : B * (r + 1) ≤ B * b := Nat.mul_le_mul_left _ h.rest
  rw [Nat.mul_add] at h2
  omega
theorem DivI.step {B : Nat} {a : List Nat} {b i : Nat} {q : List Nat} {r : Nat} (ha : Digs B a) (hB : 1 ≤ B) (h : DivI B a b (i + 1) q r) (hi : i < a.length) :
    DivI B a b i (q.set i ((B * r + dg a i) / b)) ((B * r + dg a i) % b) := by
  have hb : 0 < b := Nat.lt_of_le_of_lt (Nat.zero_le _) h.rest
  have hlt := h.quo_lt ha hB
  have ht : (B * r + dg a i) / b < B := by rw [Nat.div_lt_iff_lt_mul hb]; exact hlt
  refine ⟨by simp [h.len], h.digs.set_ ht, Nat.mod_lt _ hb, ?_⟩
  have hqi : i < q.length := by rw [h.len]; exact hi
  rw [val_drop_dg B a i, val_drop_dg B (q.set i _) i, h.eq]
  have e1 : dg (q.set i ((B * r + dg a i) / b)) i = (B * r + dg a i) / b := dg_some (by rw [List.getElem?_set_self hqi])
  have e2 : (q.set i ((B * r + dg a i) / b)).drop (i + 1) = q.drop (i + 1) := by rw [List.drop_set_of_lt (by omega)]
  rw [e1, e2, Nat.add_mul, Nat.mul_add]
  have := Nat.div_add_mod (B * r + dg a i) b
  rw [Nat.mul_comm b] at this
  have e3 : B * (val B (q.drop (i + 1)) * b) = B * val B (q.drop (i + 1)) * b := by rw [Nat.mul_assoc]
  rw [e3]
  omega
theorem DivI.done {B : Nat} {a : List Nat} {b : Nat} {q : List Nat} {r : Nat} (h : DivI B a b 0 q r) : val B q = val B a / b ∧ r = val B a % b := by
  have e := h.eq
  rw [List.drop_zero, List.drop_zero] at e
  have hb : 0 < b := Nat.lt_of_le_of_lt (Nat.zero_le _) h.rest
  rw [e]
  constructor
  · rw [Nat.mul_comm, Nat.mul_add_div hb, Nat.div_eq_of_lt h.rest]; omega
  · rw [Nat.mul_comm, Nat.mul_add_mod, Nat.mod_eq_of_lt h.rest]

/-- The quotient lies between those of the first digits. -/
theorem quo_bounds {X Y U D P xl yl : Nat} (hX : X = U * P + xl) (hY : Y = D * P + yl) (hx : xl < P) (hy : yl < P) (hD : 1 ≤ D) : U / (D + 1) ≤ X / Y ∧ X / Y ≤ U / D := by
  have hP : 0 < P := by omega
  have hYp : 0 < Y := by rw [hY]; have := Nat.mul_pos hD hP; omega
  constructor
  · rw [Nat.le_div_iff_mul_le hYp]
    have h1 : U / (D + 1) * (D + 1) ≤ U := Nat.div_mul_le_self _ _
    have h2 : Y ≤ (D + 1) * P := by rw [hY, Nat.add_mul]; omega
    calc U / (D + 1) * Y ≤ U / (D + 1) * ((D + 1) * P) := Nat.mul_le_mul_left _ h2
      _ = U / (D + 1) * (D + 1) * P := by rw [Nat.mul_assoc]
      _ ≤ U * P := Nat.mul_le_mul_right _ h1
      _ ≤ X := by rw [hX]; omega
  · rw [Nat.le_div_iff_mul_le (by omega)]
    have h1 : X / Y * Y ≤ X := Nat.div_mul_le_self _ _
    have h2 : X / Y * (D * P) ≤ X / Y * Y := Nat.mul_le_mul_left _ (by rw [hY]; omega)
    have h3 : X / Y * D * P < (U + 1) * P := by rw [Nat.mul_assoc, Nat.add_mul]; omega
    have := Nat.lt_of_mul_lt_mul_right h3
    omega

/-- A digit, or 0, if it does not exist. -/
def dgI (l : List Nat) (i : Int) : Nat := if i < 0 then 0 else dg l i.toNat
theorem dgI_neg {l : List Nat} {i : Int} (h : i < 0) : dgI l i = 0 := by unfold dgI; rw [if_pos h]
theorem dgI_nat (l : List Nat) (i : Nat) : dgI l i = dg l i := by unfold dgI; rw [if_neg (by omega), Int.toNat_natCast]
theorem dgI_lt {B : Nat} {l : List Nat} (h : Digs B l) (hB : 1 ≤ B) (i : Int) : dgI l i < B := by
  unfold dgI
  split
  · omega
  · exact dg_lt h hB _
/-- The first digits of rest and divisor. -/
def upperD (r : List Nat) (k : Nat) : Nat := 10000 * (10000 * dgI r k + dgI r ((k : Int) - 1)) + dgI r ((k : Int) - 2)
def lowerD (b : List Nat) (k : Nat) : Nat := 10000 * dgI b ((k : Int) - 1) + dgI b ((k : Int) - 2)
theorem top_digit {b : List Nat} {y : Nat} (hb : Num 10000 b y) (h : b ≠ []) : 1 ≤ dg b (b.length - 1) := by
  rcases List.eq_nil_or_concat b with rfl | ⟨a, d, rfl⟩
  · exact absurd rfl h
  · rw [List.concat_eq_append] at hb ⊢
    have hd : d ≠ 0 := fun e => hb.trim (by simp [e])
    rw [dg_some (d := d) (by simp)]
    omega
theorem digit_bounds {r b : List Nat} {X Y : Nat} (hr : Num 10000 r X) (hb : Num 10000 b Y) (hY : 1 ≤ Y) (hlt : X < 10000 * Y) :
    1 ≤ lowerD b b.length ∧ upperD r b.length / (lowerD b b.length + 1) ≤ X / Y ∧ X / Y ≤ upperD r b.length / lowerD b b.length := by
  have hbn : b ≠ [] := fun e => by have := (hb.nil_iff (by omega)).1 e; omega
  have ht := top_digit hb hbn
  have hbl : 1 ≤ b.length := by cases b with | nil => exact absurd rfl hbn | cons => simp
  have hrl : r.length ≤ b.length + 1 := by
    refine hr.len_le (by omega) ?_
    have := hb.lt (k := b.length) (by omega) (Nat.le_refl _)
    rw [Nat.pow_succ]
    omega
  have hD : 1 ≤ lowerD b b.length := by
    unfold lowerD
    rw [show ((b.length : Int) - 1) = ((b.length - 1 : Nat) : Int) by omega, dgI_nat]
    omega
  refine ⟨hD, ?_⟩
  rcases Nat.lt_or_ge b.length 2 with h1 | h1
  · have hk : b.length = 1 := by omega
    have hv : Y = dg b 0 := by
      have := val_drop_dg 10000 b 0
      rw [List.drop_zero, List.drop_of_length_le (by omega)] at this
      rw [← hb.val, this]; simp
    have hx : X = dg r 0 + 10000 * dg r 1 := by
      have h2 := val_drop_dg 10000 r 0
      have h3 := val_drop_dg 10000 r 1
      rw [List.drop_of_length_le (i := 1 + 1) (by omega)] at h3
      rw [List.drop_zero] at h2
      rw [← hr.val, h2, h3]; simp
    have hU : upperD r b.length = X * 10000 + 0 := by
      unfold upperD
      rw [hk, dgI_nat, show (((1 : Nat) : Int) - 1) = ((0 : Nat) : Int) by omega, dgI_nat, dgI_neg (by omega), hx]
      omega
    have hL : lowerD b b.length = Y * 10000 + 0 := by
      unfold lowerD
      rw [hk, show (((1 : Nat) : Int) - 1) = ((0 : Nat) : Int) by omega, dgI_nat, dgI_neg (by omega), hv]
      omega
    rw [hU, hL]
    have e : X * 10000 / (Y * 10000) = X / Y := Nat.mul_div_mul_right _ _ (by omega)
    simp only [Nat.add_zero]
    rw [e]
    refine ⟨?_, Nat.le_refl _⟩
    rw [← e]
    exact Nat.div_le_div_left (by omega) (by omega)
  · obtain ⟨m, hm⟩ : ∃ m, b.length = m + 2 := ⟨b.length - 2, by omega⟩
    have hx : X = upperD r b.length * 10000 ^ m + val 10000 (r.take m) := by
      have h0 : val 10000 r = val 10000 (r.take m) + 10000 ^ m * val 10000 (r.drop m) := by
        rcases Nat.le_total m r.length with h | h
        · exact val_split 10000 r m h
        · rw [List.take_of_length_le h, List.drop_of_length_le h]; simp
      have h2 := val_drop_dg 10000 r m
      have h3 := val_drop_dg 10000 r (m + 1)
      have h4 := val_drop_dg 10000 r (m + 2)
      rw [List.drop_of_length_le (i := m + 2 + 1) (by omega)] at h4
      have hU : upperD r b.length = val 10000 (r.drop m) := by
        unfold upperD
        rw [hm, dgI_nat, show (((m + 2 : Nat) : Int) - 1) = ((m + 1 : Nat) : Int) by omega, dgI_nat, show (((m + 2 : Nat) : Int) - 2) = ((m : Nat) : Int) by omega, dgI_nat, h2, h3, h4]
        simp
        omega
      rw [← hr.val, h0, hU, Nat.mul_comm]
      omega
    have hy : Y = lowerD b b.length * 10000 ^ m + val 10000 (b.take m) := by
      have h0 := val_split 10000 b m (by omega)
      have h2 := val_drop_dg 10000 b m
      have h3 := val_drop_dg 10000 b (m + 1)
      rw [List.drop_of_length_le (i := m + 1 + 1) (by omega)] at h3
      have hU : lowerD b b.length = val 10000 (b.drop m) := by
        unfold lowerD
        rw [hm, show (((m + 2 : Nat) : Int) - 1) = ((m + 1 : Nat) : Int) by omega, dgI_nat, show (((m + 2 : Nat) : Int) - 2) = ((m : Nat) : Int) by omega, dgI_nat, h2, h3]
        simp
        omega
      rw [← hb.val, h0, hU, Nat.mul_comm]
      omega
    refine quo_bounds hx hy ?_ ?_ hD
    · have := val_lt (hr.digs.take m)
      exact Nat.lt_of_lt_of_le this (Nat.pow_le_pow_right (by omega) (List.length_take_le _ _))
    · have := val_lt (hb.digs.take m)
      exact Nat.lt_of_lt_of_le this (Nat.pow_le_pow_right (by omega) (List.length_take_le _ _))
end Go.Dig
