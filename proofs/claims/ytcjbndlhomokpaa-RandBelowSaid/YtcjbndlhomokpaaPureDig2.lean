/- Plain facts on digits: adding, subtracting, multiplying, dividing lists of digits, step by step. No program is named here. -/
import Derived.Test.YtcjbndlhomokpaaPureDig
namespace Go.Dig
set_option linter.unusedVariables false

/-- A digit, or 0 behind the last one. -/
def dg (l : List Nat) (i : Nat) : Nat := l[i]?.getD 0
theorem dg_some {l : List Nat} {i d : Nat} (h : l[i]? = some d) : dg l i = d := by simp [dg, h]
theorem dg_none {l : List Nat} {i : Nat} (h : l.length ≤ i) : dg l i = 0 := by simp [dg, List.getElem?_eq_none h]
theorem dg_lt {B : Nat} {l : List Nat} (h : Digs B l) (hB : 1 ≤ B) (i : Nat) : dg l i < B := by
  rcases Nat.lt_or_ge i l.length with h1 | h1
  · rw [dg_some (List.getElem?_eq_getElem h1)]; exact h _ (List.getElem_mem h1)
  · rw [dg_none h1]; omega
theorem val_take_dg (B : Nat) (l : List Nat) (k : Nat) : val B (l.take (k + 1)) = val B (l.take k) + B ^ k * dg l k := by
  rcases Nat.lt_or_ge k l.length with h | h
  · rw [val_take (List.getElem?_eq_getElem h), dg_some (List.getElem?_eq_getElem h)]
  · rw [dg_none h, List.take_of_length_le h, List.take_of_length_le (by omega)]; simp
theorem val_drop_dg (B : Nat) (l : List Nat) (k : Nat) : val B (l.drop k) = dg l k + B * val B (l.drop (k + 1)) := by
  rcases Nat.lt_or_ge k l.length with h | h
  · rw [val_drop (List.getElem?_eq_getElem h), dg_some (List.getElem?_eq_getElem h)]
  · rw [dg_none h, List.drop_of_length_le h, List.drop_of_length_le (by omega)]; simp
theorem val_set {B : Nat} {l : List Nat} {p d : Nat} (h : l[p]? = some d) (d' : Nat) : val B (l.set p d') + B ^ p * d = val B l + B ^ p * d' := by
  induction l generalizing p with
  | nil => simp at h
  | cons x l ih =>
    cases p with
    | zero =>
      simp only [List.getElem?_cons_zero, Option.some.injEq] at h
      subst h
      rw [List.set_cons_zero, val_cons, val_cons, Nat.pow_zero, Nat.one_mul, Nat.one_mul]
      omega
    | succ p =>
      simp only [List.getElem?_cons_succ] at h
      have := ih h
      rw [List.set_cons_succ, val_cons, val_cons, Nat.pow_succ]
      have e1 : B ^ p * B * d = B * (B ^ p * d) := by rw [Nat.mul_comm (B ^ p) B, Nat.mul_assoc]
      have e2 : B ^ p * B * d' = B * (B ^ p * d') := by rw [Nat.mul_comm (B ^ p) B, Nat.mul_assoc]
      rw [e1, e2]
      have := congrArg (fun t => B * t) this
      simp only [Nat.mul_add] at this
      omega

/-- The sum of the first i digits of a and b: digits o and a carry. -/
structure AddI (B : Nat) (a b : List Nat) (i : Nat) (o : List Nat) (c : Nat) : Prop where
  len : o.length = i
  digs : Digs B o
  carry : c ≤ 1
  eq : val B o + B ^ i * c = val B (a.take i) + val B (b.take i)
theorem AddI.start (B : Nat) (a b : List Nat) : AddI B a b 0 [] 0 := ⟨rfl, Digs.nil B, by omega, by simp⟩
theorem AddI.step {B : Nat} {a b : List Nat} {i : Nat} {o : List Nat} {c : Nat} (hB : 2 ≤ B) (ha : Digs B a) (hb : Digs B b) (h : AddI B a b i o c) :
    AddI B a b (i + 1) (o ++ [(dg a i + dg b i + c) % B]) ((dg a i + dg b i + c) / B) := by
  have h1 := dg_lt ha (by omega) i
  have h2 := dg_lt hb (by omega) i
  have h3 := h.carry
  refine ⟨by simp [h.len], h.digs.snoc (Nat.mod_lt _ (by omega)), ?_, ?_⟩
  · have : (dg a i + dg b i + c) / B < 2 := by rw [Nat.div_lt_iff_lt_mul (by omega)]; omega
    omega
  · rw [val_snoc, h.len, val_take_dg, val_take_dg, Nat.pow_succ, Nat.mul_assoc, Nat.add_assoc, ← Nat.mul_add, Nat.mod_add_div, Nat.mul_add, Nat.mul_add]
    have := h.eq
    omega
theorem AddI.done {B : Nat} {a b : List Nat} {i : Nat} {o : List Nat} (h : AddI B a b i o 0) (ha : a.length ≤ i) (hb : b.length ≤ i) : val B o = val B a + val B b := by
  have := h.eq
  rw [List.take_of_length_le ha, List.take_of_length_le hb] at this
  simpa using this

theorem AddI.carry0 {B : Nat} {a b : List Nat} {k m : Nat} {o : List Nat} {c : Nat} (hB : 2 ≤ B) (h : AddI B a b k o c) (ha : Digs B a) (hb : Digs B b) (hla : a.length ≤ m) (hlb : b.length ≤ m) (hk : m + 1 ≤ k) : c = 0 := by
  have e := h.eq
  rw [List.take_of_length_le (by omega), List.take_of_length_le (by omega)] at e
  have h1 := Nat.lt_of_lt_of_le (val_lt ha) (Nat.pow_le_pow_right (by omega) hla)
  have h2 := Nat.lt_of_lt_of_le (val_lt hb) (Nat.pow_le_pow_right (by omega) hlb)
  rcases Nat.eq_zero_or_pos c with h3 | h3
  · exact h3
  · exfalso
    have h4 : B ^ (m + 1) ≤ B ^ k * c := Nat.le_trans (Nat.pow_le_pow_right (by omega) hk) (Nat.le_mul_of_pos_right _ h3)
    rw [Nat.pow_succ] at h4
    have h5 : B ^ m * 2 ≤ B ^ m * B := Nat.mul_le_mul_left _ hB
    omega
/-- The difference of the first i digits: digits o and a borrow. -/
structure SubI (B : Nat) (a b : List Nat) (i : Nat) (o : List Nat) (r : Nat) : Prop where
  len : o.length = i
  digs : Digs B o
  borrow : r ≤ 1
  eq : val B o + val B (b.take i) = val B (a.take i) + B ^ i * r
theorem SubI.start (B : Nat) (a b : List Nat) : SubI B a b 0 [] 0 := ⟨rfl, Digs.nil B, by omega, by simp⟩
theorem SubI.step {B : Nat} {a b : List Nat} {i : Nat} {o : List Nat} {r v r' : Nat} (hB : 2 ≤ B) (ha : Digs B a) (hb : Digs B b) (h : SubI B a b i o r) (hv : v < B) (hr : r' ≤ 1) (he : v + dg b i + r = dg a i + B * r') :
    SubI B a b (i + 1) (o ++ [v]) r' := by
  refine ⟨by simp [h.len], h.digs.snoc hv, hr, ?_⟩
  rw [val_snoc, h.len, val_take_dg, val_take_dg, Nat.pow_succ, Nat.mul_assoc]
  have := h.eq
  have h2 : B ^ i * (v + dg b i + r) = B ^ i * (dg a i + B * r') := by rw [he]
  simp only [Nat.mul_add] at h2
  omega
theorem SubI.done {B : Nat} {a b : List Nat} {o : List Nat} {r : Nat} (hB : 1 ≤ B) (h : SubI B a b a.length o r) (hb : b.length ≤ a.length) (hle : val B b ≤ val B a) : val B o = val B a - val B b := by
  have := h.eq
  rw [List.take_of_length_le (Nat.le_refl _), List.take_of_length_le hb] at this
  have hlt := val_lt h.digs
  rw [h.len] at hlt
  have hr := h.borrow
  have hr0 : r = 0 ∨ r = 1 := by omega
  rcases hr0 with rfl | rfl
  · simp at this; omega
  · rw [Nat.mul_one] at this; omega

/-- A product: i whole rows, and k digits of the next. -/
structure MulI (B : Nat) (a b : List Nat) (i k : Nat) (o : List Nat) (c : Nat) : Prop where
  len : o.length = a.length + b.length
  digs : Digs B o
  zero : ∀ j d, i + b.length ≤ j → o[j]? = some d → d = 0
  carry : c < B
  eq : val B o + B ^ (i + k) * c = val B (a.take i) * val B b + B ^ i * (dg a i * val B (b.take k))
theorem MulI.start {B : Nat} (hB : 1 ≤ B) (a b : List Nat) : MulI B a b 0 0 (List.replicate (a.length + b.length) 0) 0 := by
  refine ⟨by simp, Digs.zeros hB _, fun j d _ h => ?_, by omega, ?_⟩
  · have := List.mem_of_getElem? h
    exact (List.mem_replicate.1 this).2
  · simp [val_zeros]
theorem MulI.step {B : Nat} {a b : List Nat} {i k : Nat} {o : List Nat} {c d : Nat} (hB : 1 ≤ B) (ha : Digs B a) (hb : Digs B b) (h : MulI B a b i k o c) (hk : k < b.length) (hd : o[i + k]? = some d) :
    (d + dg a i * dg b k + c) / B < B ∧ MulI B a b i (k + 1) (o.set (i + k) ((d + dg a i * dg b k + c) % B)) ((d + dg a i * dg b k + c) / B) := by
  have h1 := dg_lt ha hB i
  have h2 := dg_lt hb hB k
  have h3 := h.carry
  have h4 := h.digs.at_ hd
  have hlt : (d + dg a i * dg b k + c) / B < B := by
    rw [Nat.div_lt_iff_lt_mul (by omega)]
    have h5 : dg a i * dg b k ≤ (B - 1) * (B - 1) := Nat.mul_le_mul (by omega) (by omega)
    obtain ⟨m, rfl⟩ : ∃ m, B = m + 1 := ⟨B - 1, by omega⟩
    simp only [Nat.add_sub_cancel] at h5
    have h6 : (m + 1) * (m + 1) = m * m + m + m + 1 := by rw [Nat.mul_add, Nat.add_mul]; omega
    omega
  refine ⟨hlt, by simp [h.len], h.digs.set_ (Nat.mod_lt _ (by omega)), ?_, hlt, ?_⟩
  · intro j e hj he
    rw [List.getElem?_set_ne (by omega)] at he
    exact h.zero j e hj he
  · have h5 := val_set (B := B) hd ((d + dg a i * dg b k + c) % B)
    have h6 := h.eq
    rw [val_take_dg, Nat.mul_add, Nat.mul_add, ← Nat.add_assoc i k 1]
    have e1 : B ^ (i + k + 1) * ((d + dg a i * dg b k + c) / B) + B ^ (i + k) * ((d + dg a i * dg b k + c) % B) = B ^ (i + k) * (d + dg a i * dg b k + c) := by
      rw [Nat.pow_succ, Nat.mul_assoc, ← Nat.mul_add, Nat.div_add_mod]
    have e2 : B ^ i * (dg a i * (B ^ k * dg b k)) = B ^ (i + k) * (dg a i * dg b k) := by
      rw [Nat.pow_add, Nat.mul_assoc, Nat.mul_left_comm (dg a i)]
    rw [e2]
    simp only [Nat.mul_add] at e1
    omega
theorem MulI.row {B : Nat} {a b : List Nat} {i : Nat} {o : List Nat} {c : Nat} (hB : 1 ≤ B) (h : MulI B a b i b.length o c) (hi : i < a.length) : MulI B a b (i + 1) 0 (o.set (i + b.length) c) 0 := by
  have hd : o[i + b.length]? = some 0 := by
    have hl : i + b.length < o.length := by rw [h.len]; omega
    have h1 := List.getElem?_eq_getElem hl
    have h2 := h.zero _ _ (Nat.le_refl _) h1
    rw [h1, h2]
  refine ⟨by simp [h.len], h.digs.set_ h.carry, ?_, by omega, ?_⟩
  · intro j e hj he
    rw [List.getElem?_set_ne (by omega)] at he
    exact h.zero j e (by omega) he
  · have h5 := val_set (B := B) hd c
    have h6 := h.eq
    rw [List.take_of_length_le (Nat.le_refl b.length)] at h6
    rw [val_take_dg, List.take_zero, val_nil, Nat.mul_zero, Nat.mul_zero, Nat.mul_zero, Nat.add_mul, Nat.mul_assoc]
    rw [Nat.mul_zero] at h5
    omega
theorem MulI.done {B : Nat} {a b : List Nat} {i : Nat} {o : List Nat} {c : Nat} (h : MulI B a b a.length 0 o 0) : val B o = val B a * val B b := by
  have := h.eq
  rw [List.take_of_length_le (Nat.le_refl a.length), List.take_zero] at this
  simpa using this

/-- A sign and an amount, as an integer. -/
def sg (s : Bool) (m : Nat) : Int := if s then -(m : Int) else m
theorem sg_abs (s : Bool) (m : Nat) : (sg s m).natAbs = m := by unfold sg; split <;> omega
theorem sg_neg (s : Bool) (m : Nat) : decide (sg s m < 0) = (s && decide (0 < m)) := by
  unfold sg
  cases s <;> simp
theorem sg_of (z : Int) : sg (decide (z < 0)) z.natAbs = z := by
  unfold sg
  by_cases h : z < 0 <;> simp [h] <;> omega

/-- What comparing two numbers gives. -/
def cmpI (x y : Int) : Int := if x < y then -1 else if y < x then 1 else 0
theorem cmpI_lt {x y : Int} (h : x < y) : cmpI x y = -1 := by unfold cmpI; rw [if_pos h]
theorem cmpI_gt {x y : Int} (h : y < x) : cmpI x y = 1 := by unfold cmpI; rw [if_neg (by omega), if_pos h]
theorem cmpI_eq {x y : Int} (h : x = y) : cmpI x y = 0 := by unfold cmpI; rw [if_neg (by omega), if_neg (by omega)]

end Go.Dig
