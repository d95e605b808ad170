/- The parts PureDig, PureDig2, WideA, WideB, MemSet, MemMk, WideC, WideD, WideE, WideF, WideG, PureDig3, PureHash, WideH of the proof, in one text. -/
import Derived.Deep.RegionHeld3
import Derived.Deep.RegionWith
import Derived.Laws.CopyOwn
import Derived.WalkKit
import Derived.PlainAid
import Derived.Test.YtblcaeoeeepajaaGreatDoorB1
set_option linter.unusedSimpArgs false
set_option linter.unusedVariables false

namespace Go.Dig
set_option linter.unusedVariables false

/-- The value of digits in base B, the least significant one first. -/
def val (B : Nat) : List Nat → Nat
  | [] => 0
  | d :: l => d + B * val B l
@[simp] theorem val_nil (B : Nat) : val B [] = 0 := rfl
theorem val_cons (B d : Nat) (l : List Nat) : val B (d :: l) = d + B * val B l := rfl
theorem val_append (B : Nat) (a b : List Nat) : val B (a ++ b) = val B a + B ^ a.length * val B b := by
  induction a with
  | nil => simp
  | cons x a ih =>
    rw [List.cons_append, val_cons, ih, val_cons, List.length_cons, Nat.pow_succ, Nat.mul_add, ← Nat.mul_assoc, Nat.mul_comm (B ^ a.length) B]
    omega
theorem val_snoc (B : Nat) (a : List Nat) (d : Nat) : val B (a ++ [d]) = val B a + B ^ a.length * d := by
  rw [val_append, val_cons, val_nil, Nat.mul_zero, Nat.add_zero]
theorem val_take {B : Nat} {l : List Nat} {k d : Nat} (h : l[k]? = some d) : val B (l.take (k + 1)) = val B (l.take k) + B ^ k * d := by
  have hk := (List.getElem?_eq_some_iff.1 h).1
  rw [List.take_add_one, h, Option.toList_some, val_snoc, List.length_take, Nat.min_eq_left (by omega)]
theorem val_drop {B : Nat} {l : List Nat} {k d : Nat} (h : l[k]? = some d) : val B (l.drop k) = d + B * val B (l.drop (k + 1)) := by
  obtain ⟨hk, rfl⟩ := List.getElem?_eq_some_iff.1 h
  rw [List.drop_eq_getElem_cons hk, val_cons]
theorem val_split (B : Nat) (l : List Nat) (k : Nat) (hk : k ≤ l.length) : val B l = val B (l.take k) + B ^ k * val B (l.drop k) := by
  have := val_append B (l.take k) (l.drop k)
  rw [List.take_append_drop, List.length_take, Nat.min_eq_left hk] at this
  exact this
/-- Every digit is less than the base. -/
def Digs (B : Nat) (l : List Nat) : Prop := ∀ d ∈ l, d < B
theorem Digs.nil (B : Nat) : Digs B [] := fun d h => by simp at h
theorem Digs.cons {B d : Nat} {l : List Nat} (h : d < B) (hl : Digs B l) : Digs B (d :: l) := fun x hx => by
  rcases List.mem_cons.1 hx with rfl | hx
  · exact h
  · exact hl x hx
theorem Digs.snoc {B d : Nat} {l : List Nat} (hl : Digs B l) (h : d < B) : Digs B (l ++ [d]) := fun x hx => by
  rcases List.mem_append.1 hx with hx | hx
  · exact hl x hx
  · simp at hx; omega
theorem Digs.app {B : Nat} {a b : List Nat} (ha : Digs B a) (hb : Digs B b) : Digs B (a ++ b) := fun x hx => (List.mem_append.1 hx).elim (ha x) (hb x)
theorem Digs.take {B : Nat} {l : List Nat} (h : Digs B l) (k : Nat) : Digs B (l.take k) := fun x hx => h x (List.mem_of_mem_take hx)
theorem Digs.drop {B : Nat} {l : List Nat} (h : Digs B l) (k : Nat) : Digs B (l.drop k) := fun x hx => h x (List.mem_of_mem_drop hx)
theorem Digs.at_ {B : Nat} {l : List Nat} (h : Digs B l) {k d : Nat} (hd : l[k]? = some d) : d < B := h d (List.mem_of_getElem? hd)
theorem Digs.set_ {B : Nat} {l : List Nat} (h : Digs B l) {k d : Nat} (hd : d < B) : Digs B (l.set k d) := fun x hx => by
  rcases List.mem_or_eq_of_mem_set hx with h1 | h1
  · exact h x h1
  · omega
theorem Digs.zeros {B : Nat} (hB : 1 ≤ B) (n : Nat) : Digs B (List.replicate n 0) := fun x hx => by
  have := (List.mem_replicate.1 hx).2; omega
theorem val_zeros (B n : Nat) : val B (List.replicate n 0) = 0 := by
  induction n with
  | zero => rfl
  | succ n ih => rw [List.replicate_succ, val_cons, ih]; simp
theorem val_lt {B : Nat} {l : List Nat} (h : Digs B l) : val B l < B ^ l.length := by
  induction l with
  | nil => simp
  | cons x l ih =>
    have h1 := ih (fun d hd => h d (by simp [hd]))
    have h2 := h x (by simp)
    rw [val_cons, List.length_cons, Nat.pow_succ]
    have h3 : B * (val B l + 1) ≤ B * B ^ l.length := Nat.mul_le_mul_left _ h1
    rw [Nat.mul_add, Nat.mul_comm B (B ^ l.length)] at h3
    omega
/-- No zero at the end. -/
def Trim (l : List Nat) : Prop := l.getLast? ≠ some 0
theorem Trim.nil : Trim [] := by simp [Trim]
theorem Trim.snoc {l : List Nat} {d : Nat} (h : d ≠ 0) : Trim (l ++ [d]) := by simp [Trim, h]
theorem Trim.drop {l : List Nat} (h : Trim l) (k : Nat) : Trim (l.drop k) := by
  unfold Trim at *
  rw [List.getLast?_drop]
  split
  · simp
  · exact h
/-- The list without the zeros at its end. -/
def trim : List Nat → List Nat
  | [] => []
  | d :: l => match trim l with
    | [] => if d = 0 then [] else [d]
    | x :: t => d :: x :: t
theorem trim_cons (d : Nat) (l : List Nat) : trim (d :: l) = if d = 0 ∧ trim l = [] then [] else d :: trim l := by
  rw [trim]
  split
  · rename_i h
    by_cases hd : d = 0 <;> simp [h, hd]
  · rename_i h
    simp [h]
theorem trim_snoc_zero (l : List Nat) : trim (l ++ [0]) = trim l := by
  induction l with
  | nil => rfl
  | cons x l ih => rw [List.cons_append, trim_cons, trim_cons, ih]
theorem trim_snoc_pos (l : List Nat) {d : Nat} (h : d ≠ 0) : trim (l ++ [d]) = l ++ [d] := by
  induction l with
  | nil => simp [trim, h]
  | cons x l ih => rw [List.cons_append, trim_cons, ih]; simp
theorem trim_Trim (l : List Nat) : Trim (trim l) := by
  induction l with
  | nil => exact Trim.nil
  | cons x l ih =>
    rw [trim_cons]
    split
    · exact Trim.nil
    · rename_i h
      unfold Trim at *
      cases hl : trim l with
      | nil => rw [hl] at h; simp at h ⊢; exact h
      | cons y t => rw [hl] at ih; simpa using ih
theorem val_trim (B : Nat) (l : List Nat) : val B (trim l) = val B l := by
  induction l with
  | nil => rfl
  | cons x l ih =>
    rw [trim_cons, val_cons]
    split
    · rename_i h
      rw [h.2] at ih
      rw [← ih, h.1]; simp
    · rw [val_cons, ih]
theorem trim_digs {B : Nat} {l : List Nat} (h : Digs B l) : Digs B (trim l) := by
  induction l with
  | nil => exact Digs.nil B
  | cons x l ih =>
    rw [trim_cons]
    split
    · exact Digs.nil B
    · exact Digs.cons (h x (by simp)) (ih (fun d hd => h d (by simp [hd])))
theorem trim_take (l : List Nat) : trim l = l.take (trim l).length := by
  induction l with
  | nil => rfl
  | cons x l ih =>
    rw [trim_cons]
    split
    · simp
    · rw [List.length_cons, List.take_succ_cons, ← ih]
theorem trim_len (l : List Nat) : (trim l).length ≤ l.length := by
  have := congrArg List.length (trim_take l)
  rw [List.length_take] at this
  omega
/-- One step of trimming, by the last digit of the first k. -/
theorem trim_step {l : List Nat} {k d : Nat} (h : l[k]? = some d) (hd : d = 0) : trim (l.take (k + 1)) = trim (l.take k) := by
  rw [List.take_add_one, h, Option.toList_some, hd, trim_snoc_zero]
theorem trim_stop {l : List Nat} {k d : Nat} (h : l[k]? = some d) (hd : d ≠ 0) : trim (l.take (k + 1)) = l.take (k + 1) := by
  rw [List.take_add_one, h, Option.toList_some, trim_snoc_pos _ hd]

/-- l is THE list of digits of n. -/
structure Num (B : Nat) (l : List Nat) (n : Nat) : Prop where
  digs : Digs B l
  trim : Trim l
  val : val B l = n
theorem Num.zero (B : Nat) : Num B [] 0 := ⟨Digs.nil B, Trim.nil, rfl⟩
theorem Num.of_trim {B : Nat} {l : List Nat} (h : Digs B l) : Num B (Dig.trim l) (Dig.val B l) := ⟨trim_digs h, trim_Trim l, val_trim B l⟩
theorem val_pos {B : Nat} {l : List Nat} (hB : 1 ≤ B) (h : Trim l) (hn : l ≠ []) : B ^ (l.length - 1) ≤ val B l := by
  rcases List.eq_nil_or_concat l with rfl | ⟨a, d, rfl⟩
  · exact absurd rfl hn
  · rw [List.concat_eq_append] at h ⊢
    have hd : d ≠ 0 := fun e => h (by simp [e])
    rw [val_snoc, List.length_append, List.length_singleton, Nat.add_sub_cancel]
    exact Nat.le_trans (Nat.le_mul_of_pos_right _ (by omega)) (Nat.le_add_left _ _)
theorem Num.nil_iff {B : Nat} {l : List Nat} {n : Nat} (hB : 1 ≤ B) (h : Num B l n) : l = [] ↔ n = 0 := by
  constructor
  · intro e; subst e; exact h.val.symm
  · intro e
    rcases Decidable.em (l = []) with h1 | h1
    · exact h1
    · have h2 := val_pos hB h.trim h1
      have h3 : 0 < B ^ (l.length - 1) := Nat.pow_pos hB
      rw [h.val] at h2; omega
theorem Num.len_lt {B : Nat} (hB : 2 ≤ B) {a b : List Nat} {m n : Nat} (ha : Num B a m) (hb : Num B b n) (h : a.length < b.length) : m < n := by
  have h1 := val_lt ha.digs
  have h2 := val_pos (B := B) (by omega) hb.trim (fun e => by simp [e] at h)
  rw [ha.val] at h1
  rw [hb.val] at h2
  exact Nat.lt_of_lt_of_le h1 (Nat.le_trans (Nat.pow_le_pow_right (by omega) (by omega)) h2)
/-- A number below B^k has at most k digits, and the other way round. -/
theorem Num.len_le {B : Nat} (hB : 2 ≤ B) {a : List Nat} {m k : Nat} (ha : Num B a m) (h : m < B ^ k) : a.length ≤ k := by
  rcases Decidable.em (a = []) with h1 | h1
  · simp [h1]
  · have h2 := val_pos (B := B) (by omega) ha.trim h1
    rw [ha.val] at h2
    rcases Nat.lt_or_ge k a.length with h3 | h3
    · have := Nat.pow_le_pow_right (n := B) (by omega) (show k ≤ a.length - 1 by omega)
      omega
    · exact h3
theorem Num.lt {B : Nat} {a : List Nat} {m k : Nat} (hB : 1 ≤ B) (ha : Num B a m) (h : a.length ≤ k) : m < B ^ k := by
  have := val_lt ha.digs
  rw [ha.val] at this
  exact Nat.lt_of_lt_of_le this (Nat.pow_le_pow_right hB h)
/-- The first difference from the top decides. -/
theorem val_lt_of {B : Nat} {a b : List Nat} (ha : Digs B a) (hl : a.length = b.length) {k x y : Nat} (hx : a[k]? = some x) (hy : b[k]? = some y) (hd : a.drop (k + 1) = b.drop (k + 1)) (h : x < y) : val B a < val B b := by
  have hk := (List.getElem?_eq_some_iff.1 hx).1
  rw [val_split B a (k + 1) (by omega), val_split B b (k + 1) (by omega), hd, val_take hx, val_take hy]
  have h1 := val_lt (ha.take k)
  rw [List.length_take, Nat.min_eq_left (by omega)] at h1
  have h2 : B ^ k * (x + 1) ≤ B ^ k * y := Nat.mul_le_mul_left _ h
  rw [Nat.mul_add] at h2
  omega
theorem drop_step {a b : List Nat} {k x : Nat} (hx : a[k]? = some x) (hy : b[k]? = some x) (hd : a.drop (k + 1) = b.drop (k + 1)) : a.drop k = b.drop k := by
  obtain ⟨h1, e1⟩ := List.getElem?_eq_some_iff.1 hx
  obtain ⟨h2, e2⟩ := List.getElem?_eq_some_iff.1 hy
  rw [List.drop_eq_getElem_cons h1, List.drop_eq_getElem_cons h2, e1, e2, hd]
/-- The cells of numbers. -/
def nv (k : IntKind) (l : List Nat) : List Value := l.map (fun n : Nat => Value.int k n)
@[simp] theorem nv_length (k : IntKind) (l : List Nat) : (nv k l).length = l.length := by simp [nv]
theorem nv_at {k : IntKind} {l : List Nat} {i : Nat} {u : Value} (h : (nv k l)[i]? = some u) : ∃ z, l[i]? = some z ∧ u = .int k (z : Nat) := by
  simp only [nv, List.getElem?_map, Option.map_eq_some_iff] at h
  obtain ⟨c, h1, h2⟩ := h
  exact ⟨c, h1, h2.symm⟩
theorem nv_one {k : IntKind} (l : List Nat) : ∀ u ∈ nv k l, u.oneCell' = true := by
  intro u hu
  obtain ⟨_, _, rfl⟩ := List.mem_map.1 hu
  rfl
theorem nv_take (k : IntKind) (l : List Nat) (i : Nat) : (nv k l).take i = nv k (l.take i) := by simp [nv, List.map_take]
theorem nv_set (k : IntKind) (l : List Nat) (i d : Nat) : (nv k l).set i (.int k (d : Nat)) = nv k (l.set i d) := by simp [nv, List.map_set]
end Go.Dig

namespace Go.Dig
set_option linter.unusedVariables false

/-- A digit, or 0 behind the last one. -/
def dg (l : List Nat) (i : Nat) : Nat := l[i]?.getD 0
theorem dg_some {l : List Nat} {i d : Nat} (h : l[i]? = some d) : dg l i = d := by simp [dg, h]
theorem dg_none {l : List Nat} {i : Nat} (h : l.length ≤ i) : dg l i = 0 := by simp [dg, List.getElem?_eq_none h]
theorem dg_lt {B : Nat} {l : List Nat} (h : Digs B l) (hB : 1 ≤ B) (i : Nat) : dg l i < B := by
  rcases Nat.lt_or_ge i l.length with h1 | h1
  · rw [dg_some (List.getElem?_eq_getElem h1)]; exact h _ (List.getElem_mem h1)
  · rw [dg_none h1]; omega
theorem val_take_dg (B : Nat) (l : List Nat) (k : Nat) : val B (l.take (k + 1)) = val B (l.take k) + B ^ k * dg l k := by
  rcases Nat.lt_or_ge k l.length with h | h
  · rw [val_take (List.getElem?_eq_getElem h), dg_some (List.getElem?_eq_getElem h)]
  · rw [dg_none h, List.take_of_length_le h, List.take_of_length_le (by omega)]; simp
theorem val_drop_dg (B : Nat) (l : List Nat) (k : Nat) : val B (l.drop k) = dg l k + B * val B (l.drop (k + 1)) := by
  rcases Nat.lt_or_ge k l.length with h | h
  · rw [val_drop (List.getElem?_eq_getElem h), dg_some (List.getElem?_eq_getElem h)]
  · rw [dg_none h, List.drop_of_length_le h, List.drop_of_length_le (by omega)]; simp
theorem val_set {B : Nat} {l : List Nat} {p d : Nat} (h : l[p]? = some d) (d' : Nat) : val B (l.set p d') + B ^ p * d = val B l + B ^ p * d' := by
  induction l generalizing p with
  | nil => simp at h
  | cons x l ih =>
    cases p with
    | zero =>
      simp only [List.getElem?_cons_zero, Option.some.injEq] at h
      subst h
      rw [List.set_cons_zero, val_cons, val_cons, Nat.pow_zero, Nat.one_mul, Nat.one_mul]
      omega
    | succ p =>
      simp only [List.getElem?_cons_succ] at h
      have := ih h
      rw [List.set_cons_succ, val_cons, val_cons, Nat.pow_succ]
      have e1 : B ^ p * B * d = B * (B ^ p * d) := by rw [Nat.mul_comm (B ^ p) B, Nat.mul_assoc]
      have e2 : B ^ p * B * d' = B * (B ^ p * d') := by rw [Nat.mul_comm (B ^ p) B, Nat.mul_assoc]
      rw [e1, e2]
      have := congrArg (fun t => B * t) this
      simp only [Nat.mul_add] at this
      omega

/-- The sum of the first i digits of a and b: digits o and a carry. -/
structure AddI (B : Nat) (a b : List Nat) (i : Nat) (o : List Nat) (c : Nat) : Prop where
  len : o.length = i
  digs : Digs B o
  carry : c ≤ 1
  eq : val B o + B ^ i * c = val B (a.take i) + val B (b.take i)
theorem AddI.start (B : Nat) (a b : List Nat) : AddI B a b 0 [] 0 := ⟨rfl, Digs.nil B, by omega, by simp⟩
theorem AddI.step {B : Nat} {a b : List Nat} {i : Nat} {o : List Nat} {c : Nat} (hB : 2 ≤ B) (ha : Digs B a) (hb : Digs B b) (h : AddI B a b i o c) :
    AddI B a b (i + 1) (o ++ [(dg a i + dg b i + c) % B]) ((dg a i + dg b i + c) / B) := by
  have h1 := dg_lt ha (by omega) i
  have h2 := dg_lt hb (by omega) i
  have h3 := h.carry
  refine ⟨by simp [h.len], h.digs.snoc (Nat.mod_lt _ (by omega)), ?_, ?_⟩
  · have : (dg a i + dg b i + c) / B < 2 := by rw [Nat.div_lt_iff_lt_mul (by omega)]; omega
    omega
  · rw [val_snoc, h.len, val_take_dg, val_take_dg, Nat.pow_succ, Nat.mul_assoc, Nat.add_assoc, ← Nat.mul_add, Nat.mod_add_div, Nat.mul_add, Nat.mul_add]
    have := h.eq
    omega
theorem AddI.done {B : Nat} {a b : List Nat} {i : Nat} {o : List Nat} (h : AddI B a b i o 0) (ha : a.length ≤ i) (hb : b.length ≤ i) : val B o = val B a + val B b := by
  have := h.eq
  rw [List.take_of_length_le ha, List.take_of_length_le hb] at this
  simpa using this

/-- The difference of the first i digits: digits o and a borrow. -/
structure SubI (B : Nat) (a b : List Nat) (i : Nat) (o : List Nat) (r : Nat) : Prop where
  len : o.length = i
  digs : Digs B o
  borrow : r ≤ 1
  eq : val B o + val B (b.take i) = val B (a.take i) + B ^ i * r
theorem SubI.start (B : Nat) (a b : List Nat) : SubI B a b 0 [] 0 := ⟨rfl, Digs.nil B, by omega, by simp⟩
theorem SubI.step {B : Nat} {a b : List Nat} {i : Nat} {o : List Nat} {r v r' : Nat} (hB : 2 ≤ B) (ha : Digs B a) (hb : Digs B b) (h : SubI B a b i o r) (hv : v < B) (hr : r' ≤ 1) (he : v + dg b i + r = dg a i + B * r') :
    SubI B a b (i + 1) (o ++ [v]) r' := by
  refine ⟨by simp [h.len], h.digs.snoc hv, hr, ?_⟩
  rw [val_snoc, h.len, val_take_dg, val_take_dg, Nat.pow_succ, Nat.mul_assoc]
  have := h.eq
  have h2 : B ^ i * (v + dg b i + r) = B ^ i * (dg a i + B * r') := by rw [he]
  simp only [Nat.mul_add] at h2
  omega
theorem SubI.done {B : Nat} {a b : List Nat} {o : List Nat} {r : Nat} (hB : 1 ≤ B) (h : SubI B a b a.length o r) (hb : b.length ≤ a.length) (hle : val B b ≤ val B a) : val B o = val B a - val B b := by
  have := h.eq
  rw [List.take_of_length_le (Nat.le_refl _), List.take_of_length_le hb] at this
  have hlt := val_lt h.digs
  rw [h.len] at hlt
  have hr := h.borrow
  have hr0 : r = 0 ∨ r = 1 := by omega
  rcases hr0 with rfl | rfl
  · simp at this; omega
  · rw [Nat.mul_one] at this; omega

/-- A product: i whole rows, and k digits of the next. -/
structure MulI (B : Nat) (a b : List Nat) (i k : Nat) (o : List Nat) (c : Nat) : Prop where
  len : o.length = a.length + b.length
  digs : Digs B o
  zero : ∀ j d, i + b.length ≤ j → o[j]? = some d → d = 0
  carry : c < B
  eq : val B o + B ^ (i + k) * c = val B (a.take i) * val B b + B ^ i * (dg a i * val B (b.take k))
theorem MulI.start {B : Nat} (hB : 1 ≤ B) (a b : List Nat) : MulI B a b 0 0 (List.replicate (a.length + b.length) 0) 0 := by
  refine ⟨by simp, Digs.zeros hB _, fun j d _ h => ?_, by omega, ?_⟩
  · have := List.mem_of_getElem? h
    exact (List.mem_replicate.1 this).2
  · simp [val_zeros]
theorem MulI.step {B : Nat} {a b : List Nat} {i k : Nat} {o : List Nat} {c d : Nat} (hB : 1 ≤ B) (ha : Digs B a) (hb : Digs B b) (h : MulI B a b i k o c) (hk : k < b.length) (hd : o[i + k]? = some d) :
    (d + dg a i * dg b k + c) / B < B ∧ MulI B a b i (k + 1) (o.set (i + k) ((d + dg a i * dg b k + c) % B)) ((d + dg a i * dg b k + c) / B) := by
  have h1 := dg_lt ha hB i
  have h2 := dg_lt hb hB k
  have h3 := h.carry
  have h4 := h.digs.at_ hd
  have hlt : (d + dg a i * dg b k + c) / B < B := by
    rw [Nat.div_lt_iff_lt_mul (by omega)]
    have h5 : dg a i * dg b k ≤ (B - 1) * (B - 1) := Nat.mul_le_mul (by omega) (by omega)
    obtain ⟨m, rfl⟩ : ∃ m, B = m + 1 := ⟨B - 1, by omega⟩
    simp only [Nat.add_sub_cancel] at h5
    have h6 : (m + 1) * (m + 1) = m * m + m + m + 1 := by rw [Nat.mul_add, Nat.add_mul]; omega
    omega
  refine ⟨hlt, by simp [h.len], h.digs.set_ (Nat.mod_lt _ (by omega)), ?_, hlt, ?_⟩
  · intro j e hj he
    rw [List.getElem?_set_ne (by omega)] at he
    exact h.zero j e hj he
  · have h5 := val_set (B := B) hd ((d + dg a i * dg b k + c) % B)
    have h6 := h.eq
    rw [val_take_dg, Nat.mul_add, Nat.mul_add, ← Nat.add_assoc i k 1]
    have e1 : B ^ (i + k + 1) * ((d + dg a i * dg b k + c) / B) + B ^ (i + k) * ((d + dg a i * dg b k + c) % B) = B ^ (i + k) * (d + dg a i * dg b k + c) := by
      rw [Nat.pow_succ, Nat.mul_assoc, ← Nat.mul_add, Nat.div_add_mod]
    have e2 : B ^ i * (dg a i * (B ^ k * dg b k)) = B ^ (i + k) * (dg a i * dg b k) := by
      rw [Nat.pow_add, Nat.mul_assoc, Nat.mul_left_comm (dg a i)]
    rw [e2]
    simp only [Nat.mul_add] at e1
    omega
theorem MulI.row {B : Nat} {a b : List Nat} {i : Nat} {o : List Nat} {c : Nat} (hB : 1 ≤ B) (h : MulI B a b i b.length o c) (hi : i < a.length) : MulI B a b (i + 1) 0 (o.set (i + b.length) c) 0 := by
  have hd : o[i + b.length]? = some 0 := by
    have hl : i + b.length < o.length := by rw [h.len]; omega
    have h1 := List.getElem?_eq_getElem hl
    have h2 := h.zero _ _ (Nat.le_refl _) h1
    rw [h1, h2]
  refine ⟨by simp [h.len], h.digs.set_ h.carry, ?_, by omega, ?_⟩
  · intro j e hj he
    rw [List.getElem?_set_ne (by omega)] at he
    exact h.zero j e (by omega) he
  · have h5 := val_set (B := B) hd c
    have h6 := h.eq
    rw [List.take_of_length_le (Nat.le_refl b.length)] at h6
    rw [val_take_dg, List.take_zero, val_nil, Nat.mul_zero, Nat.mul_zero, Nat.mul_zero, Nat.add_mul, Nat.mul_assoc]
    rw [Nat.mul_zero] at h5
    omega
theorem MulI.done {B : Nat} {a b : List Nat} {i : Nat} {o : List Nat} {c : Nat} (h : MulI B a b a.length 0 o 0) : val B o = val B a * val B b := by
  have := h.eq
  rw [List.take_of_length_le (Nat.le_refl a.length), List.take_zero] at this
  simpa using this

/-- A sign and an amount, as an integer. -/
def sg (s : Bool) (m : Nat) : Int := if s then -(m : Int) else m
theorem sg_abs (s : Bool) (m : Nat) : (sg s m).natAbs = m := by unfold sg; split <;> omega
theorem sg_neg (s : Bool) (m : Nat) : decide (sg s m < 0) = (s && decide (0 < m)) := by
  unfold sg
  cases s <;> simp
theorem sg_of (z : Int) : sg (decide (z < 0)) z.natAbs = z := by
  unfold sg
  by_cases h : z < 0 <;> simp [h] <;> omega

/-- What comparing two numbers gives. -/
def cmpI (x y : Int) : Int := if x < y then -1 else if y < x then 1 else 0
theorem cmpI_lt {x y : Int} (h : x < y) : cmpI x y = -1 := by unfold cmpI; rw [if_pos h]
theorem cmpI_gt {x y : Int} (h : y < x) : cmpI x y = 1 := by unfold cmpI; rw [if_neg (by omega), if_pos h]
theorem cmpI_eq {x y : Int} (h : x = y) : cmpI x y = 0 := by unfold cmpI; rw [if_neg (by omega), if_neg (by omega)]

end Go.Dig

namespace Go.Proofs.YtblcaeoeeepajaaGreatDoor
set_option linter.unusedVariables false
open Go.RowKit Go.Mem Go.Dig

theorem elemU32 : Elem Tryz.prog 27 69 (.int .u32 0) 4 := Elem.mk' Tryz.underlying27 (by kernel_rfl) rfl

set_option maxHeartbeats 400000 in
theorem trim_any (A : Option Addr) (n c : Nat) (l : List Nat) (w : World) (hr : Rd w A n (nv .u32 l)) (hnc : n ≤ c) (hc : c ≤ 9223372036854775807) :
    Calls Tryz.prog 36 #[.slice A n c] w fun e w' => e = .returned (.slice A (Dig.trim l).length c) ∧ w = w' := by
  have hl : l.length = n := by have := hr.len; rwa [nv_length] at this
  obtain ⟨T, hT⟩ : ∃ T, (Dig.trim l).length = T := ⟨_, rfl⟩
  rw [hT]
  have H0 := Lib.hid (And.intro hl (And.intro hr hT))
  clear hl hr hT
  have hup := fun (k : Nat) (i : Int) (hi : i = (k : Int)) (m : Nat) (hk : k ≤ c) (W : World) => run_upto elemU32 .i64 A m c k i hi hk W
  have HUP := Lib.hid hup
  clear hup
  go_enter Tryz.func36, Tryz.ntmps36
  go_wp2
  go_loop [0] (fun v => ∃ k : Nat, v = .slice A k c ∧ k ≤ n ∧ Hid ((Dig.trim (l.take k)).length = T)) (fun v => match v with | .slice _ k _ => k | _ => 0)
  case atStart =>
    obtain ⟨hl, hr, hT⟩ := H0.out
    exact ⟨n, rfl, Nat.le_refl _, by show _ = _; rw [List.take_of_length_le (by omega), hT]⟩
  case round =>
    obtain ⟨k, rfl, hk, HK⟩ := hrel
    by_cases h0 : k = 0
    · subst h0
      go_wp2
      go_ret
      have := HK.out
      simp [Dig.trim] at this
      rw [← this]
      exact ⟨rfl, rfl⟩
    · obtain ⟨j, rfl⟩ : ∃ j, k = j + 1 := ⟨k - 1, by omega⟩
      have hpos : decide ((0 : Int) < ((j + 1 : Nat) : Int)) = true := by simp
      obtain ⟨hl, hr, hT⟩ := H0.out
      obtain ⟨ad, u, rfl, hu, hcu⟩ := hr.at_ (show j < n by omega)
      obtain ⟨z, hz, rfl⟩ := nv_at hu
      have HZ := Lib.hid hz
      clear hl hr hT hu hz
      by_cases hz0 : z = 0
      · subst hz0
        have hup := HUP.out j ((j + 1 : Nat) - 1 : Int) (by omega) (j + 1) (by omega)
        go_wp2
        go_round
        case rel => exact ⟨j, rfl, by omega, by show _ = _; rw [← HK.out, trim_step HZ.out rfl]⟩
        case measure => simp
      · have hzb : ((z : Int) == 0) = false := by simp; omega
        go_wp2
        go_ret
        have := HK.out
        rw [trim_stop HZ.out hz0, List.length_take, Nat.min_eq_left (by have := H0.out.1; omega)] at this
        rw [← this]
        exact ⟨rfl, rfl⟩

theorem aggInt : Agg Tryz.prog 29 2 := ⟨_, Tryz.underlying29, rfl, by kernel_rfl⟩

set_option maxHeartbeats 400000 in
theorem made_any (s : Bool) (A : Option Addr) (n c : Nat) (l : List Nat) (w : World) (hr : Rd w A n (nv .u32 l)) (hnc : n ≤ c) (hc : c ≤ 9223372036854775807) :
    Calls Tryz.prog 31 #[.bool s, .slice A n c] w fun e w' => e = .returned (.agg #[.bool (s && decide (0 < (Dig.trim l).length)), .slice A (Dig.trim l).length c]) ∧ New w w' := by
  obtain ⟨T, hT⟩ : ∃ T, (Dig.trim l).length = T := ⟨_, rfl⟩
  rw [hT]
  have HR := Lib.hid (And.intro hr hT)
  clear hr hT
  have hfin : ∀ b : Bool, bodyPost Tryz.prog Tryz.f31 (fun e w' => e = .returned (.agg #[.bool b, .slice A T c]) ∧ New w w') .ret = bodyPost Tryz.prog Tryz.f31 (fun e w' => e = .returned (.agg #[.bool b, .slice A T c]) ∧ New w w') .ret := fun _ => rfl
  clear hfin
  cases s
  · rw [Bool.false_and]
    go_enter Tryz.func31, Tryz.ntmps31
    go_wp2_with fail
    refine (trim_any A n c l _ (HR.out.1.new ((Chg.refl _ _).alloc _)) hnc hc).mono ?_
    rintro e w1 ⟨rfl, rfl⟩
    rw [HR.out.2]
    go_wp2
    exact bodyPost_ret (res_c rfl _ rfl (aggInt.load (Blk.new _ _ _))) rfl ⟨rfl, (Chg.refl _ w).alloc _⟩
  · rw [Bool.true_and]
    by_cases h0 : T = 0
    · rw [show decide (0 < T) = false by simp; omega]
      subst h0
      go_enter Tryz.func31, Tryz.ntmps31
      go_wp2_with fail
      refine (trim_any A n c l _ (HR.out.1.new ((Chg.refl _ _).alloc _)) hnc hc).mono ?_
      rintro e w1 ⟨rfl, rfl⟩
      rw [HR.out.2]
      go_wp2
      exact bodyPost_ret (res_c rfl _ rfl (aggInt.load (Blk.new _ _ _))) rfl ⟨rfl, (Chg.refl _ w).alloc _⟩
    · rw [show decide (0 < T) = true by simp; omega]
      have hpos : (0 : Int) < (T : Int) := by omega
      have hTpos : 0 < T := by omega
      go_enter Tryz.func31, Tryz.ntmps31
      go_wp2_with fail
      refine (trim_any A n c l _ (HR.out.1.new ((Chg.refl _ _).alloc _)) hnc hc).mono ?_
      rintro e w1 ⟨rfl, rfl⟩
      rw [HR.out.2]
      go_wp2
      exact bodyPost_ret (res_c rfl _ rfl (aggInt.load (Blk.new _ _ _))) rfl ⟨rfl, (Chg.refl _ w).alloc _⟩

/-- The amount m lies in a slice. -/
def WM (w : World) (A : Option Addr) (n c : Nat) (m : Nat) : Prop := ∃ l, Rd w A n (nv .u32 l) ∧ n ≤ c ∧ c ≤ 9223372036854775807 ∧ Num 4294967296 l m
theorem WM.new {w w' : World} {A : Option Addr} {n c m : Nat} (h : WM w A n c m) (hn : New w w') : WM w' A n c m := by
  obtain ⟨l, h1, h2⟩ := h
  exact ⟨l, h1.new hn, h2⟩
theorem WM.store {w w' : World} {A : Option Addr} {n c m g : Nat} {t : TypeId} {cs : Array Value} (h : WM w A n c m) (hb : Blk w g t cs) (hi : NoInt cs.toList) (hc : Chg (fun k => k = g) w w') : WM w' A n c m := by
  obtain ⟨l, h1, h2⟩ := h
  refine ⟨l, h1.store hb (fun u hu => ?_) hc, h2⟩
  obtain ⟨z, _, rfl⟩ := List.mem_map.1 hu
  exact hi _ _
theorem WM.zero (w : World) : WM w none 0 0 0 := ⟨[], Rd.nil _ _, Nat.le_refl _, by omega, Num.zero _⟩
theorem WM.pos {w : World} {A : Option Addr} {n c m : Nat} (h : WM w A n c m) : n = 0 ↔ m = 0 := by
  obtain ⟨l, h1, _, _, h4⟩ := h
  rw [← h4.nil_iff (by omega)]
  have := h1.len
  rw [nv_length] at this
  constructor
  · intro h; exact List.eq_nil_of_length_eq_zero (by omega)
  · intro h; subst h; simpa using this.symm
theorem WM.lt {w : World} {A : Option Addr} {n c m : Nat} (h : WM w A n c m) {k : Nat} (hk : n ≤ k) : m < 4294967296 ^ k := by
  obtain ⟨l, h1, _, _, h4⟩ := h
  exact h4.lt (by omega) (by have := h1.len; rw [nv_length] at this; omega)
theorem WM.len {w : World} {A : Option Addr} {n c m : Nat} (h : WM w A n c m) {k : Nat} (hk : m < 4294967296 ^ k) : n ≤ k := by
  obtain ⟨l, h1, _, _, h4⟩ := h
  have := h4.len_le (by omega) hk
  have := h1.len
  rw [nv_length] at this
  omega
/-- v is the wide.Int z. -/
def WI (w : World) (v : Value) (z : Int) : Prop := ∃ s A n c, v = .agg #[.bool s, .slice A n c] ∧ s = decide (z < 0) ∧ WM w A n c z.natAbs
theorem WI.new {w w' : World} {v : Value} {z : Int} (h : WI w v z) (hn : New w w') : WI w' v z := by
  obtain ⟨s, A, n, c, h1, h2, h3⟩ := h
  exact ⟨s, A, n, c, h1, h2, h3.new hn⟩
theorem WI.zero (w : World) : WI w (.agg #[.bool false, .slice none 0 0]) 0 := ⟨_, _, _, _, rfl, rfl, WM.zero w⟩
theorem WI.store {w w' : World} {v : Value} {z : Int} {g : Nat} {t : TypeId} {cs : Array Value} (h : WI w v z) (hb : Blk w g t cs) (hi : NoInt cs.toList) (hc : Chg (fun k => k = g) w w') : WI w' v z := by
  obtain ⟨s, A, n, c, h1, h2, h3⟩ := h
  exact ⟨s, A, n, c, h1, h2, h3.store hb hi hc⟩
theorem noInt_two (s : Bool) (A : Option Addr) (n c : Nat) : NoInt (#[Value.bool s, Value.slice A n c] : Array Value).toList := fun k z h => by simp at h
/-- made: the sign and any digits. -/
theorem made_wi (s : Bool) (A : Option Addr) (n c : Nat) (l : List Nat) (w : World) (hr : Rd w A n (nv .u32 l)) (hd : Digs 4294967296 l) (hnc : n ≤ c) (hc : c ≤ 9223372036854775807) :
    Calls Tryz.prog 31 #[.bool s, .slice A n c] w fun e w' => ∃ v, e = .returned v ∧ WI w' v (sg s (val 4294967296 l)) ∧ New w w' := by
  refine (made_any s A n c l w hr hnc hc).mono ?_
  rintro e w' ⟨rfl, hn⟩
  have hN := Num.of_trim hd
  have hll : l.length = n := by have := hr.len; rwa [nv_length] at this
  have hlen := trim_len l
  refine ⟨_, rfl, ⟨_, _, _, _, rfl, ?_, Dig.trim l, ?_, by omega, hc, ?_⟩, hn⟩
  · rw [sg_neg]
    congr 1
    rw [decide_eq_decide]
    have := hN.nil_iff (by omega)
    constructor
    · intro h
      rcases Nat.eq_zero_or_pos (val 4294967296 l) with h1 | h1
      · rw [this.2 h1] at h; simp at h
      · exact h1
    · intro h
      rcases Nat.eq_zero_or_pos (Dig.trim l).length with h1 | h1
      · have := this.1 (List.eq_nil_of_length_eq_zero h1); omega
      · exact h1
  · have := (hr.new hn).take (k := (Dig.trim l).length) (by omega)
    rw [nv_take, ← trim_take] at this
    exact this
  · rw [sg_abs]; exact hN

set_option maxRecDepth 100000 in
set_option maxHeartbeats 1000000 in
theorem cmpMag_any (A : Option Addr) (n c : Nat) (A' : Option Addr) (n' c' : Nat) (x y : Nat) (w : World) (hx : WM w A n c x) (hy : WM w A' n' c' y) :
    Calls Tryz.prog 53 #[.slice A n c, .slice A' n' c'] w fun e w' => e = .returned (.int .i64 (cmpI x y)) ∧ ∃ q, w' = w.drewN q := by
  obtain ⟨la, ha, hc1, hc2, hNa⟩ := hx
  obtain ⟨lb, hb, hd1, hd2, hNb⟩ := hy
  have hla : la.length = n := by have := ha.len; rwa [nv_length] at this
  have hlb : lb.length = n' := by have := hb.len; rwa [nv_length] at this
  rcases Nat.lt_trichotomy n n' with h | h | h
  · rw [cmpI_lt (by have := hNa.len_lt (by omega) hNb (by omega); omega)]
    have hne : ((n : Int) != (n' : Int)) = true := by simp; omega
    clear hla hlb ha hb hNa hNb
    go_enter Tryz.func53, Tryz.ntmps53
    go_wp2
    go_ret
    exact ⟨rfl, 0, rfl⟩
  · subst h
    obtain ⟨C, hC⟩ : ∃ C, cmpI x y = C := ⟨_, rfl⟩
    rw [hC]
    have H0 := Lib.hid (And.intro ha (And.intro hb (And.intro hNa (And.intro hNb (And.intro hla (And.intro hlb hC))))))
    clear ha hb hNa hNb hla hlb hC
    go_enter Tryz.func53, Tryz.ntmps53
    go_wp2
    go_loopw [5] (fun i wr => ∃ k : Nat, k ≤ n ∧ i = .int .i64 ((k : Int) - 1) ∧ Hid (la.drop k = lb.drop k) ∧ ∃ q, wr = w.drewN q) (fun i _ => (intOf i + 1).toNat)
    case atStart =>
      obtain ⟨ha, hb, hNa, hNb, hla, hlb, hC⟩ := H0.out
      exact ⟨n, Nat.le_refl _, rfl, by show _ = _; rw [List.drop_of_length_le (by omega), List.drop_of_length_le (by omega)], 0, rfl⟩
    case round =>
      obtain ⟨k, hk, rfl, HD, q, hq⟩ := hrel
      have hnew : New w wr := by rw [hq]; exact (Chg.refl _ w).drewN q
      have HQ := Lib.hid hq
      clear hq
      by_cases h0 : k = 0
      · subst h0
        go_wp2
        go_ret
        obtain ⟨ha, hb, hNa, hNb, hla, hlb, hC⟩ := H0.out
        have e := HD.out
        rw [List.drop_zero, List.drop_zero] at e
        rw [← hC, cmpI_eq (by rw [← hNa.val, ← hNb.val, e])]
        exact ⟨rfl, q, HQ.out⟩
      · obtain ⟨j, rfl⟩ : ∃ j, k = j + 1 := ⟨k - 1, by omega⟩
        obtain ⟨ha, hb, hNa, hNb, hla, hlb, hC⟩ := H0.out
        obtain ⟨ad, u, rfl, hu, hcu⟩ := (ha.new hnew).at_ (show j < n by omega)
        obtain ⟨bd, v, rfl, hv, hcv⟩ := (hb.new hnew).at_ (show j < n by omega)
        obtain ⟨p, hp, rfl⟩ := nv_at hu
        obtain ⟨r, hr, rfl⟩ := nv_at hv
        have HP := Lib.hid (And.intro hp hr)
        have hj1 : (((j + 1 : Nat) : Int) - 1) = (j : Int) := by omega
        rw [hj1]
        clear hj1 ha hb hNa hNb hla hlb hC hu hv hp hr hnew
        rcases Nat.lt_trichotomy p r with h | h | h
        · have hlt : (p : Int) < (r : Int) := by omega
          go_wp2
          go_quiet (fail)
          go_wp2
          go_ret
          obtain ⟨ha, hb, hNa, hNb, hla, hlb, hC⟩ := H0.out
          obtain ⟨hp, hr⟩ := HP.out
          have := val_lt_of hNa.digs (by omega) hp hr HD.out h
          rw [hNa.val, hNb.val] at this
          rw [← hC, cmpI_lt (by omega)]
          exact ⟨rfl, _, by rw [HQ.out, World.drewN_drewN]⟩
        · subst h
          have hlt : decide ((p : Int) < (p : Int)) = false := by simp
          go_wp2
          go_quiet (fail)
          go_wp2
          go_quiet (fail)
          go_wp2
          go_roundw
          case rel =>
            obtain ⟨hp, hr⟩ := HP.out
            exact ⟨j, by omega, by go_num, drop_step hp hr HD.out, _, by rw [HQ.out, World.drewN_drewN]⟩
          case measure => simp [intOf]
        · have hlt : decide ((p : Int) < (r : Int)) = false := by simp; omega
          have hgt : (r : Int) < (p : Int) := by omega
          go_wp2
          go_quiet (fail)
          go_wp2
          go_quiet (fail)
          go_wp2
          go_ret
          obtain ⟨ha, hb, hNa, hNb, hla, hlb, hC⟩ := H0.out
          obtain ⟨hp, hr⟩ := HP.out
          have := val_lt_of hNb.digs (by omega) hr hp HD.out.symm h
          rw [hNa.val, hNb.val] at this
          rw [← hC, cmpI_gt (by omega)]
          exact ⟨rfl, _, by rw [World.drewN_drewN, HQ.out, World.drewN_drewN]⟩
  · rw [cmpI_gt (by have := hNb.len_lt (by omega) hNa (by omega); omega)]
    have hne : ((n : Int) != (n' : Int)) = true := by simp; omega
    have hlt : decide ((n : Int) < (n' : Int)) = false := by simp; omega
    have hlt' : decide (n < n') = false := by simp; omega
    clear hla hlb ha hb hNa hNb
    go_enter Tryz.func53, Tryz.ntmps53
    go_wp2
    go_ret
    exact ⟨rfl, 0, rfl⟩
end Go.Proofs.YtblcaeoeeepajaaGreatDoor

namespace Go.Proofs.YtblcaeoeeepajaaGreatDoor
set_option linter.unusedVariables false
open Go.RowKit Go.Mem Go.Dig

theorem rd_lit2 {w : World} {a b g : Nat} {e : TypeId} (hg : g = w.heap.size) : Rd (w.alloc (.cells #[.int .u32 (a : Int), .int .u32 (b : Int)] e)) (some ⟨g, 0, none⟩) 2 (nv .u32 [a, b]) := by
  subst hg; exact Rd.lit (nv .u32 [a, b]) rfl

set_option maxHeartbeats 400000 in
theorem from_any (n : Int) (w : World) (h1 : -9223372036854775808 ≤ n) (h2 : n ≤ 9223372036854775807) :
    Calls Tryz.prog 6 #[.int .i64 n] w fun e w' => ∃ v, e = .returned v ∧ WI w' v n ∧ New w w' := by
  obtain ⟨M, hM⟩ : ∃ M : Nat, n.natAbs = M := ⟨_, rfl⟩
  have hv : val 4294967296 [M % 4294967296, M / 4294967296] = M := by simp only [val_cons, val_nil]; omega
  have hdg : Digs 4294967296 [M % 4294967296, M / 4294967296] := Digs.cons (by omega) (Digs.cons (by omega) (Digs.nil _))
  by_cases h : n < 0
  · obtain rfl : n = -(M : Int) := by omega
    have hw : IntKind.u64.wrap (-IntKind.u64.wrap (-(M : Int))) = (M : Int) := by rw [IntKind.wrap_u64, IntKind.wrap_u64]; omega
    have H := Lib.hid (And.intro hv hdg)
    have hMb : M ≤ 9223372036854775808 := by omega
    clear hM hv hdg
    go_enter Tryz.func6, Tryz.ntmps6
    go_wp2_with fail
    rw [show ((M : Int) % 4294967296) = ((M % 4294967296 : Nat) : Int) by omega, show ((M : Int) / 4294967296) = ((M / 4294967296 : Nat) : Int) by omega]
    obtain ⟨hv, hdg⟩ := H.out
    have hb0 := Blk.new w 29 #[.bool false, .slice none 0 0]
    have hn0 : New w ((w.alloc (.cells #[.bool false, .slice none 0 0] 29)).alloc (.cells #[.int .u32 ((M % 4294967296 : Nat) : Int), .int .u32 ((M / 4294967296 : Nat) : Int)] 69)) := ((Chg.refl _ w).alloc _).alloc _
    refine (made_wi true _ 2 2 [M % 4294967296, M / 4294967296] _ (rd_lit2 (by simp)) hdg (by omega) (by omega)).mono ?_
    rintro e w1 ⟨v, rfl, hwi, hn1⟩
    rw [hv] at hwi
    have hb1 := (hb0.alloc (.cells #[.int .u32 ((M % 4294967296 : Nat) : Int), .int .u32 ((M / 4294967296 : Nat) : Int)] 69)).chg hn1 (fun h => h)
    obtain ⟨s, A, k, c, rfl, hs, hwm⟩ := hwi
    have hc0 := hb1.cell 0 rfl
    have hc1 := hb1.cell 1 rfl
    have hf0 := hb1.frozen 0
    have hf1 := hb1.frozen 1
    have H1 := Lib.hid (And.intro hb1 (And.intro (hn0.new hn1) (And.intro hs hwm)))
    clear hv hdg hb0 hn0 hn1 hb1 hs hwm hw H
    go_wp2
    obtain ⟨hb1, hn1, hs, hwm⟩ := H1.out
    have hn2 : New w ((w1.setCell ⟨w.heap.size, 0, none⟩ (.bool s)).setCell ⟨w.heap.size, 1, none⟩ (.slice A k c)) := (hn1.setCell (fun h => absurd h (by simp)) _).setCell (fun h => absurd h (by simp)) _
    refine bodyPost_ret (res_c rfl _ rfl (aggInt.load (hb1.set2 _ _))) rfl ⟨_, rfl, ⟨s, A, k, c, rfl, hs, ?_⟩, hn2⟩
    exact hwm.store hb1 (noInt_two _ _ _ _) (Chg.at2 _ _ _ _)
  · obtain rfl : n = (M : Int) := by omega
    have hd : decide ((M : Int) < 0) = false := by simp
    have H := Lib.hid (And.intro hv hdg)
    clear hM hv hdg
    go_enter Tryz.func6, Tryz.ntmps6
    go_wp2_with fail
    rw [show ((M : Int) % 4294967296) = ((M % 4294967296 : Nat) : Int) by omega, show ((M : Int) / 4294967296) = ((M / 4294967296 : Nat) : Int) by omega]
    obtain ⟨hv, hdg⟩ := H.out
    have hb0 := Blk.new w 29 #[.bool false, .slice none 0 0]
    have hn0 : New w ((w.alloc (.cells #[.bool false, .slice none 0 0] 29)).alloc (.cells #[.int .u32 ((M % 4294967296 : Nat) : Int), .int .u32 ((M / 4294967296 : Nat) : Int)] 69)) := ((Chg.refl _ w).alloc _).alloc _
    refine (made_wi false _ 2 2 [M % 4294967296, M / 4294967296] _ (rd_lit2 (by simp)) hdg (by omega) (by omega)).mono ?_
    rintro e w1 ⟨v, rfl, hwi, hn1⟩
    rw [hv] at hwi
    have hb1 := (hb0.alloc (.cells #[.int .u32 ((M % 4294967296 : Nat) : Int), .int .u32 ((M / 4294967296 : Nat) : Int)] 69)).chg hn1 (fun h => h)
    obtain ⟨s, A, k, c, rfl, hs, hwm⟩ := hwi
    have hc0 := hb1.cell 0 rfl
    have hc1 := hb1.cell 1 rfl
    have hf0 := hb1.frozen 0
    have hf1 := hb1.frozen 1
    have H1 := Lib.hid (And.intro hb1 (And.intro (hn0.new hn1) (And.intro hs hwm)))
    clear hv hdg hb0 hn0 hn1 hb1 hs hwm H
    go_wp2
    obtain ⟨hb1, hn1, hs, hwm⟩ := H1.out
    have hn2 : New w ((w1.setCell ⟨w.heap.size, 0, none⟩ (.bool s)).setCell ⟨w.heap.size, 1, none⟩ (.slice A k c)) := (hn1.setCell (fun h => absurd h (by simp)) _).setCell (fun h => absurd h (by simp)) _
    refine bodyPost_ret (res_c rfl _ rfl (aggInt.load (hb1.set2 _ _))) rfl ⟨_, rfl, ⟨s, A, k, c, rfl, hs, ?_⟩, hn2⟩
    exact hwm.store hb1 (noInt_two _ _ _ _) (Chg.at2 _ _ _ _)
set_option maxHeartbeats 400000 in
theorem compare_any (v v' : Value) (x y : Int) (w : World) (hx : WI w v x) (hy : WI w v' y) :
    Calls Tryz.prog 20 #[v, v'] w fun e w' => e = .returned (.int .i64 (cmpI x y)) ∧ New w w' := by
  obtain ⟨s, A, n, c, rfl, hs, hm⟩ := hx
  obtain ⟨s', A', n', c', rfl, hs', hm'⟩ := hy
  have H := Lib.hid (And.intro hs (And.intro hm (And.intro hs' hm')))
  clear hs hs' hm hm'
  cases s <;> cases s'
  · go_enter Tryz.func20, Tryz.ntmps20
    go_wp2_with fail
    obtain ⟨hs, hm, hs', hm'⟩ := H.out
    have hn0 : New w ((w.alloc (.cells #[.bool false, .slice A n c] 29)).alloc (.cells #[.bool false, .slice A' n' c'] 29)) := ((Chg.refl _ w).alloc _).alloc _
    refine (cmpMag_any A n c A' n' c' x.natAbs y.natAbs _ (hm.new hn0) (hm'.new hn0)).mono ?_
    rintro e w1 ⟨rfl, q, hq⟩
    have h1 : ¬ x < 0 := by simpa using hs.symm
    have h2 : ¬ y < 0 := by simpa using hs'.symm
    rw [show ((x.natAbs : Nat) : Int) = x by omega, show ((y.natAbs : Nat) : Int) = y by omega]
    have H1 := Lib.hid (show New w w1 by rw [hq]; exact hn0.drewN q)
    clear hs hm hs' hm' hn0 hq h1 h2
    go_wp2
    go_ret
    exact ⟨rfl, H1.out⟩
  · go_enter Tryz.func20, Tryz.ntmps20
    go_wp2
    go_ret
    obtain ⟨hs, hm, hs', hm'⟩ := H.out
    have h1 : ¬ x < 0 := by simpa using hs.symm
    have h2 : y < 0 := by simpa using hs'.symm
    exact ⟨by rw [cmpI_gt (by omega)]; rfl, ((Chg.refl _ w).alloc _).alloc _⟩
  · go_enter Tryz.func20, Tryz.ntmps20
    go_wp2
    go_ret
    obtain ⟨hs, hm, hs', hm'⟩ := H.out
    have h1 : x < 0 := by simpa using hs.symm
    have h2 : ¬ y < 0 := by simpa using hs'.symm
    exact ⟨by rw [cmpI_lt (by omega)]; rfl, ((Chg.refl _ w).alloc _).alloc _⟩
  · go_enter Tryz.func20, Tryz.ntmps20
    go_wp2_with fail
    obtain ⟨hs, hm, hs', hm'⟩ := H.out
    have hn0 : New w ((w.alloc (.cells #[.bool true, .slice A n c] 29)).alloc (.cells #[.bool true, .slice A' n' c'] 29)) := ((Chg.refl _ w).alloc _).alloc _
    refine (cmpMag_any A' n' c' A n c y.natAbs x.natAbs _ (hm'.new hn0) (hm.new hn0)).mono ?_
    rintro e w1 ⟨rfl, q, hq⟩
    have h1 : x < 0 := by simpa using hs.symm
    have h2 : y < 0 := by simpa using hs'.symm
    rw [show cmpI ((y.natAbs : Nat) : Int) ((x.natAbs : Nat) : Int) = cmpI x y by
      rw [show ((y.natAbs : Nat) : Int) = -y by omega, show ((x.natAbs : Nat) : Int) = -x by omega]
      unfold cmpI
      repeat' split
      all_goals omega]
    have H1 := Lib.hid (show New w w1 by rw [hq]; exact hn0.drewN q)
    clear hs hm hs' hm' hn0 hq h1 h2
    go_wp2
    go_ret
    exact ⟨rfl, H1.out⟩

end Go.Proofs.YtblcaeoeeepajaaGreatDoor

namespace Go.Mem
set_option linter.unusedVariables false
open Go.RowKit

theorem own_form {w : World} {base : Nat} {e : TypeId} {A : Option Addr} {n c : Nat} {xs : List Value} (h : w.ownsRow base e 1 (.slice A n c) n xs) (hn : 0 < n) : ∃ g, A = some ⟨g, 0, none⟩ ∧ base ≤ g ∧ g < w.heap.size ∧ ∀ i, w.frozen? ⟨g, i, none⟩ = false := by
  rcases h.2 with ⟨_, rfl⟩ | ⟨g, cap, cur, hv, hb, hg, _⟩
  · omega
  · injection hv with hA
    exact ⟨g, hA, hb, (Array.getElem?_eq_some_iff.1 hg).1, fun i => by simp [World.frozen?, hg]⟩
theorem own_cell {w : World} {base : Nat} {e : TypeId} {g n c : Nat} {xs : List Value} (h : w.ownsRow base e 1 (.slice (some ⟨g, 0, none⟩) n c) n xs) {i : Nat} {u : Value} (hu : xs[i]? = some u) : w.cell? ⟨g, i, none⟩ = some u := by
  have hr := Rd.of_own h
  have hi : i < n := by have := (List.getElem?_eq_some_iff.1 hu).1; have := hr.1; omega
  obtain ⟨ad, hA, hc⟩ := hr.2 (by omega)
  injection hA with hA
  subst hA
  have := hc i u hu
  rwa [Addr.add_lit, Nat.zero_add] at this
theorem own_set {w : World} {base : Nat} {e : TypeId} {g n c : Nat} {xs : List Value} (h : w.ownsRow base e 1 (.slice (some ⟨g, 0, none⟩) n c) n xs) (i : Nat) (u : Value) (hi : i < n) : (w.setCell ⟨g, i, none⟩ u).ownsRow base e 1 (.slice (some ⟨g, 0, none⟩) n c) n (xs.set i u) := by
  refine ⟨by simpa using h.1, ?_⟩
  rcases h.2 with ⟨hv, _⟩ | ⟨g', cap, cur, hv, hb, hg, h1, h2, h3, h4⟩
  · injection hv with hA; cases hA
  · injection hv with hA hn hc
    injection hA with hA
    injection hA with hA
    subst hA hc
    refine .inr ⟨g, c, cur.setIfInBounds i u, rfl, hb, ?_, h1, h2, by simpa using h3, ?_⟩
    · simp [World.setCell, Array.getElem?_modify, hg]
    · rw [Array.toList_setIfInBounds, List.take_set, h4]
end Go.Mem

namespace Go.Mem
set_option linter.unusedVariables false
open Go.RowKit
theorem wpList_mk {P : Program} {w : World} {t e : TypeId} {z : Value} {bytes : Nat} (hE : Elem P t e z bytes) (hz : z.cells = #[z]) {ops : Array Oper} {rest : List Oper} {o : Oper} {a : Act} {Q : Exit → Act → World → Prop} (hgd : o.guard = none) (l c : Operand)
    (ho : o.op = Op.makeSlice t l c) {kl kc : IntKind} {L C : Int} {n : Nat} (hl : a.eval l = .int kl L) (hc : a.eval c = .int kc C) (hL : L = (n : Int)) (hC : C = (n : Int)) (b2 : bytes * n ≤ 281474976710656) (b3 : n ≤ maxLen)
    (h : ∀ w', w'.ownsRow w.heap.size e 1 (.slice (some ⟨w.heap.size, 0, none⟩) n n) n (List.replicate n z) → New w w' → w'.heap.size = w.heap.size + 1 → wpList P ops Q rest (a.put o.dst (.slice (some ⟨w.heap.size, 0, none⟩) n n)) w') :
    wpList P ops Q (o :: rest) a w := by
  obtain ⟨ht, ⟨i, hi, hz0, hz1, hz2⟩, hzs⟩ := hE
  refine wpList_plain hgd fun K hK => ?_
  subst hL hC
  have h63' : (n : Int) ≤ 9223372036854775807 := by
    have h := b3
    simp [maxLen] at h
    omega
  have hb' : (i.bytes : Int) * (n : Int) ≤ 281474976710656 := by
    rw [hz2]
    have h : ((bytes * n : Nat) : Int) ≤ 281474976710656 := by omega
    rwa [Int.natCast_mul] at h
  have hr := run_make (P := P) w t e i z ht hi hz0 kl kc n n (by omega) (Int.le_refl _) hb' h63'
  simp only [Int.toNat_natCast, hz1, Nat.mul_one] at hr
  have ho1 := World.ownsRow_lit (e := e) (size := 1) w (madeCells z.cells n) n (Nat.le_refl _) b3 (by rw [size_madeCells, Nat.mul_one])
  rw [hz, toList_madeCells_one] at ho1
  rw [hz] at hr
  unfold Oper.wp
  simp [execOp, ho, hl, hc, hr, Result.andThen]
  exact hK _ _ (h _ ho1 ((Chg.refl _ w).alloc _) (by simp))
end Go.Mem

namespace Go.Proofs.YtblcaeoeeepajaaGreatDoor
set_option linter.unusedVariables false
open Go.RowKit Go.Mem Go.Dig

/-- trim of digits: an amount. -/
theorem trim_wm (A : Option Addr) (n c : Nat) (l : List Nat) (w : World) (hr : Rd w A n (nv .u32 l)) (hd : Digs 4294967296 l) (hnc : n ≤ c) (hc : c ≤ 9223372036854775807) :
    Calls Tryz.prog 36 #[.slice A n c] w fun e w' => ∃ T, e = .returned (.slice A T c) ∧ Hid (WM w A T c (val 4294967296 l) ∧ T ≤ n) ∧ w = w' := by
  refine (trim_any A n c l w hr hnc hc).mono ?_
  rintro e w' ⟨rfl, rfl⟩
  have hll : l.length = n := by have := hr.len; rwa [nv_length] at this
  have hlen := trim_len l
  refine ⟨_, rfl, ⟨⟨Dig.trim l, ?_, by omega, hc, Num.of_trim hd⟩, by omega⟩, rfl⟩
  have := hr.take (k := (Dig.trim l).length) (by omega)
  rwa [nv_take, ← trim_take] at this

set_option maxRecDepth 100000 in
set_option maxHeartbeats 4000000 in
theorem mulMag_any (A : Option Addr) (n c : Nat) (A' : Option Addr) (n' c' : Nat) (x y : Nat) (w : World) (hx : WM w A n c x) (hy : WM w A' n' c' y) (hn : n ≤ 1000000) (hn' : n' ≤ 1000000) :
    Calls Tryz.prog 33 #[.slice A n c, .slice A' n' c'] w fun e w' => ∃ R m d, e = .returned (.slice R m d) ∧ Hid (WM w' R m d (x * y) ∧ (∀ k, blk R = some k → w.heap.size ≤ k) ∧ New w w') := by
  obtain ⟨la, ha, hc1, hc2, hNa⟩ := hx
  obtain ⟨lb, hb, hd1, hd2, hNb⟩ := hy
  have hla : la.length = n := by have := ha.len; rwa [nv_length] at this
  have hlb : lb.length = n' := by have := hb.len; rwa [nv_length] at this
  have H0 := Lib.hid (And.intro ha (And.intro hb (And.intro hNa (And.intro hNb (And.intro hla hlb)))))
  clear ha hb hNa hNb hla hlb
  go_enter Tryz.func33, Tryz.ntmps33
  go_wp2_with (at_make; refine wpList_mk elemU32 rfl rfl _ _ rfl (n := n + n') rfl rfl (by omega) (by omega) (by omega) (by simp only [maxLen]; omega) ?_; intro w1 hown hg hz; have HMK := Lib.hid (And.intro hown (And.intro hg hz)); clear hown hg hz)
  obtain ⟨ho, hnw, hz⟩ := HMK.out
  rw [show List.replicate (n + n') (Value.int .u32 0) = nv .u32 (List.replicate (n + n') 0) by simp [nv]] at ho
  obtain ⟨g, hgq⟩ : ∃ g, w.heap.size = g := ⟨_, rfl⟩
  rw [hgq] at ho
  have HG := Lib.hid hgq
  have HW := Lib.hid (And.intro hnw ho)
  simp only [hgq]
  clear hgq hnw ho hz HMK
  go_loopw [19] (fun i wr => ∃ k : Nat, ∃ o, i = .int .i64 k ∧ k ≤ n ∧ Hid (MulI 4294967296 la lb k 0 o 0 ∧ wr.ownsRow g 69 1 (.slice (some ⟨g, 0, none⟩) (n + n') (n + n')) (n + n') (nv .u32 o) ∧ Chg (fun j => j = g) w1 wr)) (fun i _ => n - (intOf i).toNat)
  case atStart =>
    obtain ⟨ha, hb, hNa, hNb, hla, hlb⟩ := H0.out
    refine ⟨0, List.replicate (n + n') 0, rfl, by omega, ?_, HW.out.2, Chg.refl _ _⟩
    have := MulI.start (B := 4294967296) (by omega) la lb
    rwa [hla, hlb] at this
  case round =>
    obtain ⟨i, o, rfl, hi, HO⟩ := hrel
    by_cases hlt : i < n
    · obtain ⟨ha, hb, hNa, hNb, hla, hlb⟩ := H0.out
      have hchg : Chg (fun j => j = g) w wr := (HW.out.1.mono (fun _ _ h => h.elim)).trans HO.out.2.2 (fun _ _ h => h)
      obtain ⟨ad, u, rfl, hu, hcu⟩ := (ha.chg hchg (fun k _ h e => by have := HG.out; omega)).at_ hlt
      obtain ⟨p, hp, rfl⟩ := nv_at hu
      have hpb := hNa.digs.at_ hp
      have HP := Lib.hid hp
      clear ha hb hNa hNb hla hlb hchg hu hp
      go_wp2_with fail
      go_loopw [8, 26] (fun u v wr => ∃ k cr : Nat, ∃ o, u = .int .u64 cr ∧ v = .int .i64 k ∧ k ≤ n' ∧ cr < 4294967296 ∧ Hid (MulI 4294967296 la lb i k o cr ∧ wr.ownsRow g 69 1 (.slice (some ⟨g, 0, none⟩) (n + n') (n + n')) (n + n') (nv .u32 o) ∧ Chg (fun j => j = g) w1 wr)) (fun _ v _ => n' - (intOf v).toNat)
      case atStart => exact ⟨0, 0, o, rfl, rfl, by omega, by omega, HO.out⟩
      case round =>
        obtain ⟨wo, rfl⟩ : ∃ wo : World, wo = wr := ⟨_, rfl⟩
        obtain ⟨k, cr, o, rfl, rfl, hk, hcr, HI⟩ := hrel
        by_cases hlk : k < n'
        · obtain ⟨ha, hb, hNa, hNb, hla, hlb⟩ := H0.out
          have hchg : Chg (fun j => j = g) w wo := (HW.out.1.mono (fun _ _ h => h.elim)).trans HI.out.2.2 (fun _ _ h => h)
          obtain ⟨bd, v, rfl, hv, hcv⟩ := (hb.chg hchg (fun k _ h e => by have := HG.out; omega)).at_ hlk
          obtain ⟨r, hr, rfl⟩ := nv_at hv
          have hol : o.length = n + n' := by rw [HI.out.1.len, hla, hlb]
          obtain ⟨d, hd⟩ : ∃ d, o[i + k]? = some d := ⟨_, List.getElem?_eq_getElem (by omega)⟩
          have hcd := own_cell HI.out.2.1 (i := i + k) (u := .int .u32 (d : Nat)) (by rw [nv, List.getElem?_map, hd]; rfl)
          have hdb := HI.out.1.digs.at_ hd
          have hrb := hNb.digs.at_ hr
          have hst := HI.out.1.step (by omega) hNa.digs hNb.digs (by omega) hd
          rw [dg_some HP.out, dg_some hr] at hst
          obtain ⟨gg, hgg, _, hgs, hfz⟩ := own_form HI.out.2.1 (by omega)
          have hgg' : g = gg := by simpa using hgg
          subst hgg'
          have hf := hfz (i + k)
          obtain ⟨m, hm⟩ : ∃ m, p * r = m := ⟨_, rfl⟩
          have hmb : m ≤ 18446744065119617025 := by
            rw [← hm]
            exact Nat.le_trans (Nat.mul_le_mul (show p ≤ 4294967295 by omega) (show r ≤ 4294967295 by omega)) (by decide)
          have hmi : (p : Int) * (r : Int) = (m : Int) := by rw [← hm]; simp
          rw [hm] at hst
          obtain ⟨v, hv⟩ : ∃ v, d + m + cr = v := ⟨_, rfl⟩
          rw [hv] at hst
          have hvi : (cr : Int) + ((m : Int) + (d : Int)) = (v : Int) := by omega
          have hvb : v ≤ 18446744073709551615 := by omega
          have HS := Lib.hid hst
          have hik : (i : Int) + (k : Int) < (n : Int) + (n' : Int) := by omega
          clear ha hb hNa hNb hla hlb hchg hr hol hd hst hgg hfz hm
          go_wp2
          go_roundw
          case rel =>
            have ho3 := own_set HI.out.2.1 (i + k) (.int .u32 ((v % 4294967296 : Nat) : Int)) (by omega)
            rw [nv_set] at ho3
            refine ⟨k + 1, v / 4294967296, o.set (i + k) (v % 4294967296), congrArg (Value.int .u64) (by omega), by go_num, by omega, HS.out.1, HS.out.2, ?_, ?_⟩
            · rw [show ((v : Int) % 4294967296) = ((v % 4294967296 : Nat) : Int) by omega]; exact ho3
            · exact HI.out.2.2.setCell (fun _ => rfl) _
          case measure => simp [intOf]; omega
        · obtain rfl : n' = k := by omega
          obtain ⟨ha, hb, hNa, hNb, hla, hlb⟩ := H0.out
          have hol : o.length = n + n' := by rw [HI.out.1.len, hla, hlb]
          obtain ⟨d, hd⟩ : ∃ d, o[i + n']? = some d := ⟨_, List.getElem?_eq_getElem (by omega)⟩
          have hcd := own_cell HI.out.2.1 (i := i + n') (u := .int .u32 (d : Nat)) (by rw [nv, List.getElem?_map, hd]; rfl)
          obtain ⟨gg, hgg, _, hgs, hfz⟩ := own_form HI.out.2.1 (by omega)
          have hgg' : g = gg := by simpa using hgg
          subst hgg'
          have hf := hfz (i + n')
          have hrow : MulI 4294967296 la lb (i + 1) 0 (o.set (i + n') cr) 0 := by
            have := HI.out.1
            rw [← hlb] at this ⊢
            exact this.row (by omega) (by omega)
          have HS := Lib.hid hrow
          have hik : (i : Int) + (n' : Int) < (n : Int) + (n' : Int) := by omega
          clear ha hb hNa hNb hla hlb hol hd hrow hgg hfz
          go_wp2
          go_roundw
          case rel =>
            have ho3 := own_set HI.out.2.1 (i + n') (.int .u32 (cr : Int)) (by omega)
            rw [nv_set] at ho3
            refine ⟨i + 1, o.set (i + n') cr, by go_num, by omega, HS.out, ho3, ?_⟩
            exact HI.out.2.2.setCell (fun _ => rfl) _
          case measure => simp [intOf]; omega
    · obtain rfl : n = i := by omega
      go_wp2_with fail
      obtain ⟨ha, hb, hNa, hNb, hla, hlb⟩ := H0.out
      have hval : val 4294967296 o = x * y := by
        have := HO.out.1
        rw [← hla] at this
        rw [this.done (i := 0) (c := 0), hNa.val, hNb.val]
      have hn1 : New w wr := HW.out.1.trans HO.out.2.2 (fun j hj e => by have := HG.out; omega)
      refine (trim_wm _ (n + n') (n + n') o wr (Rd.of_own HO.out.2.1) HO.out.1.digs (Nat.le_refl _) (by omega)).mono ?_
      rintro e w2 ⟨T, rfl, HT, rfl⟩
      have HF := Lib.hid (And.intro hval hn1)
      clear ha hb hNa hNb hla hlb hval hn1
      go_wp2
      go_ret
      obtain ⟨hval, hn1⟩ := HF.out
      have hT := HT.out.1
      rw [hval] at hT
      exact ⟨_, _, _, rfl, hT, fun k hk => by have := HG.out; simp [blk] at hk; omega, hn1⟩
end Go.Proofs.YtblcaeoeeepajaaGreatDoor

namespace Go.Proofs.YtblcaeoeeepajaaGreatDoor
set_option linter.unusedVariables false
open Go.RowKit Go.Mem Go.Dig

/-- The amounts in range lie below this one. -/
def powN (k : Nat) : Nat := 4294967296 ^ k
def topN : Nat := powN 512
/-- What is returned for z, and the error. -/
def rg (z : Int) : Int := if z.natAbs < topN then z else 0
def rgE (z : Int) : Int := if z.natAbs < topN then 0 else 4
theorem rg_in {z : Int} (h : z.natAbs < topN) : rg z = z ∧ rgE z = 0 := by unfold rg rgE; rw [if_pos h, if_pos h]; exact ⟨rfl, rfl⟩
theorem rg_out {z : Int} (h : ¬ z.natAbs < topN) : rg z = 0 ∧ rgE z = 4 := by unfold rg rgE; rw [if_neg h, if_neg h]; exact ⟨rfl, rfl⟩
theorem WM.powN {w : World} {A : Option Addr} {n c m : Nat} (h : WM w A n c m) (k : Nat) : n ≤ k ↔ m < powN k :=
  ⟨fun hn => h.lt (k := k) hn, fun hm => h.len (k := k) hm⟩
theorem WM.top {w : World} {A : Option Addr} {n c m : Nat} (h : WM w A n c m) : n ≤ 512 ↔ m < topN := h.powN 512

set_option maxRecDepth 100000 in
set_option maxHeartbeats 2000000 in
theorem ranged_any (s : Bool) (A : Option Addr) (n c : Nat) (l : List Nat) (w : World) (hr : Rd w A n (nv .u32 l)) (hd : Digs 4294967296 l) (hnc : n ≤ c) (hc : c ≤ 9223372036854775807) :
    Calls Tryz.prog 32 #[.bool s, .slice A n c] w fun e w' => ∃ s' A' n' c', e = .returned (.tuple #[.agg #[.bool s', .slice A' n' c'], .int .i64 (rgE (sg s (val 4294967296 l)))]) ∧ Hid (WI w' (.agg #[.bool s', .slice A' n' c']) (rg (sg s (val 4294967296 l))) ∧ New w w') := by
  obtain ⟨z, hz⟩ : ∃ z, sg s (val 4294967296 l) = z := ⟨_, rfl⟩
  rw [hz]
  have H0 := Lib.hid (And.intro hr (And.intro hd hz))
  clear hr hd hz
  obtain ⟨ER, hER⟩ : ∃ ER, rgE z = ER := ⟨_, rfl⟩
  obtain ⟨RG, hRG⟩ : ∃ RG, rg z = RG := ⟨_, rfl⟩
  rw [hER, hRG]
  have HE := Lib.hid (And.intro hER hRG)
  clear hER hRG
  go_enter Tryz.func32, Tryz.ntmps32
  go_wp2_with fail
  refine Calls.new1 ?_
  intro W1 hb1 hn1 hz1
  refine (made_wi s A n c l W1 (H0.out.1.new hn1) H0.out.2.1 hnc hc).mono ?_
  rintro e w2 ⟨v2, rfl, ⟨s2, A2, n2, c2, rfl, hs2, hm2⟩, hn2⟩
  rw [H0.out.2.2] at hs2 hm2
  have hb2 := hb1.chg hn2 (fun h => h)
  have k0 := hb2.cell 0 (u := .bool false) rfl
  have k1 := hb2.cell 1 (u := .slice none 0 0) rfl
  have f0 := hb2.frozen 0
  have f1 := hb2.frozen 1
  have hl2 : w.heap.size < w2.heap.size := hb2.lt
  have H2 := Lib.hid (And.intro hb2 (And.intro (hn1.new hn2) (And.intro hs2 hm2)))
  have htop := hm2.top
  clear hb1 hn1 hz1 hs2 hm2 hn2 hb2
  by_cases h5 : n2 ≤ 512
  · have hv := rg_in (htop.1 h5)
    rw [HE.out.1, HE.out.2] at hv
    obtain ⟨hv1, hv2⟩ := hv
    have HV := Lib.hid (And.intro hv1 hv2)
    have hd5 : decide ((512 : Int) < (n2 : Int)) = false := by simp; omega
    clear hv1 hv2 htop
    go_wp2
    obtain ⟨hb2, hn2, hs2, hm2⟩ := H2.out
    have hfin := (hb2.set2 (.bool s2) (.slice A2 n2 c2)).alloc (.cells #[.bool s2, .slice A2 n2 c2] 29)
    refine bodyPost_ret (res_ct rfl _ rfl (aggInt.load hfin) rfl) rfl ⟨s2, A2, n2, c2, by rw [HV.out.2]; rfl, ?_, ?_⟩
    · rw [HV.out.1]
      exact ⟨s2, A2, n2, c2, rfl, hs2, (hm2.store hb2 (noInt_two _ _ _ _) (Chg.at2 _ _ _ _)).new ((Chg.refl _ _).alloc _)⟩
    · exact (Chg.owned hn2 (Chg.at2 _ _ _ _) (fun k e => by omega)).alloc _
  · have hv := rg_out (fun h => h5 (htop.2 h))
    rw [HE.out.1, HE.out.2] at hv
    obtain ⟨hv1, hv2⟩ := hv
    have HV := Lib.hid (And.intro hv1 hv2)
    have hd5 : (512 : Int) < (n2 : Int) := by omega
    clear hv1 hv2 htop
    go_wp2
    obtain ⟨hb2, hn2, hs2, hm2⟩ := H2.out
    have hfin := (hb2.set2 (.bool false) (.slice none 0 0)).alloc (.cells #[.bool s2, .slice A2 n2 c2] 29)
    refine bodyPost_ret (res_ct rfl _ rfl (aggInt.load hfin) rfl) rfl ⟨false, none, 0, 0, by rw [HV.out.2]; rfl, ?_, ?_⟩
    · rw [HV.out.1]
      exact WI.zero _
    · exact (Chg.owned hn2 (Chg.at2 _ _ _ _) (fun k e => by omega)).alloc _
theorem ranged_wm (s : Bool) (A : Option Addr) (n c m : Nat) (w : World) (h : WM w A n c m) :
    Calls Tryz.prog 32 #[.bool s, .slice A n c] w fun e w' => ∃ s' A' n' c', e = .returned (.tuple #[.agg #[.bool s', .slice A' n' c'], .int .i64 (rgE (sg s m))]) ∧ Hid (WI w' (.agg #[.bool s', .slice A' n' c']) (rg (sg s m)) ∧ New w w') := by
  obtain ⟨l, hr, hnc, hc, hN⟩ := h
  have := ranged_any s A n c l w hr hN.digs hnc hc
  rwa [hN.val] at this

theorem bz_wlen {w : World} {A : Option Addr} {n c : Nat} {z : Int} (h : WM w A n c z.natAbs) {k : Nat} (hk : z.natAbs < 2 ^ k) : n ≤ k :=
  h.len (Nat.lt_of_lt_of_le hk (Nat.pow_le_pow_left (by omega) k))
end Go.Proofs.YtblcaeoeeepajaaGreatDoor

namespace Go.Proofs.YtblcaeoeeepajaaGreatDoor
set_option linter.unusedVariables false
open Go.RowKit Go.Mem Go.Dig

/-- The closure step of addMag. -/
theorem addStep_any (p r cr : Nat) (hp : p < 4294967296) (hr : r < 4294967296) (hcr : cr ≤ 1) (g : Nat) (w : World) (hb : Blk w g 67 #[.int .u64 cr]) :
    Calls Tryz.prog 76 #[.int .u32 p, .int .u32 r, .pointer (some ⟨g, 0, none⟩)] w fun e w' => e = .returned (.int .u32 (((p + r + cr) % 4294967296 : Nat) : Int)) ∧ Blk w' g 67 #[.int .u64 (((p + r + cr) / 4294967296 : Nat) : Int)] ∧ Chg (fun k => k = g) w w' := by
  obtain ⟨v, hv⟩ : ∃ v, p + r + cr = v := ⟨_, rfl⟩
  rw [hv]
  have hvi : (cr : Int) + ((p : Int) + (r : Int)) = (v : Int) := by omega
  have hvb : v ≤ 8589934591 := by omega
  have hc := hb.cell 0 (u := .int .u64 cr) rfl
  have hf := hb.frozen 0
  have HB := Lib.hid hb
  clear hb hv
  go_enter Tryz.func76, Tryz.ntmps76
  go_wp2
  go_ret
  refine ⟨ret_int (by omega), ?_, ((Chg.refl (fun k => k = g) w).setCell (p := ⟨g, 0, none⟩) (fun _ => rfl) _).setCell (p := ⟨g, 0, none⟩) (fun _ => rfl) _⟩
  have := (HB.out.set1 (.int .u64 (v : Int))).set1 (.int .u64 ((v / 4294967296 : Nat) : Int))
  rw [show ((v : Int) / 4294967296) = ((v / 4294967296 : Nat) : Int) by omega]
  exact this
theorem own_frz {w : World} {base : Nat} {e : TypeId} {g n c : Nat} {xs : List Value} (h : w.ownsRow base e 1 (.slice (some ⟨g, 0, none⟩) n c) n xs) (hn : 0 < n) (i : Nat) : w.frozen? ⟨g, i, none⟩ = false := by
  obtain ⟨gg, hgg, _, _, hfz⟩ := own_form h hn
  have : g = gg := by simpa using hgg
  subst this
  exact hfz i
theorem set_mid (o : List Nat) (m k d : Nat) (hk : o.length = k) : (o ++ List.replicate (m + 1) 0).set k d = (o ++ [d]) ++ List.replicate m 0 := by
  subst hk
  rw [List.set_append_right _ _ (Nat.le_refl _), Nat.sub_self, List.replicate_succ, List.set_cons_zero, List.append_assoc]
  rfl

/-- Digits, whatever stands at the end. -/
structure DN (B : Nat) (l : List Nat) (n : Nat) : Prop where
  digs : Digs B l
  val : val B l = n
def WD (w : World) (A : Option Addr) (n c : Nat) (m : Nat) : Prop := ∃ l, Rd w A n (nv .u32 l) ∧ n ≤ c ∧ c ≤ 9223372036854775807 ∧ DN 4294967296 l m
theorem WM.wd {w : World} {A : Option Addr} {n c m : Nat} (h : WM w A n c m) : WD w A n c m := by
  obtain ⟨l, h1, h2, h3, h4⟩ := h
  exact ⟨l, h1, h2, h3, h4.digs, h4.val⟩
/-- What the loops of addMag hold. -/
def AdI (w W : World) (gs gc : Nat) (la lb : List Nat) (n k : Nat) (wr : World) : Prop :=
  ∃ o cr, AddI 4294967296 la lb k o cr ∧ wr.ownsRow gs 69 1 (.slice (some ⟨gs, 0, none⟩) (n + 1) (n + 1)) (n + 1) (nv .u32 (o ++ List.replicate (n + 1 - k) 0)) ∧ Blk wr gc 67 #[.int .u64 cr] ∧ Chg (fun j => j = gs ∨ j = gc) W wr

set_option maxRecDepth 100000 in
set_option maxHeartbeats 4000000 in
theorem addMag_ge (A : Option Addr) (n c : Nat) (A' : Option Addr) (n' c' : Nat) (x y : Nat) (w : World) (hx : WD w A n c x) (hy : WD w A' n' c' y) (hn : n ≤ 1000000) (hnn : n' ≤ n) :
    Calls Tryz.prog 50 #[.slice A n c, .slice A' n' c'] w fun e w' => ∃ R m d, e = .returned (.slice R m d) ∧ Hid (WM w' R m d (x + y) ∧ New w w') := by
  obtain ⟨la, ha, hc1, hc2, hNa⟩ := hx
  obtain ⟨lb, hb, hd1, hd2, hNb⟩ := hy
  have hla : la.length = n := by have := ha.len; rwa [nv_length] at this
  have hlb : lb.length = n' := by have := hb.len; rwa [nv_length] at this
  have H0 := Lib.hid (And.intro ha (And.intro hb (And.intro hNa (And.intro hNb (And.intro hla hlb)))))
  have htest : decide ((n : Int) < (n' : Int)) = false := by simp; omega
  have htest' : decide (n < n') = false := by simp; omega
  clear ha hb hNa hNb hla hlb
  go_enter Tryz.func50, Tryz.ntmps50
  go_wp2_with (at_make; refine wpList_mk elemU32 rfl rfl _ _ rfl (n := n + 1) rfl rfl (by omega) (by omega) (by omega) (by simp only [maxLen]; omega) ?_; intro w1 hown hg hz; have HMK := Lib.hid (And.intro hown (And.intro hg hz)); clear hown hg hz)
  obtain ⟨ho, hnw, hz⟩ := HMK.out
  obtain ⟨gs, hgs⟩ : ∃ g, w.heap.size = g := ⟨_, rfl⟩
  obtain ⟨gc, hgc⟩ : ∃ g, w1.heap.size = g := ⟨_, rfl⟩
  have hgcs : gc = gs + 1 := by omega
  refine Code.new1 ?_
  intro W hbc hnW hzW
  rw [hgs] at ho
  rw [hgc] at hbc
  rw [show List.replicate (n + 1) (Value.int .u32 0) = nv .u32 ([] ++ List.replicate (n + 1 - 0) 0) by simp [nv]] at ho
  have HG := Lib.hid (And.intro hgs hgcs)
  have HW := Lib.hid (And.intro (hnw.new hnW) (And.intro (own_chg ho hnW (fun _ _ h => h)) hbc))
  simp only [hgs, hgc]
  clear hgs hgc hgcs hnw hz ho hbc hnW hzW HMK
  go_loopw [24] (fun i wr => ∃ k : Nat, i = .int .i64 k ∧ k ≤ n' ∧ Hid (AdI w W gs gc la lb n k wr)) (fun i _ => n' - (intOf i).toNat)
  case atStart => exact ⟨0, rfl, by omega, [], 0, AddI.start _ _ _, HW.out.2.1, HW.out.2.2, Chg.refl _ _⟩
  case round =>
    obtain ⟨i, rfl, hi, HO⟩ := hrel
    by_cases hlt : i < n'
    · obtain ⟨wo, rfl⟩ : ∃ wo : World, wo = wr := ⟨_, rfl⟩
      obtain ⟨ha, hb, hNa, hNb, hla, hlb⟩ := H0.out
      obtain ⟨o, cr, hA, hown, hbc, hch⟩ := HO.out
      have hchg : Chg (fun j => j = gs ∨ j = gc) w wo := (HW.out.1.mono (fun _ _ h => h.elim)).trans hch (fun _ _ h => h)
      obtain ⟨ad, u, rfl, hu, hcu⟩ := (ha.chg hchg (fun k _ h e => by have := HG.out; omega)).at_ (show i < n by omega)
      obtain ⟨bd, v, rfl, hv, hcv⟩ := (hb.chg hchg (fun k _ h e => by have := HG.out; omega)).at_ hlt
      obtain ⟨p, hp, rfl⟩ := nv_at hu
      obtain ⟨r, hr, rfl⟩ := nv_at hv
      have hpb := hNa.digs.at_ hp
      have hrb := hNb.digs.at_ hr
      have hst := hA.step (by omega) hNa.digs hNb.digs
      rw [dg_some hp, dg_some hr] at hst
      have hcrb := hA.carry
      obtain ⟨q, hq⟩ : ∃ q, (p + r + cr) % 4294967296 = q := ⟨_, rfl⟩
      obtain ⟨cr2, hcr2⟩ : ∃ c2, (p + r + cr) / 4294967296 = c2 := ⟨_, rfl⟩
      have hol : (o ++ List.replicate (n + 1 - i) 0)[i]? = some 0 := by
        obtain ⟨m, hm⟩ : ∃ m, n + 1 - i = m + 1 := ⟨n - i, by omega⟩
        rw [hm, List.getElem?_append_right (by rw [hA.len]; exact Nat.le_refl _), hA.len, Nat.sub_self, List.replicate_succ]
        rfl
      have hcs := own_cell hown (i := i) (u := .int .u32 (0 : Nat)) (by rw [nv, List.getElem?_map, hol]; rfl)
      obtain ⟨gg, hgg, _, hgsz, hfz⟩ := own_form hown (by omega)
      have hgg' : gs = gg := by simpa using hgg
      subst hgg'
      have hf := hfz i
      have hin : (i : Int) < (n : Int) := by omega
      have hin1 : (i : Int) < (n : Int) + 1 := by omega
      have hstep : ∀ W', New wo W' → Calls Tryz.prog 76 #[.int .u32 p, .int .u32 r, .pointer (some ⟨gc, 0, none⟩)] W' fun e w' => e = .returned (.int .u32 (q : Int)) ∧ Hid (Blk w' gc 67 #[.int .u64 (cr2 : Int)] ∧ Chg (fun k => k = gc) wo w') := fun W' h =>
        (addStep_any p r cr hpb hrb hcrb gc W' (hbc.chg h (fun h => h))).mono fun e w' ⟨h1, h2, h3⟩ => ⟨by rw [h1, hq], by rw [← hcr2]; exact h2, (h.mono (fun _ _ h => h.elim)).trans h3 (fun _ _ h => h)⟩
      rw [hq, hcr2] at hst
      have HS := Lib.hid (And.intro hst (And.intro hown hch))
      have HST := Lib.hid hstep
      have HA := Lib.hid (fun W' (h : Chg (fun k => k = gc) wo W') => And.intro (own_chg hown h (fun k hk e => by have := HG.out; simp [blk] at hk; omega)) (hA.len))
      clear ha hb hNa hNb hla hlb hA hown hbc hch hchg hu hv hp hr hst hol hgg hfz hstep hq hcr2
      go_wp2_with fail
      go_region_with (first
        | (go_at_call 76; refine (HST.out _ ?_).mono ?_; exact (Chg.refl _ _).drew; rintro e w5 ⟨rfl, H5⟩; have hk5 := own_cell (HA.out w5 H5.out.2).1 (i := i) (u := .int .u32 (0 : Nat)) (by rw [nv, List.getElem?_map, List.getElem?_append_right (by rw [(HA.out w5 H5.out.2).2]; exact Nat.le_refl _), (HA.out w5 H5.out.2).2, Nat.sub_self, show n + 1 - i = (n - i) + 1 by omega, List.replicate_succ]; rfl); have hf5 := own_frz (HA.out w5 H5.out.2).1 (by omega) i))
      all_goals
        go_wp2
        go_roundw
        case rel =>
          obtain ⟨hst, _, hch⟩ := HS.out
          obtain ⟨hbc5, hc5⟩ := H5.out
          obtain ⟨hown5, hol⟩ := HA.out w5 hc5
          have hset := own_set hown5 i (.int .u32 (q : Int)) (by omega)
          rw [nv_set, show n + 1 - i = (n - i) + 1 by omega, set_mid o (n - i) i q hol] at hset
          refine ⟨i + 1, by go_num, by omega, o ++ [q], cr2, hst, by rw [show n + 1 - (i + 1) = n - i by omega]; exact hset, hbc5.far (p := ⟨gs, i, none⟩) (by have := HG.out; dsimp only; omega) _, ?_⟩
          exact (hch.trans (hc5.mono (fun _ _ h => .inr h)) (fun _ _ h => h)).setCell (fun _ => .inl rfl) _
        case measure => simp [intOf]; omega
    · obtain rfl : n' = i := by omega
      go_wp2_with fail
      go_loopw [9] (fun v wr => ∃ k : Nat, v = .int .i64 k ∧ n' ≤ k ∧ k ≤ n ∧ Hid (AdI w W gs gc la lb n k wr)) (fun v _ => n - (intOf v).toNat)
      case atStart => exact ⟨n', rfl, Nat.le_refl _, by omega, HO.out⟩
      case round =>
        clear HO
        obtain ⟨wo, rfl⟩ : ∃ wo : World, wo = wr := ⟨_, rfl⟩
        obtain ⟨i, rfl, hi1, hi2, HO⟩ := hrel
        obtain ⟨ha, hb, hNa, hNb, hla, hlb⟩ := H0.out
        obtain ⟨o, cr, hA, hown, hbc, hch⟩ := HO.out
        have hchg : Chg (fun j => j = gs ∨ j = gc) w wo := (HW.out.1.mono (fun _ _ h => h.elim)).trans hch (fun _ _ h => h)
        have hcrb := hA.carry
        by_cases hlt : i < n
        · obtain ⟨ad, u, rfl, hu, hcu⟩ := (ha.chg hchg (fun k _ h e => by have := HG.out; omega)).at_ hlt
          obtain ⟨p, hp, rfl⟩ := nv_at hu
          have hpb := hNa.digs.at_ hp
          have hst := hA.step (by omega) hNa.digs hNb.digs
          rw [dg_some hp, dg_none (by omega)] at hst
          obtain ⟨q, hq⟩ : ∃ q, (p + 0 + cr) % 4294967296 = q := ⟨_, rfl⟩
          obtain ⟨cr2, hcr2⟩ : ∃ c2, (p + 0 + cr) / 4294967296 = c2 := ⟨_, rfl⟩
          rw [hq, hcr2] at hst
          have hstep := addStep_any p 0 cr hpb (by omega) hcrb gc wo hbc
          rw [hq, hcr2, show (((0 : Nat)) : Int) = 0 from rfl] at hstep
          have hkeep := fun W' (h : Chg (fun k => k = gc) wo W') => And.intro (own_chg hown h (fun k hk e => by have := HG.out; simp [blk] at hk; omega)) hA.len
          have HS := Lib.hid (And.intro hst (And.intro hch (And.intro hstep hkeep)))
          have hin : (i : Int) < (n : Int) := by omega
          clear ha hb hNa hNb hla hlb hA hown hbc hch hchg hu hp hst hq hcr2 hstep hkeep
          go_wp2_with fail
          refine HS.out.2.2.1.mono ?_
          rintro e w5 ⟨rfl, hbc5, hc5⟩
          obtain ⟨hown5, hol⟩ := HS.out.2.2.2 w5 hc5
          have hk5 := own_cell hown5 (i := i) (u := .int .u32 (0 : Nat)) (by rw [nv, List.getElem?_map, List.getElem?_append_right (by rw [hol]; exact Nat.le_refl _), hol, Nat.sub_self, show n + 1 - i = (n - i) + 1 by omega, List.replicate_succ]; rfl)
          have hf5 := own_frz hown5 (by omega) i
          have hin1 : (i : Int) < (n : Int) + 1 := by omega
          have H5 := Lib.hid (And.intro hbc5 (And.intro hc5 (And.intro hown5 hol)))
          clear hbc5 hc5 hown5 hol
          go_wp2
          go_roundw
          case rel =>
            obtain ⟨hst, hch, _⟩ := HS.out
            obtain ⟨hbc5, hc5, hown5, hol⟩ := H5.out
            have hset := own_set hown5 i (.int .u32 (q : Int)) (by omega)
            rw [nv_set, show n + 1 - i = (n - i) + 1 by omega, set_mid o (n - i) i q hol] at hset
            refine ⟨i + 1, by go_num, by omega, by omega, o ++ [q], cr2, hst, by rw [show n + 1 - (i + 1) = n - i by omega]; exact hset, hbc5.far (p := ⟨gs, i, none⟩) (by have := HG.out; dsimp only; omega) _, ?_⟩
            exact (hch.trans (hc5.mono (fun _ _ h => .inr h)) (fun _ _ h => h)).setCell (fun _ => .inl rfl) _
          case measure => simp [intOf]; omega
        · obtain rfl : n = i := by omega
          have hk0 := hbc.cell 0 (u := .int .u64 cr) rfl
          have hks := own_cell hown (i := n) (u := .int .u32 (0 : Nat)) (by rw [nv, List.getElem?_map, List.getElem?_append_right (by rw [hA.len]; exact Nat.le_refl _), hA.len, Nat.sub_self, show n + 1 - n = 0 + 1 by omega, List.replicate_succ]; rfl)
          have hfs := own_frz hown (by omega) n
          have hset := own_set hown n (.int .u32 (cr : Int)) (by omega)
          rw [nv_set, show n + 1 - n = 0 + 1 by omega, set_mid o 0 n cr hA.len, List.replicate_zero, List.append_nil] at hset
          have hval : val 4294967296 (o ++ [cr]) = x + y := by
            rw [val_snoc, hA.len, hA.eq, List.take_of_length_le (by omega), List.take_of_length_le (by omega), hNa.val, hNb.val]
          have hdg : Digs 4294967296 (o ++ [cr]) := hA.digs.snoc (by omega)
          have hn1 : New w (wo.setCell ⟨gs, n, none⟩ (.int .u32 (cr : Int))) := Chg.owned HW.out.1 (hch.setCell (p := ⟨gs, n, none⟩) (fun _ => .inl rfl) _) (fun k e => by have := HG.out; omega)
          have hcri : (cr : Int) % 4294967296 = (cr : Int) := by omega
          have HF := Lib.hid (And.intro hset (And.intro hval (And.intro hdg hn1)))
          clear ha hb hNa hNb hla hlb hA hown hbc hch hchg hset hval hdg hn1
          go_wp2_with fail
          obtain ⟨hset, hval, hdg, hn1⟩ := HF.out
          refine (trim_wm _ (n + 1) (n + 1) (o ++ [cr]) _ (Rd.of_own hset) hdg (Nat.le_refl _) (by omega)).mono ?_
          rintro e w2 ⟨T, rfl, HT, rfl⟩
          clear hset hval hdg hn1
          go_wp2
          go_ret
          obtain ⟨hset, hval, hdg, hn1⟩ := HF.out
          have hT := HT.out.1
          rw [hval] at hT
          exact ⟨_, _, _, rfl, hT, hn1⟩

set_option maxRecDepth 100000 in
set_option maxHeartbeats 4000000 in
theorem addMag_lt (A : Option Addr) (n c : Nat) (A' : Option Addr) (n' c' : Nat) (x y : Nat) (w : World) (hx : WD w A n c x) (hy : WD w A' n' c' y) (hn : n ≤ 1000000) (hnn : n' < n) :
    Calls Tryz.prog 50 #[.slice A' n' c', .slice A n c] w fun e w' => ∃ R m d, e = .returned (.slice R m d) ∧ Hid (WM w' R m d (x + y) ∧ New w w') := by
  obtain ⟨la, ha, hc1, hc2, hNa⟩ := hx
  obtain ⟨lb, hb, hd1, hd2, hNb⟩ := hy
  have hla : la.length = n := by have := ha.len; rwa [nv_length] at this
  have hlb : lb.length = n' := by have := hb.len; rwa [nv_length] at this
  have H0 := Lib.hid (And.intro ha (And.intro hb (And.intro hNa (And.intro hNb (And.intro hla hlb)))))
  have htest : (n' : Int) < (n : Int) := by omega
  clear ha hb hNa hNb hla hlb
  go_enter Tryz.func50, Tryz.ntmps50
  go_wp2_with (at_make; refine wpList_mk elemU32 rfl rfl _ _ rfl (n := n + 1) rfl rfl (by omega) (by omega) (by omega) (by simp only [maxLen]; omega) ?_; intro w1 hown hg hz; have HMK := Lib.hid (And.intro hown (And.intro hg hz)); clear hown hg hz)
  obtain ⟨ho, hnw, hz⟩ := HMK.out
  obtain ⟨gs, hgs⟩ : ∃ g, w.heap.size = g := ⟨_, rfl⟩
  obtain ⟨gc, hgc⟩ : ∃ g, w1.heap.size = g := ⟨_, rfl⟩
  have hgcs : gc = gs + 1 := by omega
  refine Code.new1 ?_
  intro W hbc hnW hzW
  rw [hgs] at ho
  rw [hgc] at hbc
  rw [show List.replicate (n + 1) (Value.int .u32 0) = nv .u32 ([] ++ List.replicate (n + 1 - 0) 0) by simp [nv]] at ho
  have HG := Lib.hid (And.intro hgs hgcs)
  have HW := Lib.hid (And.intro (hnw.new hnW) (And.intro (own_chg ho hnW (fun _ _ h => h)) hbc))
  simp only [hgs, hgc]
  clear hgs hgc hgcs hnw hz ho hbc hnW hzW HMK
  go_loopw [24] (fun i wr => ∃ k : Nat, i = .int .i64 k ∧ k ≤ n' ∧ Hid (AdI w W gs gc la lb n k wr)) (fun i _ => n' - (intOf i).toNat)
  case atStart => exact ⟨0, rfl, by omega, [], 0, AddI.start _ _ _, HW.out.2.1, HW.out.2.2, Chg.refl _ _⟩
  case round =>
    obtain ⟨i, rfl, hi, HO⟩ := hrel
    by_cases hlt : i < n'
    · obtain ⟨wo, rfl⟩ : ∃ wo : World, wo = wr := ⟨_, rfl⟩
      obtain ⟨ha, hb, hNa, hNb, hla, hlb⟩ := H0.out
      obtain ⟨o, cr, hA, hown, hbc, hch⟩ := HO.out
      have hchg : Chg (fun j => j = gs ∨ j = gc) w wo := (HW.out.1.mono (fun _ _ h => h.elim)).trans hch (fun _ _ h => h)
      obtain ⟨ad, u, rfl, hu, hcu⟩ := (ha.chg hchg (fun k _ h e => by have := HG.out; omega)).at_ (show i < n by omega)
      obtain ⟨bd, v, rfl, hv, hcv⟩ := (hb.chg hchg (fun k _ h e => by have := HG.out; omega)).at_ hlt
      obtain ⟨p, hp, rfl⟩ := nv_at hu
      obtain ⟨r, hr, rfl⟩ := nv_at hv
      have hpb := hNa.digs.at_ hp
      have hrb := hNb.digs.at_ hr
      have hst := hA.step (by omega) hNa.digs hNb.digs
      rw [dg_some hp, dg_some hr] at hst
      have hcrb := hA.carry
      obtain ⟨q, hq⟩ : ∃ q, (p + r + cr) % 4294967296 = q := ⟨_, rfl⟩
      obtain ⟨cr2, hcr2⟩ : ∃ c2, (p + r + cr) / 4294967296 = c2 := ⟨_, rfl⟩
      have hol : (o ++ List.replicate (n + 1 - i) 0)[i]? = some 0 := by
        obtain ⟨m, hm⟩ : ∃ m, n + 1 - i = m + 1 := ⟨n - i, by omega⟩
        rw [hm, List.getElem?_append_right (by rw [hA.len]; exact Nat.le_refl _), hA.len, Nat.sub_self, List.replicate_succ]
        rfl
      have hcs := own_cell hown (i := i) (u := .int .u32 (0 : Nat)) (by rw [nv, List.getElem?_map, hol]; rfl)
      obtain ⟨gg, hgg, _, hgsz, hfz⟩ := own_form hown (by omega)
      have hgg' : gs = gg := by simpa using hgg
      subst hgg'
      have hf := hfz i
      have hin : (i : Int) < (n : Int) := by omega
      have hin1 : (i : Int) < (n : Int) + 1 := by omega
      have hstep : ∀ W', New wo W' → Calls Tryz.prog 76 #[.int .u32 p, .int .u32 r, .pointer (some ⟨gc, 0, none⟩)] W' fun e w' => e = .returned (.int .u32 (q : Int)) ∧ Hid (Blk w' gc 67 #[.int .u64 (cr2 : Int)] ∧ Chg (fun k => k = gc) wo w') := fun W' h =>
        (addStep_any p r cr hpb hrb hcrb gc W' (hbc.chg h (fun h => h))).mono fun e w' ⟨h1, h2, h3⟩ => ⟨by rw [h1, hq], by rw [← hcr2]; exact h2, (h.mono (fun _ _ h => h.elim)).trans h3 (fun _ _ h => h)⟩
      rw [hq, hcr2] at hst
      have HS := Lib.hid (And.intro hst (And.intro hown hch))
      have HST := Lib.hid hstep
      have HA := Lib.hid (fun W' (h : Chg (fun k => k = gc) wo W') => And.intro (own_chg hown h (fun k hk e => by have := HG.out; simp [blk] at hk; omega)) (hA.len))
      clear ha hb hNa hNb hla hlb hA hown hbc hch hchg hu hv hp hr hst hol hgg hfz hstep hq hcr2
      go_wp2_with fail
      go_region_with (first
        | (go_at_call 76; refine (HST.out _ ?_).mono ?_; exact (Chg.refl _ _).drew; rintro e w5 ⟨rfl, H5⟩; have hk5 := own_cell (HA.out w5 H5.out.2).1 (i := i) (u := .int .u32 (0 : Nat)) (by rw [nv, List.getElem?_map, List.getElem?_append_right (by rw [(HA.out w5 H5.out.2).2]; exact Nat.le_refl _), (HA.out w5 H5.out.2).2, Nat.sub_self, show n + 1 - i = (n - i) + 1 by omega, List.replicate_succ]; rfl); have hf5 := own_frz (HA.out w5 H5.out.2).1 (by omega) i))
      all_goals
        go_wp2
        go_roundw
        case rel =>
          obtain ⟨hst, _, hch⟩ := HS.out
          obtain ⟨hbc5, hc5⟩ := H5.out
          obtain ⟨hown5, hol⟩ := HA.out w5 hc5
          have hset := own_set hown5 i (.int .u32 (q : Int)) (by omega)
          rw [nv_set, show n + 1 - i = (n - i) + 1 by omega, set_mid o (n - i) i q hol] at hset
          refine ⟨i + 1, by go_num, by omega, o ++ [q], cr2, hst, by rw [show n + 1 - (i + 1) = n - i by omega]; exact hset, hbc5.far (p := ⟨gs, i, none⟩) (by have := HG.out; dsimp only; omega) _, ?_⟩
          exact (hch.trans (hc5.mono (fun _ _ h => .inr h)) (fun _ _ h => h)).setCell (fun _ => .inl rfl) _
        case measure => simp [intOf]; omega
    · obtain rfl : n' = i := by omega
      go_wp2_with fail
      go_loopw [9] (fun v wr => ∃ k : Nat, v = .int .i64 k ∧ n' ≤ k ∧ k ≤ n ∧ Hid (AdI w W gs gc la lb n k wr)) (fun v _ => n - (intOf v).toNat)
      case atStart => exact ⟨n', rfl, Nat.le_refl _, by omega, HO.out⟩
      case round =>
        clear HO
        obtain ⟨wo, rfl⟩ : ∃ wo : World, wo = wr := ⟨_, rfl⟩
        obtain ⟨i, rfl, hi1, hi2, HO⟩ := hrel
        obtain ⟨ha, hb, hNa, hNb, hla, hlb⟩ := H0.out
        obtain ⟨o, cr, hA, hown, hbc, hch⟩ := HO.out
        have hchg : Chg (fun j => j = gs ∨ j = gc) w wo := (HW.out.1.mono (fun _ _ h => h.elim)).trans hch (fun _ _ h => h)
        have hcrb := hA.carry
        by_cases hlt : i < n
        · obtain ⟨ad, u, rfl, hu, hcu⟩ := (ha.chg hchg (fun k _ h e => by have := HG.out; omega)).at_ hlt
          obtain ⟨p, hp, rfl⟩ := nv_at hu
          have hpb := hNa.digs.at_ hp
          have hst := hA.step (by omega) hNa.digs hNb.digs
          rw [dg_some hp, dg_none (by omega)] at hst
          obtain ⟨q, hq⟩ : ∃ q, (p + 0 + cr) % 4294967296 = q := ⟨_, rfl⟩
          obtain ⟨cr2, hcr2⟩ : ∃ c2, (p + 0 + cr) / 4294967296 = c2 := ⟨_, rfl⟩
          rw [hq, hcr2] at hst
          have hstep := addStep_any p 0 cr hpb (by omega) hcrb gc wo hbc
          rw [hq, hcr2, show (((0 : Nat)) : Int) = 0 from rfl] at hstep
          have hkeep := fun W' (h : Chg (fun k => k = gc) wo W') => And.intro (own_chg hown h (fun k hk e => by have := HG.out; simp [blk] at hk; omega)) hA.len
          have HS := Lib.hid (And.intro hst (And.intro hch (And.intro hstep hkeep)))
          have hin : (i : Int) < (n : Int) := by omega
          clear ha hb hNa hNb hla hlb hA hown hbc hch hchg hu hp hst hq hcr2 hstep hkeep
          go_wp2_with fail
          refine HS.out.2.2.1.mono ?_
          rintro e w5 ⟨rfl, hbc5, hc5⟩
          obtain ⟨hown5, hol⟩ := HS.out.2.2.2 w5 hc5
          have hk5 := own_cell hown5 (i := i) (u := .int .u32 (0 : Nat)) (by rw [nv, List.getElem?_map, List.getElem?_append_right (by rw [hol]; exact Nat.le_refl _), hol, Nat.sub_self, show n + 1 - i = (n - i) + 1 by omega, List.replicate_succ]; rfl)
          have hf5 := own_frz hown5 (by omega) i
          have hin1 : (i : Int) < (n : Int) + 1 := by omega
          have H5 := Lib.hid (And.intro hbc5 (And.intro hc5 (And.intro hown5 hol)))
          clear hbc5 hc5 hown5 hol
          go_wp2
          go_roundw
          case rel =>
            obtain ⟨hst, hch, _⟩ := HS.out
            obtain ⟨hbc5, hc5, hown5, hol⟩ := H5.out
            have hset := own_set hown5 i (.int .u32 (q : Int)) (by omega)
            rw [nv_set, show n + 1 - i = (n - i) + 1 by omega, set_mid o (n - i) i q hol] at hset
            refine ⟨i + 1, by go_num, by omega, by omega, o ++ [q], cr2, hst, by rw [show n + 1 - (i + 1) = n - i by omega]; exact hset, hbc5.far (p := ⟨gs, i, none⟩) (by have := HG.out; dsimp only; omega) _, ?_⟩
            exact (hch.trans (hc5.mono (fun _ _ h => .inr h)) (fun _ _ h => h)).setCell (fun _ => .inl rfl) _
          case measure => simp [intOf]; omega
        · obtain rfl : n = i := by omega
          have hk0 := hbc.cell 0 (u := .int .u64 cr) rfl
          have hks := own_cell hown (i := n) (u := .int .u32 (0 : Nat)) (by rw [nv, List.getElem?_map, List.getElem?_append_right (by rw [hA.len]; exact Nat.le_refl _), hA.len, Nat.sub_self, show n + 1 - n = 0 + 1 by omega, List.replicate_succ]; rfl)
          have hfs := own_frz hown (by omega) n
          have hset := own_set hown n (.int .u32 (cr : Int)) (by omega)
          rw [nv_set, show n + 1 - n = 0 + 1 by omega, set_mid o 0 n cr hA.len, List.replicate_zero, List.append_nil] at hset
          have hval : val 4294967296 (o ++ [cr]) = x + y := by
            rw [val_snoc, hA.len, hA.eq, List.take_of_length_le (by omega), List.take_of_length_le (by omega), hNa.val, hNb.val]
          have hdg : Digs 4294967296 (o ++ [cr]) := hA.digs.snoc (by omega)
          have hn1 : New w (wo.setCell ⟨gs, n, none⟩ (.int .u32 (cr : Int))) := Chg.owned HW.out.1 (hch.setCell (p := ⟨gs, n, none⟩) (fun _ => .inl rfl) _) (fun k e => by have := HG.out; omega)
          have hcri : (cr : Int) % 4294967296 = (cr : Int) := by omega
          have HF := Lib.hid (And.intro hset (And.intro hval (And.intro hdg hn1)))
          clear ha hb hNa hNb hla hlb hA hown hbc hch hchg hset hval hdg hn1
          go_wp2_with fail
          obtain ⟨hset, hval, hdg, hn1⟩ := HF.out
          refine (trim_wm _ (n + 1) (n + 1) (o ++ [cr]) _ (Rd.of_own hset) hdg (Nat.le_refl _) (by omega)).mono ?_
          rintro e w2 ⟨T, rfl, HT, rfl⟩
          clear hset hval hdg hn1
          go_wp2
          go_ret
          obtain ⟨hset, hval, hdg, hn1⟩ := HF.out
          have hT := HT.out.1
          rw [hval] at hT
          exact ⟨_, _, _, rfl, hT, hn1⟩

theorem addMag_wd (A : Option Addr) (n c : Nat) (A' : Option Addr) (n' c' : Nat) (x y : Nat) (w : World) (hx : WD w A n c x) (hy : WD w A' n' c' y) (hn : n ≤ 1000000) (hn' : n' ≤ 1000000) :
    Calls Tryz.prog 50 #[.slice A n c, .slice A' n' c'] w fun e w' => ∃ R m d, e = .returned (.slice R m d) ∧ Hid (WM w' R m d (x + y) ∧ New w w') := by
  rcases Nat.lt_or_ge n n' with h | h
  · have := addMag_lt A' n' c' A n c y x w hy hx hn' h
    rwa [Nat.add_comm y x] at this
  · exact addMag_ge A n c A' n' c' x y w hx hy hn h
theorem addMag_any (A : Option Addr) (n c : Nat) (A' : Option Addr) (n' c' : Nat) (x y : Nat) (w : World) (hx : WM w A n c x) (hy : WM w A' n' c' y) (hn : n ≤ 1000000) (hn' : n' ≤ 1000000) :
    Calls Tryz.prog 50 #[.slice A n c, .slice A' n' c'] w fun e w' => ∃ R m d, e = .returned (.slice R m d) ∧ Hid (WM w' R m d (x + y) ∧ New w w') :=
  addMag_wd A n c A' n' c' x y w hx.wd hy.wd hn hn'
end Go.Proofs.YtblcaeoeeepajaaGreatDoor

namespace Go.Mem
set_option linter.unusedVariables false
open Go.RowKit
/-- copy of a whole slice into a row of the call's own. -/
theorem wpList_cp {P : Program} {w : World} {t e : TypeId} {z : Value} {bytes : Nat} (hE : Elem P t e z bytes) {ops : Array Oper} {rest : List Oper} {o : Oper} {a : Act} {Q : Exit → Act → World → Prop} (hgd : o.guard = none) (d s : Operand)
    (ho : o.op = .call { callee := .builtin .copy, args := #[d, s], argTypes := #[t, t] }) {g n base k : Nat} {xs ys : List Value} (hd : a.eval d = .slice (some ⟨g, 0, none⟩) k k) (hown : w.ownsRow base e 1 (.slice (some ⟨g, 0, none⟩) k k) k xs)
    {A : Option Addr} {c : Nat} (hs : a.eval s = .slice A n c) (hnk : n ≤ k) (hr : Rd w A n ys) (h1 : ∀ v ∈ ys, v.oneCell' = true)
    (h : ∀ w', w'.ownsRow base e 1 (.slice (some ⟨g, 0, none⟩) k k) k (ys ++ xs.drop n) → Chg (fun j => j = g) w w' → wpList P ops Q rest (a.put o.dst (goInt n)) w') :
    wpList P ops Q (o :: rest) a w := by
  obtain ⟨ht, ⟨i, hi, hz0, hz1, hz2⟩, hzs⟩ := hE
  have hsz : (P.info? e).map (·.size) = some 1 := by rw [hi]; simp [hz1]
  have hyl := hr.len
  rcases hown.2 with ⟨hv, _⟩ | ⟨g', cap, cur, hv, hbg, hg, hnc, hcm, hcs, htake⟩
  · cases hv
  · injection hv with hv1 _ hv3
    injection hv1 with hv1
    injection hv1 with hv1
    subst hv1 hv3
    rw [Nat.mul_one] at hcs htake
    have hxs : cur.toList = xs := by rw [← htake, List.take_of_length_le (by simp [hcs])]
    rcases Nat.eq_zero_or_pos n with h0 | h0
    · subst h0
      have hy0 : ys = [] := List.eq_nil_of_length_eq_zero hyl
      subst hy0
      refine wpList_copy_nothing hgd d s t t ho e ht hsz _ _ _ _ _ _ hd hs (by simp) ?_
      exact h w (by simpa using hown) (Chg.refl _ _)
    · obtain ⟨ad, rfl, hcell⟩ := hr.2 h0
      refine wpList_copy_own hgd d s t t ho e ht hsz g 0 k k ad n c hd hs cur e hg ys (by rw [hyl]; simp [Nat.min_eq_left hnk]) hcell (by rw [hyl, hcs]; omega) h1 ?_
      rw [hyl]
      refine h _ ⟨?_, .inr ⟨g, k, _, rfl, hbg, setRow_heap w g cur _ e _ hg, Nat.le_refl _, hcm, ?_, ?_⟩⟩ ⟨rfl, rfl, rfl, by simp [World.setRow], fun j hj hn => setRow_other w g j _ hn⟩
      · have := hown.1
        rw [List.length_append, List.length_drop, hyl, this]; omega
      · rw [hxs]
        have := hown.1
        simp only [List.size_toArray, List.length_append, List.length_take, List.length_drop, hyl, this]
        omega
      · have := hown.1
        rw [hxs, List.take_zero, List.nil_append, Nat.zero_add, Nat.mul_one, List.take_of_length_le]
        rw [List.length_append, List.length_drop, hyl, this]; omega
end Go.Mem
namespace Go.Proofs.YtblcaeoeeepajaaGreatDoor
set_option linter.unusedVariables false
open Go.RowKit Go.Mem Go.Dig

theorem subWrap {d t v b : Nat} (hd : d < 4294967296) (ht : t ≤ 4294967296) (hv : v + t = d + 4294967296 * b) (hb : b ≤ 1) (hvb : v < 4294967296) : IntKind.u32.wrap ((d : Int) - (t : Int) % 4294967296) = (v : Int) := by
  rw [IntKind.wrap_u32]
  omega

set_option maxHeartbeats 1000000 in
/-- The closure step of subMag. -/
theorem subStep_any (i n y br d : Nat) (l : List Nat) (hi : i < n) (hn : n ≤ 1000000) (hy : y < 4294967296) (hbr : br ≤ 1) (gb gl g : Nat) (hg1 : gb ≠ g) (hg2 : gl ≠ g) (hg3 : gb ≠ gl) (w : World) (hb : Blk w gb 67 #[.int .u64 br]) (hl : Blk w gl 27 #[.slice (some ⟨g, 0, none⟩) n n])
    (hown : w.ownsRow g 69 1 (.slice (some ⟨g, 0, none⟩) n n) n (nv .u32 l)) (hd : l[i]? = some d) (hdb : d < 4294967296) :
    Calls Tryz.prog 84 #[.int .i64 i, .int .u32 y, .pointer (some ⟨gb, 0, none⟩), .pointer (some ⟨gl, 0, none⟩)] w fun e w' => (∃ v, e = .returned v) ∧ ∃ v b : Nat, v < 4294967296 ∧ b ≤ 1 ∧ v + y + br = d + 4294967296 * b ∧
      Blk w' gb 67 #[.int .u64 b] ∧ w'.ownsRow g 69 1 (.slice (some ⟨g, 0, none⟩) n n) n (nv .u32 (l.set i v)) ∧ Chg (fun k => k = gb ∨ k = g) w w' := by
  have hc := hb.cell 0 (u := .int .u64 br) rfl
  have hf := hb.frozen 0
  have hcl := hl.cell 0 (u := .slice (some ⟨g, 0, none⟩) n n) rfl
  have hcd := own_cell hown (i := i) (u := .int .u32 (d : Nat)) (by rw [nv, List.getElem?_map, hd]; rfl)
  have hfd := own_frz hown (by omega) i
  obtain ⟨t, ht⟩ : ∃ t, y + br = t := ⟨_, rfl⟩
  have hti : (y : Int) + (br : Int) = (t : Int) := by omega
  have htb : t ≤ 4294967296 := by omega
  have HB := Lib.hid (And.intro hb hown)
  have hii : (i : Int) < (n : Int) := by omega
  clear hb hown hl hd
  have fin : ∀ v b : Nat, v < 4294967296 → Blk (((w.setCell ⟨gb, 0, none⟩ (.int .u64 0)).setCell ⟨gb, 0, none⟩ (.int .u64 (b : Int))).setCell ⟨g, i, none⟩ (.int .u32 (v : Int))) gb 67 #[.int .u64 (b : Int)] ∧
      (((w.setCell ⟨gb, 0, none⟩ (.int .u64 0)).setCell ⟨gb, 0, none⟩ (.int .u64 (b : Int))).setCell ⟨g, i, none⟩ (.int .u32 (v : Int))).ownsRow g 69 1 (.slice (some ⟨g, 0, none⟩) n n) n (nv .u32 (l.set i v)) ∧ Chg (fun k => k = gb ∨ k = g) w (((w.setCell ⟨gb, 0, none⟩ (.int .u64 0)).setCell ⟨gb, 0, none⟩ (.int .u64 (b : Int))).setCell ⟨g, i, none⟩ (.int .u32 (v : Int))) := fun v b hv => by
    obtain ⟨hb, hown⟩ := HB.out
    refine ⟨(((hb.set1 _).set1 _).far (p := ⟨g, i, none⟩) hg1 _), ?_, (((Chg.refl (fun k => k = gb ∨ k = g) w).setCell (p := ⟨gb, 0, none⟩) (fun _ => .inl rfl) _).setCell (p := ⟨gb, 0, none⟩) (fun _ => .inl rfl) _).setCell (p := ⟨g, i, none⟩) (fun _ => .inr rfl) _⟩
    have h1 : Chg (fun k => k = gb) w ((w.setCell ⟨gb, 0, none⟩ (.int .u64 0)).setCell ⟨gb, 0, none⟩ (.int .u64 (b : Int))) := ((Chg.refl (fun k => k = gb) w).setCell (p := ⟨gb, 0, none⟩) (fun _ => rfl) _).setCell (p := ⟨gb, 0, none⟩) (fun _ => rfl) _
    have h2 := own_set (own_chg hown h1 (fun k hk e => by simp [blk] at hk; omega)) i (.int .u32 (v : Int)) hi
    rwa [nv_set] at h2
  have HF := Lib.hid fin
  clear fin
  by_cases hlt : d < t
  · have hgt : (d : Int) < (t : Int) := by omega
    obtain ⟨v, hv⟩ : ∃ v, d + 4294967296 - t = v := ⟨_, rfl⟩
    have hvw : IntKind.u32.wrap ((d : Int) - (t : Int) % 4294967296) = (v : Int) := subWrap hdb htb (b := 1) (by omega) (by omega) (by omega)
    have HV : Hid (v < 4294967296 ∧ v + y + br = d + 4294967296 * 1) := ⟨by omega, by omega⟩
    clear hv ht
    go_enter Tryz.func84, Tryz.ntmps84
    go_wp2
    refine bodyPost_end (results_none rfl _ _ _) rfl ⟨⟨_, rfl⟩, v, 1, HV.out.1, by omega, HV.out.2, ?_⟩
    have := HF.out v 1 HV.out.1
    rwa [show ((1 : Nat) : Int) = 1 from rfl] at this
  · have hgt : decide ((d : Int) < (t : Int)) = false := by simp; omega
    have hgt' : decide (d < t) = false := by simp; omega
    obtain ⟨v, hv⟩ : ∃ v, d - t = v := ⟨_, rfl⟩
    have hvw : (d : Int) - (t : Int) = (v : Int) := by omega
    have htm : (t : Int) % 4294967296 = (t : Int) := by omega
    have HV : Hid (v < 4294967296 ∧ v + y + br = d + 4294967296 * 0) := ⟨by omega, by omega⟩
    have htd : t ≤ d := by omega
    clear hv ht
    go_enter Tryz.func84, Tryz.ntmps84
    go_wp2
    refine bodyPost_end (results_none rfl _ _ _) rfl ⟨⟨_, rfl⟩, v, 0, HV.out.1, by omega, HV.out.2, ?_⟩
    obtain ⟨hb, hown⟩ := HB.out
    have h1 : Chg (fun k => k = gb) w (w.setCell ⟨gb, 0, none⟩ (.int .u64 0)) := (Chg.refl (fun k => k = gb) w).setCell (p := ⟨gb, 0, none⟩) (fun _ => rfl) _
    have h2 := own_set (own_chg hown h1 (fun k hk e => by simp [blk] at hk; omega)) i (.int .u32 (v : Int)) hi
    rw [nv_set] at h2
    exact ⟨(hb.set1 (.int .u64 0)).far (p := ⟨g, i, none⟩) hg1 _, h2, (h1.mono (fun _ _ h => .inl h)).setCell (p := ⟨g, i, none⟩) (fun _ => .inr rfl) _⟩

/-- What the loops of subMag hold. -/
def SbI (W : World) (gs gl gb : Nat) (la lb : List Nat) (n k br : Nat) (wr : World) : Prop :=
  ∃ o, SubI 4294967296 la lb k o br ∧ wr.ownsRow gs 69 1 (.slice (some ⟨gs, 0, none⟩) n n) n (nv .u32 (o ++ la.drop k)) ∧ Blk wr gb 67 #[.int .u64 br] ∧ Blk wr gl 27 #[.slice (some ⟨gs, 0, none⟩) n n] ∧ Chg (fun j => j = gs ∨ j = gb) W wr
theorem set_drop {o la : List Nat} {k d : Nat} (hk : o.length = k) (hd : la[k]? = some d) (v : Nat) : (o ++ la.drop k).set k v = (o ++ [v]) ++ la.drop (k + 1) := by
  subst hk
  obtain ⟨h, rfl⟩ := List.getElem?_eq_some_iff.1 hd
  rw [List.set_append_right _ _ (Nat.le_refl _), Nat.sub_self, List.drop_eq_getElem_cons h, List.set_cons_zero, List.append_assoc]
  rfl
theorem at_drop {o la : List Nat} {k d : Nat} (hk : o.length = k) (hd : la[k]? = some d) : (o ++ la.drop k)[k]? = some d := by
  subst hk
  rw [List.getElem?_append_right (Nat.le_refl _), Nat.sub_self, List.getElem?_drop, Nat.add_zero, hd]
/-- One step. -/
theorem sbi_step {W : World} {gs gl gb : Nat} {la lb : List Nat} {n k br y d : Nat} {wo : World} (hla : la.length = n) (hk : k < n) (hn : n ≤ 1000000) (hda : Digs 4294967296 la) (hdb : Digs 4294967296 lb) (hd : la[k]? = some d) (hy : dg lb k = y) (hg : gs < gl ∧ gl < gb) (h : SbI W gs gl gb la lb n k br wo) :
    Calls Tryz.prog 84 #[.int .i64 k, .int .u32 y, .pointer (some ⟨gb, 0, none⟩), .pointer (some ⟨gl, 0, none⟩)] wo fun e w' => (∃ v, e = .returned v) ∧ ∃ b : Nat, b ≤ 1 ∧ Hid (SbI W gs gl gb la lb n (k + 1) b w') := by
  obtain ⟨o, hS, hown, hbb, hbl, hch⟩ := h
  have hyb := dg_lt hdb (by omega) k
  rw [hy] at hyb
  refine (subStep_any k n y br d _ hk hn hyb hS.borrow gb gl gs (by omega) (by omega) (by omega) wo hbb hbl hown (at_drop hS.len hd) (hda.at_ hd)).mono ?_
  rintro e w' ⟨hv, v, b, h1, h2, h3, h4, h5, h6⟩
  refine ⟨hv, b, h2, o ++ [v], hS.step (by omega) hda hdb h1 h2 (by rw [hy, dg_some hd]; exact h3), ?_, h4, hbl.chg h6 (by omega), ?_⟩
  · rw [set_drop hS.len hd] at h5; exact h5
  · exact hch.trans h6 (fun _ _ h => by omega)

set_option maxRecDepth 100000 in
set_option maxHeartbeats 4000000 in
theorem subMag_any (A : Option Addr) (n c : Nat) (A' : Option Addr) (n' c' : Nat) (x y : Nat) (w : World) (hx : WM w A n c x) (hy : WM w A' n' c' y) (hle : y ≤ x) (hn : n ≤ 1000000) :
    Calls Tryz.prog 55 #[.slice A n c, .slice A' n' c'] w fun e w' => ∃ R m d, e = .returned (.slice R m d) ∧ Hid (WM w' R m d (x - y) ∧ New w w') := by
  obtain ⟨la, ha, hc1, hc2, hNa⟩ := hx
  obtain ⟨lb, hb, hd1, hd2, hNb⟩ := hy
  have hla : la.length = n := by have := ha.len; rwa [nv_length] at this
  have hlb : lb.length = n' := by have := hb.len; rwa [nv_length] at this
  have hnn : n' ≤ n := by
    rcases Nat.lt_or_ge n n' with h | h
    · have := hNa.len_lt (by omega) hNb (by omega); omega
    · exact h
  have H0 := Lib.hid (And.intro ha (And.intro hb (And.intro hNa (And.intro hNb (And.intro hla (And.intro hlb hle))))))
  clear ha hb hNa hNb hla hlb hle
  go_enter Tryz.func55, Tryz.ntmps55
  go_wp2_with (first
    | (at_make; refine wpList_mk elemU32 rfl rfl _ _ rfl (n := n) rfl rfl rfl rfl (by omega) (by simp only [maxLen]; omega) ?_; intro w1 hown hg hz; have HMK := Lib.hid (And.intro hown (And.intro hg hz)); clear hown hg hz)
    | ((with_reducible refine wpList_cp elemU32 rfl (.tmp 14) (.tmp 15) rfl rfl (HMK.out.1.alloc _) rfl (Nat.le_refl _) (H0.out.1.new (HMK.out.2.1.alloc _)) (nv_one _) ?_); intro w2 hown2 hch2; have HCP := Lib.hid (And.intro hown2 hch2); clear hown2 hch2))
  obtain ⟨ho, hnw, hz⟩ := HMK.out
  obtain ⟨hown2, hch2⟩ := HCP.out
  have hb0 := Blk.new w1 27 #[.slice (some ⟨w.heap.size, 0, none⟩) n n]
  have hbl2 := hb0.chg hch2 (by omega)
  have hnw2 : New w w2 := Chg.owned (hnw.alloc _) hch2 (fun k e => by omega)
  rw [List.drop_of_length_le (by simp), List.append_nil] at hown2
  refine Code.new1 ?_
  intro W hbb hnW hzW
  obtain ⟨gs, hgs⟩ : ∃ g, w.heap.size = g := ⟨_, rfl⟩
  obtain ⟨gl, hgl⟩ : ∃ g, w1.heap.size = g := ⟨_, rfl⟩
  obtain ⟨gb, hgb⟩ : ∃ g, w2.heap.size = g := ⟨_, rfl⟩
  have hlt : gs < gl ∧ gl < gb := by have h1 := hbl2.lt; omega
  rw [hgs] at hown2 hbl2
  rw [hgl] at hbl2
  rw [hgb] at hbb
  have HW : Hid (New w W ∧ SbI W gs gl gb la lb n 0 0 W) := ⟨hnw2.new hnW, [], SubI.start _ _ _, own_chg hown2 hnW (fun _ _ h => h), hbb, hbl2.chg hnW (fun h => h), Chg.refl _ _⟩
  have HG := Lib.hid (And.intro hgs hlt)
  simp only [hgs, hgl, hgb]
  clear ho hnw hz hown2 hch2 hb0 hbl2 hnw2 hbb hnW hzW hgs hgl hgb hlt HMK HCP
  go_loopw [20] (fun v wr => ∃ k br : Nat, v = .int .i64 k ∧ k ≤ n' ∧ br ≤ 1 ∧ Hid (SbI W gs gl gb la lb n k br wr)) (fun v _ => n' - (intOf v).toNat)
  case atStart => exact ⟨0, 0, rfl, by omega, by omega, HW.out.2⟩
  case round =>
    obtain ⟨i, br, rfl, hi, hbr, HO⟩ := hrel
    by_cases hlt : i < n'
    · obtain ⟨wo, rfl⟩ : ∃ wo : World, wo = wr := ⟨_, rfl⟩
      obtain ⟨ha, hb, hNa, hNb, hla, hlb, hle⟩ := H0.out
      have hchg : Chg (fun j => j = gs ∨ j = gb) w wo := (HW.out.1.mono (fun _ _ h => h.elim)).trans HO.out.choose_spec.2.2.2.2 (fun _ _ h => h)
      obtain ⟨bd, v, rfl, hv, hcv⟩ := (hb.chg hchg (fun k _ h e => by have := HG.out; omega)).at_ hlt
      obtain ⟨r, hr, rfl⟩ := nv_at hv
      obtain ⟨d, hd⟩ : ∃ d, la[i]? = some d := ⟨_, List.getElem?_eq_getElem (by omega)⟩
      have hst := sbi_step hla (show i < n by omega) hn hNa.digs hNb.digs hd (dg_some hr) HG.out.2 HO.out
      have HS := Lib.hid hst
      clear ha hb hNa hNb hla hlb hle hchg hv hr hd hst
      go_wp2_with fail
      refine HS.out.mono ?_
      rintro e w5 ⟨⟨ve, rfl⟩, b, hb1, H5⟩
      go_wp2
      go_roundw
      case rel => exact ⟨i + 1, b, by go_num, by omega, hb1, H5.out⟩
      case measure => simp [intOf]; omega
    · obtain rfl : n' = i := by omega
      go_wp2_with fail
      go_loopw [10] (fun v wr => ∃ k br : Nat, v = .int .i64 k ∧ n' ≤ k ∧ k ≤ n ∧ br ≤ 1 ∧ Hid (SbI W gs gl gb la lb n k br wr)) (fun v _ => n - (intOf v).toNat)
      case atStart => exact ⟨n', br, rfl, Nat.le_refl _, hnn, hbr, HO.out⟩
      case round =>
        clear HO
        obtain ⟨wo, rfl⟩ : ∃ wo : World, wo = wr := ⟨_, rfl⟩
        obtain ⟨i, br, rfl, hi1, hi2, hbr, HO⟩ := hrel
        obtain ⟨o, hS, hown, hbb, hbl, hch⟩ := HO.out
        have kb := hbb.cell 0 (u := .int .u64 br) rfl
        have kl := hbl.cell 0 (u := .slice (some ⟨gs, 0, none⟩) n n) rfl
        have HX := Lib.hid (And.intro hS (And.intro hown hch))
        clear hS hown hbb hbl hch
        by_cases hgo : i < n ∧ br = 1
        · obtain ⟨hlt, rfl⟩ := hgo
          obtain ⟨ha, hb, hNa, hNb, hla, hlb, hle⟩ := H0.out
          obtain ⟨d, hd⟩ : ∃ d, la[i]? = some d := ⟨_, List.getElem?_eq_getElem (by omega)⟩
          have hst := sbi_step hla hlt hn hNa.digs hNb.digs hd (dg_none (l := lb) (by omega)) HG.out.2 HO.out
          rw [show ((0 : Nat) : Int) = 0 from rfl] at hst
          have HS := Lib.hid hst
          have hlti : (i : Int) < (n : Int) := by omega
          clear ha hb hNa hNb hla hlb hle hd hst HX
          go_wp2_with fail
          refine HS.out.mono ?_
          rintro e w5 ⟨⟨ve, rfl⟩, b, hb1, H5⟩
          go_wp2
          go_roundw
          case rel => exact ⟨i + 1, b, by go_num, by omega, by omega, hb1, H5.out⟩
          case measure => simp [intOf]; omega
        · have hfin : val 4294967296 (o ++ la.drop i) = x - y ∧ Digs 4294967296 (o ++ la.drop i) ∧ Rd wo (some ⟨gs, 0, none⟩) n (nv .u32 (o ++ la.drop i)) ∧ New w wo := by
            obtain ⟨ha, hb, hNa, hNb, hla, hlb, hle⟩ := H0.out
            obtain ⟨hS, hown, hch⟩ := HX.out
            refine ⟨?_, hS.digs.app (hNa.digs.drop i), Rd.of_own hown, Chg.owned HW.out.1 hch (fun k e => by have := HG.out; omega)⟩
            have hbz : br = 0 := by
              rcases Nat.lt_or_ge i n with h | h
              · omega
              · obtain rfl : i = n := by omega
                have e := hS.eq
                rw [List.take_of_length_le (by omega), List.take_of_length_le (by omega), hNa.val, hNb.val] at e
                have hv := val_lt hS.digs
                rw [hS.len] at hv
                have hbr0 : br = 0 ∨ br = 1 := by omega
                rcases hbr0 with h0 | h0
                · exact h0
                · rw [h0, Nat.mul_one] at e; omega
            have e := hS.eq
            rw [hbz, Nat.mul_zero, Nat.add_zero, List.take_of_length_le (l := lb) (by omega), hNb.val] at e
            have hsp := val_split 4294967296 la i (by omega)
            rw [hNa.val] at hsp
            rw [val_append, hS.len]
            omega
          have HF := Lib.hid hfin
          clear hfin HX
          have hguard : (i < n ∧ br = 0) ∨ ¬ i < n := by omega
          clear hgo
          rcases hguard with ⟨hlt, rfl⟩ | hlt
          · have hlti : (i : Int) < (n : Int) := by omega
            go_wp2_with fail
            obtain ⟨hval, hdg, hrd, hnw⟩ := HF.out
            refine (trim_wm _ n n (o ++ la.drop i) wo hrd hdg (Nat.le_refl _) (by omega)).mono ?_
            rintro e w2 ⟨T, rfl, HT, rfl⟩
            clear hval hdg hrd hnw
            go_wp2
            go_ret
            obtain ⟨hval, hdg, hrd, hnw⟩ := HF.out
            have hT := HT.out.1
            rw [hval] at hT
            exact ⟨_, _, _, rfl, hT, hnw⟩
          · have hlti : decide ((i : Int) < (n : Int)) = false := by simp; omega
            have hlti' : decide (i < n) = false := by simp; omega
            go_wp2_with fail
            obtain ⟨hval, hdg, hrd, hnw⟩ := HF.out
            refine (trim_wm _ n n (o ++ la.drop i) wo hrd hdg (Nat.le_refl _) (by omega)).mono ?_
            rintro e w2 ⟨T, rfl, HT, rfl⟩
            clear hval hdg hrd hnw
            go_wp2
            go_ret
            obtain ⟨hval, hdg, hrd, hnw⟩ := HF.out
            have hT := HT.out.1
            rw [hval] at hT
            exact ⟨_, _, _, rfl, hT, hnw⟩
end Go.Proofs.YtblcaeoeeepajaaGreatDoor

namespace Go.Proofs.YtblcaeoeeepajaaGreatDoor
set_option linter.unusedVariables false
open Go.RowKit Go.Mem Go.Dig

theorem made_h (s : Bool) (R : Option Addr) (k d m : Nat) (w : World) (h : Hid (WM w R k d m)) :
    Calls Tryz.prog 31 #[.bool s, .slice R k d] w fun e w' => ∃ s' A' n' c', e = .returned (.agg #[.bool s', .slice A' n' c']) ∧ Hid (WI w' (.agg #[.bool s', .slice A' n' c']) (sg s m)) ∧ Hid (New w w') := by
  obtain ⟨l, hr, hnc, hc, hN⟩ := h.out
  refine (made_wi s R k d l w hr hN.digs hnc hc).mono ?_
  rintro e w' ⟨v, rfl, ⟨s', A', n', c', rfl, h1, h2⟩, hn⟩
  rw [hN.val] at h1 h2
  exact ⟨s', A', n', c', rfl, ⟨s', A', n', c', rfl, h1, h2⟩, hn⟩

set_option maxRecDepth 100000 in
set_option maxHeartbeats 2000000 in
theorem total_same (s : Bool) (A : Option Addr) (n c : Nat) (A' : Option Addr) (n' c' : Nat) (x y : Nat) (w : World) (hx : WM w A n c x) (hy : WM w A' n' c' y) (hn : n ≤ 1000000) (hn' : n' ≤ 1000000) :
    Calls Tryz.prog 62 #[.agg #[.bool s, .slice A n c], .agg #[.bool s, .slice A' n' c']] w fun e w' => ∃ sr Ar nr cr, e = .returned (.agg #[.bool sr, .slice Ar nr cr]) ∧ Hid (WI w' (.agg #[.bool sr, .slice Ar nr cr]) (sg s (x + y)) ∧ New w w') := by
  have H0 := Lib.hid (And.intro hx hy)
  clear hx hy
  go_enter Tryz.func62, Tryz.ntmps62
  go_wp2_with fail
  refine Code.new3 ?_
  intro W hb1 hb2 hb3 hnW hzW
  have hc10 := hb1.cell 0 (u := .bool s) rfl
  have hc11 := hb1.cell 1 (u := .slice A n c) rfl
  have hc21 := hb2.cell 1 (u := .slice A' n' c') rfl
  have hc30 := hb3.cell 0 (u := .bool false) rfl
  have hc31 := hb3.cell 1 (u := .slice none 0 0) rfl
  have hf30 := hb3.frozen 0
  have hf31 := hb3.frozen 1
  have hcal : ∀ W', New W W' → Calls Tryz.prog 50 #[.slice A n c, .slice A' n' c'] W' fun e w' => ∃ R k d, e = .returned (.slice R k d) ∧ Hid (WM w' R k d (x + y)) ∧ Hid (New W w') := fun W' h =>
    (addMag_any A n c A' n' c' x y W' (H0.out.1.new (hnW.new h)) (H0.out.2.new (hnW.new h)) hn hn').mono fun e w' ⟨R, k, d, h1, h2⟩ => ⟨R, k, d, h1, h2.out.1, h.new h2.out.2⟩
  have HP := Lib.hid hcal
  have HB := Lib.hid (And.intro hb1 (And.intro hb2 (And.intro hb3 hnW)))
  clear hcal hb1 hb2 hb3 hnW
  go_region_held3 (fun w' => w'.cell? ⟨w.heap.size, 0, none⟩ = some (.bool s) ∧ w'.cell? ⟨w.heap.size, 1, none⟩ = some (.slice A n c) ∧ w'.cell? ⟨w.heap.size + 1, 1, none⟩ = some (.slice A' n' c')) (first | exact ⟨by assumption, by assumption, by assumption⟩ | exact ⟨far2 he10 (by dsimp only; omega) _ _, far2 he11 (by dsimp only; omega) _ _, far2 he21 (by dsimp only; omega) _ _⟩)
    (first
      | (go_at_call 50; refine (HP.out _ ?_).mono ?_; exact (Chg.refl _ _).drew; rintro e w5 ⟨R, k, d, rfl, HO5, HN5⟩; have hd10 := HN5.out.cell hc10 (fun h => h); have hd11 := HN5.out.cell hc11 (fun h => h); have hd21 := HN5.out.cell hc21 (fun h => h); have hd30 := HN5.out.cell hc30 (fun h => h); have hd31 := HN5.out.cell hc31 (fun h => h); have hg30 := (HB.out.2.2.1.chg HN5.out (fun h => h)).frozen 0; have hg31 := (HB.out.2.2.1.chg HN5.out (fun h => h)).frozen 1)
      | (go_at_call 31; refine (made_h s R k d _ _ HO5).mono ?_; rintro e w6 ⟨s6, A6, n6, c6, rfl, H6, HN6⟩; have he10 := HN6.out.cell hd10 (fun h => h); have he11 := HN6.out.cell hd11 (fun h => h); have he21 := HN6.out.cell hd21 (fun h => h); have he30 := HN6.out.cell hd30 (fun h => h); have he31 := HN6.out.cell hd31 (fun h => h); have hh30 := ((HB.out.2.2.1.chg HN5.out (fun h => h)).chg HN6.out (fun h => h)).frozen 0; have hh31 := ((HB.out.2.2.1.chg HN5.out (fun h => h)).chg HN6.out (fun h => h)).frozen 1))
  all_goals
    clear hc10 hc11 hc21 hc30 hc31 hf30 hf31 hd10 hd11 hd21 hd30 hd31 hg30 hg31
    go_wp2
    have hb6 := (HB.out.2.2.1.chg HN5.out (fun h => h)).chg HN6.out (fun h => h)
    refine bodyPost_ret (res_c rfl _ rfl (aggInt.load (hb6.set2 _ _))) rfl ⟨s6, A6, n6, c6, rfl, H6.out.store hb6 (noInt_two _ _ _ _) (Chg.at2 _ _ _ _), ?_⟩
    exact Chg.owned (HB.out.2.2.2.new (HN5.out.new HN6.out)) (Chg.at2 _ _ _ _) (fun k e => by omega)

set_option maxRecDepth 100000 in
set_option maxHeartbeats 2000000 in
theorem total_ge (s s' : Bool) (hss : (s == s') = false) (A : Option Addr) (n c : Nat) (A' : Option Addr) (n' c' : Nat) (x y : Nat) (w : World) (hx : WM w A n c x) (hy : WM w A' n' c' y) (hn : n ≤ 1000000) (hn' : n' ≤ 1000000) (hlt : y ≤ x) :
    Calls Tryz.prog 62 #[.agg #[.bool s, .slice A n c], .agg #[.bool s', .slice A' n' c']] w fun e w' => ∃ sr Ar nr cr, e = .returned (.agg #[.bool sr, .slice Ar nr cr]) ∧ Hid (WI w' (.agg #[.bool sr, .slice Ar nr cr]) (sg s ((x - y : Nat))) ∧ New w w') := by
  have H0 := Lib.hid (And.intro hx hy)
  clear hx hy
  go_enter Tryz.func62, Tryz.ntmps62
  go_wp2_with fail
  refine Calls.new3 ?_
  intro W0 hb1 hb2 hb3 hnW hzW
  refine (cmpMag_any A n c A' n' c' x y W0 (H0.out.1.new hnW) (H0.out.2.new hnW)).mono ?_
  rintro e W ⟨rfl, q, hq⟩
  have hcv : decide ((0 : Int) ≤ cmpI (x : Int) (y : Int)) = true := by
    unfold cmpI
    rw [if_neg (by omega)]
    split <;> decide
  generalize cmpI (x : Int) (y : Int) = cv at *
  have hnq : New W0 W := by rw [hq]; exact (Chg.refl _ _).drewN q
  replace hb1 := hb1.chg hnq (fun h => h)
  replace hb2 := hb2.chg hnq (fun h => h)
  replace hb3 := hb3.chg hnq (fun h => h)
  replace hnW := hnW.new hnq
  have hc10 := hb1.cell 0 (u := .bool s) rfl
  have hc11 := hb1.cell 1 (u := .slice A n c) rfl
  have hc21 := hb2.cell 1 (u := .slice A' n' c') rfl
  have hc30 := hb3.cell 0 (u := .bool false) rfl
  have hc31 := hb3.cell 1 (u := .slice none 0 0) rfl
  have hf30 := hb3.frozen 0
  have hf31 := hb3.frozen 1
  have hcal : ∀ W', New W W' → Calls Tryz.prog 55 #[.slice A n c, .slice A' n' c'] W' fun e w' => ∃ R k d, e = .returned (.slice R k d) ∧ Hid (WM w' R k d (x - y)) ∧ Hid (New W w') := fun W' h =>
    (subMag_any A n c A' n' c' x y W' (H0.out.1.new (hnW.new h)) (H0.out.2.new (hnW.new h)) hlt hn).mono fun e w' ⟨R, k, d, h1, h2⟩ => ⟨R, k, d, h1, h2.out.1, h.new h2.out.2⟩
  have HP := Lib.hid hcal
  have HB := Lib.hid (And.intro hb1 (And.intro hb2 (And.intro hb3 hnW)))
  clear hcal hb1 hb2 hb3 hnW hq hnq hzW
  go_wp2_with fail
  go_region_held3 (fun w' => w'.cell? ⟨w.heap.size, 0, none⟩ = some (.bool s) ∧ w'.cell? ⟨w.heap.size, 1, none⟩ = some (.slice A n c) ∧ w'.cell? ⟨w.heap.size + 1, 1, none⟩ = some (.slice A' n' c')) (first | exact ⟨by assumption, by assumption, by assumption⟩ | exact ⟨far2 he10 (by dsimp only; omega) _ _, far2 he11 (by dsimp only; omega) _ _, far2 he21 (by dsimp only; omega) _ _⟩)
    (first
      | (go_at_call 55; refine (HP.out _ ?_).mono ?_; exact (Chg.refl _ _).drew; rintro e w5 ⟨R, k, d, rfl, HO5, HN5⟩; have hd10 := HN5.out.cell hc10 (fun h => h); have hd11 := HN5.out.cell hc11 (fun h => h); have hd21 := HN5.out.cell hc21 (fun h => h); have hd30 := HN5.out.cell hc30 (fun h => h); have hd31 := HN5.out.cell hc31 (fun h => h); have hg30 := (HB.out.2.2.1.chg HN5.out (fun h => h)).frozen 0; have hg31 := (HB.out.2.2.1.chg HN5.out (fun h => h)).frozen 1)
      | (go_at_call 31; refine (made_h s R k d _ _ HO5).mono ?_; rintro e w6 ⟨s6, A6, n6, c6, rfl, H6, HN6⟩; have he10 := HN6.out.cell hd10 (fun h => h); have he11 := HN6.out.cell hd11 (fun h => h); have he21 := HN6.out.cell hd21 (fun h => h); have he30 := HN6.out.cell hd30 (fun h => h); have he31 := HN6.out.cell hd31 (fun h => h); have hh30 := ((HB.out.2.2.1.chg HN5.out (fun h => h)).chg HN6.out (fun h => h)).frozen 0; have hh31 := ((HB.out.2.2.1.chg HN5.out (fun h => h)).chg HN6.out (fun h => h)).frozen 1))
  all_goals
    clear hc10 hc11 hc21 hc30 hc31 hf30 hf31 hd10 hd11 hd21 hd30 hd31 hg30 hg31
    go_wp2
    have hb6 := (HB.out.2.2.1.chg HN5.out (fun h => h)).chg HN6.out (fun h => h)
    refine bodyPost_ret (res_c rfl _ rfl (aggInt.load (hb6.set2 _ _))) rfl ⟨s6, A6, n6, c6, rfl, H6.out.store hb6 (noInt_two _ _ _ _) (Chg.at2 _ _ _ _), ?_⟩
    exact Chg.owned (HB.out.2.2.2.new (HN5.out.new HN6.out)) (Chg.at2 _ _ _ _) (fun k e => by omega)

set_option maxRecDepth 100000 in
set_option maxHeartbeats 2000000 in
theorem total_lt (s s' : Bool) (hss : (s == s') = false) (A : Option Addr) (n c : Nat) (A' : Option Addr) (n' c' : Nat) (x y : Nat) (w : World) (hx : WM w A n c x) (hy : WM w A' n' c' y) (hn : n ≤ 1000000) (hn' : n' ≤ 1000000) (hlt : x < y) :
    Calls Tryz.prog 62 #[.agg #[.bool s, .slice A n c], .agg #[.bool s', .slice A' n' c']] w fun e w' => ∃ sr Ar nr cr, e = .returned (.agg #[.bool sr, .slice Ar nr cr]) ∧ Hid (WI w' (.agg #[.bool sr, .slice Ar nr cr]) (sg s' ((y - x : Nat))) ∧ New w w') := by
  have H0 := Lib.hid (And.intro hx hy)
  clear hx hy
  go_enter Tryz.func62, Tryz.ntmps62
  go_wp2_with fail
  refine Calls.new3 ?_
  intro W0 hb1 hb2 hb3 hnW hzW
  refine (cmpMag_any A n c A' n' c' x y W0 (H0.out.1.new hnW) (H0.out.2.new hnW)).mono ?_
  rintro e W ⟨rfl, q, hq⟩
  rw [cmpI_lt (show (x : Int) < (y : Int) by omega)]
  have hneg : decide ((0 : Int) ≤ (-1 : Int)) = false := by decide
  have hnq : New W0 W := by rw [hq]; exact (Chg.refl _ _).drewN q
  replace hb1 := hb1.chg hnq (fun h => h)
  replace hb2 := hb2.chg hnq (fun h => h)
  replace hb3 := hb3.chg hnq (fun h => h)
  replace hnW := hnW.new hnq
  have hc20 := hb2.cell 0 (u := .bool s') rfl
  have hc21 := hb2.cell 1 (u := .slice A' n' c') rfl
  have hc11 := hb1.cell 1 (u := .slice A n c) rfl
  have hc30 := hb3.cell 0 (u := .bool false) rfl
  have hc31 := hb3.cell 1 (u := .slice none 0 0) rfl
  have hf30 := hb3.frozen 0
  have hf31 := hb3.frozen 1
  have hcal : ∀ W', New W W' → Calls Tryz.prog 55 #[.slice A' n' c', .slice A n c] W' fun e w' => ∃ R k d, e = .returned (.slice R k d) ∧ Hid (WM w' R k d (y - x)) ∧ Hid (New W w') := fun W' h =>
    (subMag_any A' n' c' A n c y x W' (H0.out.2.new (hnW.new h)) (H0.out.1.new (hnW.new h)) (by omega) hn').mono fun e w' ⟨R, k, d, h1, h2⟩ => ⟨R, k, d, h1, h2.out.1, h.new h2.out.2⟩
  have HP := Lib.hid hcal
  have HB := Lib.hid (And.intro hb1 (And.intro hb2 (And.intro hb3 hnW)))
  clear hcal hb1 hb2 hb3 hnW hq hnq hzW
  go_wp2_with fail
  go_region_held3 (fun w' => w'.cell? ⟨w.heap.size + 1, 0, none⟩ = some (.bool s') ∧ w'.cell? ⟨w.heap.size + 1, 1, none⟩ = some (.slice A' n' c') ∧ w'.cell? ⟨w.heap.size, 1, none⟩ = some (.slice A n c)) (first | exact ⟨by assumption, by assumption, by assumption⟩ | exact ⟨far2 he20 (by dsimp only; omega) _ _, far2 he21 (by dsimp only; omega) _ _, far2 he11 (by dsimp only; omega) _ _⟩)
    (first
      | (go_at_call 55; refine (HP.out _ ?_).mono ?_; exact (Chg.refl _ _).drew; rintro e w5 ⟨R, k, d, rfl, HO5, HN5⟩; have hd20 := HN5.out.cell hc20 (fun h => h); have hd21 := HN5.out.cell hc21 (fun h => h); have hd11 := HN5.out.cell hc11 (fun h => h); have hd30 := HN5.out.cell hc30 (fun h => h); have hd31 := HN5.out.cell hc31 (fun h => h); have hg30 := (HB.out.2.2.1.chg HN5.out (fun h => h)).frozen 0; have hg31 := (HB.out.2.2.1.chg HN5.out (fun h => h)).frozen 1)
      | (go_at_call 31; refine (made_h s' R k d _ _ HO5).mono ?_; rintro e w6 ⟨s6, A6, n6, c6, rfl, H6, HN6⟩; have he20 := HN6.out.cell hd20 (fun h => h); have he21 := HN6.out.cell hd21 (fun h => h); have he11 := HN6.out.cell hd11 (fun h => h); have he30 := HN6.out.cell hd30 (fun h => h); have he31 := HN6.out.cell hd31 (fun h => h); have hh30 := ((HB.out.2.2.1.chg HN5.out (fun h => h)).chg HN6.out (fun h => h)).frozen 0; have hh31 := ((HB.out.2.2.1.chg HN5.out (fun h => h)).chg HN6.out (fun h => h)).frozen 1))
  all_goals
    clear hc20 hc21 hc11 hc30 hc31 hf30 hf31 hd20 hd21 hd11 hd30 hd31 hg30 hg31
    go_wp2
    have hb6 := (HB.out.2.2.1.chg HN5.out (fun h => h)).chg HN6.out (fun h => h)
    refine bodyPost_ret (res_c rfl _ rfl (aggInt.load (hb6.set2 _ _))) rfl ⟨s6, A6, n6, c6, rfl, H6.out.store hb6 (noInt_two _ _ _ _) (Chg.at2 _ _ _ _), ?_⟩
    exact Chg.owned (HB.out.2.2.2.new (HN5.out.new HN6.out)) (Chg.at2 _ _ _ _) (fun k e => by omega)

theorem total_any (v v' : Value) (x y : Int) (w : World) (hx : WI w v x) (hy : WI w v' y) (bx : x.natAbs < 2 ^ 1000000) (bY : y.natAbs < 2 ^ 1000000) :
    Calls Tryz.prog 62 #[v, v'] w fun e w' => ∃ s A n c, e = .returned (.agg #[.bool s, .slice A n c]) ∧ Hid (WI w' (.agg #[.bool s, .slice A n c]) (x + y) ∧ New w w') := by
  obtain ⟨s, A, n, c, rfl, hs, hm⟩ := hx
  obtain ⟨s', A', n', c', rfl, hs', hm'⟩ := hy
  have hn := bz_wlen hm bx
  have hn' := bz_wlen hm' bY
  clear bx bY
  by_cases hss : s = s'
  · subst hss
    have e1 : sg s (x.natAbs + y.natAbs) = x + y := by
      unfold sg
      cases s
      · have : ¬ x < 0 := by simpa using hs.symm
        have : ¬ y < 0 := by simpa using hs'.symm
        simp; omega
      · have : x < 0 := by simpa using hs.symm
        have : y < 0 := by simpa using hs'.symm
        simp; omega
    have := total_same s A n c A' n' c' _ _ w hm hm' hn hn'
    rwa [e1] at this
  · have hb : (s == s') = false := by simp [hss]
    have hsg : (s = true ∧ s' = false ∧ x < 0 ∧ ¬ y < 0) ∨ (s = false ∧ s' = true ∧ ¬ x < 0 ∧ y < 0) := by
      cases s <;> cases s'
      · exact absurd rfl hss
      · exact .inr ⟨rfl, rfl, by simpa using hs.symm, by simpa using hs'.symm⟩
      · exact .inl ⟨rfl, rfl, by simpa using hs.symm, by simpa using hs'.symm⟩
      · exact absurd rfl hss
    rcases Nat.lt_or_ge x.natAbs y.natAbs with hlt | hlt
    · have e1 : sg s' (y.natAbs - x.natAbs : Nat) = x + y := by
        unfold sg
        rcases hsg with ⟨_, rfl, h3, h4⟩ | ⟨_, rfl, h3, h4⟩ <;> simp <;> omega
      have := total_lt s s' hb A n c A' n' c' _ _ w hm hm' hn hn' hlt
      rwa [e1] at this
    · have e1 : sg s (x.natAbs - y.natAbs : Nat) = x + y := by
        unfold sg
        rcases hsg with ⟨rfl, _, h3, h4⟩ | ⟨rfl, _, h3, h4⟩ <;> simp <;> omega
      have := total_ge s s' hb A n c A' n' c' _ _ w hm hm' hn hn' hlt
      rwa [e1] at this

set_option maxRecDepth 100000 in
set_option maxHeartbeats 2000000 in
theorem wadd_any (v v' : Value) (x y : Int) (w : World) (hx : WI w v x) (hy : WI w v' y) (bx : x.natAbs < 2 ^ 1000000) (bY : y.natAbs < 2 ^ 1000000) :
    Calls Tryz.prog 29 #[v, v'] w fun e w' => ∃ s A n c, e = .returned (.tuple #[.agg #[.bool s, .slice A n c], .int .i64 (rgE (x + y))]) ∧ Hid (WI w' (.agg #[.bool s, .slice A n c]) (rg (x + y)) ∧ New w w') := by
  obtain ⟨s, A, n, c, rfl, hs, hm⟩ := hx
  obtain ⟨s', A', n', c', rfl, hs', hm'⟩ := hy
  have H0 := Lib.hid (And.intro hs (And.intro hm (And.intro hs' (And.intro hm' (And.intro bx bY)))))
  clear hs hs' hm hm' bx bY
  obtain ⟨z, hz⟩ : ∃ z, x + y = z := ⟨_, rfl⟩
  rw [hz]
  have HZ := Lib.hid hz
  clear hz
  go_enter Tryz.func29, Tryz.ntmps29
  go_wp2_with fail
  refine Calls.new3 ?_
  intro W hb1 hb2 hb3 hnW hzW
  obtain ⟨hs, hm, hs', hm', bx, bY⟩ := H0.out
  refine (total_any _ _ x y W ⟨s, A, n, c, rfl, hs, hm.new hnW⟩ ⟨s', A', n', c', rfl, hs', hm'.new hnW⟩ bx bY).mono ?_
  rw [HZ.out]
  rintro e w2 ⟨s2, A2, n2, c2, rfl, H2⟩
  have hb4 := hb3.chg H2.out.2 (fun h => h)
  have HB := Lib.hid (And.intro hb4 (hnW.new H2.out.2))
  have hl4 : w.heap.size + 1 + 1 < w2.heap.size := hb4.lt
  have hl5 : w.heap.size + 1 < w2.heap.size := by omega
  clear hb1 hb2 hb3 hnW hzW hs hm hs' hm' bx bY hb4 H0
  go_wp2_with fail
  refine Calls.new1 ?_
  intro W3 hb5 hn3 hz3
  obtain ⟨s3, A3, n3, c3, he, hs3, hm3⟩ := H2.out.1
  injection he with he
  have he' : s2 = s3 ∧ A2 = A3 ∧ n2 = n3 ∧ c2 = c3 := by simpa using he
  obtain ⟨rfl, rfl, rfl, rfl⟩ := he'
  have hran := ranged_wm s2 A2 n2 c2 _ W3 (hm3.new hn3)
  rw [hs3, sg_of] at hran
  rw [← hs3] at hran
  refine hran.mono ?_
  rintro e w6 ⟨s6, A6, n6, c6, rfl, H6⟩
  have hb6 := (HB.out.1.chg hn3 (fun h => h)).chg H6.out.2 (fun h => h)
  have k0 := hb6.cell 0 (u := .bool false) rfl
  have k1 := hb6.cell 1 (u := .slice none 0 0) rfl
  have f0 := hb6.frozen 0
  have f1 := hb6.frozen 1
  have HF := Lib.hid (And.intro hb6 ((HB.out.2.new hn3).new H6.out.2))
  clear hb5 hn3 hz3 hs3 hm3 hran hb6 he
  go_wp2
  obtain ⟨hb6, hn6⟩ := HF.out
  refine bodyPost_ret (res_ct rfl _ rfl (aggInt.load (hb6.set2 _ _)) rfl) rfl ⟨s6, A6, n6, c6, rfl, H6.out.1.store hb6 (noInt_two _ _ _ _) (Chg.at2 _ _ _ _), ?_⟩
  exact Chg.owned hn6 (Chg.at2 _ _ _ _) (fun k e => by omega)

end Go.Proofs.YtblcaeoeeepajaaGreatDoor

namespace Go.Dig
set_option linter.unusedVariables false

/-- A quotient's digits from i on, and the rest. -/
structure DivI (B : Nat) (a : List Nat) (b i : Nat) (q : List Nat) (r : Nat) : Prop where
  len : q.length = a.length
  digs : Digs B q
  rest : r < b
  eq : val B (a.drop i) = val B (q.drop i) * b + r
theorem DivI.start {B : Nat} {a : List Nat} {b i : Nat} (hB : 1 ≤ B) (h : val B (a.drop i) < b) : DivI B a b i (List.replicate a.length 0) (val B (a.drop i)) :=
  ⟨by simp, Digs.zeros hB _, h, by rw [List.drop_replicate, val_zeros]; omega⟩
theorem DivI.quo_lt {B : Nat} {a : List Nat} {b i : Nat} {q : List Nat} {r : Nat} (ha : Digs B a) (hB : 1 ≤ B) (h : DivI B a b (i + 1) q r) : B * r + dg a i < B * b := by
  have h1 := dg_lt ha hB i
  have h2 : B * (r + 1) ≤ B * b := Nat.mul_le_mul_left _ h.rest
  rw [Nat.mul_add] at h2
  omega
theorem DivI.step {B : Nat} {a : List Nat} {b i : Nat} {q : List Nat} {r : Nat} (ha : Digs B a) (hB : 1 ≤ B) (h : DivI B a b (i + 1) q r) (hi : i < a.length) :
    DivI B a b i (q.set i ((B * r + dg a i) / b)) ((B * r + dg a i) % b) := by
  have hb : 0 < b := Nat.lt_of_le_of_lt (Nat.zero_le _) h.rest
  have hlt := h.quo_lt ha hB
  have ht : (B * r + dg a i) / b < B := by rw [Nat.div_lt_iff_lt_mul hb]; exact hlt
  refine ⟨by simp [h.len], h.digs.set_ ht, Nat.mod_lt _ hb, ?_⟩
  have hqi : i < q.length := by rw [h.len]; exact hi
  rw [val_drop_dg B a i, val_drop_dg B (q.set i _) i, h.eq]
  have e1 : dg (q.set i ((B * r + dg a i) / b)) i = (B * r + dg a i) / b := dg_some (by rw [List.getElem?_set_self hqi])
  have e2 : (q.set i ((B * r + dg a i) / b)).drop (i + 1) = q.drop (i + 1) := by rw [List.drop_set_of_lt (by omega)]
  rw [e1, e2, Nat.add_mul, Nat.mul_add]
  have := Nat.div_add_mod (B * r + dg a i) b
  rw [Nat.mul_comm b] at this
  have e3 : B * (val B (q.drop (i + 1)) * b) = B * val B (q.drop (i + 1)) * b := by rw [Nat.mul_assoc]
  rw [e3]
  omega
theorem DivI.done {B : Nat} {a : List Nat} {b : Nat} {q : List Nat} {r : Nat} (h : DivI B a b 0 q r) : val B q = val B a / b ∧ r = val B a % b := by
  have e := h.eq
  rw [List.drop_zero, List.drop_zero] at e
  have hb : 0 < b := Nat.lt_of_le_of_lt (Nat.zero_le _) h.rest
  rw [e]
  constructor
  · rw [Nat.mul_comm, Nat.mul_add_div hb, Nat.div_eq_of_lt h.rest]; omega
  · rw [Nat.mul_comm, Nat.mul_add_mod, Nat.mod_eq_of_lt h.rest]

end Go.Dig

namespace Go.Pure
open Go.RowKit

/-- A word: the bytes in little-endian order. -/
def word (l : List UInt8) : Nat := l.foldr (fun c a => a * 256 + c.toNat) 0
theorem word_nil : word [] = 0 := rfl
theorem word_cons (c : UInt8) (l : List UInt8) : word (c :: l) = word l * 256 + c.toNat := rfl
theorem word_lt (l : List UInt8) : word l < 256 ^ l.length := by
  induction l with
  | nil => simp [word_nil]
  | cons c l ih =>
    rw [word_cons, List.length_cons, Nat.pow_succ]
    have := c.toNat_lt
    omega
theorem word_lt7 {l : List UInt8} (h : l.length ≤ 7) : word l < 72057594037927936 :=
  Nat.lt_of_lt_of_le (word_lt l) (Nat.le_trans (Nat.pow_le_pow_right (by omega) h) (by decide))
theorem word_step {b : List UInt8} {p m : Nat} {c : UInt8} (h : b[p]? = some c) : word ((b.drop p).take (m + 1)) = word ((b.drop (p + 1)).take m) * 256 + c.toNat := by
  obtain ⟨hp, rfl⟩ := List.getElem?_eq_some_iff.1 h
  rw [List.drop_eq_getElem_cons hp, List.take_succ_cons, word_cons]
/-- The i-th word of bytes, and how many there are. -/
def wd (b : List UInt8) (i : Nat) : Nat := word ((b.drop (8 * i)).take 8)
def nw (b : List UInt8) : Nat := (b.length + 7) / 8
def wds (b : List UInt8) : List Nat := (List.range (nw b)).map (wd b)
theorem wds_length (b : List UInt8) : (wds b).length = nw b := by simp [wds]
def wdsTo (b : List UInt8) (k : Nat) : List Nat := (List.range k).map (wd b)
theorem wdsTo_succ (b : List UInt8) (k : Nat) : wdsTo b (k + 1) = wdsTo b k ++ [wd b k] := by simp [wdsTo, List.range_succ]
theorem wdsTo_length (b : List UInt8) (k : Nat) : (wdsTo b k).length = k := by simp [wdsTo]

theorem shl_or (w c : Nat) (hw : w < 72057594037927936) (hc : c < 256) : bits .or .u64 ((w : Int) * 256) (c : Int) = ((w * 256 + c : Nat) : Int) := by
  have e : (w : Int) * 256 = ((w * 256 : Nat) : Int) := by omega
  rw [e, u64_or_nat _ _ (by omega) (by omega)]
  have := Nat.shiftLeft_add_eq_or_of_lt (show c < 2 ^ 8 by omega) w
  rw [Nat.shiftLeft_eq] at this
  rw [show w * 256 = w * 2 ^ 8 by rfl, ← this]

theorem grp_val {b : List UInt8} {p m : Nat} {x : UInt8} (hx : b[p]? = some x) (hm : m ≤ 7) :
    bits .or .u64 ((word ((b.drop (p + 1)).take m) : Int) * 256) (IntKind.u64.wrap (x.toNat : Int)) = ((word ((b.drop p).take (m + 1)) : Nat) : Int) := by
  have hx2 := x.toNat_lt
  have h7 := word_lt7 (l := (b.drop (p + 1)).take m) (by simp; omega)
  have e : IntKind.u64.wrap (x.toNat : Int) = (x.toNat : Int) := by rw [IntKind.wrap_u64]; omega
  rw [e, shl_or _ _ h7 (by omega), word_step hx]
theorem wd_of_cnt {b : List UInt8} {k cnt len : Nat} (hl : b.length = len) (h : cnt = 8 ∨ 8 * k + cnt = len) (h8 : cnt ≤ 8) : word ((b.drop (8 * k)).take cnt) = wd b k := by
  unfold wd
  rcases h with rfl | h
  · rfl
  · rw [List.take_of_length_le (by simp; omega), List.take_of_length_le (by simp; omega)]

/-- One mixing step, in the walk's own spelling. -/
def mixI (a b : Int) : Int :=
  bits .xor .u64 (IntKind.u64.wrap (bits .xor .u64 a b * 11400714819323198485)) (IntKind.u64.wrap (bits .xor .u64 a b * 11400714819323198485) / 4294967296)
theorem mixI_range (a b : Int) : 0 ≤ mixI a b ∧ mixI a b ≤ 18446744073709551615 := ⟨bits_lo_u64 _ _ _, bits_hi_u64 _ _ _⟩
/-- The state behind some words. -/
def absorb (s : Int) (l : List Int) : Int := l.foldl mixI s
theorem absorb_snoc (s : Int) (l : List Int) (x : Int) : absorb s (l ++ [x]) = mixI (absorb s l) x := by simp [absorb]
/-- The state behind the first k of some ints. -/
def absTo (s : Int) (l : List Int) (k : Nat) : Int := absorb s ((l.take k).map IntKind.u64.wrap)
theorem absTo_succ {s : Int} {l : List Int} {k : Nat} {z : Int} (h : l[k]? = some z) : absTo s l (k + 1) = mixI (absTo s l k) (IntKind.u64.wrap z) := by
  unfold absTo; rw [List.take_add_one, h, List.map_append]; exact absorb_snoc _ _ _
theorem absTo_all (s : Int) (l : List Int) : absTo s l l.length = absorb s (l.map IntKind.u64.wrap) := by
  unfold absTo; rw [List.take_length]
/-- The hash of a label and words. -/
def sumI (label : List UInt8) (l : List Int) : Int :=
  mixI (absorb (mixI (mixI (absorb 0 ((wds label).map (fun n : Nat => (n : Int)))) label.length) l.length) (l.map IntKind.u64.wrap)) 0
/-- The hash of a label and bytes. -/
def bytesI (label b : List UInt8) : Int := sumI label ((wds b).map (fun n : Nat => wrap64 (n : Int)) ++ [(b.length : Int)])

end Go.Pure

namespace Go.Proofs.YtblcaeoeeepajaaGreatDoor
set_option linter.unusedVariables false
open Go.RowKit Go.Mem Go.Dig Go.Pure

theorem shl_or32 (w c : Nat) (hw : w < 4294967296) (hc : c < 4294967296) : bits .or .u64 ((w : Int) * 4294967296) (c : Int) = ((w * 4294967296 + c : Nat) : Int) := by
  have e : (w : Int) * 4294967296 = ((w * 4294967296 : Nat) : Int) := by omega
  rw [e, u64_or_nat _ _ (by omega) (by omega)]
  have := Nat.shiftLeft_add_eq_or_of_lt (show c < 2 ^ 32 by omega) w
  rw [Nat.shiftLeft_eq] at this
  rw [show w * 4294967296 = w * 2 ^ 32 by rfl, ← this]

set_option maxRecDepth 100000 in
set_option maxHeartbeats 2000000 in
theorem divWord_any (A : Option Addr) (n c : Nat) (x d : Nat) (w : World) (hx : WM w A n c x) (hn : n ≤ 1000000) (hd1 : 1 ≤ d) (hd2 : d < 4294967296) :
    Calls Tryz.prog 35 #[.slice A n c, .int .u32 d] w fun e w' => ∃ l g, e = .returned (.tuple #[.slice (some ⟨g, 0, none⟩) n n, .int .u32 ((x % d : Nat) : Int)]) ∧ Hid (Rd w' (some ⟨g, 0, none⟩) n (nv .u32 l) ∧ Digs 4294967296 l ∧ val 4294967296 l = x / d ∧ w.heap.size ≤ g ∧ New w w') := by
  obtain ⟨la, ha, hc1, hc2, hNa⟩ := hx
  have hla : la.length = n := by have := ha.len; rwa [nv_length] at this
  obtain ⟨XR, hXR⟩ : ∃ r, x % d = r := ⟨_, rfl⟩
  rw [hXR]
  have H0 := Lib.hid (And.intro ha (And.intro hNa (And.intro hla hXR)))
  clear ha hNa hla hXR
  go_enter Tryz.func35, Tryz.ntmps35
  go_wp2_with (at_make; refine wpList_mk elemU32 rfl rfl _ _ rfl (n := n) rfl rfl rfl rfl (by omega) (by simp only [maxLen]; omega) ?_; intro w1 hown hg hz; have HMK := Lib.hid (And.intro hown (And.intro hg hz)); clear hown hg hz)
  obtain ⟨ho, hnw, hz⟩ := HMK.out
  rw [show List.replicate n (Value.int .u32 0) = nv .u32 (List.replicate n 0) by simp [nv]] at ho
  obtain ⟨g, hgq⟩ : ∃ g, w.heap.size = g := ⟨_, rfl⟩
  rw [hgq] at ho
  have HG := Lib.hid hgq
  have HW := Lib.hid (And.intro hnw ho)
  simp only [hgq]
  clear hgq hnw ho hz HMK
  go_loopw [7, 8] (fun v i wr => ∃ k r : Nat, ∃ q, v = .int .u64 r ∧ i = .int .i64 ((k : Int) - 1) ∧ k ≤ n ∧ r < d ∧ Hid (DivI 4294967296 la d k q r ∧ wr.ownsRow g 69 1 (.slice (some ⟨g, 0, none⟩) n n) n (nv .u32 q) ∧ Chg (fun j => j = g) w1 wr)) (fun _ i _ => (intOf i + 1).toNat)
  case atStart =>
    obtain ⟨ha, hNa, hla, hXR⟩ := H0.out
    have hdr : la.drop n = [] := List.drop_of_length_le (by omega)
    have hst := DivI.start (B := 4294967296) (a := la) (b := d) (i := n) (by omega) (by rw [hdr]; exact hd1)
    rw [hdr, hla] at hst
    exact ⟨n, 0, List.replicate n 0, rfl, rfl, Nat.le_refl _, hd1, hst, HW.out.2, Chg.refl _ _⟩
  case round =>
    obtain ⟨k, r, q, rfl, rfl, hk, hrd, HO⟩ := hrel
    by_cases h0 : k = 0
    · subst h0
      have hrb : r < 4294967296 := by omega
      go_wp2
      go_ret2
      obtain ⟨ha, hNa, hla, hXR⟩ := H0.out
      obtain ⟨hD, hown, hch⟩ := HO.out
      obtain ⟨hq, hr⟩ := hD.done
      rw [hNa.val] at hq hr
      refine ⟨q, g, by rw [← hXR, ← hr]; rfl, Rd.of_own hown, hD.digs, hq, by rw [HG.out]; exact Nat.le_refl _, Chg.owned HW.out.1 hch (fun k e => by have := HG.out; omega)⟩
    · obtain ⟨i, rfl⟩ : ∃ i, k = i + 1 := ⟨k - 1, by omega⟩
      have hij : (((i + 1 : Nat) : Int) - 1) = (i : Int) := by omega
      rw [hij]
      obtain ⟨wo, rfl⟩ : ∃ wo : World, wo = wr := ⟨_, rfl⟩
      obtain ⟨ha, hNa, hla, hXR⟩ := H0.out
      obtain ⟨hD, hown, hch⟩ := HO.out
      have hchg : Chg (fun j => j = g) w wo := (HW.out.1.mono (fun _ _ h => h.elim)).trans hch (fun _ _ h => h)
      obtain ⟨ad, u, rfl, hu, hcu⟩ := (ha.chg hchg (fun k _ h e => by have := HG.out; omega)).at_ (show i < n by omega)
      obtain ⟨p, hp, rfl⟩ := nv_at hu
      have hpb := hNa.digs.at_ hp
      have hst := hD.step hNa.digs (by omega) (by omega)
      have hqb := hD.quo_lt hNa.digs (by omega)
      rw [dg_some hp] at hst hqb
      have hql : q.length = n := by rw [hD.len, hla]
      obtain ⟨z, hz⟩ : ∃ z, q[i]? = some z := ⟨_, List.getElem?_eq_getElem (by omega)⟩
      have hcz := own_cell hown (i := i) (u := .int .u32 (z : Nat)) (by rw [nv, List.getElem?_map, hz]; rfl)
      have hfz := own_frz hown (by omega) i
      obtain ⟨X, hX⟩ : ∃ X, 4294967296 * r + p = X := ⟨_, rfl⟩
      rw [hX] at hst hqb
      have hor : bits .or .u64 ((r : Int) * 4294967296) (p : Int) = (X : Int) := by rw [shl_or32 r p (by omega) hpb]; omega
      obtain ⟨T, hT⟩ : ∃ T, X / d = T := ⟨_, rfl⟩
      obtain ⟨R, hR⟩ : ∃ R, X % d = R := ⟨_, rfl⟩
      have hTi : (X : Int) / (d : Int) = (T : Int) := by rw [← hT]; simp
      have hRi : (X : Int) % (d : Int) = (R : Int) := by rw [← hR]; simp
      have hTb : T < 4294967296 := by
        rw [← hT, Nat.div_lt_iff_lt_mul (by omega)]; exact hqb
      have hRd : R < d := by rw [← hR]; exact Nat.mod_lt _ (by omega)
      have hXb : X ≤ 18446744073709551615 := by omega
      rw [hT, hR] at hst
      have HS := Lib.hid (And.intro hst (And.intro hown hch))
      have hin : (i : Int) < (n : Int) := by omega
      have hinn : i < n := by omega
      have hr64 : r * 4294967296 ≤ 18446744069414584320 := by omega
      clear ha hNa hla hXR hD hown hch hchg hu hp hst hqb hql hz hij hT hR hX
      go_wp2
      go_roundw
      case rel =>
        obtain ⟨hst, hown, hch⟩ := HS.out
        have hset := own_set hown i (.int .u32 (T : Int)) hinn
        rw [nv_set] at hset
        exact ⟨i, R, q.set i T, by rw [hRi], rfl, by omega, hRd, hst, hset, hch.setCell (fun _ => rfl) _⟩
      case measure => simp [intOf]
end Go.Proofs.YtblcaeoeeepajaaGreatDoor
