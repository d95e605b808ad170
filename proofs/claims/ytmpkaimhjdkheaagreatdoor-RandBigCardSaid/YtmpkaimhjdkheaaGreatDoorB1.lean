/- The parts PureDig2, MemSet, MemMk, MemRes, RefA, RefB, RefC, RefD, PureText, TextA, WideA of the proof, in one text. -/
import Derived.Deep.QuietTactic
import Derived.BigQuiet
import Derived.Deep.RegionWith
import Derived.Deep.RegionHeld3
import Derived.Lib.ItoaNum
import Derived.Lib.Atoi
import Derived.Test.YtmpkaimhjdkheaaGreatDoorB0
set_option linter.unusedSimpArgs false
set_option linter.unusedVariables false

namespace Go.Dig
set_option linter.unusedVariables false

/-- A digit, or 0 behind the last one. -/
def dg (l : List Nat) (i : Nat) : Nat := l[i]?.getD 0
theorem dg_some {l : List Nat} {i d : Nat} (h : l[i]? = some d) : dg l i = d := by simp [dg, h]
theorem dg_none {l : List Nat} {i : Nat} (h : l.length ≤ i) : dg l i = 0 := by simp [dg, List.getElem?_eq_none h]
theorem dg_lt {B : Nat} {l : List Nat} (h : Digs B l) (hB : 1 ≤ B) (i : Nat) : dg l i < B := by
  rcases Nat.lt_or_ge i l.length with h1 | h1
  · rw [dg_some (List.getElem?_eq_getElem h1)]; exact h _ (List.getElem_mem h1)
  · rw [dg_none h1]; omega
theorem val_take_dg (B : Nat) (l : List Nat) (k : Nat) : val B (l.take (k + 1)) = val B (l.take k) + B ^ k * dg l k := by
  rcases Nat.lt_or_ge k l.length with h | h
  · rw [val_take (List.getElem?_eq_getElem h), dg_some (List.getElem?_eq_getElem h)]
  · rw [dg_none h, List.take_of_length_le h, List.take_of_length_le (by omega)]; simp
theorem val_drop_dg (B : Nat) (l : List Nat) (k : Nat) : val B (l.drop k) = dg l k + B * val B (l.drop (k + 1)) := by
  rcases Nat.lt_or_ge k l.length with h | h
  · rw [val_drop (List.getElem?_eq_getElem h), dg_some (List.getElem?_eq_getElem h)]
  · rw [dg_none h, List.drop_of_length_le h, List.drop_of_length_le (by omega)]; simp
theorem val_set {B : Nat} {l : List Nat} {p d : Nat} (h : l[p]? = some d) (d' : Nat) : val B (l.set p d') + B ^ p * d = val B l + B ^ p * d' := by
  induction l generalizing p with
  | nil => simp at h
  | cons x l ih =>
    cases p with
    | zero =>
      simp only [List.getElem?_cons_zero, Option.some.injEq] at h
      subst h
      rw [List.set_cons_zero, val_cons, val_cons, Nat.pow_zero, Nat.one_mul, Nat.one_mul]
      omega
    | succ p =>
      simp only [List.getElem?_cons_succ] at h
      have := ih h
      rw [List.set_cons_succ, val_cons, val_cons, Nat.pow_succ]
      have e1 : B ^ p * B * d = B * (B ^ p * d) := by rw [Nat.mul_comm (B ^ p) B, Nat.mul_assoc]
      have e2 : B ^ p * B * d' = B * (B ^ p * d') := by rw [Nat.mul_comm (B ^ p) B, Nat.mul_assoc]
      rw [e1, e2]
      have := congrArg (fun t => B * t) this
      simp only [Nat.mul_add] at this
      omega

/-- The sum of the first i digits of a and b: digits o and a carry. -/
structure AddI (B : Nat) (a b : List Nat) (i : Nat) (o : List Nat) (c : Nat) : Prop where
  len : o.length = i
  digs : Digs B o
  carry : c ≤ 1
  eq : val B o + B ^ i * c = val B (a.take i) + val B (b.take i)
theorem AddI.start (B : Nat) (a b : List Nat) : AddI B a b 0 [] 0 := ⟨rfl, Digs.nil B, by omega, by simp⟩
theorem AddI.step {B : Nat} {a b : List Nat} {i : Nat} {o : List Nat} {c : Nat} (hB : 2 ≤ B) (ha : Digs B a) (hb : Digs B b) (h : AddI B a b i o c) :
    AddI B a b (i + 1) (o ++ [(dg a i + dg b i + c) % B]) ((dg a i + dg b i + c) / B) := by
  have h1 := dg_lt ha (by omega) i
  have h2 := dg_lt hb (by omega) i
  have h3 := h.carry
  refine ⟨by simp [h.len], h.digs.snoc (Nat.mod_lt _ (by omega)), ?_, ?_⟩
  · have : (dg a i + dg b i + c) / B < 2 := by rw [Nat.div_lt_iff_lt_mul (by omega)]; omega
    omega
  · rw [val_snoc, h.len, val_take_dg, val_take_dg, Nat.pow_succ, Nat.mul_assoc, Nat.add_assoc, ← Nat.mul_add, Nat.mod_add_div, Nat.mul_add, Nat.mul_add]
    have := h.eq
    omega
theorem AddI.done {B : Nat} {a b : List Nat} {i : Nat} {o : List Nat} (h : AddI B a b i o 0) (ha : a.length ≤ i) (hb : b.length ≤ i) : val B o = val B a + val B b := by
  have := h.eq
  rw [List.take_of_length_le ha, List.take_of_length_le hb] at this
  simpa using this

theorem AddI.carry0 {B : Nat} {a b : List Nat} {k m : Nat} {o : List Nat} {c : Nat} (hB : 2 ≤ B) (h : AddI B a b k o c) (ha : Digs B a) (hb : Digs B b) (hla : a.length ≤ m) (hlb : b.length ≤ m) (hk : m + 1 ≤ k) : c = 0 := by
  have e := h.eq
  rw [List.take_of_length_le (by omega), List.take_of_length_le (by omega)] at e
  have h1 := Nat.lt_of_lt_of_le (val_lt ha) (Nat.pow_le_pow_right (by omega) hla)
  have h2 := Nat.lt_of_lt_of_le (val_lt hb) (Nat.pow_le_pow_right (by omega) hlb)
  rcases Nat.eq_zero_or_pos c with h3 | h3
  · exact h3
  · exfalso
    have h4 : B ^ (m + 1) ≤ B ^ k * c := Nat.le_trans (Nat.pow_le_pow_right (by omega) hk) (Nat.le_mul_of_pos_right _ h3)
    rw [Nat.pow_succ] at h4
    have h5 : B ^ m * 2 ≤ B ^ m * B := Nat.mul_le_mul_left _ hB
    omega
/-- The difference of the first i digits: digits o and a borrow. -/
structure SubI (B : Nat) (a b : List Nat) (i : Nat) (o : List Nat) (r : Nat) : Prop where
  len : o.length = i
  digs : Digs B o
  borrow : r ≤ 1
  eq : val B o + val B (b.take i) = val B (a.take i) + B ^ i * r
theorem SubI.start (B : Nat) (a b : List Nat) : SubI B a b 0 [] 0 := ⟨rfl, Digs.nil B, by omega, by simp⟩
theorem SubI.step {B : Nat} {a b : List Nat} {i : Nat} {o : List Nat} {r v r' : Nat} (hB : 2 ≤ B) (ha : Digs B a) (hb : Digs B b) (h : SubI B a b i o r) (hv : v < B) (hr : r' ≤ 1) (he : v + dg b i + r = dg a i + B * r') :
    SubI B a b (i + 1) (o ++ [v]) r' := by
  refine ⟨by simp [h.len], h.digs.snoc hv, hr, ?_⟩
  rw [val_snoc, h.len, val_take_dg, val_take_dg, Nat.pow_succ, Nat.mul_assoc]
  have := h.eq
  have h2 : B ^ i * (v + dg b i + r) = B ^ i * (dg a i + B * r') := by rw [he]
  simp only [Nat.mul_add] at h2
  omega
theorem SubI.done {B : Nat} {a b : List Nat} {o : List Nat} {r : Nat} (hB : 1 ≤ B) (h : SubI B a b a.length o r) (hb : b.length ≤ a.length) (hle : val B b ≤ val B a) : val B o = val B a - val B b := by
  have := h.eq
  rw [List.take_of_length_le (Nat.le_refl _), List.take_of_length_le hb] at this
  have hlt := val_lt h.digs
  rw [h.len] at hlt
  have hr := h.borrow
  have hr0 : r = 0 ∨ r = 1 := by omega
  rcases hr0 with rfl | rfl
  · simp at this; omega
  · rw [Nat.mul_one] at this; omega

/-- A product: i whole rows, and k digits of the next. -/
structure MulI (B : Nat) (a b : List Nat) (i k : Nat) (o : List Nat) (c : Nat) : Prop where
  len : o.length = a.length + b.length
  digs : Digs B o
  zero : ∀ j d, i + b.length ≤ j → o[j]? = some d → d = 0
  carry : c < B
  eq : val B o + B ^ (i + k) * c = val B (a.take i) * val B b + B ^ i * (dg a i * val B (b.take k))
theorem MulI.start {B : Nat} (hB : 1 ≤ B) (a b : List Nat) : MulI B a b 0 0 (List.replicate (a.length + b.length) 0) 0 := by
  refine ⟨by simp, Digs.zeros hB _, fun j d _ h => ?_, by omega, ?_⟩
  · have := List.mem_of_getElem? h
    exact (List.mem_replicate.1 this).2
  · simp [val_zeros]
theorem MulI.step {B : Nat} {a b : List Nat} {i k : Nat} {o : List Nat} {c d : Nat} (hB : 1 ≤ B) (ha : Digs B a) (hb : Digs B b) (h : MulI B a b i k o c) (hk : k < b.length) (hd : o[i + k]? = some d) :
    (d + dg a i * dg b k + c) / B < B ∧ MulI B a b i (k + 1) (o.set (i + k) ((d + dg a i * dg b k + c) % B)) ((d + dg a i * dg b k + c) / B) := by
  have h1 := dg_lt ha hB i
  have h2 := dg_lt hb hB k
  have h3 := h.carry
  have h4 := h.digs.at_ hd
  have hlt : (d + dg a i * dg b k + c) / B < B := by
    rw [Nat.div_lt_iff_lt_mul (by omega)]
    have h5 : dg a i * dg b k ≤ (B - 1) * (B - 1) := Nat.mul_le_mul (by omega) (by omega)
    obtain ⟨m, rfl⟩ : ∃ m, B = m + 1 := ⟨B - 1, by omega⟩
    simp only [Nat.add_sub_cancel] at h5
    have h6 : (m + 1) * (m + 1) = m * m + m + m + 1 := by rw [Nat.mul_add, Nat.add_mul]; omega
    omega
  refine ⟨hlt, by simp [h.len], h.digs.set_ (Nat.mod_lt _ (by omega)), ?_, hlt, ?_⟩
  · intro j e hj he
    rw [List.getElem?_set_ne (by omega)] at he
    exact h.zero j e hj he
  · have h5 := val_set (B := B) hd ((d + dg a i * dg b k + c) % B)
    have h6 := h.eq
    rw [val_take_dg, Nat.mul_add, Nat.mul_add, ← Nat.add_assoc i k 1]
    have e1 : B ^ (i + k + 1) * ((d + dg a i * dg b k + c) / B) + B ^ (i + k) * ((d + dg a i * dg b k + c) % B) = B ^ (i + k) * (d + dg a i * dg b k + c) := by
      rw [Nat.pow_succ, Nat.mul_assoc, ← Nat.mul_add, Nat.div_add_mod]
    have e2 : B ^ i * (dg a i * (B ^ k * dg b k)) = B ^ (i + k) * (dg a i * dg b k) := by
      rw [Nat.pow_add, Nat.mul_assoc, Nat.mul_left_comm (dg a i)]
    rw [e2]
    simp only [Nat.mul_add] at e1
    omega
theorem MulI.row {B : Nat} {a b : List Nat} {i : Nat} {o : List Nat} {c : Nat} (hB : 1 ≤ B) (h : MulI B a b i b.length o c) (hi : i < a.length) : MulI B a b (i + 1) 0 (o.set (i + b.length) c) 0 := by
  have hd : o[i + b.length]? = some 0 := by
    have hl : i + b.length < o.length := by rw [h.len]; omega
    have h1 := List.getElem?_eq_getElem hl
    have h2 := h.zero _ _ (Nat.le_refl _) h1
    rw [h1, h2]
  refine ⟨by simp [h.len], h.digs.set_ h.carry, ?_, by omega, ?_⟩
  · intro j e hj he
    rw [List.getElem?_set_ne (by omega)] at he
    exact h.zero j e (by omega) he
  · have h5 := val_set (B := B) hd c
    have h6 := h.eq
    rw [List.take_of_length_le (Nat.le_refl b.length)] at h6
    rw [val_take_dg, List.take_zero, val_nil, Nat.mul_zero, Nat.mul_zero, Nat.mul_zero, Nat.add_mul, Nat.mul_assoc]
    rw [Nat.mul_zero] at h5
    omega
theorem MulI.done {B : Nat} {a b : List Nat} {i : Nat} {o : List Nat} {c : Nat} (h : MulI B a b a.length 0 o 0) : val B o = val B a * val B b := by
  have := h.eq
  rw [List.take_of_length_le (Nat.le_refl a.length), List.take_zero] at this
  simpa using this

/-- A sign and an amount, as an integer. -/
def sg (s : Bool) (m : Nat) : Int := if s then -(m : Int) else m
theorem sg_abs (s : Bool) (m : Nat) : (sg s m).natAbs = m := by unfold sg; split <;> omega
theorem sg_neg (s : Bool) (m : Nat) : decide (sg s m < 0) = (s && decide (0 < m)) := by
  unfold sg
  cases s <;> simp
theorem sg_of (z : Int) : sg (decide (z < 0)) z.natAbs = z := by
  unfold sg
  by_cases h : z < 0 <;> simp [h] <;> omega

/-- What comparing two numbers gives. -/
def cmpI (x y : Int) : Int := if x < y then -1 else if y < x then 1 else 0
theorem cmpI_lt {x y : Int} (h : x < y) : cmpI x y = -1 := by unfold cmpI; rw [if_pos h]
theorem cmpI_gt {x y : Int} (h : y < x) : cmpI x y = 1 := by unfold cmpI; rw [if_neg (by omega), if_pos h]
theorem cmpI_eq {x y : Int} (h : x = y) : cmpI x y = 0 := by unfold cmpI; rw [if_neg (by omega), if_neg (by omega)]

end Go.Dig

namespace Go.Mem
set_option linter.unusedVariables false
open Go.RowKit

theorem own_form {w : World} {base : Nat} {e : TypeId} {A : Option Addr} {n c : Nat} {xs : List Value} (h : w.ownsRow base e 1 (.slice A n c) n xs) (hn : 0 < n) : ∃ g, A = some ⟨g, 0, none⟩ ∧ base ≤ g ∧ g < w.heap.size ∧ ∀ i, w.frozen? ⟨g, i, none⟩ = false := by
  rcases h.2 with ⟨_, rfl⟩ | ⟨g, cap, cur, hv, hb, hg, _⟩
  · omega
  · injection hv with hA
    exact ⟨g, hA, hb, (Array.getElem?_eq_some_iff.1 hg).1, fun i => by simp [World.frozen?, hg]⟩
theorem own_cell {w : World} {base : Nat} {e : TypeId} {g n c : Nat} {xs : List Value} (h : w.ownsRow base e 1 (.slice (some ⟨g, 0, none⟩) n c) n xs) {i : Nat} {u : Value} (hu : xs[i]? = some u) : w.cell? ⟨g, i, none⟩ = some u := by
  have hr := Rd.of_own h
  have hi : i < n := by have := (List.getElem?_eq_some_iff.1 hu).1; have := hr.1; omega
  obtain ⟨ad, hA, hc⟩ := hr.2 (by omega)
  injection hA with hA
  subst hA
  have := hc i u hu
  rwa [Addr.add_lit, Nat.zero_add] at this
theorem own_set {w : World} {base : Nat} {e : TypeId} {g n c : Nat} {xs : List Value} (h : w.ownsRow base e 1 (.slice (some ⟨g, 0, none⟩) n c) n xs) (i : Nat) (u : Value) (hi : i < n) : (w.setCell ⟨g, i, none⟩ u).ownsRow base e 1 (.slice (some ⟨g, 0, none⟩) n c) n (xs.set i u) := by
  refine ⟨by simpa using h.1, ?_⟩
  rcases h.2 with ⟨hv, _⟩ | ⟨g', cap, cur, hv, hb, hg, h1, h2, h3, h4⟩
  · injection hv with hA; cases hA
  · injection hv with hA hn hc
    injection hA with hA
    injection hA with hA
    subst hA hc
    refine .inr ⟨g, c, cur.setIfInBounds i u, rfl, hb, ?_, h1, h2, by simpa using h3, ?_⟩
    · simp [World.setCell, Array.getElem?_modify, hg]
    · rw [Array.toList_setIfInBounds, List.take_set, h4]
end Go.Mem

namespace Go.Mem
set_option linter.unusedVariables false
open Go.RowKit
theorem wpList_mk {P : Program} {w : World} {t e : TypeId} {z : Value} {bytes : Nat} (hE : Elem P t e z bytes) (hz : z.cells = #[z]) {ops : Array Oper} {rest : List Oper} {o : Oper} {a : Act} {Q : Exit → Act → World → Prop} (hgd : o.guard = none) (l c : Operand)
    (ho : o.op = Op.makeSlice t l c) {kl kc : IntKind} {L C : Int} {n : Nat} (hl : a.eval l = .int kl L) (hc : a.eval c = .int kc C) (hL : L = (n : Int)) (hC : C = (n : Int)) (b2 : bytes * n ≤ 281474976710656) (b3 : n ≤ maxLen)
    (h : ∀ w', w'.ownsRow w.heap.size e 1 (.slice (some ⟨w.heap.size, 0, none⟩) n n) n (List.replicate n z) → New w w' → w'.heap.size = w.heap.size + 1 → wpList P ops Q rest (a.put o.dst (.slice (some ⟨w.heap.size, 0, none⟩) n n)) w') :
    wpList P ops Q (o :: rest) a w := by
  obtain ⟨ht, ⟨i, hi, hz0, hz1, hz2⟩, hzs⟩ := hE
  refine wpList_plain hgd fun K hK => ?_
  subst hL hC
  have h63' : (n : Int) ≤ 9223372036854775807 := by
    have h := b3
    simp [maxLen] at h
    omega
  have hb' : (i.bytes : Int) * (n : Int) ≤ 281474976710656 := by
    rw [hz2]
    have h : ((bytes * n : Nat) : Int) ≤ 281474976710656 := by omega
    rwa [Int.natCast_mul] at h
  have hr := run_make (P := P) w t e i z ht hi hz0 kl kc n n (by omega) (Int.le_refl _) hb' h63'
  simp only [Int.toNat_natCast, hz1, Nat.mul_one] at hr
  have ho1 := World.ownsRow_lit (e := e) (size := 1) w (madeCells z.cells n) n (Nat.le_refl _) b3 (by rw [size_madeCells, Nat.mul_one])
  rw [hz, toList_madeCells_one] at ho1
  rw [hz] at hr
  unfold Oper.wp
  simp [execOp, ho, hl, hc, hr, Result.andThen]
  exact hK _ _ (h _ ho1 ((Chg.refl _ w).alloc _) (by simp))
end Go.Mem

namespace Go.Mem
set_option linter.unusedVariables false
open Go.RowKit
section
variable {P : Program} {fn : Func} {p q r : Tmp} {ty ty2 ty3 : TypeId} {w : World} {g g2 g3 : Nat} {t t2 t3 : TypeId} {cs cs2 cs3 : Array Value} {d d2 : TypeDesc}
/-- The type ty is a struct or an array of that many cells. -/
def Agg (P : Program) (ty : TypeId) (n : Nat) : Prop := ∃ d, P.underlying ty = some d ∧ (match d with | .struct _ | .array _ _ => true | _ => false) = true ∧ (P.info? ty).map (·.size) = some n
theorem Agg.load (h : Agg P ty cs.size) (hb : Blk w g t cs) : (loadVar ty ⟨g, 0, none⟩).run P w = .ok (.agg cs) w := by
  obtain ⟨d, hu, hd, hi⟩ := h
  exact run_loadVar_row w g t ty cs (0, 0) d hb hu (by cases d <;> first | rfl | (simp at hd)) hi
/-- The type ty is no struct and no array. -/
def Flat (P : Program) (ty : TypeId) : Prop := ∃ d, P.underlying ty = some d ∧ (match d with | .struct _ | .array _ _ => true | _ => false) = false
theorem Flat.load {v : Value} (h : Flat P ty) (hb : Blk w g t #[v]) : (loadVar ty ⟨g, 0, none⟩).run P w = .ok v w := by
  obtain ⟨d, hu, hd⟩ := h
  have hc := hb.cell 0 (u := v) rfl
  cases d <;> simp_all [loadVar, isAgg, run_underlying hu]
theorem res_c (h : fn.results = #[.cell p ty]) (tmps : Array Value) (hp : tmps.getD p undef = .pointer (some ⟨g, 0, none⟩)) {v : Value} (hl : (loadVar ty ⟨g, 0, none⟩).run P w = .ok v w) :
    (results fn tmps).run P w = .ok v w := by
  have hp' : tmps[p]?.getD undef = .pointer (some ⟨g, 0, none⟩) := by simpa using hp
  simp [results, h, hp', asAddr, hl]
theorem res_ct (h : fn.results = #[.cell p ty, .tmp q]) (tmps : Array Value) (hp : tmps.getD p undef = .pointer (some ⟨g, 0, none⟩)) {v u : Value} (hl : (loadVar ty ⟨g, 0, none⟩).run P w = .ok v w) (hq : tmps.getD q undef = u) :
    (results fn tmps).run P w = .ok (.tuple #[v, u]) w := by
  have hp' : tmps[p]?.getD undef = .pointer (some ⟨g, 0, none⟩) := by simpa using hp
  have hq' : tmps[q]?.getD undef = u := by simpa using hq
  simp [results, h, hp', hq', asAddr, hl]
theorem res_cct (h : fn.results = #[.cell p ty, .cell q ty2, .tmp r]) (tmps : Array Value) (hp : tmps.getD p undef = .pointer (some ⟨g, 0, none⟩)) {v v2 u : Value} (hl : (loadVar ty ⟨g, 0, none⟩).run P w = .ok v w)
    (hq : tmps.getD q undef = .pointer (some ⟨g2, 0, none⟩)) (hl2 : (loadVar ty2 ⟨g2, 0, none⟩).run P w = .ok v2 w) (hr : tmps.getD r undef = u) :
    (results fn tmps).run P w = .ok (.tuple #[v, v2, u]) w := by
  have hp' : tmps[p]?.getD undef = .pointer (some ⟨g, 0, none⟩) := by simpa using hp
  have hq' : tmps[q]?.getD undef = .pointer (some ⟨g2, 0, none⟩) := by simpa using hq
  have hr' : tmps[r]?.getD undef = u := by simpa using hr
  simp [results, h, hp', hq', hr', asAddr, hl, hl2]
theorem res_ccc (h : fn.results = #[.cell p ty, .cell q ty2, .cell r ty3]) (tmps : Array Value) (hp : tmps.getD p undef = .pointer (some ⟨g, 0, none⟩)) {v v2 v3 : Value} (hl : (loadVar ty ⟨g, 0, none⟩).run P w = .ok v w)
    (hq : tmps.getD q undef = .pointer (some ⟨g2, 0, none⟩)) (hl2 : (loadVar ty2 ⟨g2, 0, none⟩).run P w = .ok v2 w) (hr : tmps.getD r undef = .pointer (some ⟨g3, 0, none⟩)) (hl3 : (loadVar ty3 ⟨g3, 0, none⟩).run P w = .ok v3 w) :
    (results fn tmps).run P w = .ok (.tuple #[v, v2, v3]) w := by
  have hp' : tmps[p]?.getD undef = .pointer (some ⟨g, 0, none⟩) := by simpa using hp
  have hq' : tmps[q]?.getD undef = .pointer (some ⟨g2, 0, none⟩) := by simpa using hq
  have hr' : tmps[r]?.getD undef = .pointer (some ⟨g3, 0, none⟩) := by simpa using hr
  simp [results, h, hp', hq', hr', asAddr, hl, hl2, hl3]
theorem res_tct (h : fn.results = #[.tmp p, .cell q ty2, .tmp r]) (tmps : Array Value) {v v2 u : Value} (hp : tmps.getD p undef = v)
    (hq : tmps.getD q undef = .pointer (some ⟨g2, 0, none⟩)) (hl2 : (loadVar ty2 ⟨g2, 0, none⟩).run P w = .ok v2 w) (hr : tmps.getD r undef = u) :
    (results fn tmps).run P w = .ok (.tuple #[v, v2, u]) w := by
  have hp' : tmps[p]?.getD undef = v := by simpa using hp
  have hq' : tmps[q]?.getD undef = .pointer (some ⟨g2, 0, none⟩) := by simpa using hq
  have hr' : tmps[r]?.getD undef = u := by simpa using hr
  simp [results, h, hp', hq', hr', asAddr, hl2]
end

section
variable {w w' : World} {A : Option Addr} {n g : Nat} {t : TypeId} {cs : Array Value} {xs : List Value}
/-- A slice does not lie in a block that holds none of its values. -/
theorem Rd.apart (h : Rd w A n xs) (hb : Blk w g t cs) (hne : ∀ u ∈ xs, u ∉ cs.toList) (hn : 0 < n) : blk A ≠ some g := by
  obtain ⟨ad, u, rfl, hu, hc⟩ := h.at_ hn
  intro e
  have e : ad.block = g := by simpa [blk] using e
  have hm := List.mem_of_getElem? hu
  unfold World.cell? at hc
  rw [block_add, e] at hc
  unfold Blk at hb
  rw [hb] at hc
  simp only at hc
  split at hc
  · cases hc
  · exact hne u hm (by have := Array.mem_of_getElem? hc; simpa using this)
theorem Rd.store (h : Rd w A n xs) (hb : Blk w g t cs) (hne : ∀ u ∈ xs, u ∉ cs.toList) (hc : Chg (fun k => k = g) w w') : Rd w' A n xs := by
  rcases Nat.eq_zero_or_pos n with h0 | h0
  · subst h0; exact ⟨h.1, fun h => absurd h (by omega)⟩
  · exact h.chg hc (fun k hk _ e => h.apart hb hne h0 (by rw [hk, e]))
/-- No number among the values. -/
def NoInt (l : List Value) : Prop := ∀ k z, Value.int k z ∉ l
theorem Blk.set2 {x y : Value} (h : Blk w g t #[x, y]) (a b : Value) : Blk ((w.setCell ⟨g, 0, none⟩ a).setCell ⟨g, 1, none⟩ b) g t #[a, b] := (h.set_ 0 a).set_ 1 b
theorem Blk.set1 {x : Value} (h : Blk w g t #[x]) (a : Value) : Blk (w.setCell ⟨g, 0, none⟩ a) g t #[a] := h.set_ 0 a
theorem far1 {p : Addr} {v : Value} (h : w.cell? p = some v) (hne : p.block ≠ g) (x : Value) : (w.setCell ⟨g, 0, none⟩ x).cell? p = some v :=
  (World.cell?_of_block (Below.heap_setCell w ⟨g, 0, none⟩ x p.block hne)).trans h
theorem far2 {p : Addr} {v : Value} (h : w.cell? p = some v) (hne : p.block ≠ g) (x y : Value) : ((w.setCell ⟨g, 0, none⟩ x).setCell ⟨g, 1, none⟩ y).cell? p = some v :=
  (World.cell?_of_block (Below.heap_setCell _ ⟨g, 1, none⟩ y p.block hne)).trans (far1 h hne x)
theorem Chg.at1 (w : World) (g : Nat) (a : Value) : Chg (fun k => k = g) w (w.setCell ⟨g, 0, none⟩ a) := (Chg.refl (fun k => k = g) w).setCell (p := ⟨g, 0, none⟩) (fun _ => rfl) _
theorem Chg.at2 (w : World) (g : Nat) (a b : Value) : Chg (fun k => k = g) w ((w.setCell ⟨g, 0, none⟩ a).setCell ⟨g, 1, none⟩ b) := ((Chg.refl (fun k => k = g) w).setCell (p := ⟨g, 0, none⟩) (fun _ => rfl) _).setCell (p := ⟨g, 1, none⟩) (fun _ => rfl) _
/-- A change of a block that is the call's own. -/
theorem Chg.owned {S : Nat → Prop} {w0 : World} (h : New w0 w) (hc : Chg S w w') (hs : ∀ k, S k → w0.heap.size ≤ k) : New w0 w' := h.trans hc (fun k hk hS => by have := hs k hS; omega)
end

/-! ### a call in a world in which blocks have just been laid -/
section
variable {P : Program} {f : Nat} {args : Array Value} {w : World} {c1 c2 c3 c4 c5 : Array Value} {t1 t2 t3 t4 t5 : TypeId} {K : Ending → World → Prop}
theorem Calls.new1 (h : ∀ W, Blk W w.heap.size t1 c1 → New w W → W.heap.size = w.heap.size + 1 → Calls P f args W K) : Calls P f args (w.alloc (.cells c1 t1)) K :=
  h _ (Blk.new _ _ _) ((Chg.refl _ w).alloc _) (by simp)
theorem Calls.new2 (h : ∀ W, Blk W w.heap.size t1 c1 → Blk W (w.heap.size + 1) t2 c2 → New w W → W.heap.size = w.heap.size + 2 → Calls P f args W K) : Calls P f args ((w.alloc (.cells c1 t1)).alloc (.cells c2 t2)) K :=
  Calls.new1 fun W hb hn hz => h W ((Blk.new w t1 c1).chg hn (fun h => h)) (by rw [World.size_alloc] at hb; exact hb) (((Chg.refl _ w).alloc _).new hn) (by rw [hz]; simp)
theorem Calls.new3 (h : ∀ W, Blk W w.heap.size t1 c1 → Blk W (w.heap.size + 1) t2 c2 → Blk W (w.heap.size + 1 + 1) t3 c3 → New w W → W.heap.size = w.heap.size + 3 → Calls P f args W K) : Calls P f args (((w.alloc (.cells c1 t1)).alloc (.cells c2 t2)).alloc (.cells c3 t3)) K :=
  Calls.new2 fun W hb hb' hn hz => h W ((Blk.new w t1 c1).chg hn (fun h => h)) (by rw [World.size_alloc] at hb; exact hb) (by rw [World.size_alloc] at hb'; exact hb') (((Chg.refl _ w).alloc _).new hn) (by rw [hz]; simp)
theorem Calls.new4 (h : ∀ W, Blk W w.heap.size t1 c1 → Blk W (w.heap.size + 1) t2 c2 → Blk W (w.heap.size + 1 + 1) t3 c3 → Blk W (w.heap.size + 1 + 1 + 1) t4 c4 → New w W → W.heap.size = w.heap.size + 4 → Calls P f args W K) : Calls P f args ((((w.alloc (.cells c1 t1)).alloc (.cells c2 t2)).alloc (.cells c3 t3)).alloc (.cells c4 t4)) K :=
  Calls.new3 fun W hb hb' hb'' hn hz => h W ((Blk.new w t1 c1).chg hn (fun h => h)) (by rw [World.size_alloc] at hb; exact hb) (by rw [World.size_alloc] at hb'; exact hb') (by rw [World.size_alloc] at hb''; exact hb'') (((Chg.refl _ w).alloc _).new hn) (by rw [hz]; simp)
/-- A walk in such a world. -/
theorem Code.new1 {c : Code} {Q : Exit → Act → World → Prop} {a : Act} (h : ∀ W, Blk W w.heap.size t1 c1 → New w W → W.heap.size = w.heap.size + 1 → Code.wp P c Q a W) : Code.wp P c Q a (w.alloc (.cells c1 t1)) :=
  h _ (Blk.new _ _ _) ((Chg.refl _ w).alloc _) (by simp)
theorem Code.new2 {c : Code} {Q : Exit → Act → World → Prop} {a : Act} (h : ∀ W, Blk W w.heap.size t1 c1 → Blk W (w.heap.size + 1) t2 c2 → New w W → W.heap.size = w.heap.size + 2 → Code.wp P c Q a W) : Code.wp P c Q a ((w.alloc (.cells c1 t1)).alloc (.cells c2 t2)) :=
  Code.new1 fun W hb hn hz => h W ((Blk.new w t1 c1).chg hn (fun h => h)) (by rw [World.size_alloc] at hb; exact hb) (((Chg.refl _ w).alloc _).new hn) (by rw [hz]; simp)
theorem Code.new3 {c : Code} {Q : Exit → Act → World → Prop} {a : Act} (h : ∀ W, Blk W w.heap.size t1 c1 → Blk W (w.heap.size + 1) t2 c2 → Blk W (w.heap.size + 1 + 1) t3 c3 → New w W → W.heap.size = w.heap.size + 3 → Code.wp P c Q a W) : Code.wp P c Q a (((w.alloc (.cells c1 t1)).alloc (.cells c2 t2)).alloc (.cells c3 t3)) :=
  Code.new2 fun W hb hb' hn hz => h W ((Blk.new w t1 c1).chg hn (fun h => h)) (by rw [World.size_alloc] at hb; exact hb) (by rw [World.size_alloc] at hb'; exact hb') (((Chg.refl _ w).alloc _).new hn) (by rw [hz]; simp)
theorem Code.new4 {c : Code} {Q : Exit → Act → World → Prop} {a : Act} (h : ∀ W, Blk W w.heap.size t1 c1 → Blk W (w.heap.size + 1) t2 c2 → Blk W (w.heap.size + 1 + 1) t3 c3 → Blk W (w.heap.size + 1 + 1 + 1) t4 c4 → New w W → W.heap.size = w.heap.size + 4 → Code.wp P c Q a W) : Code.wp P c Q a ((((w.alloc (.cells c1 t1)).alloc (.cells c2 t2)).alloc (.cells c3 t3)).alloc (.cells c4 t4)) :=
  Code.new3 fun W hb hb' hb'' hn hz => h W ((Blk.new w t1 c1).chg hn (fun h => h)) (by rw [World.size_alloc] at hb; exact hb) (by rw [World.size_alloc] at hb'; exact hb') (by rw [World.size_alloc] at hb''; exact hb'') (((Chg.refl _ w).alloc _).new hn) (by rw [hz]; simp)
end
end Go.Mem

namespace Go.Proofs.YtmpkaimhjdkheaaGreatDoor
set_option linter.unusedVariables false
open Go.RowKit Go.Mem Go.Dig

theorem noInt_two' (s : Bool) (A : Option Addr) (n c : Nat) : NoInt (#[Value.bool s, Value.slice A n c] : Array Value).toList := fun k z h => by simp at h
theorem aggN : Agg Tryz.prog 26 2 := ⟨_, Tryz.underlying26, rfl, by kernel_rfl⟩
/-- The amount m lies in a slice, in base 10000. -/
def DM (w : World) (A : Option Addr) (n c : Nat) (m : Nat) : Prop := ∃ l, Rd w A n (nv .i64 l) ∧ n ≤ c ∧ c ≤ 9223372036854775807 ∧ Num 10000 l m
theorem DM.new {w w' : World} {A : Option Addr} {n c m : Nat} (h : DM w A n c m) (hn : New w w') : DM w' A n c m := by
  obtain ⟨l, h1, h2⟩ := h
  exact ⟨l, h1.new hn, h2⟩
theorem DM.store {w w' : World} {A : Option Addr} {n c m g : Nat} {t : TypeId} {cs : Array Value} (h : DM w A n c m) (hb : Blk w g t cs) (hi : NoInt cs.toList) (hc : Chg (fun k => k = g) w w') : DM w' A n c m := by
  obtain ⟨l, h1, h2⟩ := h
  refine ⟨l, h1.store hb (fun u hu => ?_) hc, h2⟩
  obtain ⟨z, _, rfl⟩ := List.mem_map.1 hu
  exact hi _ _
theorem DM.zero (w : World) : DM w none 0 0 0 := ⟨[], Rd.nil _ _, Nat.le_refl _, by omega, Num.zero _⟩
theorem DM.pos {w : World} {A : Option Addr} {n c m : Nat} (h : DM w A n c m) : n = 0 ↔ m = 0 := by
  obtain ⟨l, h1, _, _, h4⟩ := h
  rw [← h4.nil_iff (by omega)]
  have := h1.len
  rw [nv_length] at this
  constructor
  · intro h; exact List.eq_nil_of_length_eq_zero (by omega)
  · intro h; subst h; simpa using this.symm
theorem DM.lt {w : World} {A : Option Addr} {n c m : Nat} (h : DM w A n c m) {k : Nat} (hk : n ≤ k) : m < 10000 ^ k := by
  obtain ⟨l, h1, _, _, h4⟩ := h
  exact h4.lt (by omega) (by have := h1.len; rw [nv_length] at this; omega)
theorem DM.len {w : World} {A : Option Addr} {n c m : Nat} (h : DM w A n c m) {k : Nat} (hk : m < 10000 ^ k) : n ≤ k := by
  obtain ⟨l, h1, _, _, h4⟩ := h
  have := h4.len_le (by omega) hk
  have := h1.len
  rw [nv_length] at this
  omega
/-- v is the refuterref03.N z. -/
def RN (w : World) (v : Value) (z : Int) : Prop := ∃ s A n c, v = .agg #[.bool s, .slice A n c] ∧ s = decide (z < 0) ∧ DM w A n c z.natAbs
theorem RN.new {w w' : World} {v : Value} {z : Int} (h : RN w v z) (hn : New w w') : RN w' v z := by
  obtain ⟨s, A, n, c, h1, h2, h3⟩ := h
  exact ⟨s, A, n, c, h1, h2, h3.new hn⟩
theorem RN.store {w w' : World} {v : Value} {z : Int} {g : Nat} {t : TypeId} {cs : Array Value} (h : RN w v z) (hb : Blk w g t cs) (hi : NoInt cs.toList) (hc : Chg (fun k => k = g) w w') : RN w' v z := by
  obtain ⟨s, A, n, c, h1, h2, h3⟩ := h
  exact ⟨s, A, n, c, h1, h2, h3.store hb hi hc⟩
theorem RN.zero (w : World) : RN w (.agg #[.bool false, .slice none 0 0]) 0 := ⟨_, _, _, _, rfl, rfl, DM.zero w⟩

set_option maxHeartbeats 1000000 in
theorem normal_any (s : Bool) (A : Option Addr) (n c : Nat) (l : List Nat) (w : World) (hr : Rd w A n (nv .i64 l)) (hnc : n ≤ c) (hc : c ≤ 9223372036854775807) :
    Calls Tryz.prog 20 #[.bool s, .slice A n c] w fun e w' => e = .returned (.agg #[.bool (s && decide (0 < (Dig.trim l).length)), .slice A (Dig.trim l).length c]) ∧ New w w' := by
  have hl : l.length = n := by have := hr.len; rwa [nv_length] at this
  obtain ⟨T, hT⟩ : ∃ T, (Dig.trim l).length = T := ⟨_, rfl⟩
  rw [hT]
  obtain ⟨b, hb⟩ : ∃ b, (s && decide (0 < T)) = b := ⟨_, rfl⟩
  rw [hb]
  have H0 := Lib.hid (And.intro hl (And.intro hr (And.intro hT hb)))
  clear hl hr hT hb
  have hup := fun (k : Nat) (i : Int) (hi : i = (k : Int)) (m : Nat) (hk : k ≤ c) (W : World) => run_upto elemInts .i64 A m c k i hi hk W
  have HUP := Lib.hid hup
  clear hup
  go_enter Tryz.func20, Tryz.ntmps20
  go_wp2
  obtain ⟨W, hW⟩ : ∃ W, w.alloc (.cells #[.bool false, .slice none 0 0] 26) = W := ⟨_, rfl⟩
  have HB : Hid (Blk W w.heap.size 26 #[.bool false, .slice none 0 0] ∧ New w W) := by rw [← hW]; exact ⟨Blk.new _ _ _, (Chg.refl _ w).alloc _⟩
  rw [hW]
  clear hW
  go_loopw [1] (fun v wr => ∃ k : Nat, v = .slice A k c ∧ k ≤ n ∧ Hid ((Dig.trim (l.take k)).length = T) ∧ wr = W) (fun v _ => match v with | .slice _ k _ => k | _ => 0)
  case atStart =>
    obtain ⟨hl, hr, hT, hb⟩ := H0.out
    exact ⟨n, rfl, Nat.le_refl _, by show _ = _; rw [List.take_of_length_le (by omega), hT], rfl⟩
  case round =>
    obtain ⟨k, rfl, hk, HK, rfl⟩ := hrel
    have hc0 := HB.out.1.cell 0 (u := .bool false) rfl
    have hc1 := HB.out.1.cell 1 (u := .slice none 0 0) rfl
    have hf0 := HB.out.1.frozen 0
    have hf1 := HB.out.1.frozen 1
    by_cases h0 : k = 0
    · subst h0
      have hTk : T = 0 := by
        have := HK.out
        simp [Dig.trim] at this
        omega
      have hbv : b = false := by
        have hb := H0.out.2.2.2
        rw [← hb, hTk]; simp
      subst hTk
      subst hbv
      cases s
      all_goals
        go_wp2
        refine bodyPost_ret (res_c rfl _ rfl (aggN.load (HB.out.1.set2 _ _))) rfl ⟨rfl, ?_⟩
        exact Chg.owned HB.out.2 (Chg.at2 _ _ _ _) (fun k e => by omega)
    · obtain ⟨j, rfl⟩ : ∃ j, k = j + 1 := ⟨k - 1, by omega⟩
      have hpos : decide ((0 : Int) < ((j + 1 : Nat) : Int)) = true := by simp
      obtain ⟨hl, hr, hT, hb⟩ := H0.out
      have hr2 := hr.new HB.out.2
      obtain ⟨ad, u, rfl, hu, hcu⟩ := hr2.at_ (show j < n by omega)
      obtain ⟨z, hz, rfl⟩ := nv_at hu
      have HZ := Lib.hid hz
      clear hl hr hr2 hT hb hu hz
      by_cases hz0 : z = 0
      · subst hz0
        have hup := HUP.out j ((j + 1 : Nat) - 1 : Int) (by omega) (j + 1) (by omega)
        go_wp2
        go_roundw
        case rel => exact ⟨j, rfl, by omega, by show _ = _; rw [← HK.out, trim_step HZ.out rfl], trivial⟩
        case measure => simp
      · have hzb : ((z : Int) == 0) = false := by simp; omega
        have hTk : T = j + 1 := by
          have := HK.out
          rw [trim_stop HZ.out hz0, List.length_take, Nat.min_eq_left (by have := H0.out.1; omega)] at this
          omega
        have hbv : b = s := by
          have hb := H0.out.2.2.2
          rw [← hb, hTk]; simp
        subst hTk
        subst hbv
        cases b
        all_goals
          go_wp2
          refine bodyPost_ret (res_c rfl _ rfl (aggN.load (HB.out.1.set2 _ _))) rfl ⟨rfl, ?_⟩
          exact Chg.owned HB.out.2 (Chg.at2 _ _ _ _) (fun k e => by omega)

/-- normal: the sign and any digits. -/
theorem normal_rn (s : Bool) (A : Option Addr) (n c : Nat) (l : List Nat) (w : World) (hr : Rd w A n (nv .i64 l)) (hd : Digs 10000 l) (hnc : n ≤ c) (hc : c ≤ 9223372036854775807) :
    Calls Tryz.prog 20 #[.bool s, .slice A n c] w fun e w' => ∃ v, e = .returned v ∧ RN w' v (sg s (val 10000 l)) ∧ New w w' := by
  refine (normal_any s A n c l w hr hnc hc).mono ?_
  rintro e w' ⟨rfl, hn⟩
  have hN := Num.of_trim hd
  have hll : l.length = n := by have := hr.len; rwa [nv_length] at this
  have hlen := trim_len l
  refine ⟨_, rfl, ⟨_, _, _, _, rfl, ?_, Dig.trim l, ?_, by omega, hc, ?_⟩, hn⟩
  · rw [sg_neg]
    congr 1
    rw [decide_eq_decide]
    have := hN.nil_iff (by omega)
    constructor
    · intro h
      rcases Nat.eq_zero_or_pos (val 10000 l) with h1 | h1
      · rw [this.2 h1] at h; simp at h
      · exact h1
    · intro h
      rcases Nat.eq_zero_or_pos (Dig.trim l).length with h1 | h1
      · have := this.1 (List.eq_nil_of_length_eq_zero h1); omega
      · exact h1
  · have := (hr.new hn).take (k := (Dig.trim l).length) (by omega)
    rw [nv_take, ← trim_take] at this
    exact this
  · rw [sg_abs]; exact hN

/-- Digits of n, one after another. -/
structure OfI (n m i : Nat) (o : List Nat) : Prop where
  len : o.length = i
  digs : Digs 10000 o
  eq : val 10000 o + 10000 ^ i * m = n
theorem OfI.step {n m i : Nat} {o : List Nat} (h : OfI n m i o) : OfI n (m / 10000) (i + 1) (o ++ [m % 10000]) := by
  refine ⟨by simp [h.len], h.digs.snoc (Nat.mod_lt _ (by omega)), ?_⟩
  rw [val_snoc, h.len, Nat.pow_succ, Nat.mul_assoc, Nat.add_assoc, ← Nat.mul_add, Nat.mod_add_div]
  exact h.eq
theorem tmod_neg' (m : Nat) : (-(m : Int)).tmod 10000 = -((m % 10000 : Nat) : Int) := by rw [Int.neg_tmod, Int.tmod_eq_emod_of_nonneg (by omega)]; simp
theorem tdiv_neg' (m : Nat) : (-(m : Int)).tdiv 10000 = -((m / 10000 : Nat) : Int) := by rw [Int.neg_tdiv, Int.tdiv_eq_ediv_of_nonneg (by omega)]; simp

set_option maxHeartbeats 2000000 in
theorem of_any (n : Int) (w : World) (h1 : -9223372036854775808 ≤ n) (h2 : n ≤ 9223372036854775807) :
    Calls Tryz.prog 7 #[.int .i64 n] w fun e w' => ∃ v, e = .returned v ∧ RN w' v n ∧ New w w' := by
  obtain ⟨M, hM⟩ : ∃ M : Nat, n.natAbs = M := ⟨_, rfl⟩
  have hMb : M ≤ 9223372036854775808 := by omega
  have hM5 : M < 10000 ^ (5 - 0) := Nat.lt_of_le_of_lt hMb (by decide)
  by_cases h : n < 0
  · obtain rfl : n = -(M : Int) := by omega
    have hMp : 0 < M := by omega
    clear hM
    go_enter Tryz.func7, Tryz.ntmps7
    go_wp2
    obtain ⟨W, hW⟩ : ∃ W, w.alloc (.cells #[.bool false, .slice none 0 0] 26) = W := ⟨_, rfl⟩
    have HB : Hid (Blk W w.heap.size 26 #[.bool false, .slice none 0 0] ∧ New w W) := by rw [← hW]; exact ⟨Blk.new _ _ _, (Chg.refl _ w).alloc _⟩
    rw [hW]
    clear hW
    go_loopw [0, 3] (fun v d wr => ∃ m i : Nat, ∃ A c o, v = .int .i64 (-(m : Int)) ∧ m ≤ 9223372036854775808 ∧ i ≤ 5 ∧ d = .slice A i c ∧ Hid (m < 10000 ^ (5 - i) ∧ OfI M m i o ∧ wr.ownsRow W.heap.size 3 1 (.slice A i c) i (nv .i64 o) ∧ New W wr)) (fun v _ _ => (-(intOf v)).toNat)
    case atStart => exact ⟨M, 0, none, 0, [], rfl, by omega, by omega, rfl, hM5, ⟨rfl, Digs.nil _, by simp⟩, World.ownsRow_nil _ _ _ _, Chg.refl _ _⟩
    case round =>
      obtain ⟨m, i, A, c, o, rfl, hm, hi, rfl, HO⟩ := hrel
      by_cases hm0 : m = 0
      · subst hm0
        go_wp2_with fail
        obtain ⟨_, hO, ho, hn⟩ := HO.out
        have hcap := own_cap ho
        refine (normal_rn true A i c o wr (Rd.of_own ho) hO.digs hcap.1 hcap.2).mono ?_
        rintro e w2 ⟨v, rfl, ⟨s2, A2, n2, c2, rfl, hs2, hm2⟩, hn2⟩
        have hval : sg true (val 10000 o) = -(M : Int) := by have := hO.eq; unfold sg; simp at this ⊢; omega
        rw [hval] at hs2 hm2
        have hb2 := (HB.out.1.chg hn (fun h => h)).chg hn2 (fun h => h)
        have hc0 := hb2.cell 0 (u := .bool false) rfl
        have hc1 := hb2.cell 1 (u := .slice none 0 0) rfl
        have hf0 := hb2.frozen 0
        have hf1 := hb2.frozen 1
        have H2 := Lib.hid (And.intro hb2 (And.intro (HB.out.2.new (hn.new hn2)) (And.intro hs2 hm2)))
        clear hO ho hn hcap hn2 hs2 hm2 hval hb2 HO
        go_wp2
        obtain ⟨hb2, hn2, hs2, hm2⟩ := H2.out
        refine bodyPost_ret (res_c rfl _ rfl (aggN.load (hb2.set2 _ _))) rfl ⟨_, rfl, ⟨s2, A2, n2, c2, rfl, hs2, hm2.store hb2 (noInt_two' _ _ _ _) (Chg.at2 _ _ _ _)⟩, ?_⟩
        exact Chg.owned hn2 (Chg.at2 _ _ _ _) (fun k e => by omega)
      · have hi5 : i < 5 := by
          rcases Nat.lt_or_ge i 5 with h | h
          · exact h
          · have := HO.out.1
            rw [show 5 - i = 0 by omega] at this
            omega
        have hne : ((-(m : Int)) != 0) = true := by simp; omega
        obtain ⟨d, hd⟩ : ∃ d, m % 10000 = d := ⟨_, rfl⟩
        obtain ⟨q, hq⟩ : ∃ q, m / 10000 = q := ⟨_, rfl⟩
        have hqm : q < m := by omega
        have hdb : d < 10000 := by omega
        have htm : (-(m : Int)).tmod 10000 = -(d : Int) := by rw [tmod_neg', hd]
        have htd : (-(m : Int)).tdiv 10000 = -(q : Int) := by rw [tdiv_neg', hq]
        have HN : Hid (q < 10000 ^ (5 - (i + 1)) ∧ OfI M q (i + 1) (o ++ [d])) := by
          obtain ⟨h1, hO, _⟩ := HO.out
          refine ⟨?_, by rw [← hd, ← hq]; exact hO.step⟩
          rw [← hq, Nat.div_lt_iff_lt_mul (by omega), ← Nat.pow_succ]
          show m < 10000 ^ (5 - (i + 1) + 1)
          rw [show 5 - (i + 1) + 1 = 5 - i by omega]
          exact h1
        clear hd hq
        by_cases hd0 : d = 0
        · replace htm : (-(m : Int)).tmod 10000 = (d : Int) := by rw [htm]; omega
          have hdn : decide ((d : Int) < 0) = false := by simp
          clear hd0
          go_wp2_with (at_builtin; refine wpList_app elemInts rfl _ _ rfl rfl (HO.out.2.2.1.alloc _) rfl (Rd.lit (nv .i64 [d]) rfl) (nv_one _) (by simp only [maxLen]; omega) (by omega) (by have := HO.out.2.2.2.size; simp; omega) ?_; intro A' c' w1 hown hg hat; have HA := Lib.hid (And.intro hown hg); clear hown hg hat)
          go_roundw
          case rel =>
            obtain ⟨hown, hg⟩ := HA.out
            rw [← nv_append] at hown
            refine ⟨q, i + 1, A', c', o ++ [d], rfl, by omega, by omega, rfl, HN.out.1, HN.out.2, hown, ?_⟩
            exact (HO.out.2.2.2.alloc _).grown hg (fun k hk hlt => by have := own_blk_le HO.out.2.2.1 hk; omega)
          case measure => simp [intOf]; omega
        · have hdn : -(d : Int) < 0 := by omega
          go_wp2_with (at_builtin; refine wpList_app elemInts rfl _ _ rfl rfl (HO.out.2.2.1.alloc _) rfl (Rd.lit (nv .i64 [d]) rfl) (nv_one _) (by simp only [maxLen]; omega) (by omega) (by have := HO.out.2.2.2.size; simp; omega) ?_; intro A' c' w1 hown hg hat; have HA := Lib.hid (And.intro hown hg); clear hown hg hat)
          go_roundw
          case rel =>
            obtain ⟨hown, hg⟩ := HA.out
            rw [← nv_append] at hown
            refine ⟨q, i + 1, A', c', o ++ [d], rfl, by omega, by omega, rfl, HN.out.1, HN.out.2, hown, ?_⟩
            exact (HO.out.2.2.2.alloc _).grown hg (fun k hk hlt => by have := own_blk_le HO.out.2.2.1 hk; omega)
          case measure => simp [intOf]; omega
  · obtain rfl : n = (M : Int) := by omega
    have hMb2 : M ≤ 9223372036854775807 := by omega
    have hdec : decide ((M : Int) < 0) = false := by simp
    clear hM
    go_enter Tryz.func7, Tryz.ntmps7
    go_wp2
    obtain ⟨W, hW⟩ : ∃ W, w.alloc (.cells #[.bool false, .slice none 0 0] 26) = W := ⟨_, rfl⟩
    have HB : Hid (Blk W w.heap.size 26 #[.bool false, .slice none 0 0] ∧ New w W) := by rw [← hW]; exact ⟨Blk.new _ _ _, (Chg.refl _ w).alloc _⟩
    rw [hW]
    clear hW
    go_loopw [0, 3] (fun v d wr => ∃ m i : Nat, ∃ A c o, v = .int .i64 (m : Int) ∧ m ≤ 9223372036854775807 ∧ i ≤ 5 ∧ d = .slice A i c ∧ Hid (m < 10000 ^ (5 - i) ∧ OfI M m i o ∧ wr.ownsRow W.heap.size 3 1 (.slice A i c) i (nv .i64 o) ∧ New W wr)) (fun v _ _ => (intOf v).toNat)
    case atStart => exact ⟨M, 0, none, 0, [], rfl, by omega, by omega, rfl, hM5, ⟨rfl, Digs.nil _, by simp⟩, World.ownsRow_nil _ _ _ _, Chg.refl _ _⟩
    case round =>
      obtain ⟨m, i, A, c, o, rfl, hm, hi, rfl, HO⟩ := hrel
      by_cases hm0 : m = 0
      · subst hm0
        go_wp2_with fail
        obtain ⟨_, hO, ho, hn⟩ := HO.out
        have hcap := own_cap ho
        refine (normal_rn false A i c o wr (Rd.of_own ho) hO.digs hcap.1 hcap.2).mono ?_
        rintro e w2 ⟨v, rfl, ⟨s2, A2, n2, c2, rfl, hs2, hm2⟩, hn2⟩
        have hval : sg false (val 10000 o) = (M : Int) := by have := hO.eq; unfold sg; simp at this ⊢; omega
        rw [hval] at hs2 hm2
        have hb2 := (HB.out.1.chg hn (fun h => h)).chg hn2 (fun h => h)
        have hc0 := hb2.cell 0 (u := .bool false) rfl
        have hc1 := hb2.cell 1 (u := .slice none 0 0) rfl
        have hf0 := hb2.frozen 0
        have hf1 := hb2.frozen 1
        have H2 := Lib.hid (And.intro hb2 (And.intro (HB.out.2.new (hn.new hn2)) (And.intro hs2 hm2)))
        clear hO ho hn hcap hn2 hs2 hm2 hval hb2 HO
        go_wp2
        obtain ⟨hb2, hn2, hs2, hm2⟩ := H2.out
        refine bodyPost_ret (res_c rfl _ rfl (aggN.load (hb2.set2 _ _))) rfl ⟨_, rfl, ⟨s2, A2, n2, c2, rfl, hs2, hm2.store hb2 (noInt_two' _ _ _ _) (Chg.at2 _ _ _ _)⟩, ?_⟩
        exact Chg.owned hn2 (Chg.at2 _ _ _ _) (fun k e => by omega)
      · have hi5 : i < 5 := by
          rcases Nat.lt_or_ge i 5 with h | h
          · exact h
          · have := HO.out.1
            rw [show 5 - i = 0 by omega] at this
            omega
        have hne : ((m : Int) != 0) = true := by simp; omega
        obtain ⟨d, hd⟩ : ∃ d, m % 10000 = d := ⟨_, rfl⟩
        obtain ⟨q, hq⟩ : ∃ q, m / 10000 = q := ⟨_, rfl⟩
        have hqm : q < m := by omega
        have hdb : d < 10000 := by omega
        have htm : (m : Int) % 10000 = (d : Int) := by omega
        have htd : (m : Int) / 10000 = (q : Int) := by omega
        have hdn : decide ((d : Int) < 0) = false := by simp
        have HN : Hid (q < 10000 ^ (5 - (i + 1)) ∧ OfI M q (i + 1) (o ++ [d])) := by
          obtain ⟨h1, hO, _⟩ := HO.out
          refine ⟨?_, by rw [← hd, ← hq]; exact hO.step⟩
          rw [← hq, Nat.div_lt_iff_lt_mul (by omega), ← Nat.pow_succ]
          show m < 10000 ^ (5 - (i + 1) + 1)
          rw [show 5 - (i + 1) + 1 = 5 - i by omega]
          exact h1
        clear hd hq
        go_wp2_with (at_builtin; refine wpList_app elemInts rfl _ _ rfl rfl (HO.out.2.2.1.alloc _) rfl (Rd.lit (nv .i64 [d]) rfl) (nv_one _) (by simp only [maxLen]; omega) (by omega) (by have := HO.out.2.2.2.size; simp; omega) ?_; intro A' c' w1 hown hg hat; have HA := Lib.hid (And.intro hown hg); clear hown hg hat)
        go_roundw
        case rel =>
          obtain ⟨hown, hg⟩ := HA.out
          rw [← nv_append] at hown
          refine ⟨q, i + 1, A', c', o ++ [d], rfl, by omega, by omega, rfl, HN.out.1, HN.out.2, hown, ?_⟩
          exact (HO.out.2.2.2.alloc _).grown hg (fun k hk hlt => by have := own_blk_le HO.out.2.2.1 hk; omega)
        case measure => simp [intOf]; omega
end Go.Proofs.YtmpkaimhjdkheaaGreatDoor

namespace Go.Proofs.YtmpkaimhjdkheaaGreatDoor
set_option linter.unusedVariables false
open Go.RowKit Go.Mem Go.Dig

set_option maxRecDepth 100000 in
set_option maxHeartbeats 1000000 in
theorem compared_any (A : Option Addr) (n c : Nat) (A' : Option Addr) (n' c' : Nat) (x y : Nat) (w : World) (hx : DM w A n c x) (hy : DM w A' n' c' y) :
    Calls Tryz.prog 49 #[.slice A n c, .slice A' n' c'] w fun e w' => e = .returned (.int .i64 (cmpI x y)) ∧ ∃ q, w' = w.drewN q := by
  obtain ⟨la, ha, hc1, hc2, hNa⟩ := hx
  obtain ⟨lb, hb, hd1, hd2, hNb⟩ := hy
  have hla : la.length = n := by have := ha.len; rwa [nv_length] at this
  have hlb : lb.length = n' := by have := hb.len; rwa [nv_length] at this
  rcases Nat.lt_trichotomy n n' with h | h | h
  · rw [cmpI_lt (by have := hNa.len_lt (by omega) hNb (by omega); omega)]
    have hlt : (n : Int) < (n' : Int) := by omega
    clear hla hlb ha hb hNa hNb
    go_enter Tryz.func49, Tryz.ntmps49
    go_wp2
    go_ret
    exact ⟨rfl, 0, rfl⟩
  · subst h
    obtain ⟨C, hC⟩ : ∃ C, cmpI x y = C := ⟨_, rfl⟩
    rw [hC]
    have H0 := Lib.hid (And.intro ha (And.intro hb (And.intro hNa (And.intro hNb (And.intro hla (And.intro hlb hC))))))
    clear ha hb hNa hNb hla hlb hC
    go_enter Tryz.func49, Tryz.ntmps49
    go_wp2
    go_loopw [5] (fun i wr => ∃ k : Nat, k ≤ n ∧ i = .int .i64 ((k : Int) - 1) ∧ Hid (la.drop k = lb.drop k) ∧ ∃ q, wr = w.drewN q) (fun i _ => (intOf i + 1).toNat)
    case atStart =>
      obtain ⟨ha, hb, hNa, hNb, hla, hlb, hC⟩ := H0.out
      exact ⟨n, Nat.le_refl _, rfl, by show _ = _; rw [List.drop_of_length_le (by omega), List.drop_of_length_le (by omega)], 0, rfl⟩
    case round =>
      obtain ⟨k, hk, rfl, HD, q, hq⟩ := hrel
      have hnew : New w wr := by rw [hq]; exact (Chg.refl _ w).drewN q
      have HQ := Lib.hid hq
      clear hq
      by_cases h0 : k = 0
      · subst h0
        go_wp2
        go_ret
        obtain ⟨ha, hb, hNa, hNb, hla, hlb, hC⟩ := H0.out
        have e := HD.out
        rw [List.drop_zero, List.drop_zero] at e
        rw [← hC, cmpI_eq (by rw [← hNa.val, ← hNb.val, e])]
        exact ⟨rfl, q, HQ.out⟩
      · obtain ⟨j, rfl⟩ : ∃ j, k = j + 1 := ⟨k - 1, by omega⟩
        obtain ⟨ha, hb, hNa, hNb, hla, hlb, hC⟩ := H0.out
        obtain ⟨ad, u, rfl, hu, hcu⟩ := (ha.new hnew).at_ (show j < n by omega)
        obtain ⟨bd, v, rfl, hv, hcv⟩ := (hb.new hnew).at_ (show j < n by omega)
        obtain ⟨p, hp, rfl⟩ := nv_at hu
        obtain ⟨r, hr, rfl⟩ := nv_at hv
        have HP := Lib.hid (And.intro hp hr)
        have hj1 : (((j + 1 : Nat) : Int) - 1) = (j : Int) := by omega
        rw [hj1]
        clear hj1 ha hb hNa hNb hla hlb hC hu hv hp hr hnew
        rcases Nat.lt_trichotomy p r with h | h | h
        · have hlt : (p : Int) < (r : Int) := by omega
          go_wp2
          go_quiet (fail)
          go_wp2
          go_ret
          obtain ⟨ha, hb, hNa, hNb, hla, hlb, hC⟩ := H0.out
          obtain ⟨hp, hr⟩ := HP.out
          have := val_lt_of hNa.digs (by omega) hp hr HD.out h
          rw [hNa.val, hNb.val] at this
          rw [← hC, cmpI_lt (by omega)]
          exact ⟨rfl, _, by rw [HQ.out, World.drewN_drewN]⟩
        · subst h
          have hlt : decide ((p : Int) < (p : Int)) = false := by simp
          go_wp2
          go_quiet (fail)
          go_wp2
          go_quiet (fail)
          go_wp2
          go_roundw
          case rel =>
            obtain ⟨hp, hr⟩ := HP.out
            exact ⟨j, by omega, by go_num, drop_step hp hr HD.out, _, by rw [HQ.out, World.drewN_drewN]⟩
          case measure => simp [intOf]
        · have hlt : decide ((p : Int) < (r : Int)) = false := by simp; omega
          have hgt : (r : Int) < (p : Int) := by omega
          go_wp2
          go_quiet (fail)
          go_wp2
          go_quiet (fail)
          go_wp2
          go_ret
          obtain ⟨ha, hb, hNa, hNb, hla, hlb, hC⟩ := H0.out
          obtain ⟨hp, hr⟩ := HP.out
          have := val_lt_of hNb.digs (by omega) hr hp HD.out.symm h
          rw [hNa.val, hNb.val] at this
          rw [← hC, cmpI_gt (by omega)]
          exact ⟨rfl, _, by rw [World.drewN_drewN, HQ.out, World.drewN_drewN]⟩
  · rw [cmpI_gt (by have := hNb.len_lt (by omega) hNa (by omega); omega)]
    have hlt : decide ((n : Int) < (n' : Int)) = false := by simp; omega
    have hlt' : decide (n < n') = false := by simp; omega
    have hgt : (n' : Int) < (n : Int) := by omega
    clear hla hlb ha hb hNa hNb
    go_enter Tryz.func49, Tryz.ntmps49
    go_wp2
    go_ret
    exact ⟨rfl, 0, rfl⟩

set_option maxHeartbeats 400000 in
theorem rcompare_any (v v' : Value) (x y : Int) (w : World) (hx : RN w v x) (hy : RN w v' y) :
    Calls Tryz.prog 33 #[v, v'] w fun e w' => e = .returned (.int .i64 (cmpI x y)) ∧ New w w' := by
  obtain ⟨s, A, n, c, rfl, hs, hm⟩ := hx
  obtain ⟨s', A', n', c', rfl, hs', hm'⟩ := hy
  have H := Lib.hid (And.intro hs (And.intro hm (And.intro hs' hm')))
  clear hs hs' hm hm'
  cases s <;> cases s'
  · go_enter Tryz.func33, Tryz.ntmps33
    go_wp2_with fail
    obtain ⟨hs, hm, hs', hm'⟩ := H.out
    have hn0 : New w ((w.alloc (.cells #[.bool false, .slice A n c] 26)).alloc (.cells #[.bool false, .slice A' n' c'] 26)) := ((Chg.refl _ w).alloc _).alloc _
    refine (compared_any A n c A' n' c' x.natAbs y.natAbs _ (hm.new hn0) (hm'.new hn0)).mono ?_
    rintro e w1 ⟨rfl, q, hq⟩
    have h1 : ¬ x < 0 := by simpa using hs.symm
    have h2 : ¬ y < 0 := by simpa using hs'.symm
    rw [show ((x.natAbs : Nat) : Int) = x by omega, show ((y.natAbs : Nat) : Int) = y by omega]
    have H1 := Lib.hid (show New w w1 by rw [hq]; exact hn0.drewN q)
    clear hs hm hs' hm' hn0 hq h1 h2
    go_wp2
    go_ret
    exact ⟨rfl, H1.out⟩
  · go_enter Tryz.func33, Tryz.ntmps33
    go_wp2
    go_ret
    obtain ⟨hs, hm, hs', hm'⟩ := H.out
    have h1 : ¬ x < 0 := by simpa using hs.symm
    have h2 : y < 0 := by simpa using hs'.symm
    exact ⟨by rw [cmpI_gt (by omega)]; rfl, ((Chg.refl _ w).alloc _).alloc _⟩
  · go_enter Tryz.func33, Tryz.ntmps33
    go_wp2
    go_ret
    obtain ⟨hs, hm, hs', hm'⟩ := H.out
    have h1 : x < 0 := by simpa using hs.symm
    have h2 : ¬ y < 0 := by simpa using hs'.symm
    exact ⟨by rw [cmpI_lt (by omega)]; rfl, ((Chg.refl _ w).alloc _).alloc _⟩
  · go_enter Tryz.func33, Tryz.ntmps33
    go_wp2_with fail
    obtain ⟨hs, hm, hs', hm'⟩ := H.out
    have hn0 : New w ((w.alloc (.cells #[.bool true, .slice A n c] 26)).alloc (.cells #[.bool true, .slice A' n' c'] 26)) := ((Chg.refl _ w).alloc _).alloc _
    refine (compared_any A' n' c' A n c y.natAbs x.natAbs _ (hm'.new hn0) (hm.new hn0)).mono ?_
    rintro e w1 ⟨rfl, q, hq⟩
    have h1 : x < 0 := by simpa using hs.symm
    have h2 : y < 0 := by simpa using hs'.symm
    rw [show cmpI ((y.natAbs : Nat) : Int) ((x.natAbs : Nat) : Int) = cmpI x y by
      rw [show ((y.natAbs : Nat) : Int) = -y by omega, show ((x.natAbs : Nat) : Int) = -x by omega]
      unfold cmpI
      repeat' split
      all_goals omega]
    have H1 := Lib.hid (show New w w1 by rw [hq]; exact hn0.drewN q)
    clear hs hm hs' hm' hn0 hq h1 h2
    go_wp2
    go_ret
    exact ⟨rfl, H1.out⟩

set_option maxHeartbeats 400000 in
theorem at_any (A : Option Addr) (n c : Nat) (l : List Nat) (i : Nat) (w : World) (hr : Rd w A n (nv .i64 l)) (hn : n ≤ 9223372036854775807) :
    Calls Tryz.prog 73 #[.slice A n c, .int .i64 i] w fun e w' => e = .returned (.int .i64 (dg l i)) ∧ w = w' := by
  have hl : l.length = n := by have := hr.len; rwa [nv_length] at this
  by_cases h : i < n
  · obtain ⟨ad, u, rfl, hu, hcu⟩ := hr.at_ h
    obtain ⟨z, hz, rfl⟩ := nv_at hu
    rw [dg_some hz]
    have hlt : (i : Int) < (n : Int) := by omega
    clear hr hl hu hz
    go_enter Tryz.func73, Tryz.ntmps73
    go_wp2
    go_ret
    exact ⟨rfl, rfl⟩
  · rw [dg_none (by omega)]
    have hlt : decide ((i : Int) < (n : Int)) = false := by simp; omega
    have hlt' : decide (i < n) = false := by simp; omega
    clear hr hl
    go_enter Tryz.func73, Tryz.ntmps73
    go_wp2
    go_ret
    exact ⟨rfl, rfl⟩

/-- A slice of the call's own with digits whose value is m. -/
def OM (w : World) (base : Nat) (A : Option Addr) (n c : Nat) (m : Nat) : Prop := ∃ l, w.ownsRow base 3 1 (.slice A n c) n (nv .i64 l) ∧ Digs 10000 l ∧ val 10000 l = m

set_option maxRecDepth 100000 in
set_option maxHeartbeats 2000000 in
theorem plus_any (A : Option Addr) (n c : Nat) (A' : Option Addr) (n' c' : Nat) (x y : Nat) (w : World) (hx : DM w A n c x) (hy : DM w A' n' c' y) (hn : n ≤ 1000000) (hn' : n' ≤ 1000000) :
    Calls Tryz.prog 48 #[.slice A n c, .slice A' n' c'] w fun e w' => ∃ R k d, e = .returned (.slice R k d) ∧ OM w' w.heap.size R k d (x + y) ∧ New w w' := by
  obtain ⟨la, ha, hc1, hc2, hNa⟩ := hx
  obtain ⟨lb, hb, hd1, hd2, hNb⟩ := hy
  have hla : la.length = n := by have := ha.len; rwa [nv_length] at this
  have hlb : lb.length = n' := by have := hb.len; rwa [nv_length] at this
  have H0 := Lib.hid (And.intro ha (And.intro hb (And.intro hNa (And.intro hNb (And.intro hla hlb)))))
  clear ha hb hNa hNb hla hlb
  go_enter Tryz.func48, Tryz.ntmps48
  go_wp2
  go_loopw [5, 6, 7] (fun v u i wr => ∃ k cr : Nat, ∃ R d o, v = .slice R k d ∧ u = .int .i64 cr ∧ i = .int .i64 k ∧ cr ≤ 1 ∧ k ≤ 1000001 ∧ Hid (AddI 10000 la lb k o cr ∧ wr.ownsRow w.heap.size 3 1 (.slice R k d) k (nv .i64 o) ∧ New w wr)) (fun _ _ i _ => 1000002 - (intOf i).toNat)
  case atStart => exact ⟨0, 0, none, 0, [], rfl, rfl, rfl, by omega, by omega, AddI.start _ _ _, World.ownsRow_nil _ _ _ _, Chg.refl _ _⟩
  case round =>
    obtain ⟨k, cr, R, d, o, rfl, rfl, rfl, hcr, hk, HO⟩ := hrel
    by_cases hgo : k < n ∨ k < n' ∨ 0 < cr
    · have hk1 : k ≤ 1000000 := by
        rcases Nat.lt_or_ge 1000000 k with h | h
        · exfalso
          obtain ⟨ha, hb, hNa, hNb, hla, hlb⟩ := H0.out
          have hcz := HO.out.1.carry0 (m := 1000000) (by omega) hNa.digs hNb.digs (by omega) (by omega) (by omega)
          omega
        · exact h
      have hda : dg la k < 10000 := dg_lt H0.out.2.2.1.digs (by omega) k
      have hdb : dg lb k < 10000 := dg_lt H0.out.2.2.2.1.digs (by omega) k
      have HN := Lib.hid (HO.out.1.step (by omega) H0.out.2.2.1.digs H0.out.2.2.2.1.digs)
      obtain ⟨p, hp⟩ : ∃ p, dg la k = p := ⟨_, rfl⟩
      obtain ⟨r, hr⟩ : ∃ r, dg lb k = r := ⟨_, rfl⟩
      rw [hp] at hda HN
      rw [hr] at hdb HN
      have HPR := Lib.hid (And.intro hp hr)
      clear hp hr
      have hguard : k < n ∨ (¬ k < n ∧ k < n') ∨ (¬ k < n ∧ ¬ k < n' ∧ cr = 1) := by omega
      clear hgo
      rcases hguard with h1 | ⟨h1, h2⟩ | ⟨h1, h2, h3⟩
      · have g1 : decide ((k : Int) < (n : Int)) = true := by simp; omega
        have g1' : decide (k < n) = true := by simp; omega
        go_wp2_with fail
        obtain ⟨ha, hb, hNa, hNb, hla, hlb⟩ := H0.out
        refine (at_any A n c la k wr (ha.new HO.out.2.2) (by omega)).mono ?_
        rw [HPR.out.1]
        rintro e w1 ⟨rfl, rfl⟩
        clear ha hb hNa hNb hla hlb
        go_wp2_with fail
        obtain ⟨ha, hb, hNa, hNb, hla, hlb⟩ := H0.out
        refine (at_any A' n' c' lb k wr (hb.new HO.out.2.2) (by omega)).mono ?_
        rw [HPR.out.2]
        rintro e w1 ⟨rfl, rfl⟩
        clear ha hb hNa hNb hla hlb
        obtain ⟨v, hv⟩ : ∃ v, p + r + cr = v := ⟨_, rfl⟩
        have hvi : (p : Int) + (r : Int) + (cr : Int) = (v : Int) := by omega
        have hvb : v ≤ 19999 := by omega
        have HV := Lib.hid hv
        clear hv
        go_wp2_with (at_builtin; refine wpList_app elemInts rfl _ _ rfl rfl (HO.out.2.1.alloc _) rfl (Rd.lit (nv .i64 [v % 10000]) rfl) (nv_one _) (by simp only [maxLen]; omega) (by omega) (by have := HO.out.2.2.size; simp; omega) ?_; intro R' d' w1 hown hg hat; have HA := Lib.hid (And.intro hown hg); clear hown hg hat)
        go_roundw
        case rel =>
          obtain ⟨hown, hg⟩ := HA.out
          rw [← nv_append] at hown
          have hN := HN.out
          rw [HV.out] at hN
          refine ⟨k + 1, v / 10000, R', d', o ++ [v % 10000], rfl, by go_num, by go_num, by omega, by omega, hN, hown, ?_⟩
          exact (HO.out.2.2.alloc _).grown hg (fun k hk hlt => by have := own_blk_le HO.out.2.1 hk; omega)
        case measure => simp [intOf]; omega
      · have g1 : decide ((k : Int) < (n : Int)) = false := by simp; omega
        have g1' : decide (k < n) = false := by simp; omega
        have g2 : decide ((k : Int) < (n' : Int)) = true := by simp; omega
        have g2' : decide (k < n') = true := by simp; omega
        go_wp2_with fail
        obtain ⟨ha, hb, hNa, hNb, hla, hlb⟩ := H0.out
        refine (at_any A n c la k wr (ha.new HO.out.2.2) (by omega)).mono ?_
        rw [HPR.out.1]
        rintro e w1 ⟨rfl, rfl⟩
        clear ha hb hNa hNb hla hlb
        go_wp2_with fail
        obtain ⟨ha, hb, hNa, hNb, hla, hlb⟩ := H0.out
        refine (at_any A' n' c' lb k wr (hb.new HO.out.2.2) (by omega)).mono ?_
        rw [HPR.out.2]
        rintro e w1 ⟨rfl, rfl⟩
        clear ha hb hNa hNb hla hlb
        obtain ⟨v, hv⟩ : ∃ v, p + r + cr = v := ⟨_, rfl⟩
        have hvi : (p : Int) + (r : Int) + (cr : Int) = (v : Int) := by omega
        have hvb : v ≤ 19999 := by omega
        have HV := Lib.hid hv
        clear hv
        go_wp2_with (at_builtin; refine wpList_app elemInts rfl _ _ rfl rfl (HO.out.2.1.alloc _) rfl (Rd.lit (nv .i64 [v % 10000]) rfl) (nv_one _) (by simp only [maxLen]; omega) (by omega) (by have := HO.out.2.2.size; simp; omega) ?_; intro R' d' w1 hown hg hat; have HA := Lib.hid (And.intro hown hg); clear hown hg hat)
        go_roundw
        case rel =>
          obtain ⟨hown, hg⟩ := HA.out
          rw [← nv_append] at hown
          have hN := HN.out
          rw [HV.out] at hN
          refine ⟨k + 1, v / 10000, R', d', o ++ [v % 10000], rfl, by go_num, by go_num, by omega, by omega, hN, hown, ?_⟩
          exact (HO.out.2.2.alloc _).grown hg (fun k hk hlt => by have := own_blk_le HO.out.2.1 hk; omega)
        case measure => simp [intOf]; omega
      · have g3 : decide ((0 : Int) < (cr : Int)) = true := by simp; omega
        have g3' : 0 < cr := by omega
        clear h3
        have g1 : decide ((k : Int) < (n : Int)) = false := by simp; omega
        have g1' : decide (k < n) = false := by simp; omega
        have g2 : decide ((k : Int) < (n' : Int)) = false := by simp; omega
        have g2' : decide (k < n') = false := by simp; omega
        go_wp2_with fail
        obtain ⟨ha, hb, hNa, hNb, hla, hlb⟩ := H0.out
        refine (at_any A n c la k wr (ha.new HO.out.2.2) (by omega)).mono ?_
        rw [HPR.out.1]
        rintro e w1 ⟨rfl, rfl⟩
        clear ha hb hNa hNb hla hlb
        go_wp2_with fail
        obtain ⟨ha, hb, hNa, hNb, hla, hlb⟩ := H0.out
        refine (at_any A' n' c' lb k wr (hb.new HO.out.2.2) (by omega)).mono ?_
        rw [HPR.out.2]
        rintro e w1 ⟨rfl, rfl⟩
        clear ha hb hNa hNb hla hlb
        obtain ⟨v, hv⟩ : ∃ v, p + r + cr = v := ⟨_, rfl⟩
        have hvi : (p : Int) + (r : Int) + (cr : Int) = (v : Int) := by omega
        have hvb : v ≤ 19999 := by omega
        have HV := Lib.hid hv
        clear hv
        go_wp2_with (at_builtin; refine wpList_app elemInts rfl _ _ rfl rfl (HO.out.2.1.alloc _) rfl (Rd.lit (nv .i64 [v % 10000]) rfl) (nv_one _) (by simp only [maxLen]; omega) (by omega) (by have := HO.out.2.2.size; simp; omega) ?_; intro R' d' w1 hown hg hat; have HA := Lib.hid (And.intro hown hg); clear hown hg hat)
        go_roundw
        case rel =>
          obtain ⟨hown, hg⟩ := HA.out
          rw [← nv_append] at hown
          have hN := HN.out
          rw [HV.out] at hN
          refine ⟨k + 1, v / 10000, R', d', o ++ [v % 10000], rfl, by go_num, by go_num, by omega, by omega, hN, hown, ?_⟩
          exact (HO.out.2.2.alloc _).grown hg (fun k hk hlt => by have := own_blk_le HO.out.2.1 hk; omega)
        case measure => simp [intOf]; omega
    · obtain rfl : cr = 0 := by omega
      have g1 : decide ((k : Int) < (n : Int)) = false := by simp; omega
      have g1' : decide (k < n) = false := by simp; omega
      have g2 : decide ((k : Int) < (n' : Int)) = false := by simp; omega
      have g2' : decide (k < n') = false := by simp; omega
      have h1 : n ≤ k := by omega
      have h2 : n' ≤ k := by omega
      clear hgo
      go_wp2
      go_ret
      obtain ⟨hA, ho, hn⟩ := HO.out
      obtain ⟨ha, hb, hNa, hNb, hla, hlb⟩ := H0.out
      refine ⟨R, k, d, rfl, ⟨o, ho, hA.digs, ?_⟩, hn⟩
      rw [hA.done (by omega) (by omega), hNa.val, hNb.val]
end Go.Proofs.YtmpkaimhjdkheaaGreatDoor

namespace Go.Proofs.YtmpkaimhjdkheaaGreatDoor
set_option linter.unusedVariables false
open Go.RowKit Go.Mem Go.Dig

set_option maxRecDepth 100000 in
set_option maxHeartbeats 2000000 in
theorem minus_any (A : Option Addr) (n c : Nat) (A' : Option Addr) (n' c' : Nat) (x y : Nat) (w : World) (hx : DM w A n c x) (hy : DM w A' n' c' y) (hle : y ≤ x) (hn : n ≤ 1000000) :
    Calls Tryz.prog 50 #[.slice A n c, .slice A' n' c'] w fun e w' => ∃ R k d, e = .returned (.slice R k d) ∧ OM w' w.heap.size R k d (x - y) ∧ New w w' := by
  obtain ⟨la, ha, hc1, hc2, hNa⟩ := hx
  obtain ⟨lb, hb, hd1, hd2, hNb⟩ := hy
  have hla : la.length = n := by have := ha.len; rwa [nv_length] at this
  have hlb : lb.length = n' := by have := hb.len; rwa [nv_length] at this
  have hn' : n' ≤ n := by
    rcases Nat.lt_or_ge n n' with h | h
    · have := hNa.len_lt (by omega) hNb (by omega); omega
    · exact h
  have H0 := Lib.hid (And.intro ha (And.intro hb (And.intro hNa (And.intro hNb (And.intro hla (And.intro hlb hle))))))
  clear ha hb hNa hNb hla hlb hle
  go_enter Tryz.func50, Tryz.ntmps50
  go_wp2
  go_loopw [5, 6, 7] (fun v u i wr => ∃ k br : Nat, ∃ R d o, v = .slice R k d ∧ u = .int .i64 br ∧ i = .int .i64 k ∧ br ≤ 1 ∧ k ≤ n ∧ Hid (SubI 10000 la lb k o br ∧ wr.ownsRow w.heap.size 3 1 (.slice R k d) k (nv .i64 o) ∧ New w wr)) (fun _ _ i _ => n - (intOf i).toNat)
  case atStart => exact ⟨0, 0, none, 0, [], rfl, rfl, rfl, by omega, by omega, SubI.start _ _ _, World.ownsRow_nil _ _ _ _, Chg.refl _ _⟩
  case round =>
    obtain ⟨k, br, R, d, o, rfl, rfl, rfl, hbr, hk, HO⟩ := hrel
    by_cases hlt : k < n
    · have hda : dg la k < 10000 := dg_lt H0.out.2.2.1.digs (by omega) k
      have hdb : dg lb k < 10000 := dg_lt H0.out.2.2.2.1.digs (by omega) k
      have hst := fun v r' => HO.out.1.step (v := v) (r' := r') (by omega) H0.out.2.2.1.digs H0.out.2.2.2.1.digs
      obtain ⟨p, hp⟩ : ∃ p, dg la k = p := ⟨_, rfl⟩
      obtain ⟨r, hr⟩ : ∃ r, dg lb k = r := ⟨_, rfl⟩
      rw [hp] at hda hst
      rw [hr] at hdb hst
      have HPR := Lib.hid (And.intro hp (And.intro hr hst))
      clear hp hr hst
      have hlti : (k : Int) < (n : Int) := by omega
      go_wp2_with fail
      obtain ⟨ha, hb, hNa, hNb, hla, hlb, hle⟩ := H0.out
      refine (at_any A n c la k wr (ha.new HO.out.2.2) (by omega)).mono ?_
      rw [HPR.out.1]
      rintro e w1 ⟨rfl, rfl⟩
      clear ha hb hNa hNb hla hlb hle
      go_wp2_with fail
      obtain ⟨ha, hb, hNa, hNb, hla, hlb, hle⟩ := H0.out
      refine (at_any A' n' c' lb k wr (hb.new HO.out.2.2) (by omega)).mono ?_
      rw [HPR.out.2.1]
      rintro e w1 ⟨rfl, rfl⟩
      clear ha hb hNa hNb hla hlb hle
      by_cases hng : p < r + br
      · obtain ⟨v, hv⟩ : ∃ v, p + 10000 - r - br = v := ⟨_, rfl⟩
        have hvi : (p : Int) - (r : Int) - (br : Int) + 10000 = (v : Int) := by omega
        have hneg : (p : Int) - (r : Int) - (br : Int) < 0 := by omega
        have HN := Lib.hid (HPR.out.2.2 v 1 (by omega) (by omega) (by omega))
        clear hv HPR
        go_wp2_with (at_builtin; refine wpList_app elemInts rfl _ _ rfl rfl (HO.out.2.1.alloc _) rfl (Rd.lit (nv .i64 [v]) rfl) (nv_one _) (by simp only [maxLen]; omega) (by omega) (by have := HO.out.2.2.size; simp; omega) ?_; intro R' d' w1 hown hg hat; have HA := Lib.hid (And.intro hown hg); clear hown hg hat)
        go_roundw
        case rel =>
          obtain ⟨hown, hg⟩ := HA.out
          rw [← nv_append] at hown
          refine ⟨k + 1, 1, R', d', o ++ [v], rfl, rfl, by go_num, by omega, by omega, HN.out, hown, ?_⟩
          exact (HO.out.2.2.alloc _).grown hg (fun k hk hlt => by have := own_blk_le HO.out.2.1 hk; omega)
        case measure => simp [intOf]; omega
      · obtain ⟨v, hv⟩ : ∃ v, p - r - br = v := ⟨_, rfl⟩
        have hvi : (p : Int) - (r : Int) - (br : Int) = (v : Int) := by omega
        have hneg : decide ((v : Int) < 0) = false := by simp
        have HN := Lib.hid (HPR.out.2.2 v 0 (by omega) (by omega) (by omega))
        clear hv HPR
        go_wp2_with (at_builtin; refine wpList_app elemInts rfl _ _ rfl rfl (HO.out.2.1.alloc _) rfl (Rd.lit (nv .i64 [v]) rfl) (nv_one _) (by simp only [maxLen]; omega) (by omega) (by have := HO.out.2.2.size; simp; omega) ?_; intro R' d' w1 hown hg hat; have HA := Lib.hid (And.intro hown hg); clear hown hg hat)
        go_roundw
        case rel =>
          obtain ⟨hown, hg⟩ := HA.out
          rw [← nv_append] at hown
          refine ⟨k + 1, 0, R', d', o ++ [v], rfl, rfl, by go_num, by omega, by omega, HN.out, hown, ?_⟩
          exact (HO.out.2.2.alloc _).grown hg (fun k hk hlt => by have := own_blk_le HO.out.2.1 hk; omega)
        case measure => simp [intOf]; omega
    · obtain rfl : n = k := by omega
      go_wp2
      go_ret
      obtain ⟨hA, ho, hn⟩ := HO.out
      obtain ⟨ha, hb, hNa, hNb, hla, hlb, hle⟩ := H0.out
      refine ⟨R, n, d, rfl, ⟨o, ho, hA.digs, ?_⟩, hn⟩
      subst hla
      rw [hA.done (by omega) (by omega) (by rw [hNa.val, hNb.val]; exact hle), hNa.val, hNb.val]
end Go.Proofs.YtmpkaimhjdkheaaGreatDoor

namespace Go.Proofs.YtmpkaimhjdkheaaGreatDoor
set_option linter.unusedVariables false
open Go.RowKit Go.Mem Go.Dig

set_option maxHeartbeats 400000 in
theorem rneg_any (v : Value) (x : Int) (w : World) (hx : RN w v x) :
    Calls Tryz.prog 6 #[v] w fun e w' => ∃ v, e = .returned v ∧ RN w' v (-x) ∧ New w w' := by
  obtain ⟨s, A, n, c, rfl, hs, l, hr, hnc, hcm, hN⟩ := hx
  have H := Lib.hid (And.intro hs (And.intro hr hN))
  clear hs hr hN
  go_enter Tryz.func6, Tryz.ntmps6
  go_wp2_with fail
  obtain ⟨hs, hr, hN⟩ := H.out
  have hb0 := Blk.new (w.alloc (.cells #[.bool s, .slice A n c] 26)) 26 #[.bool false, .slice none 0 0]
  rw [World.size_alloc] at hb0
  have hn0 : New w ((w.alloc (.cells #[.bool s, .slice A n c] 26)).alloc (.cells #[.bool false, .slice none 0 0] 26)) := ((Chg.refl _ w).alloc _).alloc _
  refine (normal_rn (!s) A n c l _ (hr.new hn0) hN.digs hnc hcm).mono ?_
  rintro e w1 ⟨v, rfl, hwi, hn1⟩
  have hval : sg (!s) (val 10000 l) = -x := by
    rw [hN.val, hs]
    unfold sg
    by_cases h : x < 0 <;> simp [h] <;> omega
  rw [hval] at hwi
  have hb1 := hb0.chg hn1 (fun h => h)
  obtain ⟨s', A', n', c', rfl, hs', hwm⟩ := hwi
  have hc0 := hb1.cell 0 rfl
  have hc1 := hb1.cell 1 rfl
  have hf0 := hb1.frozen 0
  have hf1 := hb1.frozen 1
  have H1 := Lib.hid (And.intro hb1 (And.intro (hn0.new hn1) (And.intro hs' hwm)))
  clear hb0 hn0 hn1 hb1 hs' hwm H hs hr hN hval
  go_wp2
  obtain ⟨hb1, hn1, hs, hwm⟩ := H1.out
  refine bodyPost_ret (res_c rfl _ rfl (aggN.load (hb1.set2 _ _))) rfl ⟨_, rfl, ⟨s', A', n', c', rfl, hs, ?_⟩, ?_⟩
  · exact hwm.store hb1 (noInt_two' _ _ _ _) (Chg.at2 _ _ _ _)
  · exact Chg.owned hn1 (Chg.at2 _ _ _ _) (fun k e => by omega)

theorem normal_om (s : Bool) (R : Option Addr) (k d b m : Nat) (w : World) (h : Hid (OM w b R k d m)) :
    Calls Tryz.prog 20 #[.bool s, .slice R k d] w fun e w' => ∃ s' A' n' c', e = .returned (.agg #[.bool s', .slice A' n' c']) ∧ Hid (s' = decide (sg s m < 0) ∧ DM w' A' n' c' (sg s m).natAbs) ∧ Hid (New w w') := by
  obtain ⟨l, ho, hd, hv⟩ := h.out
  have hcap := own_cap ho
  refine (normal_rn s R k d l w (Rd.of_own ho) hd hcap.1 hcap.2).mono ?_
  rintro e w' ⟨v, rfl, ⟨s', A', n', c', rfl, h1, h2⟩, hn⟩
  rw [hv] at h1 h2
  exact ⟨s', A', n', c', rfl, ⟨h1, h2⟩, hn⟩

set_option maxRecDepth 100000 in
set_option maxHeartbeats 2000000 in
theorem radd_same (s : Bool) (A : Option Addr) (n c : Nat) (A' : Option Addr) (n' c' : Nat) (x y : Nat) (w : World) (hx : DM w A n c x) (hy : DM w A' n' c' y) (hn : n ≤ 1000000) (hn' : n' ≤ 1000000) :
    Calls Tryz.prog 19 #[.agg #[.bool s, .slice A n c], .agg #[.bool s, .slice A' n' c']] w fun e w' => ∃ v, e = .returned v ∧ RN w' v (sg s (x + y)) ∧ New w w' := by
  have H0 := Lib.hid (And.intro hx hy)
  clear hx hy
  go_enter Tryz.func19, Tryz.ntmps19
  go_wp2_with fail
  refine Code.new3 ?_
  intro W hb1 hb2 hb3 hnW hzW
  have hc10 := hb1.cell 0 (u := .bool s) rfl
  have hc11 := hb1.cell 1 (u := .slice A n c) rfl
  have hc21 := hb2.cell 1 (u := .slice A' n' c') rfl
  have hc30 := hb3.cell 0 (u := .bool false) rfl
  have hc31 := hb3.cell 1 (u := .slice none 0 0) rfl
  have hf30 := hb3.frozen 0
  have hf31 := hb3.frozen 1
  have hplus : ∀ W', New W W' → Calls Tryz.prog 48 #[.slice A n c, .slice A' n' c'] W' fun e w' => ∃ R k d, e = .returned (.slice R k d) ∧ Hid (OM w' W'.heap.size R k d (x + y)) ∧ Hid (New W w') := fun W' h =>
    (plus_any A n c A' n' c' x y W' (H0.out.1.new (hnW.new h)) (H0.out.2.new (hnW.new h)) hn hn').mono fun e w' ⟨R, k, d, h1, h2, h3⟩ => ⟨R, k, d, h1, h2, h.new h3⟩
  have HP := Lib.hid hplus
  have HB := Lib.hid (And.intro hb1 (And.intro hb2 (And.intro hb3 hnW)))
  clear hplus hb1 hb2 hb3 hnW
  go_region_held3 (fun w' => w'.cell? ⟨w.heap.size, 0, none⟩ = some (.bool s) ∧ w'.cell? ⟨w.heap.size, 1, none⟩ = some (.slice A n c) ∧ w'.cell? ⟨w.heap.size + 1, 1, none⟩ = some (.slice A' n' c')) (first | exact ⟨by assumption, by assumption, by assumption⟩ | exact ⟨far2 he10 (by dsimp only; omega) _ _, far2 he11 (by dsimp only; omega) _ _, far2 he21 (by dsimp only; omega) _ _⟩)
    (first
      | (go_at_call 48; refine (HP.out _ ?_).mono ?_; exact (Chg.refl _ _).drew; rintro e w5 ⟨R, k, d, rfl, HO5, HN5⟩; have hd10 := HN5.out.cell hc10 (fun h => h); have hd11 := HN5.out.cell hc11 (fun h => h); have hd21 := HN5.out.cell hc21 (fun h => h); have hd30 := HN5.out.cell hc30 (fun h => h); have hd31 := HN5.out.cell hc31 (fun h => h); have hg30 := (HB.out.2.2.1.chg HN5.out (fun h => h)).frozen 0; have hg31 := (HB.out.2.2.1.chg HN5.out (fun h => h)).frozen 1)
      | (go_at_call 20; refine (normal_om s R k d _ _ _ HO5).mono ?_; rintro e w6 ⟨s6, A6, n6, c6, rfl, H6, HN6⟩; have he10 := HN6.out.cell hd10 (fun h => h); have he11 := HN6.out.cell hd11 (fun h => h); have he21 := HN6.out.cell hd21 (fun h => h); have he30 := HN6.out.cell hd30 (fun h => h); have he31 := HN6.out.cell hd31 (fun h => h); have hh30 := ((HB.out.2.2.1.chg HN5.out (fun h => h)).chg HN6.out (fun h => h)).frozen 0; have hh31 := ((HB.out.2.2.1.chg HN5.out (fun h => h)).chg HN6.out (fun h => h)).frozen 1))
  all_goals
    clear hc10 hc11 hc21 hc30 hc31 hf30 hf31 hd10 hd11 hd21 hd30 hd31 hg30 hg31
    go_wp2
    obtain ⟨hs6, hm6⟩ := H6.out
    have hb6 := (HB.out.2.2.1.chg HN5.out (fun h => h)).chg HN6.out (fun h => h)
    refine bodyPost_ret (res_c rfl _ rfl (aggN.load (hb6.set2 _ _))) rfl ⟨_, rfl, ⟨s6, A6, n6, c6, rfl, hs6, hm6.store hb6 (noInt_two' _ _ _ _) (Chg.at2 _ _ _ _)⟩, ?_⟩
    exact Chg.owned (HB.out.2.2.2.new (HN5.out.new HN6.out)) (Chg.at2 _ _ _ _) (fun k e => by omega)

set_option maxRecDepth 100000 in
set_option maxHeartbeats 2000000 in
theorem radd_lt (s s' : Bool) (hss : (s == s') = false) (A : Option Addr) (n c : Nat) (A' : Option Addr) (n' c' : Nat) (x y : Nat) (w : World) (hx : DM w A n c x) (hy : DM w A' n' c' y) (hn : n ≤ 1000000) (hn' : n' ≤ 1000000) (hlt : x < y) :
    Calls Tryz.prog 19 #[.agg #[.bool s, .slice A n c], .agg #[.bool s', .slice A' n' c']] w fun e w' => ∃ v, e = .returned v ∧ RN w' v (sg s' (y - x : Nat)) ∧ New w w' := by
  have H0 := Lib.hid (And.intro hx hy)
  clear hx hy
  go_enter Tryz.func19, Tryz.ntmps19
  go_wp2_with fail
  refine Calls.new3 ?_
  intro W0 hb1 hb2 hb3 hnW hzW
  refine (compared_any A n c A' n' c' x y W0 (H0.out.1.new hnW) (H0.out.2.new hnW)).mono ?_
  rintro e W ⟨rfl, q, hq⟩
  rw [cmpI_lt (show (x : Int) < (y : Int) by omega)]
  have hneg : decide ((-1 : Int) < 0) = true := by decide
  have hnq : New W0 W := by rw [hq]; exact (Chg.refl _ _).drewN q
  replace hb1 := hb1.chg hnq (fun h => h)
  replace hb2 := hb2.chg hnq (fun h => h)
  replace hb3 := hb3.chg hnq (fun h => h)
  replace hnW := hnW.new hnq
  have hc20 := hb2.cell 0 (u := .bool s') rfl
  have hc21 := hb2.cell 1 (u := .slice A' n' c') rfl
  have hc11 := hb1.cell 1 (u := .slice A n c) rfl
  have hc30 := hb3.cell 0 (u := .bool false) rfl
  have hc31 := hb3.cell 1 (u := .slice none 0 0) rfl
  have hf30 := hb3.frozen 0
  have hf31 := hb3.frozen 1
  have hmin : ∀ W', New W W' → Calls Tryz.prog 50 #[.slice A' n' c', .slice A n c] W' fun e w' => ∃ R k d, e = .returned (.slice R k d) ∧ Hid (OM w' W'.heap.size R k d (y - x)) ∧ Hid (New W w') := fun W' h =>
    (minus_any A' n' c' A n c y x W' (H0.out.2.new (hnW.new h)) (H0.out.1.new (hnW.new h)) (by omega) hn').mono fun e w' ⟨R, k, d, h1, h2, h3⟩ => ⟨R, k, d, h1, h2, h.new h3⟩
  have HP := Lib.hid hmin
  have HB := Lib.hid (And.intro hb1 (And.intro hb2 (And.intro hb3 hnW)))
  clear hmin hb1 hb2 hb3 hnW hq hnq hzW
  go_wp2_with fail
  go_region_held3 (fun w' => w'.cell? ⟨w.heap.size + 1, 0, none⟩ = some (.bool s') ∧ w'.cell? ⟨w.heap.size + 1, 1, none⟩ = some (.slice A' n' c') ∧ w'.cell? ⟨w.heap.size, 1, none⟩ = some (.slice A n c)) (first | exact ⟨by assumption, by assumption, by assumption⟩ | exact ⟨far2 he20 (by dsimp only; omega) _ _, far2 he21 (by dsimp only; omega) _ _, far2 he11 (by dsimp only; omega) _ _⟩)
    (first
      | (go_at_call 50; refine (HP.out _ ?_).mono ?_; exact (Chg.refl _ _).drew; rintro e w5 ⟨R, k, d, rfl, HO5, HN5⟩; have hd20 := HN5.out.cell hc20 (fun h => h); have hd21 := HN5.out.cell hc21 (fun h => h); have hd11 := HN5.out.cell hc11 (fun h => h); have hd30 := HN5.out.cell hc30 (fun h => h); have hd31 := HN5.out.cell hc31 (fun h => h); have hg30 := (HB.out.2.2.1.chg HN5.out (fun h => h)).frozen 0; have hg31 := (HB.out.2.2.1.chg HN5.out (fun h => h)).frozen 1)
      | (go_at_call 20; refine (normal_om s' R k d _ _ _ HO5).mono ?_; rintro e w6 ⟨s6, A6, n6, c6, rfl, H6, HN6⟩; have he20 := HN6.out.cell hd20 (fun h => h); have he21 := HN6.out.cell hd21 (fun h => h); have he11 := HN6.out.cell hd11 (fun h => h); have he30 := HN6.out.cell hd30 (fun h => h); have he31 := HN6.out.cell hd31 (fun h => h); have hh30 := ((HB.out.2.2.1.chg HN5.out (fun h => h)).chg HN6.out (fun h => h)).frozen 0; have hh31 := ((HB.out.2.2.1.chg HN5.out (fun h => h)).chg HN6.out (fun h => h)).frozen 1))
  all_goals
    clear hc20 hc21 hc11 hc30 hc31 hf30 hf31 hd20 hd21 hd11 hd30 hd31 hg30 hg31
    go_wp2
    obtain ⟨hs6, hm6⟩ := H6.out
    have hb6 := (HB.out.2.2.1.chg HN5.out (fun h => h)).chg HN6.out (fun h => h)
    refine bodyPost_ret (res_c rfl _ rfl (aggN.load (hb6.set2 _ _))) rfl ⟨_, rfl, ⟨s6, A6, n6, c6, rfl, hs6, hm6.store hb6 (noInt_two' _ _ _ _) (Chg.at2 _ _ _ _)⟩, ?_⟩
    exact Chg.owned (HB.out.2.2.2.new (HN5.out.new HN6.out)) (Chg.at2 _ _ _ _) (fun k e => by omega)

set_option maxRecDepth 100000 in
set_option maxHeartbeats 2000000 in
theorem radd_ge (s s' : Bool) (hss : (s == s') = false) (A : Option Addr) (n c : Nat) (A' : Option Addr) (n' c' : Nat) (x y : Nat) (w : World) (hx : DM w A n c x) (hy : DM w A' n' c' y) (hn : n ≤ 1000000) (hn' : n' ≤ 1000000) (hlt : y ≤ x) :
    Calls Tryz.prog 19 #[.agg #[.bool s, .slice A n c], .agg #[.bool s', .slice A' n' c']] w fun e w' => ∃ v, e = .returned v ∧ RN w' v (sg s (x - y : Nat)) ∧ New w w' := by
  have H0 := Lib.hid (And.intro hx hy)
  clear hx hy
  go_enter Tryz.func19, Tryz.ntmps19
  go_wp2_with fail
  refine Calls.new3 ?_
  intro W0 hb1 hb2 hb3 hnW hzW
  refine (compared_any A n c A' n' c' x y W0 (H0.out.1.new hnW) (H0.out.2.new hnW)).mono ?_
  rintro e W ⟨rfl, q, hq⟩
  have hcv : decide (cmpI (x : Int) (y : Int) < 0) = false := by
    unfold cmpI
    rw [if_neg (by omega)]
    split <;> decide
  generalize cmpI (x : Int) (y : Int) = cv at *
  have hnq : New W0 W := by rw [hq]; exact (Chg.refl _ _).drewN q
  replace hb1 := hb1.chg hnq (fun h => h)
  replace hb2 := hb2.chg hnq (fun h => h)
  replace hb3 := hb3.chg hnq (fun h => h)
  replace hnW := hnW.new hnq
  have hc10 := hb1.cell 0 (u := .bool s) rfl
  have hc11 := hb1.cell 1 (u := .slice A n c) rfl
  have hc21 := hb2.cell 1 (u := .slice A' n' c') rfl
  have hc30 := hb3.cell 0 (u := .bool false) rfl
  have hc31 := hb3.cell 1 (u := .slice none 0 0) rfl
  have hf30 := hb3.frozen 0
  have hf31 := hb3.frozen 1
  have hmin : ∀ W', New W W' → Calls Tryz.prog 50 #[.slice A n c, .slice A' n' c'] W' fun e w' => ∃ R k d, e = .returned (.slice R k d) ∧ Hid (OM w' W'.heap.size R k d (x - y)) ∧ Hid (New W w') := fun W' h =>
    (minus_any A n c A' n' c' x y W' (H0.out.1.new (hnW.new h)) (H0.out.2.new (hnW.new h)) (by omega) hn).mono fun e w' ⟨R, k, d, h1, h2, h3⟩ => ⟨R, k, d, h1, h2, h.new h3⟩
  have HP := Lib.hid hmin
  have HB := Lib.hid (And.intro hb1 (And.intro hb2 (And.intro hb3 hnW)))
  clear hmin hb1 hb2 hb3 hnW hq hnq hzW
  go_wp2_with fail
  go_region_held3 (fun w' => w'.cell? ⟨w.heap.size, 0, none⟩ = some (.bool s) ∧ w'.cell? ⟨w.heap.size, 1, none⟩ = some (.slice A n c) ∧ w'.cell? ⟨w.heap.size + 1, 1, none⟩ = some (.slice A' n' c')) (first | exact ⟨by assumption, by assumption, by assumption⟩ | exact ⟨far2 he10 (by dsimp only; omega) _ _, far2 he11 (by dsimp only; omega) _ _, far2 he21 (by dsimp only; omega) _ _⟩)
    (first
      | (go_at_call 50; refine (HP.out _ ?_).mono ?_; exact (Chg.refl _ _).drew; rintro e w5 ⟨R, k, d, rfl, HO5, HN5⟩; have hd10 := HN5.out.cell hc10 (fun h => h); have hd11 := HN5.out.cell hc11 (fun h => h); have hd21 := HN5.out.cell hc21 (fun h => h); have hd30 := HN5.out.cell hc30 (fun h => h); have hd31 := HN5.out.cell hc31 (fun h => h); have hg30 := (HB.out.2.2.1.chg HN5.out (fun h => h)).frozen 0; have hg31 := (HB.out.2.2.1.chg HN5.out (fun h => h)).frozen 1)
      | (go_at_call 20; refine (normal_om s R k d _ _ _ HO5).mono ?_; rintro e w6 ⟨s6, A6, n6, c6, rfl, H6, HN6⟩; have he10 := HN6.out.cell hd10 (fun h => h); have he11 := HN6.out.cell hd11 (fun h => h); have he21 := HN6.out.cell hd21 (fun h => h); have he30 := HN6.out.cell hd30 (fun h => h); have he31 := HN6.out.cell hd31 (fun h => h); have hh30 := ((HB.out.2.2.1.chg HN5.out (fun h => h)).chg HN6.out (fun h => h)).frozen 0; have hh31 := ((HB.out.2.2.1.chg HN5.out (fun h => h)).chg HN6.out (fun h => h)).frozen 1))
  all_goals
    clear hc10 hc11 hc21 hc30 hc31 hf30 hf31 hd10 hd11 hd21 hd30 hd31 hg30 hg31
    go_wp2
    obtain ⟨hs6, hm6⟩ := H6.out
    have hb6 := (HB.out.2.2.1.chg HN5.out (fun h => h)).chg HN6.out (fun h => h)
    refine bodyPost_ret (res_c rfl _ rfl (aggN.load (hb6.set2 _ _))) rfl ⟨_, rfl, ⟨s6, A6, n6, c6, rfl, hs6, hm6.store hb6 (noInt_two' _ _ _ _) (Chg.at2 _ _ _ _)⟩, ?_⟩
    exact Chg.owned (HB.out.2.2.2.new (HN5.out.new HN6.out)) (Chg.at2 _ _ _ _) (fun k e => by omega)

theorem bz_len {w : World} {A : Option Addr} {n c : Nat} {z : Int} (h : DM w A n c z.natAbs) {k : Nat} (hk : z.natAbs < 2 ^ k) : n ≤ k :=
  h.len (Nat.lt_of_lt_of_le hk (Nat.pow_le_pow_left (by omega) k))
theorem radd_any (v v' : Value) (x y : Int) (w : World) (hx : RN w v x) (hy : RN w v' y) (bx : x.natAbs < 2 ^ 1000000) (bY : y.natAbs < 2 ^ 1000000) :
    Calls Tryz.prog 19 #[v, v'] w fun e w' => ∃ v, e = .returned v ∧ RN w' v (x + y) ∧ New w w' := by
  obtain ⟨s, A, n, c, rfl, hs, hm⟩ := hx
  obtain ⟨s', A', n', c', rfl, hs', hm'⟩ := hy
  have hn := bz_len hm bx
  have hn' := bz_len hm' bY
  clear bx bY
  by_cases hss : s = s'
  · subst hss
    refine (radd_same s A n c A' n' c' _ _ w hm hm' hn hn').mono ?_
    rintro e w1 ⟨v1, rfl, h1, h2⟩
    have e1 : sg s (x.natAbs + y.natAbs) = x + y := by
      unfold sg
      cases s
      · have : ¬ x < 0 := by simpa using hs.symm
        have : ¬ y < 0 := by simpa using hs'.symm
        simp; omega
      · have : x < 0 := by simpa using hs.symm
        have : y < 0 := by simpa using hs'.symm
        simp; omega
    rw [e1] at h1
    exact ⟨v1, rfl, h1, h2⟩
  · have hb : (s == s') = false := by simp [hss]
    have hsg : (s = true ∧ s' = false ∧ x < 0 ∧ ¬ y < 0) ∨ (s = false ∧ s' = true ∧ ¬ x < 0 ∧ y < 0) := by
      cases s <;> cases s'
      · exact absurd rfl hss
      · exact .inr ⟨rfl, rfl, by simpa using hs.symm, by simpa using hs'.symm⟩
      · exact .inl ⟨rfl, rfl, by simpa using hs.symm, by simpa using hs'.symm⟩
      · exact absurd rfl hss
    rcases Nat.lt_or_ge x.natAbs y.natAbs with hlt | hlt
    · refine (radd_lt s s' hb A n c A' n' c' _ _ w hm hm' hn hn' hlt).mono ?_
      rintro e w1 ⟨v1, rfl, h1, h2⟩
      have e1 : sg s' (y.natAbs - x.natAbs : Nat) = x + y := by
        unfold sg
        rcases hsg with ⟨_, rfl, h3, h4⟩ | ⟨_, rfl, h3, h4⟩ <;> simp <;> omega
      rw [e1] at h1
      exact ⟨v1, rfl, h1, h2⟩
    · refine (radd_ge s s' hb A n c A' n' c' _ _ w hm hm' hn hn' hlt).mono ?_
      rintro e w1 ⟨v1, rfl, h1, h2⟩
      have e1 : sg s (x.natAbs - y.natAbs : Nat) = x + y := by
        unfold sg
        rcases hsg with ⟨rfl, _, h3, h4⟩ | ⟨rfl, _, h3, h4⟩ <;> simp <;> omega
      rw [e1] at h1
      exact ⟨v1, rfl, h1, h2⟩

set_option maxRecDepth 100000 in
set_option maxHeartbeats 2000000 in
theorem rsub_any (v v' : Value) (x y : Int) (w : World) (hx : RN w v x) (hy : RN w v' y) (bx : x.natAbs < 2 ^ 1000000) (bY : y.natAbs < 2 ^ 1000000) :
    Calls Tryz.prog 64 #[v, v'] w fun e w' => ∃ v, e = .returned v ∧ RN w' v (x - y) ∧ New w w' := by
  obtain ⟨s, A, n, c, rfl, hs, hm⟩ := hx
  obtain ⟨s', A', n', c', rfl, hs', hm'⟩ := hy
  have H0 := Lib.hid (And.intro hs (And.intro hm (And.intro hs' (And.intro hm' (And.intro bx bY)))))
  clear hs hm hs' hm' bx bY
  go_enter Tryz.func64, Tryz.ntmps64
  go_wp2_with fail
  refine Code.new3 ?_
  intro W hb1 hb2 hb3 hnW hzW
  have hc10 := hb1.cell 0 (u := .bool s) rfl
  have hc11 := hb1.cell 1 (u := .slice A n c) rfl
  have hc20 := hb2.cell 0 (u := .bool s') rfl
  have hc21 := hb2.cell 1 (u := .slice A' n' c') rfl
  have hc30 := hb3.cell 0 (u := .bool false) rfl
  have hc31 := hb3.cell 1 (u := .slice none 0 0) rfl
  have hf30 := hb3.frozen 0
  have hf31 := hb3.frozen 1
  have hneg : ∀ W', New W W' → Calls Tryz.prog 6 #[.agg #[.bool s', .slice A' n' c']] W' fun e w' => ∃ s5 A5 n5 c5, e = .returned (.agg #[.bool s5, .slice A5 n5 c5]) ∧ Hid (s5 = decide (-y < 0) ∧ DM w' A5 n5 c5 (-y).natAbs) ∧ Hid (New W w') := fun W' h =>
    (rneg_any _ y W' ⟨s', A', n', c', rfl, H0.out.2.2.1, H0.out.2.2.2.1.new (hnW.new h)⟩).mono fun e w' ⟨v, h1, ⟨s5, A5, n5, c5, h2, h3, h4⟩, h5⟩ => ⟨s5, A5, n5, c5, by rw [h1, h2], ⟨h3, h4⟩, h.new h5⟩
  have hadd : ∀ s5 A5 n5 c5 w5, Hid (New W w5) → Hid (s5 = decide (-y < 0) ∧ DM w5 A5 n5 c5 (-y).natAbs) → Calls Tryz.prog 19 #[.agg #[.bool s, .slice A n c], .agg #[.bool s5, .slice A5 n5 c5]] w5 fun e w' => ∃ s6 A6 n6 c6, e = .returned (.agg #[.bool s6, .slice A6 n6 c6]) ∧ Hid (s6 = decide (x - y < 0) ∧ DM w' A6 n6 c6 (x - y).natAbs) ∧ Hid (New w5 w') := fun s5 A5 n5 c5 w5 h h' =>
    (radd_any _ _ x (-y) w5 ⟨s, A, n, c, rfl, H0.out.1, H0.out.2.1.new (hnW.new h.out)⟩ ⟨s5, A5, n5, c5, rfl, h'.out⟩ H0.out.2.2.2.2.1 (by rw [Int.natAbs_neg]; exact H0.out.2.2.2.2.2)).mono fun e w' ⟨v, h1, ⟨s6, A6, n6, c6, h2, h3, h4⟩, h5⟩ => ⟨s6, A6, n6, c6, by rw [h1, h2], ⟨h3, h4⟩, h5⟩
  have HP := Lib.hid hneg
  have HP2 := Lib.hid hadd
  have HB := Lib.hid (And.intro hb1 (And.intro hb2 (And.intro hb3 hnW)))
  clear hneg hadd hb1 hb2 hb3 hnW
  go_region_held3 (fun w' => w'.cell? ⟨w.heap.size, 0, none⟩ = some (.bool s) ∧ w'.cell? ⟨w.heap.size, 1, none⟩ = some (.slice A n c) ∧ w'.cell? ⟨w.heap.size + 1, 0, none⟩ = some (.bool s') ∧ w'.cell? ⟨w.heap.size + 1, 1, none⟩ = some (.slice A' n' c')) (first | exact ⟨by assumption, by assumption, by assumption, by assumption⟩ | exact ⟨far2 he10 (by dsimp only; omega) _ _, far2 he11 (by dsimp only; omega) _ _, far2 he20 (by dsimp only; omega) _ _, far2 he21 (by dsimp only; omega) _ _⟩)
    (first
      | (go_at_call 6; refine (HP.out _ ?_).mono ?_; exact (Chg.refl _ _).drew; rintro e w5 ⟨s5, A5, n5, c5, rfl, HO5, HN5⟩; have hd10 := HN5.out.cell hc10 (fun h => h); have hd11 := HN5.out.cell hc11 (fun h => h); have hd20 := HN5.out.cell hc20 (fun h => h); have hd21 := HN5.out.cell hc21 (fun h => h); have hd30 := HN5.out.cell hc30 (fun h => h); have hd31 := HN5.out.cell hc31 (fun h => h); have hg30 := (HB.out.2.2.1.chg HN5.out (fun h => h)).frozen 0; have hg31 := (HB.out.2.2.1.chg HN5.out (fun h => h)).frozen 1)
      | (go_at_call 19; refine (HP2.out s5 A5 n5 c5 w5 HN5 HO5).mono ?_; rintro e w6 ⟨s6, A6, n6, c6, rfl, H6, HN6⟩; have he10 := HN6.out.cell hd10 (fun h => h); have he11 := HN6.out.cell hd11 (fun h => h); have he20 := HN6.out.cell hd20 (fun h => h); have he21 := HN6.out.cell hd21 (fun h => h); have he30 := HN6.out.cell hd30 (fun h => h); have he31 := HN6.out.cell hd31 (fun h => h); have hh30 := ((HB.out.2.2.1.chg HN5.out (fun h => h)).chg HN6.out (fun h => h)).frozen 0; have hh31 := ((HB.out.2.2.1.chg HN5.out (fun h => h)).chg HN6.out (fun h => h)).frozen 1))
  all_goals
    clear hc10 hc11 hc20 hc21 hc30 hc31 hf30 hf31 hd10 hd11 hd20 hd21 hd30 hd31 hg30 hg31
    go_wp2
    obtain ⟨hs6, hm6⟩ := H6.out
    have hb6 := (HB.out.2.2.1.chg HN5.out (fun h => h)).chg HN6.out (fun h => h)
    refine bodyPost_ret (res_c rfl _ rfl (aggN.load (hb6.set2 _ _))) rfl ⟨_, rfl, ⟨s6, A6, n6, c6, rfl, hs6, hm6.store hb6 (noInt_two' _ _ _ _) (Chg.at2 _ _ _ _)⟩, ?_⟩
    exact Chg.owned (HB.out.2.2.2.new (HN5.out.new HN6.out)) (Chg.at2 _ _ _ _) (fun k e => by omega)
end Go.Proofs.YtmpkaimhjdkheaaGreatDoor

namespace Go.Txt
set_option linter.unusedVariables false
open Go.Lib (decDigits nDigits)

theorem snocRec {α : Type} {motive : List α → Prop} (nil : motive []) (snoc : ∀ l c, motive l → motive (l ++ [c])) (l : List α) : motive l := by
  rw [← List.reverse_reverse l]
  induction l.reverse with
  | nil => exact nil
  | cons a t ih => rw [List.reverse_cons]; exact snoc _ _ ih

theorem dec_small {u : Nat} (h : u < 10) : decDigits u = [UInt8.ofNat (48 + u)] := by rw [decDigits, dif_pos h]
theorem dec_big {u : Nat} (h : ¬ u < 10) : decDigits u = decDigits (u / 10) ++ [UInt8.ofNat (48 + u % 10)] := by rw [decDigits, dif_neg h]
/-- The last k digits of r. -/
def pad : Nat → Nat → List UInt8
  | 0, _ => []
  | k + 1, r => pad k (r / 10) ++ [UInt8.ofNat (48 + r % 10)]
theorem pad_len (k r : Nat) : (pad k r).length = k := by
  induction k generalizing r with
  | zero => rfl
  | succ k ih => simp [pad, ih]
theorem dec_pad (k : Nat) : ∀ (q r : Nat), r < 10 ^ k → 0 < q → decDigits (q * 10 ^ k + r) = decDigits q ++ pad k r := by
  induction k with
  | zero => intro q r hr hq; simp [pad] at hr ⊢; rw [hr]; rfl
  | succ k ih =>
    intro q r hr hq
    have hp : 1 ≤ 10 ^ k := Nat.one_le_pow _ _ (by decide)
    have e : q * 10 ^ (k + 1) = q * 10 ^ k * 10 := by rw [Nat.pow_succ, Nat.mul_assoc]
    have h1 : 10 ^ k ≤ q * 10 ^ k := Nat.le_mul_of_pos_left _ hq
    have h2 : r < 10 ^ k * 10 := by rwa [Nat.pow_succ] at hr
    rw [dec_big (by omega), pad, show (q * 10 ^ (k + 1) + r) / 10 = q * 10 ^ k + r / 10 by omega, ih q (r / 10) (by omega) hq, List.append_assoc, show (q * 10 ^ (k + 1) + r) % 10 = r % 10 by omega]
theorem rep_snoc (k : Nat) (a : UInt8) : List.replicate (k + 1) a = List.replicate k a ++ [a] := by
  rw [List.replicate_succ']
theorem pad_zero (k : Nat) : pad k 0 = List.replicate k 48 := by
  induction k with
  | zero => rfl
  | succ k ih => rw [pad, Nat.zero_div, ih, rep_snoc]; rfl
theorem pad_dec (k : Nat) : ∀ u, 1 ≤ k → u < 10 ^ k → pad k u = List.replicate (k - (decDigits u).length) 48 ++ decDigits u := by
  induction k with
  | zero => intro u h; omega
  | succ k ih =>
    intro u _ hu
    by_cases h : u < 10
    · rw [dec_small h, pad, Nat.div_eq_of_lt h, pad_zero, Nat.mod_eq_of_lt h]; simp
    · have hk : 1 ≤ k := by
        rcases Nat.eq_zero_or_pos k with h0 | h0
        · subst h0; simp at hu; omega
        · exact h0
      rw [dec_big h, pad, ih (u / 10) hk (by rw [Nat.pow_succ] at hu; omega), List.append_assoc]
      simp
theorem dec_len_le {u k : Nat} (hk : 1 ≤ k) (h : u < 10 ^ k) : (decDigits u).length ≤ k := by
  have h1 := congrArg List.length (pad_dec k u hk h)
  rw [pad_len] at h1
  simp at h1
  omega
theorem dec_len_pos (u : Nat) : 1 ≤ (decDigits u).length := by
  rw [Go.Lib.decDigits_length]; exact Go.Lib.nDigits_pos u

/-! ### digits -/
def isDig (c : UInt8) : Prop := 48 ≤ c.toNat ∧ c.toNat ≤ 57
instance (c : UInt8) : Decidable (isDig c) := inferInstanceAs (Decidable (_ ∧ _))
def AllDig (l : List UInt8) : Prop := ∀ c ∈ l, isDig c
theorem AllDig.nil : AllDig [] := fun _ h => by simp at h
theorem AllDig.append {a b : List UInt8} (ha : AllDig a) (hb : AllDig b) : AllDig (a ++ b) := fun c h => (List.mem_append.1 h).elim (ha c) (hb c)
theorem AllDig.left {a b : List UInt8} (h : AllDig (a ++ b)) : AllDig a := fun c hc => h c (List.mem_append.2 (.inl hc))
theorem AllDig.right {a b : List UInt8} (h : AllDig (a ++ b)) : AllDig b := fun c hc => h c (List.mem_append.2 (.inr hc))
theorem AllDig.take {a : List UInt8} (h : AllDig a) (k : Nat) : AllDig (a.take k) := fun c hc => h c (List.mem_of_mem_take hc)
theorem AllDig.drop {a : List UInt8} (h : AllDig a) (k : Nat) : AllDig (a.drop k) := fun c hc => h c (List.mem_of_mem_drop hc)
theorem dig_nat {d : Nat} (h : d < 10) : (UInt8.ofNat (48 + d)).toNat = 48 + d := by
  rw [UInt8.toNat_ofNat']; omega
theorem AllDig.one {d : Nat} (h : d < 10) : AllDig [UInt8.ofNat (48 + d)] := by
  intro c hc
  rw [List.mem_singleton] at hc
  subst hc
  unfold isDig
  rw [dig_nat h]; omega
theorem allDig_dec (u : Nat) : AllDig (decDigits u) := by
  induction u using Nat.strongRecOn with
  | _ u ih =>
    by_cases h : u < 10
    · rw [dec_small h]; exact AllDig.one h
    · rw [dec_big h]; exact (ih _ (by omega)).append (AllDig.one (by omega))
def decVal (l : List UInt8) : Nat := l.foldl (fun a c => a * 10 + (c.toNat - 48)) 0
theorem decVal_nil : decVal [] = 0 := rfl
theorem decVal_snoc (l : List UInt8) (c : UInt8) : decVal (l ++ [c]) = decVal l * 10 + (c.toNat - 48) := by simp [decVal]
theorem decVal_append (a b : List UInt8) : decVal (a ++ b) = decVal a * 10 ^ b.length + decVal b := by
  induction b using snocRec with
  | nil => simp [decVal_nil]
  | snoc b c ih =>
    rw [← List.append_assoc, decVal_snoc, ih, decVal_snoc, List.length_append, List.length_singleton, Nat.pow_succ, Nat.add_mul, Nat.mul_assoc, Nat.add_assoc]
theorem decVal_dec (u : Nat) : decVal (decDigits u) = u := by
  induction u using Nat.strongRecOn with
  | _ u ih =>
    by_cases h : u < 10
    · rw [dec_small h]
      simp [decVal, UInt8.toNat_ofNat']
      omega
    · rw [dec_big h, decVal_snoc, ih _ (by omega), dig_nat (by omega)]; omega
theorem decVal_lt {l : List UInt8} (h : AllDig l) : decVal l < 10 ^ l.length := by
  induction l using snocRec with
  | nil => simp [decVal_nil]
  | snoc l c ih =>
    have h1 := ih h.left
    have h2 := h.right c (by simp)
    rw [decVal_snoc, List.length_append, List.length_singleton, Nat.pow_succ]
    unfold isDig at h2
    omega
theorem byte_of_dig {c : UInt8} (h : isDig c) : UInt8.ofNat (48 + (c.toNat - 48)) = c := by
  unfold isDig at h
  rw [show 48 + (c.toNat - 48) = c.toNat by omega]
  exact UInt8.ofNat_toNat
/-- Digits without a zero ahead. -/
def Formed (l : List UInt8) : Prop := AllDig l ∧ (l = [48] ∨ ∃ c t, l = c :: t ∧ c ≠ 48)
theorem Formed.ne {l : List UInt8} (h : Formed l) : l ≠ [] := by
  rcases h.2 with rfl | ⟨c, t, rfl, _⟩ <;> simp
theorem dec_of_val {l : List UInt8} (h : Formed l) : decDigits (decVal l) = l := by
  obtain ⟨hd, h⟩ := h
  rcases h with rfl | ⟨c, t, rfl, hc⟩
  · rw [show decVal [48] = 0 by rfl, dec_small (by omega)]; rfl
  · induction t using snocRec with
    | nil =>
      have h1 := hd c (by simp)
      have : decVal [c] = c.toNat - 48 := by simp [decVal]
      unfold isDig at h1
      rw [this, dec_small (by omega), byte_of_dig h1]
    | snoc t x ih =>
      rw [← List.cons_append] at hd ⊢
      have h1 := hd.right x (by simp)
      have h2 := ih hd.left
      have hx := h1
      unfold isDig at h1
      have hpos : 0 < decVal (c :: t) := by
        rcases Nat.eq_zero_or_pos (decVal (c :: t)) with h0 | h0
        · exfalso
          rw [h0, dec_small (by omega)] at h2
          injection h2 with h3 h4
          exact hc h3.symm
        · exact h0
      rw [decVal_snoc, dec_big (by omega), show (decVal (c :: t) * 10 + (x.toNat - 48)) / 10 = decVal (c :: t) by omega, h2, show (decVal (c :: t) * 10 + (x.toNat - 48)) % 10 = x.toNat - 48 by omega, byte_of_dig hx]
theorem formed_dec (u : Nat) : Formed (decDigits u) := by
  refine ⟨allDig_dec u, ?_⟩
  induction u using Nat.strongRecOn with
  | _ u ih =>
    by_cases h : u < 10
    · rw [dec_small h]
      rcases Nat.eq_zero_or_pos u with h0 | h0
      · subst h0; left; rfl
      · right
        refine ⟨_, [], rfl, fun e => ?_⟩
        have := congrArg UInt8.toNat e
        rw [dig_nat h] at this
        simp at this
        omega
    · rw [dec_big h]
      right
      rcases ih (u / 10) (by omega) with e | ⟨c, t, e, hc⟩
      · exfalso
        have := decVal_dec (u / 10)
        rw [e] at this
        have h2 : decVal [48] = 0 := rfl
        omega
      · rw [e]; exact ⟨c, _, rfl, hc⟩
/-! ### texts of integers -/
def text (z : Int) : List UInt8 := if z < 0 then 45 :: decDigits z.natAbs else decDigits z.natAbs
theorem not45 {l : List UInt8} (h : AllDig l) {t : List UInt8} : l ≠ 45 :: t := by
  intro e; subst e
  have := h 45 (by simp)
  unfold isDig at this
  simp at this
theorem text_len {z : Int} {k : Nat} (hk : 1 ≤ k) (h : z.natAbs < 10 ^ k) : (text z).length ≤ k + 1 := by
  have := dec_len_le hk h
  unfold text
  split <;> simp <;> omega
/-- The sign and the rest of a text. -/
def body (l : List UInt8) : List UInt8 := if l.head? = some 45 then l.tail else l
/-- The integer with a text. -/
def Reads (l : List UInt8) (z : Int) : Prop := Formed (body l) ∧ ¬ (l.head? = some 45 ∧ body l = [48]) ∧ z = (if l.head? = some 45 then -(decVal (body l) : Int) else (decVal (body l) : Int))
theorem Reads.text {l : List UInt8} {z : Int} (h : Reads l z) : text z = l := by
  obtain ⟨h1, h2, h3⟩ := h
  have h4 := dec_of_val h1
  by_cases hs : l.head? = some 45
  · rw [if_pos hs] at h3
    obtain ⟨t, rfl⟩ : ∃ t, l = 45 :: t := by
      cases l with
      | nil => simp at hs
      | cons a t => simp at hs; exact ⟨t, by rw [hs]⟩
    have hb : body (45 :: t) = t := by simp [body]
    rw [hb] at h1 h2 h3 h4
    have hpos : 0 < decVal t := by
      rcases Nat.eq_zero_or_pos (decVal t) with h0 | h0
      · exfalso
        rw [h0, dec_small (by omega)] at h4
        exact h2 ⟨hs, h4.symm⟩
      · exact h0
    unfold Txt.text
    rw [if_pos (by omega), show z.natAbs = decVal t by omega, h4]
  · rw [if_neg hs] at h3
    have hb : body l = l := by simp [body, hs]
    rw [hb] at h1 h2 h3 h4
    unfold Txt.text
    rw [if_neg (by omega), show z.natAbs = decVal l by omega, h4]
theorem reads_text (z : Int) : Reads (text z) z := by
  have hf := formed_dec z.natAbs
  by_cases h : z < 0
  · have e : text z = 45 :: decDigits z.natAbs := by unfold text; rw [if_pos h]
    have hb : body (text z) = decDigits z.natAbs := by rw [e]; simp [body]
    have hh : (text z).head? = some 45 := by rw [e]; rfl
    refine ⟨by rw [hb]; exact hf, ?_, by rw [if_pos hh, hb, decVal_dec]; omega⟩
    rintro ⟨_, h2⟩
    rw [hb] at h2
    have := decVal_dec z.natAbs
    rw [h2] at this
    have h3 : decVal [48] = 0 := rfl
    omega
  · have e : text z = decDigits z.natAbs := by unfold text; rw [if_neg h]
    have hh : (text z).head? ≠ some 45 := by
      rw [e]
      intro hh
      cases hd : decDigits z.natAbs with
      | nil => rw [hd] at hh; simp at hh
      | cons a t => rw [hd] at hh; simp at hh; exact not45 (allDig_dec _) (by rw [hd, hh])
    have hb : body (text z) = decDigits z.natAbs := by rw [body, if_neg hh, e]
    exact ⟨by rw [hb]; exact hf, fun h => hh h.1, by rw [if_neg hh, hb, decVal_dec]; omega⟩
theorem Reads.uniq {l : List UInt8} {z z' : Int} (h : Reads l z) (h' : Reads l z') : z = z' := by rw [h.2.2, h'.2.2]
theorem Reads.body_len (l : List UInt8) : (body l).length ≤ l.length := by
  unfold body; split
  · simp
  · exact Nat.le_refl _
end Go.Txt

namespace Go.Proofs.YtmpkaimhjdkheaaGreatDoor
set_option linter.unusedVariables false
open Go.RowKit Go.Mem Go.Dig
open Go.Lib (decDigits)

/-- The string with these bytes. -/
def St (l : List UInt8) : ByteArray := ⟨l.toArray⟩
theorem St_app (a b : List UInt8) : St a ++ St b = St (a ++ b) := by
  unfold St
  apply ByteArray.ext
  simp
theorem St_size (a : List UInt8) : (St a).size = a.length := by simp [St, ByteArray.size]
theorem run_slice_string_lh {P : Program} (w : World) (t : TypeId) (s : ByteArray) (ht : P.underlying t = some .string) (kl kh : IntKind) (l h : Int) (h0 : 0 ≤ l) (h1 : l ≤ h) (h2 : h ≤ s.size) :
    (Instr.slice t (.string s) (some (.int kl l)) (some (.int kh h)) none).run P w = .ok (.string (s.extract l.toNat h.toNat)) w := by
  have eh : (h.toNat : Int) = h := Int.toNat_of_nonneg (by omega)
  simp [Instr.slice, run_underlying ht, Instr.sliceBounds, run_sliceBound, sliced, *, eh, (by omega : 0 ≤ l), (by omega : 0 ≤ h)]
theorem dig_slice (P : Program) (t : TypeId) (ht : P.underlying t = some .string) (d : Nat) (hd : d < 10) (W : World) :
    (Instr.slice t (.string ⟨#[48, 49, 50, 51, 52, 53, 54, 55, 56, 57]⟩) (some (.int .i64 (d : Int))) (some (.int .i64 ((d : Int) + 1))) none).run P W = .ok (.string (St [UInt8.ofNat (48 + d)])) W := by
  have hz : (⟨#[48, 49, 50, 51, 52, 53, 54, 55, 56, 57]⟩ : ByteArray).size = 10 := rfl
  have h := run_slice_string_lh (P := P) W t ⟨#[48, 49, 50, 51, 52, 53, 54, 55, 56, 57]⟩ ht .i64 .i64 (d : Int) ((d : Int) + 1) (by omega) (by omega) (by rw [hz]; omega)
  rw [h]
  rcases (show d = 0 ∨ d = 1 ∨ d = 2 ∨ d = 3 ∨ d = 4 ∨ d = 5 ∨ d = 6 ∨ d = 7 ∨ d = 8 ∨ d = 9 by omega) with h | h | h | h | h | h | h | h | h | h <;> subst h <;> rfl

def DecI (T : List UInt8) (i : Nat) (l : List UInt8) : Prop := (if i = 0 then l else decDigits i ++ l) = T
theorem dec_step {k : Nat} {s t : List UInt8} (hk : k ≠ 0) (h : DecI t k s) : DecI t (k / 10) ([UInt8.ofNat (48 + k % 10)] ++ s) := by
  unfold DecI at h ⊢
  rw [if_neg hk] at h
  rw [← h]
  by_cases h1 : k < 10
  · rw [if_pos (by omega), Txt.dec_small h1, Nat.mod_eq_of_lt h1]
  · rw [if_neg (by omega), Txt.dec_big h1, List.append_assoc]

set_option maxHeartbeats 1000000 in
theorem decimal_any (d : Nat) (hd : d ≤ 9999) (w : World) :
    Calls Tryz.prog 27 #[.int .i64 d] w fun e w' => e = .returned (.string (St (decDigits d))) ∧ w = w' := by
  obtain ⟨T, hT⟩ : ∃ T, decDigits d = T := ⟨_, rfl⟩
  rw [hT]
  by_cases h0 : d = 0
  · subst h0
    obtain rfl : [48] = T := by rw [← hT, Txt.dec_small (by omega)]; rfl
    clear hT
    go_enter Tryz.func27, Tryz.ntmps27
    go_wp2
    go_ret
    exact ⟨rfl, rfl⟩
  · have HT := Lib.hid hT
    have hdz : ((d : Int) == 0) = false := by simp; omega
    clear hT
    go_enter Tryz.func27, Tryz.ntmps27
    go_wp2
    go_loop [5, 4, 6] (fun k s _ => ∃ (i : Nat) (b : ByteArray), k = .int .i64 (i : Int) ∧ s = .string b ∧ b.size + i ≤ 9999 ∧ Hid (∃ l, b = St l ∧ DecI T i l)) (fun k _ _ => (intOf k).toNat)
    case atStart => exact ⟨d, ⟨#[]⟩, rfl, rfl, by simp [ByteArray.size]; omega, [], rfl, by unfold DecI; rw [if_neg h0, List.append_nil]; exact HT.out⟩
    case round =>
      obtain ⟨i, b, rfl, rfl, hi, HI⟩ := hrel
      by_cases hz : i = 0
      · subst hz
        have hneg : decide ((d : Int) < 0) = false := by simp
        go_wp2
        go_ret
        obtain ⟨l, rfl, this⟩ := HI.out
        unfold DecI at this
        rw [if_pos rfl] at this
        subst this
        exact ⟨rfl, rfl⟩
      · have hzb : ((i : Int) != 0) = true := by simp; omega
        obtain ⟨r, hr⟩ : ∃ r, i % 10 = r := ⟨_, rfl⟩
        obtain ⟨q, hq⟩ : ∃ q, i / 10 = q := ⟨_, rfl⟩
        have hri : (i : Int) % 10 = (r : Int) := by omega
        have hqi : (i : Int) / 10 = (q : Int) := by omega
        have hrb : r < 10 := by omega
        have hqb : q < i := by omega
        have hsl := dig_slice Tryz.prog 9 Tryz.underlying9 r hrb
        obtain ⟨l, hbl, hdec⟩ := HI.out
        have hst := dec_step hz hdec
        rw [hr, hq] at hst
        obtain ⟨D, hD⟩ : ∃ D, St [UInt8.ofNat (48 + r)] = D := ⟨_, rfl⟩
        rw [hD] at hsl
        have hDs : D.size = 1 := by rw [← hD, St_size]; rfl
        have hsz : ¬ 9223372036854775807 < D.size + b.size := by omega
        have hnew : (D ++ b).size = D.size + b.size := by simp
        have HS : Hid (∃ l, D ++ b = St l ∧ DecI T q l) := ⟨_, by rw [← hD, hbl, St_app], hst⟩
        have HDS := Lib.hid (And.intro hDs hnew)
        have hrn : decide ((r : Int) < 0) = false := by simp
        clear hr hq hst HI hbl hdec hD hDs hnew
        go_wp2
        go_round
        case rel => exact ⟨q, _, rfl, rfl, by have := HDS.out; omega, HS.out⟩
        case measure => simp [intOf]; omega

/-- The text of digits, the first n of them read from the end. -/
def TxtI (l : List Nat) (k : Nat) (t : List UInt8) : Prop := t = decDigits (val 10000 (l.drop k))
theorem txt_step {l : List Nat} {k d : Nat} {t : List UInt8} (h : TxtI l (k + 1) t) (hd : l[k]? = some d) (hdb : d < 10000) (hpos : 0 < val 10000 (l.drop (k + 1))) : TxtI l k (t ++ Txt.pad 4 d) := by
  unfold TxtI at h ⊢
  have e := Txt.dec_pad 4 (val 10000 (l.drop (k + 1))) d (by omega) hpos
  rw [h, val_drop hd, show d + 10000 * val 10000 (l.drop (k + 1)) = val 10000 (l.drop (k + 1)) * 10 ^ 4 + d by omega, e]

theorem txt_top {l : List Nat} {z : Nat} {n : Nat} (h : Num 10000 l z) (hl : l.length = n) (hn : 1 ≤ n) : ∃ d, l[n - 1]? = some d ∧ d < 10000 ∧ 1 ≤ d ∧ TxtI l (n - 1) (decDigits d) := by
  obtain ⟨d, hd⟩ : ∃ d, l[n - 1]? = some d := ⟨_, List.getElem?_eq_getElem (by omega)⟩
  refine ⟨d, hd, h.digs.at_ hd, ?_, ?_⟩
  · rcases Nat.eq_zero_or_pos d with h0 | h0
    · exfalso
      apply h.trim
      rw [List.getLast?_eq_getElem?, hl, hd, h0]
    · exact h0
  · unfold TxtI
    rw [val_drop hd, List.drop_eq_nil_of_le (by omega), val_nil]
    simp
theorem val_drop_pos {l : List Nat} {z n k : Nat} (h : Num 10000 l z) (hl : l.length = n) (hk : k < n) : 0 < val 10000 (l.drop k) := by
  have h1 := val_pos (B := 10000) (by omega) (h.trim.drop k) (by intro e; have := congrArg List.length e; simp at this; omega)
  exact Nat.lt_of_lt_of_le (Nat.pow_pos (by omega)) h1
theorem pad4 {c : ByteArray} {d : Nat} (hd : d < 10000) (h : c = St (List.replicate (c.size - (decDigits d).length) 48 ++ decDigits d)) (h4 : c.size = 4) : c = St (Txt.pad 4 d) := by
  rw [Txt.pad_dec 4 d (by omega) (by omega), ← h4]
  exact h

set_option maxHeartbeats 1000000 in
set_option maxRecDepth 100000 in
theorem rtext_any (v : Value) (z : Int) (w : World) (hv : RN w v z) (hz : z.natAbs < 2 ^ 1000000) :
    Calls Tryz.prog 12 #[v] w fun e w' => e = .returned (.string (St (Txt.text z))) ∧ New w w' := by
  obtain ⟨s, A, n, c, rfl, hs, hm⟩ := hv
  have hn := bz_len hm hz
  obtain ⟨l, hr, hnc, hc, hN⟩ := hm
  have hll : l.length = n := by have := hr.len; rwa [nv_length] at this
  obtain ⟨T, hT⟩ : ∃ T, Txt.text z = T := ⟨_, rfl⟩
  rw [hT]
  clear hz
  by_cases h0 : n = 0
  · subst h0
    have hz0 : z.natAbs = 0 := (hN.nil_iff (by omega)).1 (List.eq_nil_of_length_eq_zero hll)
    obtain rfl : [48] = T := by
      rw [← hT]; unfold Txt.text; rw [if_neg (by omega), hz0, Txt.dec_small (by omega)]; rfl
    clear hr hN hll hT hz0 hs
    go_enter Tryz.func12, Tryz.ntmps12
    go_wp2
    go_ret
    exact ⟨rfl, (Chg.refl _ w).alloc _⟩
  · obtain ⟨d, hd, hdb, hd1, htop⟩ := txt_top hN hll (by omega)
    obtain ⟨j, hj⟩ : ∃ j, n - 1 = j := ⟨_, rfl⟩
    rw [hj] at hd htop
    have hji : (n : Int) - 1 = (j : Int) := by omega
    have hj2 : (n : Int) - 2 = (j : Int) - 1 := by omega
    have hjn : j < n := by omega
    have hn0 : ((n : Int) == 0) = false := by simp; omega
    obtain ⟨ad, u, rfl, hu, hcu⟩ := hr.at_ hjn
    obtain ⟨d', hd', rfl⟩ := nv_at hu
    obtain rfl : d = d' := by rw [hd] at hd'; injection hd'
    have H0 := Lib.hid (And.intro hr (And.intro hN (And.intro hll (And.intro hs (And.intro hT hj)))))
    have HTOP := Lib.hid htop
    have hdl := Txt.dec_len_le (u := d) (k := 4) (by omega) (by omega)
    have hcW := ((Chg.refl (fun _ => False) w).alloc (.cells #[.bool s, .slice (some ad) n c] 26)).cell hcu (fun h => h)
    clear hr hN hll hT hs hu hd' hd htop hj hcu
    go_enter Tryz.func12, Tryz.ntmps12
    go_wp2_with fail
    refine Calls.new1 ?_
    intro W hb1 hnW hzW
    refine (decimal_any d (by omega) W).mono ?_
    rintro e w1 ⟨rfl, rfl⟩
    have hk1 := hb1.cell 1 (u := .slice (some ad) n c) rfl
    have hk0 := hb1.cell 0 (u := .bool s) rfl
    have HW := Lib.hid hnW
    clear hcW hb1 hnW hzW
    obtain ⟨b0, hb0⟩ : ∃ b, St (decDigits d) = b := ⟨_, rfl⟩
    have hb0s : b0.size ≤ 4 := by rw [← hb0, St_size]; exact hdl
    rw [hb0]
    have HB0 : Hid (∃ t, b0 = St t ∧ TxtI l j t) := ⟨_, hb0.symm, HTOP.out⟩
    have hj4 : b0.size + 4 * j ≤ 4 * n := by omega
    clear hb0 HTOP hdl hji
    go_wp2_with fail
    clear hj2
    go_loop [4, 3, 5] (fun i o _ => ∃ (k : Nat) (b : ByteArray), i = .int .i64 ((k : Int) - 1) ∧ o = .string b ∧ k ≤ j ∧ b.size + 4 * k ≤ 4 * n ∧ Hid (∃ t, b = St t ∧ TxtI l k t)) (fun i _ _ => (intOf i + 1).toNat)
    case atStart => exact ⟨j, b0, rfl, rfl, Nat.le_refl _, hj4, HB0.out⟩
    case round =>
      obtain ⟨k, b, rfl, rfl, hkj, hbs, HI⟩ := hrel
      by_cases hk : k = 0
      · subst hk
        obtain ⟨t, hbt, htx⟩ := HI.out
        obtain ⟨hr, hN, hll, hs, hT, hj⟩ := H0.out
        have hfin : t = decDigits z.natAbs := by unfold TxtI at htx; rw [List.drop_zero, hN.val] at htx; exact htx
        have hneg : decide ((0 : Int) ≤ ((0 : Nat) : Int) - 1) = false := by simp
        rw [show (((0 : Nat) : Int) - 1) = -1 by rfl]
        have hbs2 : ¬ 9223372036854775807 < (⟨#[45]⟩ : ByteArray).size + b.size := by
          have : (⟨#[45]⟩ : ByteArray).size = 1 := rfl
          omega
        cases s
        · have e : St T = b := by rw [← hT, hbt, hfin]; unfold Txt.text; rw [if_neg (by simpa using hs.symm)]
          have HE := Lib.hid e
          clear hr hN hll hs hT hj hfin hbt htx HI e
          go_wp2
          go_ret
          rw [HE.out]
          exact ⟨rfl, HW.out⟩
        · have e : St T = ⟨#[45]⟩ ++ b := by
            rw [← hT, hbt, hfin]; unfold Txt.text; rw [if_pos (by simpa using hs.symm)]
            exact (St_app [45] _).symm
          have HE := Lib.hid e
          clear hr hN hll hs hT hj hfin hbt htx HI e
          go_wp2
          go_ret
          rw [HE.out]
          exact ⟨rfl, HW.out⟩
      · obtain ⟨i, rfl⟩ : ∃ i, k = i + 1 := ⟨k - 1, by omega⟩
        have hi0 : (((i + 1 : Nat) : Int) - 1) = (i : Int) := by omega
        rw [hi0]
        clear hi0
        obtain ⟨t, hbt, htx⟩ := HI.out
        obtain ⟨hr, hN, hll, hs, hT, hj⟩ := H0.out
        obtain ⟨ad2, u, hA, hu, hcu⟩ := (hr.new HW.out).at_ (show i < n by omega)
        injection hA with hA
        subst hA
        obtain ⟨d2, hd2, rfl⟩ := nv_at hu
        have hd2b : d2 < 10000 := hN.digs.at_ hd2
        have hst := txt_step htx hd2 hd2b (val_drop_pos hN hll (by omega))
        have hd2l := Txt.dec_len_le (u := d2) (k := 4) (by omega) (by omega)
        have HS := Lib.hid (And.intro hbt hst)
        clear hr hN hll hs hT hj hu hd2 hst hbt htx HI
        go_wp2_with fail
        refine (decimal_any d2 (by omega) W).mono ?_
        rintro e w1 ⟨rfl, rfl⟩
        obtain ⟨c0, hc0⟩ : ∃ b, St (decDigits d2) = b := ⟨_, rfl⟩
        have hc0s : c0.size ≤ 4 := by rw [← hc0, St_size]; exact hd2l
        have HC0 : Hid (c0 = St (List.replicate (c0.size - (decDigits d2).length) 48 ++ decDigits d2) ∧ (decDigits d2).length ≤ c0.size) := by
          have : c0.size = (decDigits d2).length := by rw [← hc0, St_size]
          exact ⟨by rw [this, Nat.sub_self]; exact hc0.symm, by omega⟩
        rw [hc0]
        clear hc0 hd2l hcu
        go_wp2_with fail
        go_loop [5] (fun s => ∃ c : ByteArray, s = .string c ∧ c.size ≤ 4 ∧ Hid (c = St (List.replicate (c.size - (decDigits d2).length) 48 ++ decDigits d2) ∧ (decDigits d2).length ≤ c.size)) (fun s => match s with | .string c => 4 - c.size | _ => 0)
        case atStart => exact ⟨c0, rfl, hc0s, HC0⟩
        case round =>
          obtain ⟨c1, rfl, hc1s, HC1⟩ := hrel
          by_cases h4 : c1.size < 4
          · have hlt : (c1.size : Int) < 4 := by omega
            have hsz : ¬ 9223372036854775807 < (⟨#[48]⟩ : ByteArray).size + c1.size := by
              have : (⟨#[48]⟩ : ByteArray).size = 1 := rfl
              omega
            have hnew : ((⟨#[48]⟩ : ByteArray) ++ c1).size = c1.size + 1 := by
              have : (⟨#[48]⟩ : ByteArray).size = 1 := rfl
              simp [this]; omega
            have HN2 : Hid ((⟨#[48]⟩ : ByteArray) ++ c1 = St (List.replicate (((⟨#[48]⟩ : ByteArray) ++ c1).size - (decDigits d2).length) 48 ++ decDigits d2) ∧ (decDigits d2).length ≤ ((⟨#[48]⟩ : ByteArray) ++ c1).size) := by
              obtain ⟨h1, h2⟩ := HC1.out
              refine ⟨?_, by omega⟩
              rw [hnew, show c1.size + 1 - (decDigits d2).length = (c1.size - (decDigits d2).length) + 1 by omega, List.replicate_succ, List.cons_append]
              have h3 := St_app [48] (List.replicate (c1.size - (decDigits d2).length) 48 ++ decDigits d2)
              rw [← h1] at h3
              exact h3
            have HNEW := Lib.hid hnew
            clear hnew HC1
            go_wp2
            go_round
            case rel => exact ⟨_, rfl, by rw [HNEW.out]; omega, HN2⟩
            case measure =>
              show 4 - ((⟨#[48]⟩ : ByteArray) ++ c1).size < 4 - c1.size
              rw [HNEW.out]; omega
          · have h44 : c1.size = 4 := by omega
            have hlt : decide ((c1.size : Int) < 4) = false := by simp; omega
            have hpad := pad4 hd2b HC1.out.1 h44
            have hsz : ¬ 9223372036854775807 < b.size + c1.size := by omega
            have hnew : (b ++ c1).size = b.size + 4 := by simp [h44]
            have HN3 : Hid (∃ t, b ++ c1 = St t ∧ TxtI l i t) := ⟨_, by rw [HS.out.1, hpad, St_app], HS.out.2⟩
            have HNEW := Lib.hid hnew
            clear hnew hpad HC1 h44
            go_wp2
            go_round
            case rel => exact ⟨i, _, rfl, rfl, by omega, by rw [HNEW.out]; omega, HN3⟩
            case measure => simp [intOf]
end Go.Proofs.YtmpkaimhjdkheaaGreatDoor

namespace Go.Proofs.YtmpkaimhjdkheaaGreatDoor
set_option linter.unusedVariables false
open Go.RowKit Go.Mem Go.Dig

theorem elemU32 : Elem Tryz.prog 33 58 (.int .u32 0) 4 := Elem.mk' Tryz.underlying33 (by kernel_rfl) rfl

set_option maxHeartbeats 400000 in
theorem trim_any (A : Option Addr) (n c : Nat) (l : List Nat) (w : World) (hr : Rd w A n (nv .u32 l)) (hnc : n ≤ c) (hc : c ≤ 9223372036854775807) :
    Calls Tryz.prog 36 #[.slice A n c] w fun e w' => e = .returned (.slice A (Dig.trim l).length c) ∧ w = w' := by
  have hl : l.length = n := by have := hr.len; rwa [nv_length] at this
  obtain ⟨T, hT⟩ : ∃ T, (Dig.trim l).length = T := ⟨_, rfl⟩
  rw [hT]
  have H0 := Lib.hid (And.intro hl (And.intro hr hT))
  clear hl hr hT
  have hup := fun (k : Nat) (i : Int) (hi : i = (k : Int)) (m : Nat) (hk : k ≤ c) (W : World) => run_upto elemU32 .i64 A m c k i hi hk W
  have HUP := Lib.hid hup
  clear hup
  go_enter Tryz.func36, Tryz.ntmps36
  go_wp2
  go_loop [0] (fun v => ∃ k : Nat, v = .slice A k c ∧ k ≤ n ∧ Hid ((Dig.trim (l.take k)).length = T)) (fun v => match v with | .slice _ k _ => k | _ => 0)
  case atStart =>
    obtain ⟨hl, hr, hT⟩ := H0.out
    exact ⟨n, rfl, Nat.le_refl _, by show _ = _; rw [List.take_of_length_le (by omega), hT]⟩
  case round =>
    obtain ⟨k, rfl, hk, HK⟩ := hrel
    by_cases h0 : k = 0
    · subst h0
      go_wp2
      go_ret
      have := HK.out
      simp [Dig.trim] at this
      rw [← this]
      exact ⟨rfl, rfl⟩
    · obtain ⟨j, rfl⟩ : ∃ j, k = j + 1 := ⟨k - 1, by omega⟩
      have hpos : decide ((0 : Int) < ((j + 1 : Nat) : Int)) = true := by simp
      obtain ⟨hl, hr, hT⟩ := H0.out
      obtain ⟨ad, u, rfl, hu, hcu⟩ := hr.at_ (show j < n by omega)
      obtain ⟨z, hz, rfl⟩ := nv_at hu
      have HZ := Lib.hid hz
      clear hl hr hT hu hz
      by_cases hz0 : z = 0
      · subst hz0
        have hup := HUP.out j ((j + 1 : Nat) - 1 : Int) (by omega) (j + 1) (by omega)
        go_wp2
        go_round
        case rel => exact ⟨j, rfl, by omega, by show _ = _; rw [← HK.out, trim_step HZ.out rfl]⟩
        case measure => simp
      · have hzb : ((z : Int) == 0) = false := by simp; omega
        go_wp2
        go_ret
        have := HK.out
        rw [trim_stop HZ.out hz0, List.length_take, Nat.min_eq_left (by have := H0.out.1; omega)] at this
        rw [← this]
        exact ⟨rfl, rfl⟩

theorem aggInt : Agg Tryz.prog 35 2 := ⟨_, Tryz.underlying35, rfl, by kernel_rfl⟩

set_option maxHeartbeats 400000 in
theorem made_any (s : Bool) (A : Option Addr) (n c : Nat) (l : List Nat) (w : World) (hr : Rd w A n (nv .u32 l)) (hnc : n ≤ c) (hc : c ≤ 9223372036854775807) :
    Calls Tryz.prog 55 #[.bool s, .slice A n c] w fun e w' => e = .returned (.agg #[.bool (s && decide (0 < (Dig.trim l).length)), .slice A (Dig.trim l).length c]) ∧ New w w' := by
  obtain ⟨T, hT⟩ : ∃ T, (Dig.trim l).length = T := ⟨_, rfl⟩
  rw [hT]
  have HR := Lib.hid (And.intro hr hT)
  clear hr hT
  have hfin : ∀ b : Bool, bodyPost Tryz.prog Tryz.f55 (fun e w' => e = .returned (.agg #[.bool b, .slice A T c]) ∧ New w w') .ret = bodyPost Tryz.prog Tryz.f55 (fun e w' => e = .returned (.agg #[.bool b, .slice A T c]) ∧ New w w') .ret := fun _ => rfl
  clear hfin
  cases s
  · rw [Bool.false_and]
    go_enter Tryz.func55, Tryz.ntmps55
    go_wp2_with fail
    refine (trim_any A n c l _ (HR.out.1.new ((Chg.refl _ _).alloc _)) hnc hc).mono ?_
    rintro e w1 ⟨rfl, rfl⟩
    rw [HR.out.2]
    go_wp2
    exact bodyPost_ret (res_c rfl _ rfl (aggInt.load (Blk.new _ _ _))) rfl ⟨rfl, (Chg.refl _ w).alloc _⟩
  · rw [Bool.true_and]
    by_cases h0 : T = 0
    · rw [show decide (0 < T) = false by simp; omega]
      subst h0
      go_enter Tryz.func55, Tryz.ntmps55
      go_wp2_with fail
      refine (trim_any A n c l _ (HR.out.1.new ((Chg.refl _ _).alloc _)) hnc hc).mono ?_
      rintro e w1 ⟨rfl, rfl⟩
      rw [HR.out.2]
      go_wp2
      exact bodyPost_ret (res_c rfl _ rfl (aggInt.load (Blk.new _ _ _))) rfl ⟨rfl, (Chg.refl _ w).alloc _⟩
    · rw [show decide (0 < T) = true by simp; omega]
      have hpos : (0 : Int) < (T : Int) := by omega
      have hTpos : 0 < T := by omega
      go_enter Tryz.func55, Tryz.ntmps55
      go_wp2_with fail
      refine (trim_any A n c l _ (HR.out.1.new ((Chg.refl _ _).alloc _)) hnc hc).mono ?_
      rintro e w1 ⟨rfl, rfl⟩
      rw [HR.out.2]
      go_wp2
      exact bodyPost_ret (res_c rfl _ rfl (aggInt.load (Blk.new _ _ _))) rfl ⟨rfl, (Chg.refl _ w).alloc _⟩

/-- The amount m lies in a slice. -/
def WM (w : World) (A : Option Addr) (n c : Nat) (m : Nat) : Prop := ∃ l, Rd w A n (nv .u32 l) ∧ n ≤ c ∧ c ≤ 9223372036854775807 ∧ Num 4294967296 l m
theorem WM.new {w w' : World} {A : Option Addr} {n c m : Nat} (h : WM w A n c m) (hn : New w w') : WM w' A n c m := by
  obtain ⟨l, h1, h2⟩ := h
  exact ⟨l, h1.new hn, h2⟩
theorem WM.store {w w' : World} {A : Option Addr} {n c m g : Nat} {t : TypeId} {cs : Array Value} (h : WM w A n c m) (hb : Blk w g t cs) (hi : NoInt cs.toList) (hc : Chg (fun k => k = g) w w') : WM w' A n c m := by
  obtain ⟨l, h1, h2⟩ := h
  refine ⟨l, h1.store hb (fun u hu => ?_) hc, h2⟩
  obtain ⟨z, _, rfl⟩ := List.mem_map.1 hu
  exact hi _ _
theorem WM.zero (w : World) : WM w none 0 0 0 := ⟨[], Rd.nil _ _, Nat.le_refl _, by omega, Num.zero _⟩
theorem WM.pos {w : World} {A : Option Addr} {n c m : Nat} (h : WM w A n c m) : n = 0 ↔ m = 0 := by
  obtain ⟨l, h1, _, _, h4⟩ := h
  rw [← h4.nil_iff (by omega)]
  have := h1.len
  rw [nv_length] at this
  constructor
  · intro h; exact List.eq_nil_of_length_eq_zero (by omega)
  · intro h; subst h; simpa using this.symm
theorem WM.lt {w : World} {A : Option Addr} {n c m : Nat} (h : WM w A n c m) {k : Nat} (hk : n ≤ k) : m < 4294967296 ^ k := by
  obtain ⟨l, h1, _, _, h4⟩ := h
  exact h4.lt (by omega) (by have := h1.len; rw [nv_length] at this; omega)
theorem WM.len {w : World} {A : Option Addr} {n c m : Nat} (h : WM w A n c m) {k : Nat} (hk : m < 4294967296 ^ k) : n ≤ k := by
  obtain ⟨l, h1, _, _, h4⟩ := h
  have := h4.len_le (by omega) hk
  have := h1.len
  rw [nv_length] at this
  omega
/-- v is the wide.Int z. -/
def WI (w : World) (v : Value) (z : Int) : Prop := ∃ s A n c, v = .agg #[.bool s, .slice A n c] ∧ s = decide (z < 0) ∧ WM w A n c z.natAbs
theorem WI.new {w w' : World} {v : Value} {z : Int} (h : WI w v z) (hn : New w w') : WI w' v z := by
  obtain ⟨s, A, n, c, h1, h2, h3⟩ := h
  exact ⟨s, A, n, c, h1, h2, h3.new hn⟩
theorem WI.zero (w : World) : WI w (.agg #[.bool false, .slice none 0 0]) 0 := ⟨_, _, _, _, rfl, rfl, WM.zero w⟩
theorem WI.store {w w' : World} {v : Value} {z : Int} {g : Nat} {t : TypeId} {cs : Array Value} (h : WI w v z) (hb : Blk w g t cs) (hi : NoInt cs.toList) (hc : Chg (fun k => k = g) w w') : WI w' v z := by
  obtain ⟨s, A, n, c, h1, h2, h3⟩ := h
  exact ⟨s, A, n, c, h1, h2, h3.store hb hi hc⟩
theorem noInt_two (s : Bool) (A : Option Addr) (n c : Nat) : NoInt (#[Value.bool s, Value.slice A n c] : Array Value).toList := fun k z h => by simp at h
/-- made: the sign and any digits. -/
theorem made_wi (s : Bool) (A : Option Addr) (n c : Nat) (l : List Nat) (w : World) (hr : Rd w A n (nv .u32 l)) (hd : Digs 4294967296 l) (hnc : n ≤ c) (hc : c ≤ 9223372036854775807) :
    Calls Tryz.prog 55 #[.bool s, .slice A n c] w fun e w' => ∃ v, e = .returned v ∧ WI w' v (sg s (val 4294967296 l)) ∧ New w w' := by
  refine (made_any s A n c l w hr hnc hc).mono ?_
  rintro e w' ⟨rfl, hn⟩
  have hN := Num.of_trim hd
  have hll : l.length = n := by have := hr.len; rwa [nv_length] at this
  have hlen := trim_len l
  refine ⟨_, rfl, ⟨_, _, _, _, rfl, ?_, Dig.trim l, ?_, by omega, hc, ?_⟩, hn⟩
  · rw [sg_neg]
    congr 1
    rw [decide_eq_decide]
    have := hN.nil_iff (by omega)
    constructor
    · intro h
      rcases Nat.eq_zero_or_pos (val 4294967296 l) with h1 | h1
      · rw [this.2 h1] at h; simp at h
      · exact h1
    · intro h
      rcases Nat.eq_zero_or_pos (Dig.trim l).length with h1 | h1
      · have := this.1 (List.eq_nil_of_length_eq_zero h1); omega
      · exact h1
  · have := (hr.new hn).take (k := (Dig.trim l).length) (by omega)
    rw [nv_take, ← trim_take] at this
    exact this
  · rw [sg_abs]; exact hN

set_option maxRecDepth 100000 in
set_option maxHeartbeats 1000000 in
theorem cmpMag_any (A : Option Addr) (n c : Nat) (A' : Option Addr) (n' c' : Nat) (x y : Nat) (w : World) (hx : WM w A n c x) (hy : WM w A' n' c' y) :
    Calls Tryz.prog 42 #[.slice A n c, .slice A' n' c'] w fun e w' => e = .returned (.int .i64 (cmpI x y)) ∧ ∃ q, w' = w.drewN q := by
  obtain ⟨la, ha, hc1, hc2, hNa⟩ := hx
  obtain ⟨lb, hb, hd1, hd2, hNb⟩ := hy
  have hla : la.length = n := by have := ha.len; rwa [nv_length] at this
  have hlb : lb.length = n' := by have := hb.len; rwa [nv_length] at this
  rcases Nat.lt_trichotomy n n' with h | h | h
  · rw [cmpI_lt (by have := hNa.len_lt (by omega) hNb (by omega); omega)]
    have hne : ((n : Int) != (n' : Int)) = true := by simp; omega
    clear hla hlb ha hb hNa hNb
    go_enter Tryz.func42, Tryz.ntmps42
    go_wp2
    go_ret
    exact ⟨rfl, 0, rfl⟩
  · subst h
    obtain ⟨C, hC⟩ : ∃ C, cmpI x y = C := ⟨_, rfl⟩
    rw [hC]
    have H0 := Lib.hid (And.intro ha (And.intro hb (And.intro hNa (And.intro hNb (And.intro hla (And.intro hlb hC))))))
    clear ha hb hNa hNb hla hlb hC
    go_enter Tryz.func42, Tryz.ntmps42
    go_wp2
    go_loopw [5] (fun i wr => ∃ k : Nat, k ≤ n ∧ i = .int .i64 ((k : Int) - 1) ∧ Hid (la.drop k = lb.drop k) ∧ ∃ q, wr = w.drewN q) (fun i _ => (intOf i + 1).toNat)
    case atStart =>
      obtain ⟨ha, hb, hNa, hNb, hla, hlb, hC⟩ := H0.out
      exact ⟨n, Nat.le_refl _, rfl, by show _ = _; rw [List.drop_of_length_le (by omega), List.drop_of_length_le (by omega)], 0, rfl⟩
    case round =>
      obtain ⟨k, hk, rfl, HD, q, hq⟩ := hrel
      have hnew : New w wr := by rw [hq]; exact (Chg.refl _ w).drewN q
      have HQ := Lib.hid hq
      clear hq
      by_cases h0 : k = 0
      · subst h0
        go_wp2
        go_ret
        obtain ⟨ha, hb, hNa, hNb, hla, hlb, hC⟩ := H0.out
        have e := HD.out
        rw [List.drop_zero, List.drop_zero] at e
        rw [← hC, cmpI_eq (by rw [← hNa.val, ← hNb.val, e])]
        exact ⟨rfl, q, HQ.out⟩
      · obtain ⟨j, rfl⟩ : ∃ j, k = j + 1 := ⟨k - 1, by omega⟩
        obtain ⟨ha, hb, hNa, hNb, hla, hlb, hC⟩ := H0.out
        obtain ⟨ad, u, rfl, hu, hcu⟩ := (ha.new hnew).at_ (show j < n by omega)
        obtain ⟨bd, v, rfl, hv, hcv⟩ := (hb.new hnew).at_ (show j < n by omega)
        obtain ⟨p, hp, rfl⟩ := nv_at hu
        obtain ⟨r, hr, rfl⟩ := nv_at hv
        have HP := Lib.hid (And.intro hp hr)
        have hj1 : (((j + 1 : Nat) : Int) - 1) = (j : Int) := by omega
        rw [hj1]
        clear hj1 ha hb hNa hNb hla hlb hC hu hv hp hr hnew
        rcases Nat.lt_trichotomy p r with h | h | h
        · have hlt : (p : Int) < (r : Int) := by omega
          go_wp2
          go_quiet (fail)
          go_wp2
          go_ret
          obtain ⟨ha, hb, hNa, hNb, hla, hlb, hC⟩ := H0.out
          obtain ⟨hp, hr⟩ := HP.out
          have := val_lt_of hNa.digs (by omega) hp hr HD.out h
          rw [hNa.val, hNb.val] at this
          rw [← hC, cmpI_lt (by omega)]
          exact ⟨rfl, _, by rw [HQ.out, World.drewN_drewN]⟩
        · subst h
          have hlt : decide ((p : Int) < (p : Int)) = false := by simp
          go_wp2
          go_quiet (fail)
          go_wp2
          go_quiet (fail)
          go_wp2
          go_roundw
          case rel =>
            obtain ⟨hp, hr⟩ := HP.out
            exact ⟨j, by omega, by go_num, drop_step hp hr HD.out, _, by rw [HQ.out, World.drewN_drewN]⟩
          case measure => simp [intOf]
        · have hlt : decide ((p : Int) < (r : Int)) = false := by simp; omega
          have hgt : (r : Int) < (p : Int) := by omega
          go_wp2
          go_quiet (fail)
          go_wp2
          go_quiet (fail)
          go_wp2
          go_ret
          obtain ⟨ha, hb, hNa, hNb, hla, hlb, hC⟩ := H0.out
          obtain ⟨hp, hr⟩ := HP.out
          have := val_lt_of hNb.digs (by omega) hr hp HD.out.symm h
          rw [hNa.val, hNb.val] at this
          rw [← hC, cmpI_gt (by omega)]
          exact ⟨rfl, _, by rw [World.drewN_drewN, HQ.out, World.drewN_drewN]⟩
  · rw [cmpI_gt (by have := hNb.len_lt (by omega) hNa (by omega); omega)]
    have hne : ((n : Int) != (n' : Int)) = true := by simp; omega
    have hlt : decide ((n : Int) < (n' : Int)) = false := by simp; omega
    have hlt' : decide (n < n') = false := by simp; omega
    clear hla hlb ha hb hNa hNb
    go_enter Tryz.func42, Tryz.ntmps42
    go_wp2
    go_ret
    exact ⟨rfl, 0, rfl⟩
end Go.Proofs.YtmpkaimhjdkheaaGreatDoor
