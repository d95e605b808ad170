/- The parts PureDig2, Base, WideA, WideB, WideC, WideD, PureFrac, FracA, RefA, RefB, RefC, RefD, PureText, TextA, WideE, WideF of the proof, in one text. -/
import Derived.Test.YtbocpkjajocpiaaGreatDoorProg
import Derived.Deep.QuietTactic
import Derived.BigQuiet
import Derived.Deep.RegionHeld3
import Derived.Deep.RegionWith
import Derived.Lib.ItoaNum
import Derived.Lib.Atoi
import Derived.Laws.CopyOwn
import Derived.Test.YtbocpkjajocpiaaGreatDoorB0
set_option linter.unusedSimpArgs false
set_option linter.unusedVariables false

namespace Go.Dig
set_option linter.unusedVariables false

/-- A digit, or 0 behind the last one. -/
def dg (l : List Nat) (i : Nat) : Nat := l[i]?.getD 0
theorem dg_some {l : List Nat} {i d : Nat} (h : l[i]? = some d) : dg l i = d := by simp [dg, h]
theorem dg_none {l : List Nat} {i : Nat} (h : l.length ≤ i) : dg l i = 0 := by simp [dg, List.getElem?_eq_none h]
theorem dg_lt {B : Nat} {l : List Nat} (h : Digs B l) (hB : 1 ≤ B) (i : Nat) : dg l i < B := by
  rcases Nat.lt_or_ge i l.length with h1 | h1
  · rw [dg_some (List.getElem?_eq_getElem h1)]; exact h _ (List.getElem_mem h1)
  · rw [dg_none h1]; omega
theorem val_take_dg (B : Nat) (l : List Nat) (k : Nat) : val B (l.take (k + 1)) = val B (l.take k) + B ^ k * dg l k := by
  rcases Nat.lt_or_ge k l.length with h | h
  · rw [val_take (List.getElem?_eq_getElem h), dg_some (List.getElem?_eq_getElem h)]
  · rw [dg_none h, List.take_of_length_le h, List.take_of_length_le (by omega)]; simp
theorem val_drop_dg (B : Nat) (l : List Nat) (k : Nat) : val B (l.drop k) = dg l k + B * val B (l.drop (k + 1)) := by
  rcases Nat.lt_or_ge k l.length with h | h
  · rw [val_drop (List.getElem?_eq_getElem h), dg_some (List.getElem?_eq_getElem h)]
  · rw [dg_none h, List.drop_of_length_le h, List.drop_of_length_le (by omega)]; simp
theorem val_set {B : Nat} {l : List Nat} {p d : Nat} (h : l[p]? = some d) (d' : Nat) : val B (l.set p d') + B ^ p * d = val B l + B ^ p * d' := by
  induction l generalizing p with
  | nil => simp at h
  | cons x l ih =>
    cases p with
    | zero =>
      simp only [List.getElem?_cons_zero, Option.some.injEq] at h
      subst h
      rw [List.set_cons_zero, val_cons, val_cons, Nat.pow_zero, Nat.one_mul, Nat.one_mul]
      omega
    | succ p =>
      simp only [List.getElem?_cons_succ] at h
      have := ih h
      rw [List.set_cons_succ, val_cons, val_cons, Nat.pow_succ]
      have e1 : B ^ p * B * d = B * (B ^ p * d) := by rw [Nat.mul_comm (B ^ p) B, Nat.mul_assoc]
      have e2 : B ^ p * B * d' = B * (B ^ p * d') := by rw [Nat.mul_comm (B ^ p) B, Nat.mul_assoc]
      rw [e1, e2]
      have := congrArg (fun t => B * t) this
      simp only [Nat.mul_add] at this
      omega

/-- The sum of the first i digits of a and b: digits o and a carry. -/
structure AddI (B : Nat) (a b : List Nat) (i : Nat) (o : List Nat) (c : Nat) : Prop where
  len : o.length = i
  digs : Digs B o
  carry : c ≤ 1
  eq : val B o + B ^ i * c = val B (a.take i) + val B (b.take i)
theorem AddI.start (B : Nat) (a b : List Nat) : AddI B a b 0 [] 0 := ⟨rfl, Digs.nil B, by omega, by simp⟩
theorem AddI.step {B : Nat} {a b : List Nat} {i : Nat} {o : List Nat} {c : Nat} (hB : 2 ≤ B) (ha : Digs B a) (hb : Digs B b) (h : AddI B a b i o c) :
    AddI B a b (i + 1) (o ++ [(dg a i + dg b i + c) % B]) ((dg a i + dg b i + c) / B) := by
  have h1 := dg_lt ha (by omega) i
  have h2 := dg_lt hb (by omega) i
  have h3 := h.carry
  refine ⟨by simp [h.len], h.digs.snoc (Nat.mod_lt _ (by omega)), ?_, ?_⟩
  · have : (dg a i + dg b i + c) / B < 2 := by rw [Nat.div_lt_iff_lt_mul (by omega)]; omega
    omega
  · rw [val_snoc, h.len, val_take_dg, val_take_dg, Nat.pow_succ, Nat.mul_assoc, Nat.add_assoc, ← Nat.mul_add, Nat.mod_add_div, Nat.mul_add, Nat.mul_add]
    have := h.eq
    omega
theorem AddI.done {B : Nat} {a b : List Nat} {i : Nat} {o : List Nat} (h : AddI B a b i o 0) (ha : a.length ≤ i) (hb : b.length ≤ i) : val B o = val B a + val B b := by
  have := h.eq
  rw [List.take_of_length_le ha, List.take_of_length_le hb] at this
  simpa using this

theorem AddI.carry0 {B : Nat} {a b : List Nat} {k m : Nat} {o : List Nat} {c : Nat} (hB : 2 ≤ B) (h : AddI B a b k o c) (ha : Digs B a) (hb : Digs B b) (hla : a.length ≤ m) (hlb : b.length ≤ m) (hk : m + 1 ≤ k) : c = 0 := by
  have e := h.eq
  rw [List.take_of_length_le (by omega), List.take_of_length_le (by omega)] at e
  have h1 := Nat.lt_of_lt_of_le (val_lt ha) (Nat.pow_le_pow_right (by omega) hla)
  have h2 := Nat.lt_of_lt_of_le (val_lt hb) (Nat.pow_le_pow_right (by omega) hlb)
  rcases Nat.eq_zero_or_pos c with h3 | h3
  · exact h3
  · exfalso
    have h4 : B ^ (m + 1) ≤ B ^ k * c := Nat.le_trans (Nat.pow_le_pow_right (by omega) hk) (Nat.le_mul_of_pos_right _ h3)
    rw [Nat.pow_succ] at h4
    have h5 : B ^ m * 2 ≤ B ^ m * B := Nat.mul_le_mul_left _ hB
    omega
/-- The difference of the first i digits: digits o and a borrow. -/
structure SubI (B : Nat) (a b : List Nat) (i : Nat) (o : List Nat) (r : Nat) : Prop where
  len : o.length = i
  digs : Digs B o
  borrow : r ≤ 1
  eq : val B o + val B (b.take i) = val B (a.take i) + B ^ i * r
theorem SubI.start (B : Nat) (a b : List Nat) : SubI B a b 0 [] 0 := ⟨rfl, Digs.nil B, by omega, by simp⟩
theorem SubI.step {B : Nat} {a b : List Nat} {i : Nat} {o : List Nat} {r v r' : Nat} (hB : 2 ≤ B) (ha : Digs B a) (hb : Digs B b) (h : SubI B a b i o r) (hv : v < B) (hr : r' ≤ 1) (he : v + dg b i + r = dg a i + B * r') :
    SubI B a b (i + 1) (o ++ [v]) r' := by
  refine ⟨by simp [h.len], h.digs.snoc hv, hr, ?_⟩
  rw [val_snoc, h.len, val_take_dg, val_take_dg, Nat.pow_succ, Nat.mul_assoc]
  have := h.eq
  have h2 : B ^ i * (v + dg b i + r) = B ^ i * (dg a i + B * r') := by rw [he]
  simp only [Nat.mul_add] at h2
  omega
theorem SubI.done {B : Nat} {a b : List Nat} {o : List Nat} {r : Nat} (hB : 1 ≤ B) (h : SubI B a b a.length o r) (hb : b.length ≤ a.length) (hle : val B b ≤ val B a) : val B o = val B a - val B b := by
  have := h.eq
  rw [List.take_of_length_le (Nat.le_refl _), List.take_of_length_le hb] at this
  have hlt := val_lt h.digs
  rw [h.len] at hlt
  have hr := h.borrow
  have hr0 : r = 0 ∨ r = 1 := by omega
  rcases hr0 with rfl | rfl
  · simp at this; omega
  · rw [Nat.mul_one] at this; omega

/-- A product: i whole rows, and k digits of the next. -/
structure MulI (B : Nat) (a b : List Nat) (i k : Nat) (o : List Nat) (c : Nat) : Prop where
  len : o.length = a.length + b.length
  digs : Digs B o
  zero : ∀ j d, i + b.length ≤ j → o[j]? = some d → d = 0
  carry : c < B
  eq : val B o + B ^ (i + k) * c = val B (a.take i) * val B b + B ^ i * (dg a i * val B (b.take k))
theorem MulI.start {B : Nat} (hB : 1 ≤ B) (a b : List Nat) : MulI B a b 0 0 (List.replicate (a.length + b.length) 0) 0 := by
  refine ⟨by simp, Digs.zeros hB _, fun j d _ h => ?_, by omega, ?_⟩
  · have := List.mem_of_getElem? h
    exact (List.mem_replicate.1 this).2
  · simp [val_zeros]
theorem MulI.step {B : Nat} {a b : List Nat} {i k : Nat} {o : List Nat} {c d : Nat} (hB : 1 ≤ B) (ha : Digs B a) (hb : Digs B b) (h : MulI B a b i k o c) (hk : k < b.length) (hd : o[i + k]? = some d) :
    (d + dg a i * dg b k + c) / B < B ∧ MulI B a b i (k + 1) (o.set (i + k) ((d + dg a i * dg b k + c) % B)) ((d + dg a i * dg b k + c) / B) := by
  have h1 := dg_lt ha hB i
  have h2 := dg_lt hb hB k
  have h3 := h.carry
  have h4 := h.digs.at_ hd
  have hlt : (d + dg a i * dg b k + c) / B < B := by
    rw [Nat.div_lt_iff_lt_mul (by omega)]
    have h5 : dg a i * dg b k ≤ (B - 1) * (B - 1) := Nat.mul_le_mul (by omega) (by omega)
    obtain ⟨m, rfl⟩ : ∃ m, B = m + 1 := ⟨B - 1, by omega⟩
    simp only [Nat.add_sub_cancel] at h5
    have h6 : (m + 1) * (m + 1) = m * m + m + m + 1 := by rw [Nat.mul_add, Nat.add_mul]; omega
    omega
  refine ⟨hlt, by simp [h.len], h.digs.set_ (Nat.mod_lt _ (by omega)), ?_, hlt, ?_⟩
  · intro j e hj he
    rw [List.getElem?_set_ne (by omega)] at he
    exact h.zero j e hj he
  · have h5 := val_set (B := B) hd ((d + dg a i * dg b k + c) % B)
    have h6 := h.eq
    rw [val_take_dg, Nat.mul_add, Nat.mul_add, ← Nat.add_assoc i k 1]
    have e1 : B ^ (i + k + 1) * ((d + dg a i * dg b k + c) / B) + B ^ (i + k) * ((d + dg a i * dg b k + c) % B) = B ^ (i + k) * (d + dg a i * dg b k + c) := by
      rw [Nat.pow_succ, Nat.mul_assoc, ← Nat.mul_add, Nat.div_add_mod]
    have e2 : B ^ i * (dg a i * (B ^ k * dg b k)) = B ^ (i + k) * (dg a i * dg b k) := by
      rw [Nat.pow_add, Nat.mul_assoc, Nat.mul_left_comm (dg a i)]
    rw [e2]
    simp only [Nat.mul_add] at e1
    omega
theorem MulI.row {B : Nat} {a b : List Nat} {i : Nat} {o : List Nat} {c : Nat} (hB : 1 ≤ B) (h : MulI B a b i b.length o c) (hi : i < a.length) : MulI B a b (i + 1) 0 (o.set (i + b.length) c) 0 := by
  have hd : o[i + b.length]? = some 0 := by
    have hl : i + b.length < o.length := by rw [h.len]; omega
    have h1 := List.getElem?_eq_getElem hl
    have h2 := h.zero _ _ (Nat.le_refl _) h1
    rw [h1, h2]
  refine ⟨by simp [h.len], h.digs.set_ h.carry, ?_, by omega, ?_⟩
  · intro j e hj he
    rw [List.getElem?_set_ne (by omega)] at he
    exact h.zero j e (by omega) he
  · have h5 := val_set (B := B) hd c
    have h6 := h.eq
    rw [List.take_of_length_le (Nat.le_refl b.length)] at h6
    rw [val_take_dg, List.take_zero, val_nil, Nat.mul_zero, Nat.mul_zero, Nat.mul_zero, Nat.add_mul, Nat.mul_assoc]
    rw [Nat.mul_zero] at h5
    omega
theorem MulI.done {B : Nat} {a b : List Nat} {i : Nat} {o : List Nat} {c : Nat} (h : MulI B a b a.length 0 o 0) : val B o = val B a * val B b := by
  have := h.eq
  rw [List.take_of_length_le (Nat.le_refl a.length), List.take_zero] at this
  simpa using this

/-- A sign and an amount, as an integer. -/
def sg (s : Bool) (m : Nat) : Int := if s then -(m : Int) else m
theorem sg_abs (s : Bool) (m : Nat) : (sg s m).natAbs = m := by unfold sg; split <;> omega
theorem sg_neg (s : Bool) (m : Nat) : decide (sg s m < 0) = (s && decide (0 < m)) := by
  unfold sg
  cases s <;> simp
theorem sg_of (z : Int) : sg (decide (z < 0)) z.natAbs = z := by
  unfold sg
  by_cases h : z < 0 <;> simp [h] <;> omega

/-- What comparing two numbers gives. -/
def cmpI (x y : Int) : Int := if x < y then -1 else if y < x then 1 else 0
theorem cmpI_lt {x y : Int} (h : x < y) : cmpI x y = -1 := by unfold cmpI; rw [if_pos h]
theorem cmpI_gt {x y : Int} (h : y < x) : cmpI x y = 1 := by unfold cmpI; rw [if_neg (by omega), if_pos h]
theorem cmpI_eq {x y : Int} (h : x = y) : cmpI x y = 0 := by unfold cmpI; rw [if_neg (by omega), if_neg (by omega)]

end Go.Dig

namespace Go.Proofs.YtbocpkjajocpiaaGreatDoor
open Go.RowKit Go.Mem

theorem elemBytes : Elem Tryz.prog 81 5 (.int .u8 0) 1 := Elem.mk' Tryz.underlying81 (by kernel_rfl) rfl
theorem elemInts : Elem Tryz.prog 23 3 (.int .i64 0) 8 := Elem.mk' Tryz.underlying23 (by kernel_rfl) rfl

theorem ret_int {k : IntKind} {a b : Int} (h : a = b) : Ending.returned (.int k a) = .returned (.int k b) := by rw [h]

end Go.Proofs.YtbocpkjajocpiaaGreatDoor

namespace Go.Proofs.YtbocpkjajocpiaaGreatDoor
set_option linter.unusedVariables false
open Go.RowKit Go.Mem Go.Dig

theorem elemU32 : Elem Tryz.prog 33 108 (.int .u32 0) 4 := Elem.mk' Tryz.underlying33 (by kernel_rfl) rfl

set_option maxHeartbeats 400000 in
theorem trim_any (A : Option Addr) (n c : Nat) (l : List Nat) (w : World) (hr : Rd w A n (nv .u32 l)) (hnc : n ≤ c) (hc : c ≤ 9223372036854775807) :
    Calls Tryz.prog 88 #[.slice A n c] w fun e w' => e = .returned (.slice A (Dig.trim l).length c) ∧ w = w' := by
  have hl : l.length = n := by have := hr.len; rwa [nv_length] at this
  obtain ⟨T, hT⟩ : ∃ T, (Dig.trim l).length = T := ⟨_, rfl⟩
  rw [hT]
  have H0 := Lib.hid (And.intro hl (And.intro hr hT))
  clear hl hr hT
  have hup := fun (k : Nat) (i : Int) (hi : i = (k : Int)) (m : Nat) (hk : k ≤ c) (W : World) => run_upto elemU32 .i64 A m c k i hi hk W
  have HUP := Lib.hid hup
  clear hup
  go_enter Tryz.func88, Tryz.ntmps88
  go_wp2
  go_loop [0] (fun v => ∃ k : Nat, v = .slice A k c ∧ k ≤ n ∧ Hid ((Dig.trim (l.take k)).length = T)) (fun v => match v with | .slice _ k _ => k | _ => 0)
  case atStart =>
    obtain ⟨hl, hr, hT⟩ := H0.out
    exact ⟨n, rfl, Nat.le_refl _, by show _ = _; rw [List.take_of_length_le (by omega), hT]⟩
  case round =>
    obtain ⟨k, rfl, hk, HK⟩ := hrel
    by_cases h0 : k = 0
    · subst h0
      go_wp2
      go_ret
      have := HK.out
      simp [Dig.trim] at this
      rw [← this]
      exact ⟨rfl, rfl⟩
    · obtain ⟨j, rfl⟩ : ∃ j, k = j + 1 := ⟨k - 1, by omega⟩
      have hpos : decide ((0 : Int) < ((j + 1 : Nat) : Int)) = true := by simp
      obtain ⟨hl, hr, hT⟩ := H0.out
      obtain ⟨ad, u, rfl, hu, hcu⟩ := hr.at_ (show j < n by omega)
      obtain ⟨z, hz, rfl⟩ := nv_at hu
      have HZ := Lib.hid hz
      clear hl hr hT hu hz
      by_cases hz0 : z = 0
      · subst hz0
        have hup := HUP.out j ((j + 1 : Nat) - 1 : Int) (by omega) (j + 1) (by omega)
        go_wp2
        go_round
        case rel => exact ⟨j, rfl, by omega, by show _ = _; rw [← HK.out, trim_step HZ.out rfl]⟩
        case measure => simp
      · have hzb : ((z : Int) == 0) = false := by simp; omega
        go_wp2
        go_ret
        have := HK.out
        rw [trim_stop HZ.out hz0, List.length_take, Nat.min_eq_left (by have := H0.out.1; omega)] at this
        rw [← this]
        exact ⟨rfl, rfl⟩

theorem aggInt : Agg Tryz.prog 35 2 := ⟨_, Tryz.underlying35, rfl, by kernel_rfl⟩

set_option maxHeartbeats 400000 in
theorem made_any (s : Bool) (A : Option Addr) (n c : Nat) (l : List Nat) (w : World) (hr : Rd w A n (nv .u32 l)) (hnc : n ≤ c) (hc : c ≤ 9223372036854775807) :
    Calls Tryz.prog 107 #[.bool s, .slice A n c] w fun e w' => e = .returned (.agg #[.bool (s && decide (0 < (Dig.trim l).length)), .slice A (Dig.trim l).length c]) ∧ New w w' := by
  obtain ⟨T, hT⟩ : ∃ T, (Dig.trim l).length = T := ⟨_, rfl⟩
  rw [hT]
  have HR := Lib.hid (And.intro hr hT)
  clear hr hT
  have hfin : ∀ b : Bool, bodyPost Tryz.prog Tryz.f107 (fun e w' => e = .returned (.agg #[.bool b, .slice A T c]) ∧ New w w') .ret = bodyPost Tryz.prog Tryz.f107 (fun e w' => e = .returned (.agg #[.bool b, .slice A T c]) ∧ New w w') .ret := fun _ => rfl
  clear hfin
  cases s
  · rw [Bool.false_and]
    go_enter Tryz.func107, Tryz.ntmps107
    go_wp2_with fail
    refine (trim_any A n c l _ (HR.out.1.new ((Chg.refl _ _).alloc _)) hnc hc).mono ?_
    rintro e w1 ⟨rfl, rfl⟩
    rw [HR.out.2]
    go_wp2
    exact bodyPost_ret (res_c rfl _ rfl (aggInt.load (Blk.new _ _ _))) rfl ⟨rfl, (Chg.refl _ w).alloc _⟩
  · rw [Bool.true_and]
    by_cases h0 : T = 0
    · rw [show decide (0 < T) = false by simp; omega]
      subst h0
      go_enter Tryz.func107, Tryz.ntmps107
      go_wp2_with fail
      refine (trim_any A n c l _ (HR.out.1.new ((Chg.refl _ _).alloc _)) hnc hc).mono ?_
      rintro e w1 ⟨rfl, rfl⟩
      rw [HR.out.2]
      go_wp2
      exact bodyPost_ret (res_c rfl _ rfl (aggInt.load (Blk.new _ _ _))) rfl ⟨rfl, (Chg.refl _ w).alloc _⟩
    · rw [show decide (0 < T) = true by simp; omega]
      have hpos : (0 : Int) < (T : Int) := by omega
      have hTpos : 0 < T := by omega
      go_enter Tryz.func107, Tryz.ntmps107
      go_wp2_with fail
      refine (trim_any A n c l _ (HR.out.1.new ((Chg.refl _ _).alloc _)) hnc hc).mono ?_
      rintro e w1 ⟨rfl, rfl⟩
      rw [HR.out.2]
      go_wp2
      exact bodyPost_ret (res_c rfl _ rfl (aggInt.load (Blk.new _ _ _))) rfl ⟨rfl, (Chg.refl _ w).alloc _⟩

/-- The amount m lies in a slice. -/
def WM (w : World) (A : Option Addr) (n c : Nat) (m : Nat) : Prop := ∃ l, Rd w A n (nv .u32 l) ∧ n ≤ c ∧ c ≤ 9223372036854775807 ∧ Num 4294967296 l m
theorem WM.new {w w' : World} {A : Option Addr} {n c m : Nat} (h : WM w A n c m) (hn : New w w') : WM w' A n c m := by
  obtain ⟨l, h1, h2⟩ := h
  exact ⟨l, h1.new hn, h2⟩
theorem WM.store {w w' : World} {A : Option Addr} {n c m g : Nat} {t : TypeId} {cs : Array Value} (h : WM w A n c m) (hb : Blk w g t cs) (hi : NoInt cs.toList) (hc : Chg (fun k => k = g) w w') : WM w' A n c m := by
  obtain ⟨l, h1, h2⟩ := h
  refine ⟨l, h1.store hb (fun u hu => ?_) hc, h2⟩
  obtain ⟨z, _, rfl⟩ := List.mem_map.1 hu
  exact hi _ _
theorem WM.zero (w : World) : WM w none 0 0 0 := ⟨[], Rd.nil _ _, Nat.le_refl _, by omega, Num.zero _⟩
theorem WM.pos {w : World} {A : Option Addr} {n c m : Nat} (h : WM w A n c m) : n = 0 ↔ m = 0 := by
  obtain ⟨l, h1, _, _, h4⟩ := h
  rw [← h4.nil_iff (by omega)]
  have := h1.len
  rw [nv_length] at this
  constructor
  · intro h; exact List.eq_nil_of_length_eq_zero (by omega)
  · intro h; subst h; simpa using this.symm
theorem WM.lt {w : World} {A : Option Addr} {n c m : Nat} (h : WM w A n c m) {k : Nat} (hk : n ≤ k) : m < 4294967296 ^ k := by
  obtain ⟨l, h1, _, _, h4⟩ := h
  exact h4.lt (by omega) (by have := h1.len; rw [nv_length] at this; omega)
theorem WM.len {w : World} {A : Option Addr} {n c m : Nat} (h : WM w A n c m) {k : Nat} (hk : m < 4294967296 ^ k) : n ≤ k := by
  obtain ⟨l, h1, _, _, h4⟩ := h
  have := h4.len_le (by omega) hk
  have := h1.len
  rw [nv_length] at this
  omega
/-- v is the wide.Int z. -/
def WI (w : World) (v : Value) (z : Int) : Prop := ∃ s A n c, v = .agg #[.bool s, .slice A n c] ∧ s = decide (z < 0) ∧ WM w A n c z.natAbs
theorem WI.new {w w' : World} {v : Value} {z : Int} (h : WI w v z) (hn : New w w') : WI w' v z := by
  obtain ⟨s, A, n, c, h1, h2, h3⟩ := h
  exact ⟨s, A, n, c, h1, h2, h3.new hn⟩
theorem WI.zero (w : World) : WI w (.agg #[.bool false, .slice none 0 0]) 0 := ⟨_, _, _, _, rfl, rfl, WM.zero w⟩
theorem WI.store {w w' : World} {v : Value} {z : Int} {g : Nat} {t : TypeId} {cs : Array Value} (h : WI w v z) (hb : Blk w g t cs) (hi : NoInt cs.toList) (hc : Chg (fun k => k = g) w w') : WI w' v z := by
  obtain ⟨s, A, n, c, h1, h2, h3⟩ := h
  exact ⟨s, A, n, c, h1, h2, h3.store hb hi hc⟩
theorem noInt_two (s : Bool) (A : Option Addr) (n c : Nat) : NoInt (#[Value.bool s, Value.slice A n c] : Array Value).toList := fun k z h => by simp at h
/-- made: the sign and any digits. -/
theorem made_wi (s : Bool) (A : Option Addr) (n c : Nat) (l : List Nat) (w : World) (hr : Rd w A n (nv .u32 l)) (hd : Digs 4294967296 l) (hnc : n ≤ c) (hc : c ≤ 9223372036854775807) :
    Calls Tryz.prog 107 #[.bool s, .slice A n c] w fun e w' => ∃ v, e = .returned v ∧ WI w' v (sg s (val 4294967296 l)) ∧ New w w' := by
  refine (made_any s A n c l w hr hnc hc).mono ?_
  rintro e w' ⟨rfl, hn⟩
  have hN := Num.of_trim hd
  have hll : l.length = n := by have := hr.len; rwa [nv_length] at this
  have hlen := trim_len l
  refine ⟨_, rfl, ⟨_, _, _, _, rfl, ?_, Dig.trim l, ?_, by omega, hc, ?_⟩, hn⟩
  · rw [sg_neg]
    congr 1
    rw [decide_eq_decide]
    have := hN.nil_iff (by omega)
    constructor
    · intro h
      rcases Nat.eq_zero_or_pos (val 4294967296 l) with h1 | h1
      · rw [this.2 h1] at h; simp at h
      · exact h1
    · intro h
      rcases Nat.eq_zero_or_pos (Dig.trim l).length with h1 | h1
      · have := this.1 (List.eq_nil_of_length_eq_zero h1); omega
      · exact h1
  · have := (hr.new hn).take (k := (Dig.trim l).length) (by omega)
    rw [nv_take, ← trim_take] at this
    exact this
  · rw [sg_abs]; exact hN

set_option maxRecDepth 100000 in
set_option maxHeartbeats 1000000 in
theorem cmpMag_any (A : Option Addr) (n c : Nat) (A' : Option Addr) (n' c' : Nat) (x y : Nat) (w : World) (hx : WM w A n c x) (hy : WM w A' n' c' y) :
    Calls Tryz.prog 94 #[.slice A n c, .slice A' n' c'] w fun e w' => e = .returned (.int .i64 (cmpI x y)) ∧ ∃ q, w' = w.drewN q := by
  obtain ⟨la, ha, hc1, hc2, hNa⟩ := hx
  obtain ⟨lb, hb, hd1, hd2, hNb⟩ := hy
  have hla : la.length = n := by have := ha.len; rwa [nv_length] at this
  have hlb : lb.length = n' := by have := hb.len; rwa [nv_length] at this
  rcases Nat.lt_trichotomy n n' with h | h | h
  · rw [cmpI_lt (by have := hNa.len_lt (by omega) hNb (by omega); omega)]
    have hne : ((n : Int) != (n' : Int)) = true := by simp; omega
    clear hla hlb ha hb hNa hNb
    go_enter Tryz.func94, Tryz.ntmps94
    go_wp2
    go_ret
    exact ⟨rfl, 0, rfl⟩
  · subst h
    obtain ⟨C, hC⟩ : ∃ C, cmpI x y = C := ⟨_, rfl⟩
    rw [hC]
    have H0 := Lib.hid (And.intro ha (And.intro hb (And.intro hNa (And.intro hNb (And.intro hla (And.intro hlb hC))))))
    clear ha hb hNa hNb hla hlb hC
    go_enter Tryz.func94, Tryz.ntmps94
    go_wp2
    go_loopw [5] (fun i wr => ∃ k : Nat, k ≤ n ∧ i = .int .i64 ((k : Int) - 1) ∧ Hid (la.drop k = lb.drop k) ∧ ∃ q, wr = w.drewN q) (fun i _ => (intOf i + 1).toNat)
    case atStart =>
      obtain ⟨ha, hb, hNa, hNb, hla, hlb, hC⟩ := H0.out
      exact ⟨n, Nat.le_refl _, rfl, by show _ = _; rw [List.drop_of_length_le (by omega), List.drop_of_length_le (by omega)], 0, rfl⟩
    case round =>
      obtain ⟨k, hk, rfl, HD, q, hq⟩ := hrel
      have hnew : New w wr := by rw [hq]; exact (Chg.refl _ w).drewN q
      have HQ := Lib.hid hq
      clear hq
      by_cases h0 : k = 0
      · subst h0
        go_wp2
        go_ret
        obtain ⟨ha, hb, hNa, hNb, hla, hlb, hC⟩ := H0.out
        have e := HD.out
        rw [List.drop_zero, List.drop_zero] at e
        rw [← hC, cmpI_eq (by rw [← hNa.val, ← hNb.val, e])]
        exact ⟨rfl, q, HQ.out⟩
      · obtain ⟨j, rfl⟩ : ∃ j, k = j + 1 := ⟨k - 1, by omega⟩
        obtain ⟨ha, hb, hNa, hNb, hla, hlb, hC⟩ := H0.out
        obtain ⟨ad, u, rfl, hu, hcu⟩ := (ha.new hnew).at_ (show j < n by omega)
        obtain ⟨bd, v, rfl, hv, hcv⟩ := (hb.new hnew).at_ (show j < n by omega)
        obtain ⟨p, hp, rfl⟩ := nv_at hu
        obtain ⟨r, hr, rfl⟩ := nv_at hv
        have HP := Lib.hid (And.intro hp hr)
        have hj1 : (((j + 1 : Nat) : Int) - 1) = (j : Int) := by omega
        rw [hj1]
        clear hj1 ha hb hNa hNb hla hlb hC hu hv hp hr hnew
        rcases Nat.lt_trichotomy p r with h | h | h
        · have hlt : (p : Int) < (r : Int) := by omega
          go_wp2
          go_quiet (fail)
          go_wp2
          go_ret
          obtain ⟨ha, hb, hNa, hNb, hla, hlb, hC⟩ := H0.out
          obtain ⟨hp, hr⟩ := HP.out
          have := val_lt_of hNa.digs (by omega) hp hr HD.out h
          rw [hNa.val, hNb.val] at this
          rw [← hC, cmpI_lt (by omega)]
          exact ⟨rfl, _, by rw [HQ.out, World.drewN_drewN]⟩
        · subst h
          have hlt : decide ((p : Int) < (p : Int)) = false := by simp
          go_wp2
          go_quiet (fail)
          go_wp2
          go_quiet (fail)
          go_wp2
          go_roundw
          case rel =>
            obtain ⟨hp, hr⟩ := HP.out
            exact ⟨j, by omega, by go_num, drop_step hp hr HD.out, _, by rw [HQ.out, World.drewN_drewN]⟩
          case measure => simp [intOf]
        · have hlt : decide ((p : Int) < (r : Int)) = false := by simp; omega
          have hgt : (r : Int) < (p : Int) := by omega
          go_wp2
          go_quiet (fail)
          go_wp2
          go_quiet (fail)
          go_wp2
          go_ret
          obtain ⟨ha, hb, hNa, hNb, hla, hlb, hC⟩ := H0.out
          obtain ⟨hp, hr⟩ := HP.out
          have := val_lt_of hNb.digs (by omega) hr hp HD.out.symm h
          rw [hNa.val, hNb.val] at this
          rw [← hC, cmpI_gt (by omega)]
          exact ⟨rfl, _, by rw [World.drewN_drewN, HQ.out, World.drewN_drewN]⟩
  · rw [cmpI_gt (by have := hNb.len_lt (by omega) hNa (by omega); omega)]
    have hne : ((n : Int) != (n' : Int)) = true := by simp; omega
    have hlt : decide ((n : Int) < (n' : Int)) = false := by simp; omega
    have hlt' : decide (n < n') = false := by simp; omega
    clear hla hlb ha hb hNa hNb
    go_enter Tryz.func94, Tryz.ntmps94
    go_wp2
    go_ret
    exact ⟨rfl, 0, rfl⟩
end Go.Proofs.YtbocpkjajocpiaaGreatDoor

namespace Go.Proofs.YtbocpkjajocpiaaGreatDoor
set_option linter.unusedVariables false
open Go.RowKit Go.Mem Go.Dig

theorem rd_lit2 {w : World} {a b g : Nat} {e : TypeId} (hg : g = w.heap.size) : Rd (w.alloc (.cells #[.int .u32 (a : Int), .int .u32 (b : Int)] e)) (some ⟨g, 0, none⟩) 2 (nv .u32 [a, b]) := by
  subst hg; exact Rd.lit (nv .u32 [a, b]) rfl

set_option maxHeartbeats 400000 in
theorem from_any (n : Int) (w : World) (h1 : -9223372036854775808 ≤ n) (h2 : n ≤ 9223372036854775807) :
    Calls Tryz.prog 50 #[.int .i64 n] w fun e w' => ∃ v, e = .returned v ∧ WI w' v n ∧ New w w' := by
  obtain ⟨M, hM⟩ : ∃ M : Nat, n.natAbs = M := ⟨_, rfl⟩
  have hv : val 4294967296 [M % 4294967296, M / 4294967296] = M := by simp only [val_cons, val_nil]; omega
  have hdg : Digs 4294967296 [M % 4294967296, M / 4294967296] := Digs.cons (by omega) (Digs.cons (by omega) (Digs.nil _))
  by_cases h : n < 0
  · obtain rfl : n = -(M : Int) := by omega
    have hw : IntKind.u64.wrap (-IntKind.u64.wrap (-(M : Int))) = (M : Int) := by rw [IntKind.wrap_u64, IntKind.wrap_u64]; omega
    have H := Lib.hid (And.intro hv hdg)
    have hMb : M ≤ 9223372036854775808 := by omega
    clear hM hv hdg
    go_enter Tryz.func50, Tryz.ntmps50
    go_wp2_with fail
    rw [show ((M : Int) % 4294967296) = ((M % 4294967296 : Nat) : Int) by omega, show ((M : Int) / 4294967296) = ((M / 4294967296 : Nat) : Int) by omega]
    obtain ⟨hv, hdg⟩ := H.out
    have hb0 := Blk.new w 35 #[.bool false, .slice none 0 0]
    have hn0 : New w ((w.alloc (.cells #[.bool false, .slice none 0 0] 35)).alloc (.cells #[.int .u32 ((M % 4294967296 : Nat) : Int), .int .u32 ((M / 4294967296 : Nat) : Int)] 108)) := ((Chg.refl _ w).alloc _).alloc _
    refine (made_wi true _ 2 2 [M % 4294967296, M / 4294967296] _ (rd_lit2 (by simp)) hdg (by omega) (by omega)).mono ?_
    rintro e w1 ⟨v, rfl, hwi, hn1⟩
    rw [hv] at hwi
    have hb1 := (hb0.alloc (.cells #[.int .u32 ((M % 4294967296 : Nat) : Int), .int .u32 ((M / 4294967296 : Nat) : Int)] 108)).chg hn1 (fun h => h)
    obtain ⟨s, A, k, c, rfl, hs, hwm⟩ := hwi
    have hc0 := hb1.cell 0 rfl
    have hc1 := hb1.cell 1 rfl
    have hf0 := hb1.frozen 0
    have hf1 := hb1.frozen 1
    have H1 := Lib.hid (And.intro hb1 (And.intro (hn0.new hn1) (And.intro hs hwm)))
    clear hv hdg hb0 hn0 hn1 hb1 hs hwm hw H
    go_wp2
    obtain ⟨hb1, hn1, hs, hwm⟩ := H1.out
    have hn2 : New w ((w1.setCell ⟨w.heap.size, 0, none⟩ (.bool s)).setCell ⟨w.heap.size, 1, none⟩ (.slice A k c)) := (hn1.setCell (fun h => absurd h (by simp)) _).setCell (fun h => absurd h (by simp)) _
    refine bodyPost_ret (res_c rfl _ rfl (aggInt.load (hb1.set2 _ _))) rfl ⟨_, rfl, ⟨s, A, k, c, rfl, hs, ?_⟩, hn2⟩
    exact hwm.store hb1 (noInt_two _ _ _ _) (Chg.at2 _ _ _ _)
  · obtain rfl : n = (M : Int) := by omega
    have hd : decide ((M : Int) < 0) = false := by simp
    have H := Lib.hid (And.intro hv hdg)
    clear hM hv hdg
    go_enter Tryz.func50, Tryz.ntmps50
    go_wp2_with fail
    rw [show ((M : Int) % 4294967296) = ((M % 4294967296 : Nat) : Int) by omega, show ((M : Int) / 4294967296) = ((M / 4294967296 : Nat) : Int) by omega]
    obtain ⟨hv, hdg⟩ := H.out
    have hb0 := Blk.new w 35 #[.bool false, .slice none 0 0]
    have hn0 : New w ((w.alloc (.cells #[.bool false, .slice none 0 0] 35)).alloc (.cells #[.int .u32 ((M % 4294967296 : Nat) : Int), .int .u32 ((M / 4294967296 : Nat) : Int)] 108)) := ((Chg.refl _ w).alloc _).alloc _
    refine (made_wi false _ 2 2 [M % 4294967296, M / 4294967296] _ (rd_lit2 (by simp)) hdg (by omega) (by omega)).mono ?_
    rintro e w1 ⟨v, rfl, hwi, hn1⟩
    rw [hv] at hwi
    have hb1 := (hb0.alloc (.cells #[.int .u32 ((M % 4294967296 : Nat) : Int), .int .u32 ((M / 4294967296 : Nat) : Int)] 108)).chg hn1 (fun h => h)
    obtain ⟨s, A, k, c, rfl, hs, hwm⟩ := hwi
    have hc0 := hb1.cell 0 rfl
    have hc1 := hb1.cell 1 rfl
    have hf0 := hb1.frozen 0
    have hf1 := hb1.frozen 1
    have H1 := Lib.hid (And.intro hb1 (And.intro (hn0.new hn1) (And.intro hs hwm)))
    clear hv hdg hb0 hn0 hn1 hb1 hs hwm H
    go_wp2
    obtain ⟨hb1, hn1, hs, hwm⟩ := H1.out
    have hn2 : New w ((w1.setCell ⟨w.heap.size, 0, none⟩ (.bool s)).setCell ⟨w.heap.size, 1, none⟩ (.slice A k c)) := (hn1.setCell (fun h => absurd h (by simp)) _).setCell (fun h => absurd h (by simp)) _
    refine bodyPost_ret (res_c rfl _ rfl (aggInt.load (hb1.set2 _ _))) rfl ⟨_, rfl, ⟨s, A, k, c, rfl, hs, ?_⟩, hn2⟩
    exact hwm.store hb1 (noInt_two _ _ _ _) (Chg.at2 _ _ _ _)
set_option maxHeartbeats 400000 in
theorem compare_any (v v' : Value) (x y : Int) (w : World) (hx : WI w v x) (hy : WI w v' y) :
    Calls Tryz.prog 25 #[v, v'] w fun e w' => e = .returned (.int .i64 (cmpI x y)) ∧ New w w' := by
  obtain ⟨s, A, n, c, rfl, hs, hm⟩ := hx
  obtain ⟨s', A', n', c', rfl, hs', hm'⟩ := hy
  have H := Lib.hid (And.intro hs (And.intro hm (And.intro hs' hm')))
  clear hs hs' hm hm'
  cases s <;> cases s'
  · go_enter Tryz.func25, Tryz.ntmps25
    go_wp2_with fail
    obtain ⟨hs, hm, hs', hm'⟩ := H.out
    have hn0 : New w ((w.alloc (.cells #[.bool false, .slice A n c] 35)).alloc (.cells #[.bool false, .slice A' n' c'] 35)) := ((Chg.refl _ w).alloc _).alloc _
    refine (cmpMag_any A n c A' n' c' x.natAbs y.natAbs _ (hm.new hn0) (hm'.new hn0)).mono ?_
    rintro e w1 ⟨rfl, q, hq⟩
    have h1 : ¬ x < 0 := by simpa using hs.symm
    have h2 : ¬ y < 0 := by simpa using hs'.symm
    rw [show ((x.natAbs : Nat) : Int) = x by omega, show ((y.natAbs : Nat) : Int) = y by omega]
    have H1 := Lib.hid (show New w w1 by rw [hq]; exact hn0.drewN q)
    clear hs hm hs' hm' hn0 hq h1 h2
    go_wp2
    go_ret
    exact ⟨rfl, H1.out⟩
  · go_enter Tryz.func25, Tryz.ntmps25
    go_wp2
    go_ret
    obtain ⟨hs, hm, hs', hm'⟩ := H.out
    have h1 : ¬ x < 0 := by simpa using hs.symm
    have h2 : y < 0 := by simpa using hs'.symm
    exact ⟨by rw [cmpI_gt (by omega)]; rfl, ((Chg.refl _ w).alloc _).alloc _⟩
  · go_enter Tryz.func25, Tryz.ntmps25
    go_wp2
    go_ret
    obtain ⟨hs, hm, hs', hm'⟩ := H.out
    have h1 : x < 0 := by simpa using hs.symm
    have h2 : ¬ y < 0 := by simpa using hs'.symm
    exact ⟨by rw [cmpI_lt (by omega)]; rfl, ((Chg.refl _ w).alloc _).alloc _⟩
  · go_enter Tryz.func25, Tryz.ntmps25
    go_wp2_with fail
    obtain ⟨hs, hm, hs', hm'⟩ := H.out
    have hn0 : New w ((w.alloc (.cells #[.bool true, .slice A n c] 35)).alloc (.cells #[.bool true, .slice A' n' c'] 35)) := ((Chg.refl _ w).alloc _).alloc _
    refine (cmpMag_any A' n' c' A n c y.natAbs x.natAbs _ (hm'.new hn0) (hm.new hn0)).mono ?_
    rintro e w1 ⟨rfl, q, hq⟩
    have h1 : x < 0 := by simpa using hs.symm
    have h2 : y < 0 := by simpa using hs'.symm
    rw [show cmpI ((y.natAbs : Nat) : Int) ((x.natAbs : Nat) : Int) = cmpI x y by
      rw [show ((y.natAbs : Nat) : Int) = -y by omega, show ((x.natAbs : Nat) : Int) = -x by omega]
      unfold cmpI
      repeat' split
      all_goals omega]
    have H1 := Lib.hid (show New w w1 by rw [hq]; exact hn0.drewN q)
    clear hs hm hs' hm' hn0 hq h1 h2
    go_wp2
    go_ret
    exact ⟨rfl, H1.out⟩

set_option maxHeartbeats 400000 in
theorem sign_any (v : Value) (x : Int) (w : World) (hx : WI w v x) :
    Calls Tryz.prog 24 #[v] w fun e w' => e = .returned (.int .i64 (cmpI x 0)) ∧ New w w' := by
  obtain ⟨s, A, n, c, rfl, hs, hm⟩ := hx
  have H := Lib.hid (And.intro hs hm)
  clear hs hm
  go_enter Tryz.func24, Tryz.ntmps24
  go_wp2_with fail
  have hn0 : New w (w.alloc (.cells #[.bool s, .slice A n c] 35)) := (Chg.refl _ w).alloc _
  refine (compare_any _ _ x 0 _ (WI.new ⟨s, A, n, c, rfl, H.out⟩ hn0) (WI.zero _)).mono ?_
  rintro e w1 ⟨rfl, hn1⟩
  have H1 := Lib.hid (hn0.new hn1)
  clear hn0 hn1
  go_wp2
  go_ret
  exact ⟨rfl, H1.out⟩

set_option maxHeartbeats 400000 in
theorem neg_any (v : Value) (x : Int) (w : World) (hx : WI w v x) :
    Calls Tryz.prog 99 #[v] w fun e w' => ∃ v, e = .returned v ∧ WI w' v (-x) ∧ New w w' := by
  obtain ⟨s, A, n, c, rfl, hs, l, hr, hnc, hcm, hN⟩ := hx
  have H := Lib.hid (And.intro hs (And.intro hr hN))
  clear hs hr hN
  go_enter Tryz.func99, Tryz.ntmps99
  go_wp2_with fail
  obtain ⟨hs, hr, hN⟩ := H.out
  have hb0 := Blk.new (w.alloc (.cells #[.bool s, .slice A n c] 35)) 35 #[.bool false, .slice none 0 0]
  rw [World.size_alloc] at hb0
  have hn0 : New w ((w.alloc (.cells #[.bool s, .slice A n c] 35)).alloc (.cells #[.bool false, .slice none 0 0] 35)) := ((Chg.refl _ w).alloc _).alloc _
  refine (made_wi (!s) A n c l _ (hr.new hn0) hN.digs hnc hcm).mono ?_
  rintro e w1 ⟨v, rfl, hwi, hn1⟩
  have hval : sg (!s) (val 4294967296 l) = -x := by
    rw [hN.val, hs]
    unfold sg
    by_cases h : x < 0 <;> simp [h] <;> omega
  rw [hval] at hwi
  have hb1 := hb0.chg hn1 (fun h => h)
  obtain ⟨s', A', n', c', rfl, hs', hwm⟩ := hwi
  have hc0 := hb1.cell 0 rfl
  have hc1 := hb1.cell 1 rfl
  have hf0 := hb1.frozen 0
  have hf1 := hb1.frozen 1
  have H1 := Lib.hid (And.intro hb1 (And.intro (hn0.new hn1) (And.intro hs' hwm)))
  clear hb0 hn0 hn1 hb1 hs' hwm H hs hr hN hval
  go_wp2
  obtain ⟨hb1, hn1, hs, hwm⟩ := H1.out
  refine bodyPost_ret (res_c rfl _ rfl (aggInt.load (hb1.set2 _ _))) rfl ⟨_, rfl, ⟨s', A', n', c', rfl, hs, ?_⟩, ?_⟩
  · exact hwm.store hb1 (noInt_two _ _ _ _) (Chg.at2 _ _ _ _)
  · exact Chg.owned hn1 (Chg.at2 _ _ _ _) (fun k e => by omega)
end Go.Proofs.YtbocpkjajocpiaaGreatDoor

namespace Go.Proofs.YtbocpkjajocpiaaGreatDoor
set_option linter.unusedVariables false
open Go.RowKit Go.Mem Go.Dig

/-- trim of digits: an amount. -/
theorem trim_wm (A : Option Addr) (n c : Nat) (l : List Nat) (w : World) (hr : Rd w A n (nv .u32 l)) (hd : Digs 4294967296 l) (hnc : n ≤ c) (hc : c ≤ 9223372036854775807) :
    Calls Tryz.prog 88 #[.slice A n c] w fun e w' => ∃ T, e = .returned (.slice A T c) ∧ Hid (WM w A T c (val 4294967296 l) ∧ T ≤ n) ∧ w = w' := by
  refine (trim_any A n c l w hr hnc hc).mono ?_
  rintro e w' ⟨rfl, rfl⟩
  have hll : l.length = n := by have := hr.len; rwa [nv_length] at this
  have hlen := trim_len l
  refine ⟨_, rfl, ⟨⟨Dig.trim l, ?_, by omega, hc, Num.of_trim hd⟩, by omega⟩, rfl⟩
  have := hr.take (k := (Dig.trim l).length) (by omega)
  rwa [nv_take, ← trim_take] at this

set_option maxRecDepth 100000 in
set_option maxHeartbeats 4000000 in
theorem mulMag_any (A : Option Addr) (n c : Nat) (A' : Option Addr) (n' c' : Nat) (x y : Nat) (w : World) (hx : WM w A n c x) (hy : WM w A' n' c' y) (hn : n ≤ 1000000) (hn' : n' ≤ 1000000) :
    Calls Tryz.prog 77 #[.slice A n c, .slice A' n' c'] w fun e w' => ∃ R m d, e = .returned (.slice R m d) ∧ Hid (WM w' R m d (x * y) ∧ (∀ k, blk R = some k → w.heap.size ≤ k) ∧ New w w') := by
  obtain ⟨la, ha, hc1, hc2, hNa⟩ := hx
  obtain ⟨lb, hb, hd1, hd2, hNb⟩ := hy
  have hla : la.length = n := by have := ha.len; rwa [nv_length] at this
  have hlb : lb.length = n' := by have := hb.len; rwa [nv_length] at this
  have H0 := Lib.hid (And.intro ha (And.intro hb (And.intro hNa (And.intro hNb (And.intro hla hlb)))))
  clear ha hb hNa hNb hla hlb
  go_enter Tryz.func77, Tryz.ntmps77
  go_wp2_with (at_make; refine wpList_mk elemU32 rfl rfl _ _ rfl (n := n + n') rfl rfl (by omega) (by omega) (by omega) (by simp only [maxLen]; omega) ?_; intro w1 hown hg hz; have HMK := Lib.hid (And.intro hown (And.intro hg hz)); clear hown hg hz)
  obtain ⟨ho, hnw, hz⟩ := HMK.out
  rw [show List.replicate (n + n') (Value.int .u32 0) = nv .u32 (List.replicate (n + n') 0) by simp [nv]] at ho
  obtain ⟨g, hgq⟩ : ∃ g, w.heap.size = g := ⟨_, rfl⟩
  rw [hgq] at ho
  have HG := Lib.hid hgq
  have HW := Lib.hid (And.intro hnw ho)
  simp only [hgq]
  clear hgq hnw ho hz HMK
  go_loopw [19] (fun i wr => ∃ k : Nat, ∃ o, i = .int .i64 k ∧ k ≤ n ∧ Hid (MulI 4294967296 la lb k 0 o 0 ∧ wr.ownsRow g 108 1 (.slice (some ⟨g, 0, none⟩) (n + n') (n + n')) (n + n') (nv .u32 o) ∧ Chg (fun j => j = g) w1 wr)) (fun i _ => n - (intOf i).toNat)
  case atStart =>
    obtain ⟨ha, hb, hNa, hNb, hla, hlb⟩ := H0.out
    refine ⟨0, List.replicate (n + n') 0, rfl, by omega, ?_, HW.out.2, Chg.refl _ _⟩
    have := MulI.start (B := 4294967296) (by omega) la lb
    rwa [hla, hlb] at this
  case round =>
    obtain ⟨i, o, rfl, hi, HO⟩ := hrel
    by_cases hlt : i < n
    · obtain ⟨ha, hb, hNa, hNb, hla, hlb⟩ := H0.out
      have hchg : Chg (fun j => j = g) w wr := (HW.out.1.mono (fun _ _ h => h.elim)).trans HO.out.2.2 (fun _ _ h => h)
      obtain ⟨ad, u, rfl, hu, hcu⟩ := (ha.chg hchg (fun k _ h e => by have := HG.out; omega)).at_ hlt
      obtain ⟨p, hp, rfl⟩ := nv_at hu
      have hpb := hNa.digs.at_ hp
      have HP := Lib.hid hp
      clear ha hb hNa hNb hla hlb hchg hu hp
      go_wp2_with fail
      go_loopw [8, 26] (fun u v wr => ∃ k cr : Nat, ∃ o, u = .int .u64 cr ∧ v = .int .i64 k ∧ k ≤ n' ∧ cr < 4294967296 ∧ Hid (MulI 4294967296 la lb i k o cr ∧ wr.ownsRow g 108 1 (.slice (some ⟨g, 0, none⟩) (n + n') (n + n')) (n + n') (nv .u32 o) ∧ Chg (fun j => j = g) w1 wr)) (fun _ v _ => n' - (intOf v).toNat)
      case atStart => exact ⟨0, 0, o, rfl, rfl, by omega, by omega, HO.out⟩
      case round =>
        obtain ⟨wo, rfl⟩ : ∃ wo : World, wo = wr := ⟨_, rfl⟩
        obtain ⟨k, cr, o, rfl, rfl, hk, hcr, HI⟩ := hrel
        by_cases hlk : k < n'
        · obtain ⟨ha, hb, hNa, hNb, hla, hlb⟩ := H0.out
          have hchg : Chg (fun j => j = g) w wo := (HW.out.1.mono (fun _ _ h => h.elim)).trans HI.out.2.2 (fun _ _ h => h)
          obtain ⟨bd, v, rfl, hv, hcv⟩ := (hb.chg hchg (fun k _ h e => by have := HG.out; omega)).at_ hlk
          obtain ⟨r, hr, rfl⟩ := nv_at hv
          have hol : o.length = n + n' := by rw [HI.out.1.len, hla, hlb]
          obtain ⟨d, hd⟩ : ∃ d, o[i + k]? = some d := ⟨_, List.getElem?_eq_getElem (by omega)⟩
          have hcd := own_cell HI.out.2.1 (i := i + k) (u := .int .u32 (d : Nat)) (by rw [nv, List.getElem?_map, hd]; rfl)
          have hdb := HI.out.1.digs.at_ hd
          have hrb := hNb.digs.at_ hr
          have hst := HI.out.1.step (by omega) hNa.digs hNb.digs (by omega) hd
          rw [dg_some HP.out, dg_some hr] at hst
          obtain ⟨gg, hgg, _, hgs, hfz⟩ := own_form HI.out.2.1 (by omega)
          have hgg' : g = gg := by simpa using hgg
          subst hgg'
          have hf := hfz (i + k)
          obtain ⟨m, hm⟩ : ∃ m, p * r = m := ⟨_, rfl⟩
          have hmb : m ≤ 18446744065119617025 := by
            rw [← hm]
            exact Nat.le_trans (Nat.mul_le_mul (show p ≤ 4294967295 by omega) (show r ≤ 4294967295 by omega)) (by decide)
          have hmi : (p : Int) * (r : Int) = (m : Int) := by rw [← hm]; simp
          rw [hm] at hst
          obtain ⟨v, hv⟩ : ∃ v, d + m + cr = v := ⟨_, rfl⟩
          rw [hv] at hst
          have hvi : (cr : Int) + ((m : Int) + (d : Int)) = (v : Int) := by omega
          have hvb : v ≤ 18446744073709551615 := by omega
          have HS := Lib.hid hst
          have hik : (i : Int) + (k : Int) < (n : Int) + (n' : Int) := by omega
          clear ha hb hNa hNb hla hlb hchg hr hol hd hst hgg hfz hm
          go_wp2
          go_roundw
          case rel =>
            have ho3 := own_set HI.out.2.1 (i + k) (.int .u32 ((v % 4294967296 : Nat) : Int)) (by omega)
            rw [nv_set] at ho3
            refine ⟨k + 1, v / 4294967296, o.set (i + k) (v % 4294967296), congrArg (Value.int .u64) (by omega), by go_num, by omega, HS.out.1, HS.out.2, ?_, ?_⟩
            · rw [show ((v : Int) % 4294967296) = ((v % 4294967296 : Nat) : Int) by omega]; exact ho3
            · exact HI.out.2.2.setCell (fun _ => rfl) _
          case measure => simp [intOf]; omega
        · obtain rfl : n' = k := by omega
          obtain ⟨ha, hb, hNa, hNb, hla, hlb⟩ := H0.out
          have hol : o.length = n + n' := by rw [HI.out.1.len, hla, hlb]
          obtain ⟨d, hd⟩ : ∃ d, o[i + n']? = some d := ⟨_, List.getElem?_eq_getElem (by omega)⟩
          have hcd := own_cell HI.out.2.1 (i := i + n') (u := .int .u32 (d : Nat)) (by rw [nv, List.getElem?_map, hd]; rfl)
          obtain ⟨gg, hgg, _, hgs, hfz⟩ := own_form HI.out.2.1 (by omega)
          have hgg' : g = gg := by simpa using hgg
          subst hgg'
          have hf := hfz (i + n')
          have hrow : MulI 4294967296 la lb (i + 1) 0 (o.set (i + n') cr) 0 := by
            have := HI.out.1
            rw [← hlb] at this ⊢
            exact this.row (by omega) (by omega)
          have HS := Lib.hid hrow
          have hik : (i : Int) + (n' : Int) < (n : Int) + (n' : Int) := by omega
          clear ha hb hNa hNb hla hlb hol hd hrow hgg hfz
          go_wp2
          go_roundw
          case rel =>
            have ho3 := own_set HI.out.2.1 (i + n') (.int .u32 (cr : Int)) (by omega)
            rw [nv_set] at ho3
            refine ⟨i + 1, o.set (i + n') cr, by go_num, by omega, HS.out, ho3, ?_⟩
            exact HI.out.2.2.setCell (fun _ => rfl) _
          case measure => simp [intOf]; omega
    · obtain rfl : n = i := by omega
      go_wp2_with fail
      obtain ⟨ha, hb, hNa, hNb, hla, hlb⟩ := H0.out
      have hval : val 4294967296 o = x * y := by
        have := HO.out.1
        rw [← hla] at this
        rw [this.done (i := 0) (c := 0), hNa.val, hNb.val]
      have hn1 : New w wr := HW.out.1.trans HO.out.2.2 (fun j hj e => by have := HG.out; omega)
      refine (trim_wm _ (n + n') (n + n') o wr (Rd.of_own HO.out.2.1) HO.out.1.digs (Nat.le_refl _) (by omega)).mono ?_
      rintro e w2 ⟨T, rfl, HT, rfl⟩
      have HF := Lib.hid (And.intro hval hn1)
      clear ha hb hNa hNb hla hlb hval hn1
      go_wp2
      go_ret
      obtain ⟨hval, hn1⟩ := HF.out
      have hT := HT.out.1
      rw [hval] at hT
      exact ⟨_, _, _, rfl, hT, fun k hk => by have := HG.out; simp [blk] at hk; omega, hn1⟩
end Go.Proofs.YtbocpkjajocpiaaGreatDoor

namespace Go.Proofs.YtbocpkjajocpiaaGreatDoor
set_option linter.unusedVariables false
open Go.RowKit Go.Mem Go.Dig

/-- The amounts in range lie below this one. -/
def powN (k : Nat) : Nat := 4294967296 ^ k
def topN : Nat := powN 512
/-- What is returned for z, and the error. -/
def rg (z : Int) : Int := if z.natAbs < topN then z else 0
def rgE (z : Int) : Int := if z.natAbs < topN then 0 else 4
theorem rg_in {z : Int} (h : z.natAbs < topN) : rg z = z ∧ rgE z = 0 := by unfold rg rgE; rw [if_pos h, if_pos h]; exact ⟨rfl, rfl⟩
theorem rg_out {z : Int} (h : ¬ z.natAbs < topN) : rg z = 0 ∧ rgE z = 4 := by unfold rg rgE; rw [if_neg h, if_neg h]; exact ⟨rfl, rfl⟩
theorem WM.powN {w : World} {A : Option Addr} {n c m : Nat} (h : WM w A n c m) (k : Nat) : n ≤ k ↔ m < powN k :=
  ⟨fun hn => h.lt (k := k) hn, fun hm => h.len (k := k) hm⟩
theorem WM.top {w : World} {A : Option Addr} {n c m : Nat} (h : WM w A n c m) : n ≤ 512 ↔ m < topN := h.powN 512

set_option maxRecDepth 100000 in
set_option maxHeartbeats 2000000 in
theorem ranged_any (s : Bool) (A : Option Addr) (n c : Nat) (l : List Nat) (w : World) (hr : Rd w A n (nv .u32 l)) (hd : Digs 4294967296 l) (hnc : n ≤ c) (hc : c ≤ 9223372036854775807) :
    Calls Tryz.prog 78 #[.bool s, .slice A n c] w fun e w' => ∃ s' A' n' c', e = .returned (.tuple #[.agg #[.bool s', .slice A' n' c'], .int .i64 (rgE (sg s (val 4294967296 l)))]) ∧ Hid (WI w' (.agg #[.bool s', .slice A' n' c']) (rg (sg s (val 4294967296 l))) ∧ New w w') := by
  obtain ⟨z, hz⟩ : ∃ z, sg s (val 4294967296 l) = z := ⟨_, rfl⟩
  rw [hz]
  have H0 := Lib.hid (And.intro hr (And.intro hd hz))
  clear hr hd hz
  obtain ⟨ER, hER⟩ : ∃ ER, rgE z = ER := ⟨_, rfl⟩
  obtain ⟨RG, hRG⟩ : ∃ RG, rg z = RG := ⟨_, rfl⟩
  rw [hER, hRG]
  have HE := Lib.hid (And.intro hER hRG)
  clear hER hRG
  go_enter Tryz.func78, Tryz.ntmps78
  go_wp2_with fail
  refine Calls.new1 ?_
  intro W1 hb1 hn1 hz1
  refine (made_wi s A n c l W1 (H0.out.1.new hn1) H0.out.2.1 hnc hc).mono ?_
  rintro e w2 ⟨v2, rfl, ⟨s2, A2, n2, c2, rfl, hs2, hm2⟩, hn2⟩
  rw [H0.out.2.2] at hs2 hm2
  have hb2 := hb1.chg hn2 (fun h => h)
  have k0 := hb2.cell 0 (u := .bool false) rfl
  have k1 := hb2.cell 1 (u := .slice none 0 0) rfl
  have f0 := hb2.frozen 0
  have f1 := hb2.frozen 1
  have hl2 : w.heap.size < w2.heap.size := hb2.lt
  have H2 := Lib.hid (And.intro hb2 (And.intro (hn1.new hn2) (And.intro hs2 hm2)))
  have htop := hm2.top
  clear hb1 hn1 hz1 hs2 hm2 hn2 hb2
  by_cases h5 : n2 ≤ 512
  · have hv := rg_in (htop.1 h5)
    rw [HE.out.1, HE.out.2] at hv
    obtain ⟨hv1, hv2⟩ := hv
    have HV := Lib.hid (And.intro hv1 hv2)
    have hd5 : decide ((512 : Int) < (n2 : Int)) = false := by simp; omega
    clear hv1 hv2 htop
    go_wp2
    obtain ⟨hb2, hn2, hs2, hm2⟩ := H2.out
    have hfin := (hb2.set2 (.bool s2) (.slice A2 n2 c2)).alloc (.cells #[.bool s2, .slice A2 n2 c2] 35)
    refine bodyPost_ret (res_ct rfl _ rfl (aggInt.load hfin) rfl) rfl ⟨s2, A2, n2, c2, by rw [HV.out.2]; rfl, ?_, ?_⟩
    · rw [HV.out.1]
      exact ⟨s2, A2, n2, c2, rfl, hs2, (hm2.store hb2 (noInt_two _ _ _ _) (Chg.at2 _ _ _ _)).new ((Chg.refl _ _).alloc _)⟩
    · exact (Chg.owned hn2 (Chg.at2 _ _ _ _) (fun k e => by omega)).alloc _
  · have hv := rg_out (fun h => h5 (htop.2 h))
    rw [HE.out.1, HE.out.2] at hv
    obtain ⟨hv1, hv2⟩ := hv
    have HV := Lib.hid (And.intro hv1 hv2)
    have hd5 : (512 : Int) < (n2 : Int) := by omega
    clear hv1 hv2 htop
    go_wp2
    obtain ⟨hb2, hn2, hs2, hm2⟩ := H2.out
    have hfin := (hb2.set2 (.bool false) (.slice none 0 0)).alloc (.cells #[.bool s2, .slice A2 n2 c2] 35)
    refine bodyPost_ret (res_ct rfl _ rfl (aggInt.load hfin) rfl) rfl ⟨false, none, 0, 0, by rw [HV.out.2]; rfl, ?_, ?_⟩
    · rw [HV.out.1]
      exact WI.zero _
    · exact (Chg.owned hn2 (Chg.at2 _ _ _ _) (fun k e => by omega)).alloc _
theorem ranged_wm (s : Bool) (A : Option Addr) (n c m : Nat) (w : World) (h : WM w A n c m) :
    Calls Tryz.prog 78 #[.bool s, .slice A n c] w fun e w' => ∃ s' A' n' c', e = .returned (.tuple #[.agg #[.bool s', .slice A' n' c'], .int .i64 (rgE (sg s m))]) ∧ Hid (WI w' (.agg #[.bool s', .slice A' n' c']) (rg (sg s m)) ∧ New w w') := by
  obtain ⟨l, hr, hnc, hc, hN⟩ := h
  have := ranged_any s A n c l w hr hN.digs hnc hc
  rwa [hN.val] at this

theorem bz_wlen {w : World} {A : Option Addr} {n c : Nat} {z : Int} (h : WM w A n c z.natAbs) {k : Nat} (hk : z.natAbs < 2 ^ k) : n ≤ k :=
  h.len (Nat.lt_of_lt_of_le hk (Nat.pow_le_pow_left (by omega) k))
theorem sg_mulW' (s t : Bool) (a b : Nat) : sg (s != t) (a * b : Nat) = sg s a * sg t b := by
  cases s <;> cases t <;> simp [sg, Int.neg_mul, Int.mul_neg]

set_option maxRecDepth 100000 in
set_option maxHeartbeats 2000000 in
theorem wmul_wm (s s' b : Bool) (hb : (s, s', b) = (false, false, false) ∨ (s, s', b) = (false, true, true) ∨ (s, s', b) = (true, false, true) ∨ (s, s', b) = (true, true, false)) (A : Option Addr) (n c : Nat) (A' : Option Addr) (n' c' : Nat) (X Y : Nat) (z : Int) (hz : sg b (X * Y : Nat) = z) (w : World) (hm : WM w A n c X) (hm' : WM w A' n' c' Y) (hn : n ≤ 1000000) (hn' : n' ≤ 1000000) :
    Calls Tryz.prog 129 #[.agg #[.bool s, .slice A n c], .agg #[.bool s', .slice A' n' c']] w fun e w' => ∃ s A n c, e = .returned (.tuple #[.agg #[.bool s, .slice A n c], .int .i64 (rgE z)]) ∧ Hid (WI w' (.agg #[.bool s, .slice A n c]) (rg z) ∧ New w w') := by
  have H0 := Lib.hid (And.intro hm (And.intro hm' hz))
  clear hm hm' hz
  rcases hb with hb | hb | hb | hb
  · injection hb with hb1 hb2
    injection hb2 with hb2 hb3
    subst hb1 hb2 hb3
    go_enter Tryz.func129, Tryz.ntmps129
    go_wp2_with fail
    refine Code.new3 ?_
    intro W hb1 hb2 hb3 hnW hzW
    have hc10 := hb1.cell 0 (u := .bool false) rfl
    have hc11 := hb1.cell 1 (u := .slice A n c) rfl
    have hc20 := hb2.cell 0 (u := .bool false) rfl
    have hc21 := hb2.cell 1 (u := .slice A' n' c') rfl
    have hc30 := hb3.cell 0 (u := .bool false) rfl
    have hc31 := hb3.cell 1 (u := .slice none 0 0) rfl
    have hf30 := hb3.frozen 0
    have hf31 := hb3.frozen 1
    have hmul : ∀ W', New W W' → Calls Tryz.prog 77 #[.slice A n c, .slice A' n' c'] W' fun e w' => ∃ R m d, e = .returned (.slice R m d) ∧ Hid (WM w' R m d (X * Y)) ∧ Hid (New W w') := fun W' h =>
      (mulMag_any A n c A' n' c' _ _ W' (H0.out.1.new (hnW.new h)) (H0.out.2.1.new (hnW.new h)) hn hn').mono fun e w' ⟨R, m, d, h1, h2⟩ => ⟨R, m, d, h1, h2.out.1, h.new h2.out.2.2⟩
    have hran : ∀ R m d W', Hid (WM W' R m d (X * Y)) → Calls Tryz.prog 78 #[.bool false, .slice R m d] W' fun e w' => ∃ s' A' n' c', e = .returned (.tuple #[.agg #[.bool s', .slice A' n' c'], .int .i64 (rgE z)]) ∧ Hid (WI w' (.agg #[.bool s', .slice A' n' c']) (rg z)) ∧ Hid (New W' w') := fun R m d W' h => by
      have := ranged_wm false R m d _ W' h.out
      rw [H0.out.2.2] at this
      exact this.mono fun e w' ⟨s5, A5, n5, c5, h1, h2⟩ => ⟨s5, A5, n5, c5, h1, h2.out.1, h2.out.2⟩
    have HP := Lib.hid hmul
    have HR := Lib.hid hran
    have HB := Lib.hid (And.intro hb1 (And.intro hb2 (And.intro hb3 hnW)))
    clear hmul hran hb1 hb2 hb3 hnW
    go_region_held3 (fun w' => w'.cell? ⟨w.heap.size, 0, none⟩ = some (.bool false) ∧ w'.cell? ⟨w.heap.size, 1, none⟩ = some (.slice A n c) ∧ w'.cell? ⟨w.heap.size + 1, 0, none⟩ = some (.bool false) ∧ w'.cell? ⟨w.heap.size + 1, 1, none⟩ = some (.slice A' n' c')) (first | exact ⟨by assumption, by assumption, by assumption, by assumption⟩ | exact ⟨far2 he10 (by dsimp only; omega) _ _, far2 he11 (by dsimp only; omega) _ _, far2 he20 (by dsimp only; omega) _ _, far2 he21 (by dsimp only; omega) _ _⟩)
      (first
        | (go_at_call 77; refine (HP.out _ ?_).mono ?_; exact (Chg.refl _ _).drew; rintro e w5 ⟨R, k, d, rfl, HO5, HN5⟩; have hd10 := HN5.out.cell hc10 (fun h => h); have hd11 := HN5.out.cell hc11 (fun h => h); have hd20 := HN5.out.cell hc20 (fun h => h); have hd21 := HN5.out.cell hc21 (fun h => h); have hd30 := HN5.out.cell hc30 (fun h => h); have hd31 := HN5.out.cell hc31 (fun h => h))
        | (go_at_call 78; refine (HR.out _ _ _ _ HO5).mono ?_; rintro e w6 ⟨s6, A6, n6, c6, rfl, H6, HN6⟩; have he10 := HN6.out.cell hd10 (fun h => h); have he11 := HN6.out.cell hd11 (fun h => h); have he20 := HN6.out.cell hd20 (fun h => h); have he21 := HN6.out.cell hd21 (fun h => h); have he30 := HN6.out.cell hd30 (fun h => h); have he31 := HN6.out.cell hd31 (fun h => h); have hh30 := ((HB.out.2.2.1.chg HN5.out (fun h => h)).chg HN6.out (fun h => h)).frozen 0; have hh31 := ((HB.out.2.2.1.chg HN5.out (fun h => h)).chg HN6.out (fun h => h)).frozen 1))
    all_goals
      clear hc10 hc11 hc20 hc21 hc30 hc31 hf30 hf31 hd10 hd11 hd20 hd21 hd30 hd31
      go_wp2
      have hb6 := (HB.out.2.2.1.chg HN5.out (fun h => h)).chg HN6.out (fun h => h)
      refine bodyPost_ret (res_ct rfl _ rfl (aggInt.load (hb6.set2 _ _)) rfl) rfl ⟨s6, A6, n6, c6, rfl, H6.out.store hb6 (noInt_two _ _ _ _) (Chg.at2 _ _ _ _), ?_⟩
      exact Chg.owned (HB.out.2.2.2.new (HN5.out.new HN6.out)) (Chg.at2 _ _ _ _) (fun k e => by omega)
  · injection hb with hb1 hb2
    injection hb2 with hb2 hb3
    subst hb1 hb2 hb3
    go_enter Tryz.func129, Tryz.ntmps129
    go_wp2_with fail
    refine Code.new3 ?_
    intro W hb1 hb2 hb3 hnW hzW
    have hc10 := hb1.cell 0 (u := .bool false) rfl
    have hc11 := hb1.cell 1 (u := .slice A n c) rfl
    have hc20 := hb2.cell 0 (u := .bool true) rfl
    have hc21 := hb2.cell 1 (u := .slice A' n' c') rfl
    have hc30 := hb3.cell 0 (u := .bool false) rfl
    have hc31 := hb3.cell 1 (u := .slice none 0 0) rfl
    have hf30 := hb3.frozen 0
    have hf31 := hb3.frozen 1
    have hmul : ∀ W', New W W' → Calls Tryz.prog 77 #[.slice A n c, .slice A' n' c'] W' fun e w' => ∃ R m d, e = .returned (.slice R m d) ∧ Hid (WM w' R m d (X * Y)) ∧ Hid (New W w') := fun W' h =>
      (mulMag_any A n c A' n' c' _ _ W' (H0.out.1.new (hnW.new h)) (H0.out.2.1.new (hnW.new h)) hn hn').mono fun e w' ⟨R, m, d, h1, h2⟩ => ⟨R, m, d, h1, h2.out.1, h.new h2.out.2.2⟩
    have hran : ∀ R m d W', Hid (WM W' R m d (X * Y)) → Calls Tryz.prog 78 #[.bool true, .slice R m d] W' fun e w' => ∃ s' A' n' c', e = .returned (.tuple #[.agg #[.bool s', .slice A' n' c'], .int .i64 (rgE z)]) ∧ Hid (WI w' (.agg #[.bool s', .slice A' n' c']) (rg z)) ∧ Hid (New W' w') := fun R m d W' h => by
      have := ranged_wm true R m d _ W' h.out
      rw [H0.out.2.2] at this
      exact this.mono fun e w' ⟨s5, A5, n5, c5, h1, h2⟩ => ⟨s5, A5, n5, c5, h1, h2.out.1, h2.out.2⟩
    have HP := Lib.hid hmul
    have HR := Lib.hid hran
    have HB := Lib.hid (And.intro hb1 (And.intro hb2 (And.intro hb3 hnW)))
    clear hmul hran hb1 hb2 hb3 hnW
    go_region_held3 (fun w' => w'.cell? ⟨w.heap.size, 0, none⟩ = some (.bool false) ∧ w'.cell? ⟨w.heap.size, 1, none⟩ = some (.slice A n c) ∧ w'.cell? ⟨w.heap.size + 1, 0, none⟩ = some (.bool true) ∧ w'.cell? ⟨w.heap.size + 1, 1, none⟩ = some (.slice A' n' c')) (first | exact ⟨by assumption, by assumption, by assumption, by assumption⟩ | exact ⟨far2 he10 (by dsimp only; omega) _ _, far2 he11 (by dsimp only; omega) _ _, far2 he20 (by dsimp only; omega) _ _, far2 he21 (by dsimp only; omega) _ _⟩)
      (first
        | (go_at_call 77; refine (HP.out _ ?_).mono ?_; exact (Chg.refl _ _).drew; rintro e w5 ⟨R, k, d, rfl, HO5, HN5⟩; have hd10 := HN5.out.cell hc10 (fun h => h); have hd11 := HN5.out.cell hc11 (fun h => h); have hd20 := HN5.out.cell hc20 (fun h => h); have hd21 := HN5.out.cell hc21 (fun h => h); have hd30 := HN5.out.cell hc30 (fun h => h); have hd31 := HN5.out.cell hc31 (fun h => h))
        | (go_at_call 78; refine (HR.out _ _ _ _ HO5).mono ?_; rintro e w6 ⟨s6, A6, n6, c6, rfl, H6, HN6⟩; have he10 := HN6.out.cell hd10 (fun h => h); have he11 := HN6.out.cell hd11 (fun h => h); have he20 := HN6.out.cell hd20 (fun h => h); have he21 := HN6.out.cell hd21 (fun h => h); have he30 := HN6.out.cell hd30 (fun h => h); have he31 := HN6.out.cell hd31 (fun h => h); have hh30 := ((HB.out.2.2.1.chg HN5.out (fun h => h)).chg HN6.out (fun h => h)).frozen 0; have hh31 := ((HB.out.2.2.1.chg HN5.out (fun h => h)).chg HN6.out (fun h => h)).frozen 1))
    all_goals
      clear hc10 hc11 hc20 hc21 hc30 hc31 hf30 hf31 hd10 hd11 hd20 hd21 hd30 hd31
      go_wp2
      have hb6 := (HB.out.2.2.1.chg HN5.out (fun h => h)).chg HN6.out (fun h => h)
      refine bodyPost_ret (res_ct rfl _ rfl (aggInt.load (hb6.set2 _ _)) rfl) rfl ⟨s6, A6, n6, c6, rfl, H6.out.store hb6 (noInt_two _ _ _ _) (Chg.at2 _ _ _ _), ?_⟩
      exact Chg.owned (HB.out.2.2.2.new (HN5.out.new HN6.out)) (Chg.at2 _ _ _ _) (fun k e => by omega)
  · injection hb with hb1 hb2
    injection hb2 with hb2 hb3
    subst hb1 hb2 hb3
    go_enter Tryz.func129, Tryz.ntmps129
    go_wp2_with fail
    refine Code.new3 ?_
    intro W hb1 hb2 hb3 hnW hzW
    have hc10 := hb1.cell 0 (u := .bool true) rfl
    have hc11 := hb1.cell 1 (u := .slice A n c) rfl
    have hc20 := hb2.cell 0 (u := .bool false) rfl
    have hc21 := hb2.cell 1 (u := .slice A' n' c') rfl
    have hc30 := hb3.cell 0 (u := .bool false) rfl
    have hc31 := hb3.cell 1 (u := .slice none 0 0) rfl
    have hf30 := hb3.frozen 0
    have hf31 := hb3.frozen 1
    have hmul : ∀ W', New W W' → Calls Tryz.prog 77 #[.slice A n c, .slice A' n' c'] W' fun e w' => ∃ R m d, e = .returned (.slice R m d) ∧ Hid (WM w' R m d (X * Y)) ∧ Hid (New W w') := fun W' h =>
      (mulMag_any A n c A' n' c' _ _ W' (H0.out.1.new (hnW.new h)) (H0.out.2.1.new (hnW.new h)) hn hn').mono fun e w' ⟨R, m, d, h1, h2⟩ => ⟨R, m, d, h1, h2.out.1, h.new h2.out.2.2⟩
    have hran : ∀ R m d W', Hid (WM W' R m d (X * Y)) → Calls Tryz.prog 78 #[.bool true, .slice R m d] W' fun e w' => ∃ s' A' n' c', e = .returned (.tuple #[.agg #[.bool s', .slice A' n' c'], .int .i64 (rgE z)]) ∧ Hid (WI w' (.agg #[.bool s', .slice A' n' c']) (rg z)) ∧ Hid (New W' w') := fun R m d W' h => by
      have := ranged_wm true R m d _ W' h.out
      rw [H0.out.2.2] at this
      exact this.mono fun e w' ⟨s5, A5, n5, c5, h1, h2⟩ => ⟨s5, A5, n5, c5, h1, h2.out.1, h2.out.2⟩
    have HP := Lib.hid hmul
    have HR := Lib.hid hran
    have HB := Lib.hid (And.intro hb1 (And.intro hb2 (And.intro hb3 hnW)))
    clear hmul hran hb1 hb2 hb3 hnW
    go_region_held3 (fun w' => w'.cell? ⟨w.heap.size, 0, none⟩ = some (.bool true) ∧ w'.cell? ⟨w.heap.size, 1, none⟩ = some (.slice A n c) ∧ w'.cell? ⟨w.heap.size + 1, 0, none⟩ = some (.bool false) ∧ w'.cell? ⟨w.heap.size + 1, 1, none⟩ = some (.slice A' n' c')) (first | exact ⟨by assumption, by assumption, by assumption, by assumption⟩ | exact ⟨far2 he10 (by dsimp only; omega) _ _, far2 he11 (by dsimp only; omega) _ _, far2 he20 (by dsimp only; omega) _ _, far2 he21 (by dsimp only; omega) _ _⟩)
      (first
        | (go_at_call 77; refine (HP.out _ ?_).mono ?_; exact (Chg.refl _ _).drew; rintro e w5 ⟨R, k, d, rfl, HO5, HN5⟩; have hd10 := HN5.out.cell hc10 (fun h => h); have hd11 := HN5.out.cell hc11 (fun h => h); have hd20 := HN5.out.cell hc20 (fun h => h); have hd21 := HN5.out.cell hc21 (fun h => h); have hd30 := HN5.out.cell hc30 (fun h => h); have hd31 := HN5.out.cell hc31 (fun h => h))
        | (go_at_call 78; refine (HR.out _ _ _ _ HO5).mono ?_; rintro e w6 ⟨s6, A6, n6, c6, rfl, H6, HN6⟩; have he10 := HN6.out.cell hd10 (fun h => h); have he11 := HN6.out.cell hd11 (fun h => h); have he20 := HN6.out.cell hd20 (fun h => h); have he21 := HN6.out.cell hd21 (fun h => h); have he30 := HN6.out.cell hd30 (fun h => h); have he31 := HN6.out.cell hd31 (fun h => h); have hh30 := ((HB.out.2.2.1.chg HN5.out (fun h => h)).chg HN6.out (fun h => h)).frozen 0; have hh31 := ((HB.out.2.2.1.chg HN5.out (fun h => h)).chg HN6.out (fun h => h)).frozen 1))
    all_goals
      clear hc10 hc11 hc20 hc21 hc30 hc31 hf30 hf31 hd10 hd11 hd20 hd21 hd30 hd31
      go_wp2
      have hb6 := (HB.out.2.2.1.chg HN5.out (fun h => h)).chg HN6.out (fun h => h)
      refine bodyPost_ret (res_ct rfl _ rfl (aggInt.load (hb6.set2 _ _)) rfl) rfl ⟨s6, A6, n6, c6, rfl, H6.out.store hb6 (noInt_two _ _ _ _) (Chg.at2 _ _ _ _), ?_⟩
      exact Chg.owned (HB.out.2.2.2.new (HN5.out.new HN6.out)) (Chg.at2 _ _ _ _) (fun k e => by omega)
  · injection hb with hb1 hb2
    injection hb2 with hb2 hb3
    subst hb1 hb2 hb3
    go_enter Tryz.func129, Tryz.ntmps129
    go_wp2_with fail
    refine Code.new3 ?_
    intro W hb1 hb2 hb3 hnW hzW
    have hc10 := hb1.cell 0 (u := .bool true) rfl
    have hc11 := hb1.cell 1 (u := .slice A n c) rfl
    have hc20 := hb2.cell 0 (u := .bool true) rfl
    have hc21 := hb2.cell 1 (u := .slice A' n' c') rfl
    have hc30 := hb3.cell 0 (u := .bool false) rfl
    have hc31 := hb3.cell 1 (u := .slice none 0 0) rfl
    have hf30 := hb3.frozen 0
    have hf31 := hb3.frozen 1
    have hmul : ∀ W', New W W' → Calls Tryz.prog 77 #[.slice A n c, .slice A' n' c'] W' fun e w' => ∃ R m d, e = .returned (.slice R m d) ∧ Hid (WM w' R m d (X * Y)) ∧ Hid (New W w') := fun W' h =>
      (mulMag_any A n c A' n' c' _ _ W' (H0.out.1.new (hnW.new h)) (H0.out.2.1.new (hnW.new h)) hn hn').mono fun e w' ⟨R, m, d, h1, h2⟩ => ⟨R, m, d, h1, h2.out.1, h.new h2.out.2.2⟩
    have hran : ∀ R m d W', Hid (WM W' R m d (X * Y)) → Calls Tryz.prog 78 #[.bool false, .slice R m d] W' fun e w' => ∃ s' A' n' c', e = .returned (.tuple #[.agg #[.bool s', .slice A' n' c'], .int .i64 (rgE z)]) ∧ Hid (WI w' (.agg #[.bool s', .slice A' n' c']) (rg z)) ∧ Hid (New W' w') := fun R m d W' h => by
      have := ranged_wm false R m d _ W' h.out
      rw [H0.out.2.2] at this
      exact this.mono fun e w' ⟨s5, A5, n5, c5, h1, h2⟩ => ⟨s5, A5, n5, c5, h1, h2.out.1, h2.out.2⟩
    have HP := Lib.hid hmul
    have HR := Lib.hid hran
    have HB := Lib.hid (And.intro hb1 (And.intro hb2 (And.intro hb3 hnW)))
    clear hmul hran hb1 hb2 hb3 hnW
    go_region_held3 (fun w' => w'.cell? ⟨w.heap.size, 0, none⟩ = some (.bool true) ∧ w'.cell? ⟨w.heap.size, 1, none⟩ = some (.slice A n c) ∧ w'.cell? ⟨w.heap.size + 1, 0, none⟩ = some (.bool true) ∧ w'.cell? ⟨w.heap.size + 1, 1, none⟩ = some (.slice A' n' c')) (first | exact ⟨by assumption, by assumption, by assumption, by assumption⟩ | exact ⟨far2 he10 (by dsimp only; omega) _ _, far2 he11 (by dsimp only; omega) _ _, far2 he20 (by dsimp only; omega) _ _, far2 he21 (by dsimp only; omega) _ _⟩)
      (first
        | (go_at_call 77; refine (HP.out _ ?_).mono ?_; exact (Chg.refl _ _).drew; rintro e w5 ⟨R, k, d, rfl, HO5, HN5⟩; have hd10 := HN5.out.cell hc10 (fun h => h); have hd11 := HN5.out.cell hc11 (fun h => h); have hd20 := HN5.out.cell hc20 (fun h => h); have hd21 := HN5.out.cell hc21 (fun h => h); have hd30 := HN5.out.cell hc30 (fun h => h); have hd31 := HN5.out.cell hc31 (fun h => h))
        | (go_at_call 78; refine (HR.out _ _ _ _ HO5).mono ?_; rintro e w6 ⟨s6, A6, n6, c6, rfl, H6, HN6⟩; have he10 := HN6.out.cell hd10 (fun h => h); have he11 := HN6.out.cell hd11 (fun h => h); have he20 := HN6.out.cell hd20 (fun h => h); have he21 := HN6.out.cell hd21 (fun h => h); have he30 := HN6.out.cell hd30 (fun h => h); have he31 := HN6.out.cell hd31 (fun h => h); have hh30 := ((HB.out.2.2.1.chg HN5.out (fun h => h)).chg HN6.out (fun h => h)).frozen 0; have hh31 := ((HB.out.2.2.1.chg HN5.out (fun h => h)).chg HN6.out (fun h => h)).frozen 1))
    all_goals
      clear hc10 hc11 hc20 hc21 hc30 hc31 hf30 hf31 hd10 hd11 hd20 hd21 hd30 hd31
      go_wp2
      have hb6 := (HB.out.2.2.1.chg HN5.out (fun h => h)).chg HN6.out (fun h => h)
      refine bodyPost_ret (res_ct rfl _ rfl (aggInt.load (hb6.set2 _ _)) rfl) rfl ⟨s6, A6, n6, c6, rfl, H6.out.store hb6 (noInt_two _ _ _ _) (Chg.at2 _ _ _ _), ?_⟩
      exact Chg.owned (HB.out.2.2.2.new (HN5.out.new HN6.out)) (Chg.at2 _ _ _ _) (fun k e => by omega)
theorem wmul_any (v v' : Value) (x y : Int) (w : World) (hx : WI w v x) (hy : WI w v' y) (bx : x.natAbs < 2 ^ 1000000) (bY : y.natAbs < 2 ^ 1000000) :
    Calls Tryz.prog 129 #[v, v'] w fun e w' => ∃ s A n c, e = .returned (.tuple #[.agg #[.bool s, .slice A n c], .int .i64 (rgE (x * y))]) ∧ Hid (WI w' (.agg #[.bool s, .slice A n c]) (rg (x * y)) ∧ New w w') := by
  obtain ⟨s, A, n, c, rfl, hs, hm⟩ := hx
  obtain ⟨s', A', n', c', rfl, hs', hm'⟩ := hy
  refine wmul_wm s s' (s != s') (by cases s <;> cases s' <;> simp) A n c A' n' c' x.natAbs y.natAbs (x * y) ?_ w hm hm' (bz_wlen hm bx) (bz_wlen hm' bY)
  rw [hs, hs', sg_mulW', sg_of, sg_of]
end Go.Proofs.YtbocpkjajocpiaaGreatDoor

namespace Go.Fr
set_option linter.unusedVariables false
open Go.Dig

/-- The denominator as an integer. -/
def dn (x : Rat) : Int := (x.den : Int)
theorem dn_pos (x : Rat) : 0 < dn x := by
  have := x.den_pos
  unfold dn
  omega
theorem ext {x y : Rat} (h : x.num = y.num) (h' : dn x = dn y) : x = y := Rat.ext h (by unfold dn at h'; omega)
theorem low (x : Rat) : Int.gcd x.num (dn x) = 1 := x.reduced
theorem mk_self (x : Rat) : Rat.divInt x.num (dn x) = x := Rat.num_divInt_den x
theorem make_pos {p q : Int} (h : 0 < q) : p / ((Int.gcd p q : Nat) : Int) = (Rat.divInt p q).num ∧ q / ((Int.gcd p q : Nat) : Int) = dn (Rat.divInt p q) := by
  constructor
  · rw [Rat.num_divInt, Int.sign_eq_one_of_pos h, Int.one_mul, Int.gcd_comm]
  · unfold dn
    rw [Rat.den_divInt, if_neg (by omega), Int.natCast_ediv, Int.natAbs_of_nonneg (by omega), Int.gcd_comm]
theorem make_neg {p q : Int} (h : q < 0) : (-p) / ((Int.gcd (-p) (-q) : Nat) : Int) = (Rat.divInt p q).num ∧ (-q) / ((Int.gcd (-p) (-q) : Nat) : Int) = dn (Rat.divInt p q) := by
  rw [← Rat.neg_divInt_neg p q]
  exact make_pos (by omega)
theorem gcd_ne {p q : Int} (h : q ≠ 0) : ((Int.gcd p q : Nat) : Int) ≠ 0 := by
  have := Int.gcd_pos_of_ne_zero_right p h
  omega
theorem num_le (p q : Int) : (Rat.divInt p q).num.natAbs ≤ p.natAbs := by
  rcases Int.lt_trichotomy q 0 with h | h | h
  · rw [← (make_neg (p := p) h).1]
    have := Int.natAbs_ediv_le_natAbs (-p) ((Int.gcd (-p) (-q) : Nat) : Int)
    omega
  · subst h; rw [Rat.divInt_zero]; simp
  · rw [← (make_pos (p := p) h).1]
    exact Int.natAbs_ediv_le_natAbs _ _
theorem den_le {p q : Int} (h : q ≠ 0) : (dn (Rat.divInt p q)).natAbs ≤ q.natAbs := by
  rcases Int.lt_trichotomy q 0 with h' | h' | h'
  · rw [← (make_neg (p := p) h').2]
    have := Int.natAbs_ediv_le_natAbs (-q) ((Int.gcd (-p) (-q) : Nat) : Int)
    omega
  · exact absurd h' h
  · rw [← (make_pos (p := p) h').2]
    exact Int.natAbs_ediv_le_natAbs _ _

section
variable (x y : Rat)
/-- The greatest common divisor of the denominators. -/
def dg : Int := ((Int.gcd (dn x) (dn y) : Nat) : Int)
theorem dg_ne : dg x y ≠ 0 := gcd_ne (by have := dn_pos y; omega)
theorem dg_x : dg x y * (dn x / dg x y) = dn x := Int.mul_ediv_cancel' (Int.gcd_dvd_left _ _)
theorem dg_y : dg x y * (dn y / dg x y) = dn y := Int.mul_ediv_cancel' (Int.gcd_dvd_right _ _)
theorem add_eq : Rat.divInt (x.num * (dn y / dg x y) + y.num * (dn x / dg x y)) (dn x / dg x y * dn y) = x + y := by
  have h : x + y = Rat.divInt (x.num * dn y + y.num * dn x) (dn x * dn y) := by
    rw [Rat.add_def', ← Rat.divInt_ofNat]
    simp [dn]
  rw [h]
  have h1 := dg_x x y
  have h2 := dg_y x y
  have h0 := dg_ne x y
  generalize dg x y = g at *
  generalize dn x / g = a at *
  generalize dn y / g = b at *
  rw [← h1, ← h2, show x.num * (g * b) + y.num * (g * a) = g * (x.num * b + y.num * a) by rw [Int.mul_add, Int.mul_left_comm, Int.mul_left_comm y.num], show g * a * (g * b) = g * (a * (g * b)) by rw [Int.mul_assoc]]
  exact (Rat.divInt_mul_left h0).symm
theorem mul_num : (x * y).num = x.num / ((Int.gcd x.num (dn y) : Nat) : Int) * (y.num / ((Int.gcd y.num (dn x) : Nat) : Int)) := by
  show (Rat.mul x y).num = _
  delta Rat.mul
  dsimp only
  rw [Int.divExact_eq_tdiv, Int.divExact_eq_tdiv]
  have h1 : x.num.tdiv ((Int.gcd x.num (dn y) : Nat) : Int) = x.num / ((Int.gcd x.num (dn y) : Nat) : Int) := Int.tdiv_eq_ediv_of_dvd (Int.gcd_dvd_left x.num (dn y))
  have h2 : y.num.tdiv ((Int.gcd y.num (dn x) : Nat) : Int) = y.num / ((Int.gcd y.num (dn x) : Nat) : Int) := Int.tdiv_eq_ediv_of_dvd (Int.gcd_dvd_left y.num (dn x))
  rw [← h1, ← h2]
  rfl
theorem mul_den : dn (x * y) = dn x / ((Int.gcd y.num (dn x) : Nat) : Int) * (dn y / ((Int.gcd x.num (dn y) : Nat) : Int)) := by
  show (((Rat.mul x y).den : Nat) : Int) = _
  delta Rat.mul
  dsimp only
  rw [Nat.divExact_eq_div, Nat.divExact_eq_div, Int.natCast_mul, Int.natCast_ediv, Int.natCast_ediv]
  rfl
theorem mul_eq : Rat.divInt (x.num * y.num) (dn x * dn y) = x * y := by
  rw [Rat.mul_def', ← Rat.divInt_ofNat]
  simp [dn]
theorem inv_eq : Rat.divInt (dn y) y.num = y⁻¹ := (Rat.inv_def y).symm
end

/-- -1, 0 or 1. -/
def cmpR (x y : Rat) : Int := cmpI (x.num * dn y) (y.num * dn x)
theorem cmpR_lt {x y : Rat} : cmpR x y = -1 ↔ x < y := by
  rw [Rat.lt_iff]
  unfold cmpR cmpI dn
  split
  · simp [*]
  · split <;> simp [*]
theorem cmpR_eq {x y : Rat} : cmpR x y = 0 ↔ x = y := by
  rw [Rat.eq_iff_mul_eq_mul]
  unfold cmpR cmpI dn
  split
  · simp; omega
  · split <;> simp <;> omega
theorem cmpR_gt {x y : Rat} : cmpR x y = 1 ↔ y < x := by
  rw [Rat.lt_iff]
  unfold cmpR cmpI dn
  split
  · simp; omega
  · split <;> simp [*]
theorem cmpR_cases (x y : Rat) : (x < y ∧ cmpR x y = -1) ∨ (x = y ∧ cmpR x y = 0) ∨ (y < x ∧ cmpR x y = 1) := by
  have h : cmpR x y = -1 ∨ cmpR x y = 0 ∨ cmpR x y = 1 := by
    unfold cmpR cmpI
    split
    · exact .inl rfl
    · split
      · exact .inr (.inr rfl)
      · exact .inr (.inl rfl)
  rcases h with h | h | h
  · exact .inl ⟨cmpR_lt.1 h, h⟩
  · exact .inr (.inl ⟨cmpR_eq.1 h, h⟩)
  · exact .inr (.inr ⟨cmpR_gt.1 h, h⟩)
theorem cmpI_swap (a b : Int) : cmpI b a = -cmpI a b := by
  rcases Int.lt_trichotomy a b with h | h | h
  · rw [cmpI_lt h, cmpI_gt h]; rfl
  · rw [cmpI_eq h, cmpI_eq h.symm]; rfl
  · rw [cmpI_gt h, cmpI_lt h]
/-! ### comparing by whole parts and rests -/
theorem cmpI_of_sub {a b c d : Int} (h : a - b = c - d) : cmpI a b = cmpI c d := by
  unfold cmpI
  split
  · rw [if_pos (by omega)]
  · split
    · rw [if_neg (by omega), if_pos (by omega)]
    · rw [if_neg (by omega), if_neg (by omega)]
theorem cf_same {p q r s : Int} (h : p / q = r / s) : cmpI (p * s) (r * q) = cmpI (p % q * s) (r % s * q) := by
  refine cmpI_of_sub ?_
  have h1 := Int.mul_ediv_add_emod p q
  have h2 := Int.mul_ediv_add_emod r s
  rw [h] at h1
  generalize r / s = k at *
  generalize p % q = x at *
  generalize r % s = y at *
  rw [← h1, ← h2, Int.add_mul, Int.add_mul, show q * k * s = s * k * q by rw [Int.mul_comm q k, Int.mul_comm s k, Int.mul_assoc, Int.mul_assoc, Int.mul_comm q s]]
  omega
theorem cf_other {p q r s : Int} (hq : 0 < q) (hs : 0 < s) (h : ¬ p / q = r / s) : cmpI (p * s) (r * q) = cmpI (p / q) (r / s) := by
  have key : ∀ {p q r s : Int}, 0 < q → 0 < s → p / q < r / s → p * s < r * q := by
    intro p q r s hq hs h
    have h1 := Int.lt_ediv_add_one_mul_self p hq
    have h2 := Int.ediv_mul_le r (b := s) (by omega)
    have h3 : (p / q + 1) * q ≤ r / s * q := Int.mul_le_mul_of_nonneg_right (by omega) (by omega)
    have h4 : p < r / s * q := by omega
    have h5 : p * s < r / s * q * s := Int.mul_lt_mul_of_pos_right h4 hs
    have h6 : r / s * s * q ≤ r * q := Int.mul_le_mul_of_nonneg_right h2 (by omega)
    rw [Int.mul_right_comm] at h5
    omega
  rcases Int.lt_trichotomy (p / q) (r / s) with g | g | g
  · rw [cmpI_lt (key hq hs g), cmpI_lt g]
  · exact absurd g h
  · rw [cmpI_gt (key hs hq g), cmpI_gt g]
theorem cf_zero {x y q s : Int} (hx : 0 ≤ x) (hy : 0 ≤ y) (hq : 0 < q) (hs : 0 < s) (h : x = 0 ∨ y = 0) : cmpI (x * s) (y * q) = cmpI x 0 - cmpI y 0 := by
  rcases h with rfl | rfl
  · rw [Int.zero_mul]
    rcases Int.lt_or_eq_of_le hy with h | h
    · rw [cmpI_lt (Int.mul_pos h hq), cmpI_eq rfl, cmpI_gt h]; rfl
    · subst h; rw [Int.zero_mul]; rfl
  · rw [Int.zero_mul]
    rcases Int.lt_or_eq_of_le hx with h | h
    · rw [cmpI_gt (Int.mul_pos h hs), cmpI_gt h]; rfl
    · subst h; rw [Int.zero_mul]; rfl
theorem cf_turn (x y q s : Int) : cmpI (x * s) (y * q) = -cmpI (q * y) (s * x) := by
  rw [← cmpI_swap, Int.mul_comm x s, Int.mul_comm y q]
end Go.Fr

namespace Go.Proofs.YtbocpkjajocpiaaGreatDoor
set_option linter.unusedVariables false
open Go.Dig Go.Fr

/-- In range. -/
def fit (z : Int) : Prop := z.natAbs < topN
instance (z : Int) : Decidable (fit z) := by unfold fit; exact inferInstance
def ft (x : Rat) : Prop := fit x.num ∧ fit (dn x)
instance (x : Rat) : Decidable (ft x) := by unfold ft; exact inferInstance
theorem topN_pos : 4294967296 ≤ topN := by
  have h : ∀ k, 1 ≤ k → 4294967296 ≤ powN k := fun k hk => by
    unfold powN
    exact Nat.le_trans (by decide) (Nat.pow_le_pow_right (show 0 < 4294967296 by omega) hk)
  exact h 512 (by omega)
theorem fit_small {z : Int} (h1 : -4294967296 < z) (h2 : z < 4294967296) : fit z := by
  have := topN_pos
  unfold fit
  omega
theorem ft_zero : ft 0 := ⟨fit_small (by decide) (by decide), fit_small (by decide) (by decide)⟩
theorem ft_one : ft 1 := ⟨fit_small (by decide) (by decide), fit_small (by decide) (by decide)⟩
theorem fit.neg {z : Int} (h : fit z) : fit (-z) := by unfold fit at *; omega
theorem ft.neg {x : Rat} (h : ft x) : ft (-x) := ⟨h.1.neg, h.2⟩
/-- A fraction in range, or 0, and its error. -/
def rgR (x : Rat) : Rat := if ft x then x else 0
def rgRE (x : Rat) : Int := if ft x then 0 else 4
/-- The numbers of a sum. -/
def LL (x y : Rat) : Int := x.num * (dn y / dg x y)
def RR (x y : Rat) : Int := y.num * (dn x / dg x y)
def DD (x y : Rat) : Int := dn x / dg x y * dn y
def addOk (x y : Rat) : Prop := fit (LL x y) ∧ fit (RR x y) ∧ fit (LL x y + RR x y) ∧ fit (DD x y)
instance (x y : Rat) : Decidable (addOk x y) := by unfold addOk; exact inferInstance
def addV (x y : Rat) : Rat := if addOk x y then x + y else 0
def addE (x y : Rat) : Int := if addOk x y then 0 else 4
theorem add_mk (x y : Rat) : Rat.divInt (LL x y + RR x y) (DD x y) = x + y := add_eq x y
theorem DD_pos (x y : Rat) : 0 < DD x y := by
  have h1 := dn_pos x
  have h2 := dn_pos y
  have h3 := dg_x x y
  have hg : 0 < dg x y := by
    have h := dg_ne x y
    have h' : (0 : Int) ≤ dg x y := by unfold Fr.dg; omega
    omega
  refine Int.mul_pos ?_ h2
  rcases Int.lt_or_le 0 (dn x / dg x y) with h | h
  · exact h
  · have := Int.mul_nonpos_of_nonneg_of_nonpos (Int.le_of_lt hg) h
    omega
theorem ft_mk {p q : Int} (hp : fit p) (hq : fit q) : ft (Rat.divInt p q) := by
  refine ⟨Nat.lt_of_le_of_lt (num_le p q) hp, ?_⟩
  rcases Int.decEq q 0 with h | h
  · exact Nat.lt_of_le_of_lt (den_le h) hq
  · subst h
    rw [Rat.divInt_zero]
    exact ft_zero.2
/-- Bounds by powers of 2. -/
def Fb (k : Nat) (x : Rat) : Prop := x.num.natAbs < 2 ^ k ∧ (dn x).natAbs < 2 ^ k
theorem ediv_le (a b : Int) : (a / b).natAbs ≤ a.natAbs := Int.natAbs_ediv_le_natAbs a b
theorem nmul_lt {a b : Int} {j k : Nat} (ha : a.natAbs < 2 ^ j) (hb : b.natAbs < 2 ^ k) : (a * b).natAbs < 2 ^ (j + k) := by
  rw [Int.natAbs_mul, Nat.pow_add]
  exact Nat.mul_lt_mul'' ha hb
theorem nadd_lt {a b : Int} {j : Nat} (ha : a.natAbs < 2 ^ j) (hb : b.natAbs < 2 ^ j) : (a + b).natAbs < 2 ^ (j + 1) := by
  rw [Nat.pow_succ]
  omega
theorem Fb.mono {j k : Nat} {x : Rat} (h : Fb j x) (hjk : j ≤ k) : Fb k x :=
  ⟨Nat.lt_of_lt_of_le h.1 (Nat.pow_le_pow_right (by omega) hjk), Nat.lt_of_lt_of_le h.2 (Nat.pow_le_pow_right (by omega) hjk)⟩
section
variable {j k : Nat} {x y : Rat}
theorem LL_lt (hx : Fb j x) (hy : Fb k y) : (LL x y).natAbs < 2 ^ (j + k) := nmul_lt hx.1 (Nat.lt_of_le_of_lt (ediv_le _ _) hy.2)
theorem RR_lt (hx : Fb j x) (hy : Fb k y) : (RR x y).natAbs < 2 ^ (j + k) := by
  rw [Nat.add_comm]
  exact nmul_lt hy.1 (Nat.lt_of_le_of_lt (ediv_le _ _) hx.2)
theorem DD_lt (hx : Fb j x) (hy : Fb k y) : (DD x y).natAbs < 2 ^ (j + k) := nmul_lt (Nat.lt_of_le_of_lt (ediv_le _ _) hx.2) hy.2
theorem fit_of {z : Int} {m : Nat} (h : z.natAbs < 2 ^ m) (hm : m ≤ 16384) : fit z := by
  obtain ⟨K, hK⟩ : ∃ K, K = 512 := ⟨_, rfl⟩
  have : powN K = 2 ^ (32 * K) := by unfold powN; rw [Nat.pow_mul]
  unfold fit
  rw [show topN = powN 512 from rfl, ← hK, this]
  exact Nat.lt_of_lt_of_le h (Nat.pow_le_pow_right (by omega) (by omega))
theorem addOk_of (hx : Fb j x) (hy : Fb k y) (h : j + k + 1 ≤ 16384) : addOk x y :=
  ⟨fit_of (LL_lt hx hy) (by omega), fit_of (RR_lt hx hy) (by omega), fit_of (nadd_lt (LL_lt hx hy) (RR_lt hx hy)) h, fit_of (DD_lt hx hy) (by omega)⟩
theorem Fb.add (hx : Fb j x) (hy : Fb k y) : Fb (j + k + 1) (x + y) := by
  rw [← add_mk]
  refine ⟨Nat.lt_of_le_of_lt (num_le _ _) (nadd_lt (LL_lt hx hy) (RR_lt hx hy)), ?_⟩
  refine Nat.lt_of_le_of_lt (den_le (by have := DD_pos x y; omega)) (Nat.lt_of_lt_of_le (DD_lt hx hy) (Nat.pow_le_pow_right (by omega) (by omega)))
theorem Fb.mul (hx : Fb j x) (hy : Fb k y) : Fb (j + k) (x * y) := by
  rw [← mul_eq]
  refine ⟨Nat.lt_of_le_of_lt (num_le _ _) (nmul_lt hx.1 hy.1), Nat.lt_of_le_of_lt (den_le ?_) (nmul_lt hx.2 hy.2)⟩
  have := Int.mul_pos (dn_pos x) (dn_pos y)
  omega
theorem Fb.neg (hx : Fb j x) : Fb j (-x) := ⟨by show (-x.num).natAbs < _; rw [Int.natAbs_neg]; exact hx.1, hx.2⟩
theorem Fb.ft (hx : Fb j x) (h : j ≤ 16384) : ft x := ⟨fit_of hx.1 h, fit_of hx.2 h⟩
theorem Fb.mk {p q : Int} (hp : p.natAbs < 2 ^ j) (hq : q.natAbs < 2 ^ j) (hj : 1 ≤ j) : Fb j (Rat.divInt p q) := by
  refine ⟨Nat.lt_of_le_of_lt (num_le _ _) hp, ?_⟩
  rcases Int.decEq q 0 with h | h
  · exact Nat.lt_of_le_of_lt (den_le h) hq
  · rw [h, Rat.divInt_zero]
    show (1 : Nat) < _
    exact Nat.lt_of_lt_of_le (by decide) (Nat.pow_le_pow_right (show 0 < 2 by omega) hj)
end
/-- A quotient. -/
def divV (x y : Rat) : Rat := if y = 0 then 0 else rgR (x / y)
def divE (x y : Rat) : Int := if y = 0 then 1 else rgRE (x / y)
end Go.Proofs.YtbocpkjajocpiaaGreatDoor

namespace Go.Proofs.YtbocpkjajocpiaaGreatDoor
set_option linter.unusedVariables false
open Go.RowKit Go.Mem Go.Dig

theorem noInt_two' (s : Bool) (A : Option Addr) (n c : Nat) : NoInt (#[Value.bool s, Value.slice A n c] : Array Value).toList := fun k z h => by simp at h
theorem aggN : Agg Tryz.prog 26 2 := ⟨_, Tryz.underlying26, rfl, by kernel_rfl⟩
/-- The amount m lies in a slice, in base 10000. -/
def DM (w : World) (A : Option Addr) (n c : Nat) (m : Nat) : Prop := ∃ l, Rd w A n (nv .i64 l) ∧ n ≤ c ∧ c ≤ 9223372036854775807 ∧ Num 10000 l m
theorem DM.new {w w' : World} {A : Option Addr} {n c m : Nat} (h : DM w A n c m) (hn : New w w') : DM w' A n c m := by
  obtain ⟨l, h1, h2⟩ := h
  exact ⟨l, h1.new hn, h2⟩
theorem DM.store {w w' : World} {A : Option Addr} {n c m g : Nat} {t : TypeId} {cs : Array Value} (h : DM w A n c m) (hb : Blk w g t cs) (hi : NoInt cs.toList) (hc : Chg (fun k => k = g) w w') : DM w' A n c m := by
  obtain ⟨l, h1, h2⟩ := h
  refine ⟨l, h1.store hb (fun u hu => ?_) hc, h2⟩
  obtain ⟨z, _, rfl⟩ := List.mem_map.1 hu
  exact hi _ _
theorem DM.zero (w : World) : DM w none 0 0 0 := ⟨[], Rd.nil _ _, Nat.le_refl _, by omega, Num.zero _⟩
theorem DM.pos {w : World} {A : Option Addr} {n c m : Nat} (h : DM w A n c m) : n = 0 ↔ m = 0 := by
  obtain ⟨l, h1, _, _, h4⟩ := h
  rw [← h4.nil_iff (by omega)]
  have := h1.len
  rw [nv_length] at this
  constructor
  · intro h; exact List.eq_nil_of_length_eq_zero (by omega)
  · intro h; subst h; simpa using this.symm
theorem DM.lt {w : World} {A : Option Addr} {n c m : Nat} (h : DM w A n c m) {k : Nat} (hk : n ≤ k) : m < 10000 ^ k := by
  obtain ⟨l, h1, _, _, h4⟩ := h
  exact h4.lt (by omega) (by have := h1.len; rw [nv_length] at this; omega)
theorem DM.len {w : World} {A : Option Addr} {n c m : Nat} (h : DM w A n c m) {k : Nat} (hk : m < 10000 ^ k) : n ≤ k := by
  obtain ⟨l, h1, _, _, h4⟩ := h
  have := h4.len_le (by omega) hk
  have := h1.len
  rw [nv_length] at this
  omega
/-- v is the refuterref03.N z. -/
def RN (w : World) (v : Value) (z : Int) : Prop := ∃ s A n c, v = .agg #[.bool s, .slice A n c] ∧ s = decide (z < 0) ∧ DM w A n c z.natAbs
theorem RN.new {w w' : World} {v : Value} {z : Int} (h : RN w v z) (hn : New w w') : RN w' v z := by
  obtain ⟨s, A, n, c, h1, h2, h3⟩ := h
  exact ⟨s, A, n, c, h1, h2, h3.new hn⟩
theorem RN.store {w w' : World} {v : Value} {z : Int} {g : Nat} {t : TypeId} {cs : Array Value} (h : RN w v z) (hb : Blk w g t cs) (hi : NoInt cs.toList) (hc : Chg (fun k => k = g) w w') : RN w' v z := by
  obtain ⟨s, A, n, c, h1, h2, h3⟩ := h
  exact ⟨s, A, n, c, h1, h2, h3.store hb hi hc⟩
theorem RN.zero (w : World) : RN w (.agg #[.bool false, .slice none 0 0]) 0 := ⟨_, _, _, _, rfl, rfl, DM.zero w⟩

set_option maxHeartbeats 1000000 in
theorem normal_any (s : Bool) (A : Option Addr) (n c : Nat) (l : List Nat) (w : World) (hr : Rd w A n (nv .i64 l)) (hnc : n ≤ c) (hc : c ≤ 9223372036854775807) :
    Calls Tryz.prog 72 #[.bool s, .slice A n c] w fun e w' => e = .returned (.agg #[.bool (s && decide (0 < (Dig.trim l).length)), .slice A (Dig.trim l).length c]) ∧ New w w' := by
  have hl : l.length = n := by have := hr.len; rwa [nv_length] at this
  obtain ⟨T, hT⟩ : ∃ T, (Dig.trim l).length = T := ⟨_, rfl⟩
  rw [hT]
  obtain ⟨b, hb⟩ : ∃ b, (s && decide (0 < T)) = b := ⟨_, rfl⟩
  rw [hb]
  have H0 := Lib.hid (And.intro hl (And.intro hr (And.intro hT hb)))
  clear hl hr hT hb
  have hup := fun (k : Nat) (i : Int) (hi : i = (k : Int)) (m : Nat) (hk : k ≤ c) (W : World) => run_upto elemInts .i64 A m c k i hi hk W
  have HUP := Lib.hid hup
  clear hup
  go_enter Tryz.func72, Tryz.ntmps72
  go_wp2
  obtain ⟨W, hW⟩ : ∃ W, w.alloc (.cells #[.bool false, .slice none 0 0] 26) = W := ⟨_, rfl⟩
  have HB : Hid (Blk W w.heap.size 26 #[.bool false, .slice none 0 0] ∧ New w W) := by rw [← hW]; exact ⟨Blk.new _ _ _, (Chg.refl _ w).alloc _⟩
  rw [hW]
  clear hW
  go_loopw [1] (fun v wr => ∃ k : Nat, v = .slice A k c ∧ k ≤ n ∧ Hid ((Dig.trim (l.take k)).length = T) ∧ wr = W) (fun v _ => match v with | .slice _ k _ => k | _ => 0)
  case atStart =>
    obtain ⟨hl, hr, hT, hb⟩ := H0.out
    exact ⟨n, rfl, Nat.le_refl _, by show _ = _; rw [List.take_of_length_le (by omega), hT], rfl⟩
  case round =>
    obtain ⟨k, rfl, hk, HK, rfl⟩ := hrel
    have hc0 := HB.out.1.cell 0 (u := .bool false) rfl
    have hc1 := HB.out.1.cell 1 (u := .slice none 0 0) rfl
    have hf0 := HB.out.1.frozen 0
    have hf1 := HB.out.1.frozen 1
    by_cases h0 : k = 0
    · subst h0
      have hTk : T = 0 := by
        have := HK.out
        simp [Dig.trim] at this
        omega
      have hbv : b = false := by
        have hb := H0.out.2.2.2
        rw [← hb, hTk]; simp
      subst hTk
      subst hbv
      cases s
      all_goals
        go_wp2
        refine bodyPost_ret (res_c rfl _ rfl (aggN.load (HB.out.1.set2 _ _))) rfl ⟨rfl, ?_⟩
        exact Chg.owned HB.out.2 (Chg.at2 _ _ _ _) (fun k e => by omega)
    · obtain ⟨j, rfl⟩ : ∃ j, k = j + 1 := ⟨k - 1, by omega⟩
      have hpos : decide ((0 : Int) < ((j + 1 : Nat) : Int)) = true := by simp
      obtain ⟨hl, hr, hT, hb⟩ := H0.out
      have hr2 := hr.new HB.out.2
      obtain ⟨ad, u, rfl, hu, hcu⟩ := hr2.at_ (show j < n by omega)
      obtain ⟨z, hz, rfl⟩ := nv_at hu
      have HZ := Lib.hid hz
      clear hl hr hr2 hT hb hu hz
      by_cases hz0 : z = 0
      · subst hz0
        have hup := HUP.out j ((j + 1 : Nat) - 1 : Int) (by omega) (j + 1) (by omega)
        go_wp2
        go_roundw
        case rel => exact ⟨j, rfl, by omega, by show _ = _; rw [← HK.out, trim_step HZ.out rfl], trivial⟩
        case measure => simp
      · have hzb : ((z : Int) == 0) = false := by simp; omega
        have hTk : T = j + 1 := by
          have := HK.out
          rw [trim_stop HZ.out hz0, List.length_take, Nat.min_eq_left (by have := H0.out.1; omega)] at this
          omega
        have hbv : b = s := by
          have hb := H0.out.2.2.2
          rw [← hb, hTk]; simp
        subst hTk
        subst hbv
        cases b
        all_goals
          go_wp2
          refine bodyPost_ret (res_c rfl _ rfl (aggN.load (HB.out.1.set2 _ _))) rfl ⟨rfl, ?_⟩
          exact Chg.owned HB.out.2 (Chg.at2 _ _ _ _) (fun k e => by omega)

/-- normal: the sign and any digits. -/
theorem normal_rn (s : Bool) (A : Option Addr) (n c : Nat) (l : List Nat) (w : World) (hr : Rd w A n (nv .i64 l)) (hd : Digs 10000 l) (hnc : n ≤ c) (hc : c ≤ 9223372036854775807) :
    Calls Tryz.prog 72 #[.bool s, .slice A n c] w fun e w' => ∃ v, e = .returned v ∧ RN w' v (sg s (val 10000 l)) ∧ New w w' := by
  refine (normal_any s A n c l w hr hnc hc).mono ?_
  rintro e w' ⟨rfl, hn⟩
  have hN := Num.of_trim hd
  have hll : l.length = n := by have := hr.len; rwa [nv_length] at this
  have hlen := trim_len l
  refine ⟨_, rfl, ⟨_, _, _, _, rfl, ?_, Dig.trim l, ?_, by omega, hc, ?_⟩, hn⟩
  · rw [sg_neg]
    congr 1
    rw [decide_eq_decide]
    have := hN.nil_iff (by omega)
    constructor
    · intro h
      rcases Nat.eq_zero_or_pos (val 10000 l) with h1 | h1
      · rw [this.2 h1] at h; simp at h
      · exact h1
    · intro h
      rcases Nat.eq_zero_or_pos (Dig.trim l).length with h1 | h1
      · have := this.1 (List.eq_nil_of_length_eq_zero h1); omega
      · exact h1
  · have := (hr.new hn).take (k := (Dig.trim l).length) (by omega)
    rw [nv_take, ← trim_take] at this
    exact this
  · rw [sg_abs]; exact hN

/-- Digits of n, one after another. -/
structure OfI (n m i : Nat) (o : List Nat) : Prop where
  len : o.length = i
  digs : Digs 10000 o
  eq : val 10000 o + 10000 ^ i * m = n
theorem OfI.step {n m i : Nat} {o : List Nat} (h : OfI n m i o) : OfI n (m / 10000) (i + 1) (o ++ [m % 10000]) := by
  refine ⟨by simp [h.len], h.digs.snoc (Nat.mod_lt _ (by omega)), ?_⟩
  rw [val_snoc, h.len, Nat.pow_succ, Nat.mul_assoc, Nat.add_assoc, ← Nat.mul_add, Nat.mod_add_div]
  exact h.eq
theorem tmod_neg' (m : Nat) : (-(m : Int)).tmod 10000 = -((m % 10000 : Nat) : Int) := by rw [Int.neg_tmod, Int.tmod_eq_emod_of_nonneg (by omega)]; simp
theorem tdiv_neg' (m : Nat) : (-(m : Int)).tdiv 10000 = -((m / 10000 : Nat) : Int) := by rw [Int.neg_tdiv, Int.tdiv_eq_ediv_of_nonneg (by omega)]; simp

set_option maxHeartbeats 2000000 in
theorem of_any (n : Int) (w : World) (h1 : -9223372036854775808 ≤ n) (h2 : n ≤ 9223372036854775807) :
    Calls Tryz.prog 15 #[.int .i64 n] w fun e w' => ∃ v, e = .returned v ∧ RN w' v n ∧ New w w' := by
  obtain ⟨M, hM⟩ : ∃ M : Nat, n.natAbs = M := ⟨_, rfl⟩
  have hMb : M ≤ 9223372036854775808 := by omega
  have hM5 : M < 10000 ^ (5 - 0) := Nat.lt_of_le_of_lt hMb (by decide)
  by_cases h : n < 0
  · obtain rfl : n = -(M : Int) := by omega
    have hMp : 0 < M := by omega
    clear hM
    go_enter Tryz.func15, Tryz.ntmps15
    go_wp2
    obtain ⟨W, hW⟩ : ∃ W, w.alloc (.cells #[.bool false, .slice none 0 0] 26) = W := ⟨_, rfl⟩
    have HB : Hid (Blk W w.heap.size 26 #[.bool false, .slice none 0 0] ∧ New w W) := by rw [← hW]; exact ⟨Blk.new _ _ _, (Chg.refl _ w).alloc _⟩
    rw [hW]
    clear hW
    go_loopw [0, 3] (fun v d wr => ∃ m i : Nat, ∃ A c o, v = .int .i64 (-(m : Int)) ∧ m ≤ 9223372036854775808 ∧ i ≤ 5 ∧ d = .slice A i c ∧ Hid (m < 10000 ^ (5 - i) ∧ OfI M m i o ∧ wr.ownsRow W.heap.size 3 1 (.slice A i c) i (nv .i64 o) ∧ New W wr)) (fun v _ _ => (-(intOf v)).toNat)
    case atStart => exact ⟨M, 0, none, 0, [], rfl, by omega, by omega, rfl, hM5, ⟨rfl, Digs.nil _, by simp⟩, World.ownsRow_nil _ _ _ _, Chg.refl _ _⟩
    case round =>
      obtain ⟨m, i, A, c, o, rfl, hm, hi, rfl, HO⟩ := hrel
      by_cases hm0 : m = 0
      · subst hm0
        go_wp2_with fail
        obtain ⟨_, hO, ho, hn⟩ := HO.out
        have hcap := own_cap ho
        refine (normal_rn true A i c o wr (Rd.of_own ho) hO.digs hcap.1 hcap.2).mono ?_
        rintro e w2 ⟨v, rfl, ⟨s2, A2, n2, c2, rfl, hs2, hm2⟩, hn2⟩
        have hval : sg true (val 10000 o) = -(M : Int) := by have := hO.eq; unfold sg; simp at this ⊢; omega
        rw [hval] at hs2 hm2
        have hb2 := (HB.out.1.chg hn (fun h => h)).chg hn2 (fun h => h)
        have hc0 := hb2.cell 0 (u := .bool false) rfl
        have hc1 := hb2.cell 1 (u := .slice none 0 0) rfl
        have hf0 := hb2.frozen 0
        have hf1 := hb2.frozen 1
        have H2 := Lib.hid (And.intro hb2 (And.intro (HB.out.2.new (hn.new hn2)) (And.intro hs2 hm2)))
        clear hO ho hn hcap hn2 hs2 hm2 hval hb2 HO
        go_wp2
        obtain ⟨hb2, hn2, hs2, hm2⟩ := H2.out
        refine bodyPost_ret (res_c rfl _ rfl (aggN.load (hb2.set2 _ _))) rfl ⟨_, rfl, ⟨s2, A2, n2, c2, rfl, hs2, hm2.store hb2 (noInt_two' _ _ _ _) (Chg.at2 _ _ _ _)⟩, ?_⟩
        exact Chg.owned hn2 (Chg.at2 _ _ _ _) (fun k e => by omega)
      · have hi5 : i < 5 := by
          rcases Nat.lt_or_ge i 5 with h | h
          · exact h
          · have := HO.out.1
            rw [show 5 - i = 0 by omega] at this
            omega
        have hne : ((-(m : Int)) != 0) = true := by simp; omega
        obtain ⟨d, hd⟩ : ∃ d, m % 10000 = d := ⟨_, rfl⟩
        obtain ⟨q, hq⟩ : ∃ q, m / 10000 = q := ⟨_, rfl⟩
        have hqm : q < m := by omega
        have hdb : d < 10000 := by omega
        have htm : (-(m : Int)).tmod 10000 = -(d : Int) := by rw [tmod_neg', hd]
        have htd : (-(m : Int)).tdiv 10000 = -(q : Int) := by rw [tdiv_neg', hq]
        have HN : Hid (q < 10000 ^ (5 - (i + 1)) ∧ OfI M q (i + 1) (o ++ [d])) := by
          obtain ⟨h1, hO, _⟩ := HO.out
          refine ⟨?_, by rw [← hd, ← hq]; exact hO.step⟩
          rw [← hq, Nat.div_lt_iff_lt_mul (by omega), ← Nat.pow_succ]
          show m < 10000 ^ (5 - (i + 1) + 1)
          rw [show 5 - (i + 1) + 1 = 5 - i by omega]
          exact h1
        clear hd hq
        by_cases hd0 : d = 0
        · replace htm : (-(m : Int)).tmod 10000 = (d : Int) := by rw [htm]; omega
          have hdn : decide ((d : Int) < 0) = false := by simp
          clear hd0
          go_wp2_with (at_builtin; refine wpList_app elemInts rfl _ _ rfl rfl (HO.out.2.2.1.alloc _) rfl (Rd.lit (nv .i64 [d]) rfl) (nv_one _) (by simp only [maxLen]; omega) (by omega) (by have := HO.out.2.2.2.size; simp; omega) ?_; intro A' c' w1 hown hg hat; have HA := Lib.hid (And.intro hown hg); clear hown hg hat)
          go_roundw
          case rel =>
            obtain ⟨hown, hg⟩ := HA.out
            rw [← nv_append] at hown
            refine ⟨q, i + 1, A', c', o ++ [d], rfl, by omega, by omega, rfl, HN.out.1, HN.out.2, hown, ?_⟩
            exact (HO.out.2.2.2.alloc _).grown hg (fun k hk hlt => by have := own_blk_le HO.out.2.2.1 hk; omega)
          case measure => simp [intOf]; omega
        · have hdn : -(d : Int) < 0 := by omega
          go_wp2_with (at_builtin; refine wpList_app elemInts rfl _ _ rfl rfl (HO.out.2.2.1.alloc _) rfl (Rd.lit (nv .i64 [d]) rfl) (nv_one _) (by simp only [maxLen]; omega) (by omega) (by have := HO.out.2.2.2.size; simp; omega) ?_; intro A' c' w1 hown hg hat; have HA := Lib.hid (And.intro hown hg); clear hown hg hat)
          go_roundw
          case rel =>
            obtain ⟨hown, hg⟩ := HA.out
            rw [← nv_append] at hown
            refine ⟨q, i + 1, A', c', o ++ [d], rfl, by omega, by omega, rfl, HN.out.1, HN.out.2, hown, ?_⟩
            exact (HO.out.2.2.2.alloc _).grown hg (fun k hk hlt => by have := own_blk_le HO.out.2.2.1 hk; omega)
          case measure => simp [intOf]; omega
  · obtain rfl : n = (M : Int) := by omega
    have hMb2 : M ≤ 9223372036854775807 := by omega
    have hdec : decide ((M : Int) < 0) = false := by simp
    clear hM
    go_enter Tryz.func15, Tryz.ntmps15
    go_wp2
    obtain ⟨W, hW⟩ : ∃ W, w.alloc (.cells #[.bool false, .slice none 0 0] 26) = W := ⟨_, rfl⟩
    have HB : Hid (Blk W w.heap.size 26 #[.bool false, .slice none 0 0] ∧ New w W) := by rw [← hW]; exact ⟨Blk.new _ _ _, (Chg.refl _ w).alloc _⟩
    rw [hW]
    clear hW
    go_loopw [0, 3] (fun v d wr => ∃ m i : Nat, ∃ A c o, v = .int .i64 (m : Int) ∧ m ≤ 9223372036854775807 ∧ i ≤ 5 ∧ d = .slice A i c ∧ Hid (m < 10000 ^ (5 - i) ∧ OfI M m i o ∧ wr.ownsRow W.heap.size 3 1 (.slice A i c) i (nv .i64 o) ∧ New W wr)) (fun v _ _ => (intOf v).toNat)
    case atStart => exact ⟨M, 0, none, 0, [], rfl, by omega, by omega, rfl, hM5, ⟨rfl, Digs.nil _, by simp⟩, World.ownsRow_nil _ _ _ _, Chg.refl _ _⟩
    case round =>
      obtain ⟨m, i, A, c, o, rfl, hm, hi, rfl, HO⟩ := hrel
      by_cases hm0 : m = 0
      · subst hm0
        go_wp2_with fail
        obtain ⟨_, hO, ho, hn⟩ := HO.out
        have hcap := own_cap ho
        refine (normal_rn false A i c o wr (Rd.of_own ho) hO.digs hcap.1 hcap.2).mono ?_
        rintro e w2 ⟨v, rfl, ⟨s2, A2, n2, c2, rfl, hs2, hm2⟩, hn2⟩
        have hval : sg false (val 10000 o) = (M : Int) := by have := hO.eq; unfold sg; simp at this ⊢; omega
        rw [hval] at hs2 hm2
        have hb2 := (HB.out.1.chg hn (fun h => h)).chg hn2 (fun h => h)
        have hc0 := hb2.cell 0 (u := .bool false) rfl
        have hc1 := hb2.cell 1 (u := .slice none 0 0) rfl
        have hf0 := hb2.frozen 0
        have hf1 := hb2.frozen 1
        have H2 := Lib.hid (And.intro hb2 (And.intro (HB.out.2.new (hn.new hn2)) (And.intro hs2 hm2)))
        clear hO ho hn hcap hn2 hs2 hm2 hval hb2 HO
        go_wp2
        obtain ⟨hb2, hn2, hs2, hm2⟩ := H2.out
        refine bodyPost_ret (res_c rfl _ rfl (aggN.load (hb2.set2 _ _))) rfl ⟨_, rfl, ⟨s2, A2, n2, c2, rfl, hs2, hm2.store hb2 (noInt_two' _ _ _ _) (Chg.at2 _ _ _ _)⟩, ?_⟩
        exact Chg.owned hn2 (Chg.at2 _ _ _ _) (fun k e => by omega)
      · have hi5 : i < 5 := by
          rcases Nat.lt_or_ge i 5 with h | h
          · exact h
          · have := HO.out.1
            rw [show 5 - i = 0 by omega] at this
            omega
        have hne : ((m : Int) != 0) = true := by simp; omega
        obtain ⟨d, hd⟩ : ∃ d, m % 10000 = d := ⟨_, rfl⟩
        obtain ⟨q, hq⟩ : ∃ q, m / 10000 = q := ⟨_, rfl⟩
        have hqm : q < m := by omega
        have hdb : d < 10000 := by omega
        have htm : (m : Int) % 10000 = (d : Int) := by omega
        have htd : (m : Int) / 10000 = (q : Int) := by omega
        have hdn : decide ((d : Int) < 0) = false := by simp
        have HN : Hid (q < 10000 ^ (5 - (i + 1)) ∧ OfI M q (i + 1) (o ++ [d])) := by
          obtain ⟨h1, hO, _⟩ := HO.out
          refine ⟨?_, by rw [← hd, ← hq]; exact hO.step⟩
          rw [← hq, Nat.div_lt_iff_lt_mul (by omega), ← Nat.pow_succ]
          show m < 10000 ^ (5 - (i + 1) + 1)
          rw [show 5 - (i + 1) + 1 = 5 - i by omega]
          exact h1
        clear hd hq
        go_wp2_with (at_builtin; refine wpList_app elemInts rfl _ _ rfl rfl (HO.out.2.2.1.alloc _) rfl (Rd.lit (nv .i64 [d]) rfl) (nv_one _) (by simp only [maxLen]; omega) (by omega) (by have := HO.out.2.2.2.size; simp; omega) ?_; intro A' c' w1 hown hg hat; have HA := Lib.hid (And.intro hown hg); clear hown hg hat)
        go_roundw
        case rel =>
          obtain ⟨hown, hg⟩ := HA.out
          rw [← nv_append] at hown
          refine ⟨q, i + 1, A', c', o ++ [d], rfl, by omega, by omega, rfl, HN.out.1, HN.out.2, hown, ?_⟩
          exact (HO.out.2.2.2.alloc _).grown hg (fun k hk hlt => by have := own_blk_le HO.out.2.2.1 hk; omega)
        case measure => simp [intOf]; omega
end Go.Proofs.YtbocpkjajocpiaaGreatDoor

namespace Go.Proofs.YtbocpkjajocpiaaGreatDoor
set_option linter.unusedVariables false
open Go.RowKit Go.Mem Go.Dig

set_option maxRecDepth 100000 in
set_option maxHeartbeats 1000000 in
theorem compared_any (A : Option Addr) (n c : Nat) (A' : Option Addr) (n' c' : Nat) (x y : Nat) (w : World) (hx : DM w A n c x) (hy : DM w A' n' c' y) :
    Calls Tryz.prog 119 #[.slice A n c, .slice A' n' c'] w fun e w' => e = .returned (.int .i64 (cmpI x y)) ∧ ∃ q, w' = w.drewN q := by
  obtain ⟨la, ha, hc1, hc2, hNa⟩ := hx
  obtain ⟨lb, hb, hd1, hd2, hNb⟩ := hy
  have hla : la.length = n := by have := ha.len; rwa [nv_length] at this
  have hlb : lb.length = n' := by have := hb.len; rwa [nv_length] at this
  rcases Nat.lt_trichotomy n n' with h | h | h
  · rw [cmpI_lt (by have := hNa.len_lt (by omega) hNb (by omega); omega)]
    have hlt : (n : Int) < (n' : Int) := by omega
    clear hla hlb ha hb hNa hNb
    go_enter Tryz.func119, Tryz.ntmps119
    go_wp2
    go_ret
    exact ⟨rfl, 0, rfl⟩
  · subst h
    obtain ⟨C, hC⟩ : ∃ C, cmpI x y = C := ⟨_, rfl⟩
    rw [hC]
    have H0 := Lib.hid (And.intro ha (And.intro hb (And.intro hNa (And.intro hNb (And.intro hla (And.intro hlb hC))))))
    clear ha hb hNa hNb hla hlb hC
    go_enter Tryz.func119, Tryz.ntmps119
    go_wp2
    go_loopw [5] (fun i wr => ∃ k : Nat, k ≤ n ∧ i = .int .i64 ((k : Int) - 1) ∧ Hid (la.drop k = lb.drop k) ∧ ∃ q, wr = w.drewN q) (fun i _ => (intOf i + 1).toNat)
    case atStart =>
      obtain ⟨ha, hb, hNa, hNb, hla, hlb, hC⟩ := H0.out
      exact ⟨n, Nat.le_refl _, rfl, by show _ = _; rw [List.drop_of_length_le (by omega), List.drop_of_length_le (by omega)], 0, rfl⟩
    case round =>
      obtain ⟨k, hk, rfl, HD, q, hq⟩ := hrel
      have hnew : New w wr := by rw [hq]; exact (Chg.refl _ w).drewN q
      have HQ := Lib.hid hq
      clear hq
      by_cases h0 : k = 0
      · subst h0
        go_wp2
        go_ret
        obtain ⟨ha, hb, hNa, hNb, hla, hlb, hC⟩ := H0.out
        have e := HD.out
        rw [List.drop_zero, List.drop_zero] at e
        rw [← hC, cmpI_eq (by rw [← hNa.val, ← hNb.val, e])]
        exact ⟨rfl, q, HQ.out⟩
      · obtain ⟨j, rfl⟩ : ∃ j, k = j + 1 := ⟨k - 1, by omega⟩
        obtain ⟨ha, hb, hNa, hNb, hla, hlb, hC⟩ := H0.out
        obtain ⟨ad, u, rfl, hu, hcu⟩ := (ha.new hnew).at_ (show j < n by omega)
        obtain ⟨bd, v, rfl, hv, hcv⟩ := (hb.new hnew).at_ (show j < n by omega)
        obtain ⟨p, hp, rfl⟩ := nv_at hu
        obtain ⟨r, hr, rfl⟩ := nv_at hv
        have HP := Lib.hid (And.intro hp hr)
        have hj1 : (((j + 1 : Nat) : Int) - 1) = (j : Int) := by omega
        rw [hj1]
        clear hj1 ha hb hNa hNb hla hlb hC hu hv hp hr hnew
        rcases Nat.lt_trichotomy p r with h | h | h
        · have hlt : (p : Int) < (r : Int) := by omega
          go_wp2
          go_quiet (fail)
          go_wp2
          go_ret
          obtain ⟨ha, hb, hNa, hNb, hla, hlb, hC⟩ := H0.out
          obtain ⟨hp, hr⟩ := HP.out
          have := val_lt_of hNa.digs (by omega) hp hr HD.out h
          rw [hNa.val, hNb.val] at this
          rw [← hC, cmpI_lt (by omega)]
          exact ⟨rfl, _, by rw [HQ.out, World.drewN_drewN]⟩
        · subst h
          have hlt : decide ((p : Int) < (p : Int)) = false := by simp
          go_wp2
          go_quiet (fail)
          go_wp2
          go_quiet (fail)
          go_wp2
          go_roundw
          case rel =>
            obtain ⟨hp, hr⟩ := HP.out
            exact ⟨j, by omega, by go_num, drop_step hp hr HD.out, _, by rw [HQ.out, World.drewN_drewN]⟩
          case measure => simp [intOf]
        · have hlt : decide ((p : Int) < (r : Int)) = false := by simp; omega
          have hgt : (r : Int) < (p : Int) := by omega
          go_wp2
          go_quiet (fail)
          go_wp2
          go_quiet (fail)
          go_wp2
          go_ret
          obtain ⟨ha, hb, hNa, hNb, hla, hlb, hC⟩ := H0.out
          obtain ⟨hp, hr⟩ := HP.out
          have := val_lt_of hNb.digs (by omega) hr hp HD.out.symm h
          rw [hNa.val, hNb.val] at this
          rw [← hC, cmpI_gt (by omega)]
          exact ⟨rfl, _, by rw [World.drewN_drewN, HQ.out, World.drewN_drewN]⟩
  · rw [cmpI_gt (by have := hNb.len_lt (by omega) hNa (by omega); omega)]
    have hlt : decide ((n : Int) < (n' : Int)) = false := by simp; omega
    have hlt' : decide (n < n') = false := by simp; omega
    have hgt : (n' : Int) < (n : Int) := by omega
    clear hla hlb ha hb hNa hNb
    go_enter Tryz.func119, Tryz.ntmps119
    go_wp2
    go_ret
    exact ⟨rfl, 0, rfl⟩

set_option maxHeartbeats 400000 in
theorem at_any (A : Option Addr) (n c : Nat) (l : List Nat) (i : Nat) (w : World) (hr : Rd w A n (nv .i64 l)) (hn : n ≤ 9223372036854775807) :
    Calls Tryz.prog 145 #[.slice A n c, .int .i64 i] w fun e w' => e = .returned (.int .i64 (dg l i)) ∧ w = w' := by
  have hl : l.length = n := by have := hr.len; rwa [nv_length] at this
  by_cases h : i < n
  · obtain ⟨ad, u, rfl, hu, hcu⟩ := hr.at_ h
    obtain ⟨z, hz, rfl⟩ := nv_at hu
    rw [dg_some hz]
    have hlt : (i : Int) < (n : Int) := by omega
    clear hr hl hu hz
    go_enter Tryz.func145, Tryz.ntmps145
    go_wp2
    go_ret
    exact ⟨rfl, rfl⟩
  · rw [dg_none (by omega)]
    have hlt : decide ((i : Int) < (n : Int)) = false := by simp; omega
    have hlt' : decide (i < n) = false := by simp; omega
    clear hr hl
    go_enter Tryz.func145, Tryz.ntmps145
    go_wp2
    go_ret
    exact ⟨rfl, rfl⟩

/-- A slice of the call's own with digits whose value is m. -/
def OM (w : World) (base : Nat) (A : Option Addr) (n c : Nat) (m : Nat) : Prop := ∃ l, w.ownsRow base 3 1 (.slice A n c) n (nv .i64 l) ∧ Digs 10000 l ∧ val 10000 l = m

set_option maxRecDepth 100000 in
set_option maxHeartbeats 2000000 in
theorem plus_any (A : Option Addr) (n c : Nat) (A' : Option Addr) (n' c' : Nat) (x y : Nat) (w : World) (hx : DM w A n c x) (hy : DM w A' n' c' y) (hn : n ≤ 1000000) (hn' : n' ≤ 1000000) :
    Calls Tryz.prog 118 #[.slice A n c, .slice A' n' c'] w fun e w' => ∃ R k d, e = .returned (.slice R k d) ∧ OM w' w.heap.size R k d (x + y) ∧ New w w' := by
  obtain ⟨la, ha, hc1, hc2, hNa⟩ := hx
  obtain ⟨lb, hb, hd1, hd2, hNb⟩ := hy
  have hla : la.length = n := by have := ha.len; rwa [nv_length] at this
  have hlb : lb.length = n' := by have := hb.len; rwa [nv_length] at this
  have H0 := Lib.hid (And.intro ha (And.intro hb (And.intro hNa (And.intro hNb (And.intro hla hlb)))))
  clear ha hb hNa hNb hla hlb
  go_enter Tryz.func118, Tryz.ntmps118
  go_wp2
  go_loopw [5, 6, 7] (fun v u i wr => ∃ k cr : Nat, ∃ R d o, v = .slice R k d ∧ u = .int .i64 cr ∧ i = .int .i64 k ∧ cr ≤ 1 ∧ k ≤ 1000001 ∧ Hid (AddI 10000 la lb k o cr ∧ wr.ownsRow w.heap.size 3 1 (.slice R k d) k (nv .i64 o) ∧ New w wr)) (fun _ _ i _ => 1000002 - (intOf i).toNat)
  case atStart => exact ⟨0, 0, none, 0, [], rfl, rfl, rfl, by omega, by omega, AddI.start _ _ _, World.ownsRow_nil _ _ _ _, Chg.refl _ _⟩
  case round =>
    obtain ⟨k, cr, R, d, o, rfl, rfl, rfl, hcr, hk, HO⟩ := hrel
    by_cases hgo : k < n ∨ k < n' ∨ 0 < cr
    · have hk1 : k ≤ 1000000 := by
        rcases Nat.lt_or_ge 1000000 k with h | h
        · exfalso
          obtain ⟨ha, hb, hNa, hNb, hla, hlb⟩ := H0.out
          have hcz := HO.out.1.carry0 (m := 1000000) (by omega) hNa.digs hNb.digs (by omega) (by omega) (by omega)
          omega
        · exact h
      have hda : dg la k < 10000 := dg_lt H0.out.2.2.1.digs (by omega) k
      have hdb : dg lb k < 10000 := dg_lt H0.out.2.2.2.1.digs (by omega) k
      have HN := Lib.hid (HO.out.1.step (by omega) H0.out.2.2.1.digs H0.out.2.2.2.1.digs)
      obtain ⟨p, hp⟩ : ∃ p, dg la k = p := ⟨_, rfl⟩
      obtain ⟨r, hr⟩ : ∃ r, dg lb k = r := ⟨_, rfl⟩
      rw [hp] at hda HN
      rw [hr] at hdb HN
      have HPR := Lib.hid (And.intro hp hr)
      clear hp hr
      have hguard : k < n ∨ (¬ k < n ∧ k < n') ∨ (¬ k < n ∧ ¬ k < n' ∧ cr = 1) := by omega
      clear hgo
      rcases hguard with h1 | ⟨h1, h2⟩ | ⟨h1, h2, h3⟩
      · have g1 : decide ((k : Int) < (n : Int)) = true := by simp; omega
        have g1' : decide (k < n) = true := by simp; omega
        go_wp2_with fail
        obtain ⟨ha, hb, hNa, hNb, hla, hlb⟩ := H0.out
        refine (at_any A n c la k wr (ha.new HO.out.2.2) (by omega)).mono ?_
        rw [HPR.out.1]
        rintro e w1 ⟨rfl, rfl⟩
        clear ha hb hNa hNb hla hlb
        go_wp2_with fail
        obtain ⟨ha, hb, hNa, hNb, hla, hlb⟩ := H0.out
        refine (at_any A' n' c' lb k wr (hb.new HO.out.2.2) (by omega)).mono ?_
        rw [HPR.out.2]
        rintro e w1 ⟨rfl, rfl⟩
        clear ha hb hNa hNb hla hlb
        obtain ⟨v, hv⟩ : ∃ v, p + r + cr = v := ⟨_, rfl⟩
        have hvi : (p : Int) + (r : Int) + (cr : Int) = (v : Int) := by omega
        have hvb : v ≤ 19999 := by omega
        have HV := Lib.hid hv
        clear hv
        go_wp2_with (at_builtin; refine wpList_app elemInts rfl _ _ rfl rfl (HO.out.2.1.alloc _) rfl (Rd.lit (nv .i64 [v % 10000]) rfl) (nv_one _) (by simp only [maxLen]; omega) (by omega) (by have := HO.out.2.2.size; simp; omega) ?_; intro R' d' w1 hown hg hat; have HA := Lib.hid (And.intro hown hg); clear hown hg hat)
        go_roundw
        case rel =>
          obtain ⟨hown, hg⟩ := HA.out
          rw [← nv_append] at hown
          have hN := HN.out
          rw [HV.out] at hN
          refine ⟨k + 1, v / 10000, R', d', o ++ [v % 10000], rfl, by go_num, by go_num, by omega, by omega, hN, hown, ?_⟩
          exact (HO.out.2.2.alloc _).grown hg (fun k hk hlt => by have := own_blk_le HO.out.2.1 hk; omega)
        case measure => simp [intOf]; omega
      · have g1 : decide ((k : Int) < (n : Int)) = false := by simp; omega
        have g1' : decide (k < n) = false := by simp; omega
        have g2 : decide ((k : Int) < (n' : Int)) = true := by simp; omega
        have g2' : decide (k < n') = true := by simp; omega
        go_wp2_with fail
        obtain ⟨ha, hb, hNa, hNb, hla, hlb⟩ := H0.out
        refine (at_any A n c la k wr (ha.new HO.out.2.2) (by omega)).mono ?_
        rw [HPR.out.1]
        rintro e w1 ⟨rfl, rfl⟩
        clear ha hb hNa hNb hla hlb
        go_wp2_with fail
        obtain ⟨ha, hb, hNa, hNb, hla, hlb⟩ := H0.out
        refine (at_any A' n' c' lb k wr (hb.new HO.out.2.2) (by omega)).mono ?_
        rw [HPR.out.2]
        rintro e w1 ⟨rfl, rfl⟩
        clear ha hb hNa hNb hla hlb
        obtain ⟨v, hv⟩ : ∃ v, p + r + cr = v := ⟨_, rfl⟩
        have hvi : (p : Int) + (r : Int) + (cr : Int) = (v : Int) := by omega
        have hvb : v ≤ 19999 := by omega
        have HV := Lib.hid hv
        clear hv
        go_wp2_with (at_builtin; refine wpList_app elemInts rfl _ _ rfl rfl (HO.out.2.1.alloc _) rfl (Rd.lit (nv .i64 [v % 10000]) rfl) (nv_one _) (by simp only [maxLen]; omega) (by omega) (by have := HO.out.2.2.size; simp; omega) ?_; intro R' d' w1 hown hg hat; have HA := Lib.hid (And.intro hown hg); clear hown hg hat)
        go_roundw
        case rel =>
          obtain ⟨hown, hg⟩ := HA.out
          rw [← nv_append] at hown
          have hN := HN.out
          rw [HV.out] at hN
          refine ⟨k + 1, v / 10000, R', d', o ++ [v % 10000], rfl, by go_num, by go_num, by omega, by omega, hN, hown, ?_⟩
          exact (HO.out.2.2.alloc _).grown hg (fun k hk hlt => by have := own_blk_le HO.out.2.1 hk; omega)
        case measure => simp [intOf]; omega
      · have g3 : decide ((0 : Int) < (cr : Int)) = true := by simp; omega
        have g3' : 0 < cr := by omega
        clear h3
        have g1 : decide ((k : Int) < (n : Int)) = false := by simp; omega
        have g1' : decide (k < n) = false := by simp; omega
        have g2 : decide ((k : Int) < (n' : Int)) = false := by simp; omega
        have g2' : decide (k < n') = false := by simp; omega
        go_wp2_with fail
        obtain ⟨ha, hb, hNa, hNb, hla, hlb⟩ := H0.out
        refine (at_any A n c la k wr (ha.new HO.out.2.2) (by omega)).mono ?_
        rw [HPR.out.1]
        rintro e w1 ⟨rfl, rfl⟩
        clear ha hb hNa hNb hla hlb
        go_wp2_with fail
        obtain ⟨ha, hb, hNa, hNb, hla, hlb⟩ := H0.out
        refine (at_any A' n' c' lb k wr (hb.new HO.out.2.2) (by omega)).mono ?_
        rw [HPR.out.2]
        rintro e w1 ⟨rfl, rfl⟩
        clear ha hb hNa hNb hla hlb
        obtain ⟨v, hv⟩ : ∃ v, p + r + cr = v := ⟨_, rfl⟩
        have hvi : (p : Int) + (r : Int) + (cr : Int) = (v : Int) := by omega
        have hvb : v ≤ 19999 := by omega
        have HV := Lib.hid hv
        clear hv
        go_wp2_with (at_builtin; refine wpList_app elemInts rfl _ _ rfl rfl (HO.out.2.1.alloc _) rfl (Rd.lit (nv .i64 [v % 10000]) rfl) (nv_one _) (by simp only [maxLen]; omega) (by omega) (by have := HO.out.2.2.size; simp; omega) ?_; intro R' d' w1 hown hg hat; have HA := Lib.hid (And.intro hown hg); clear hown hg hat)
        go_roundw
        case rel =>
          obtain ⟨hown, hg⟩ := HA.out
          rw [← nv_append] at hown
          have hN := HN.out
          rw [HV.out] at hN
          refine ⟨k + 1, v / 10000, R', d', o ++ [v % 10000], rfl, by go_num, by go_num, by omega, by omega, hN, hown, ?_⟩
          exact (HO.out.2.2.alloc _).grown hg (fun k hk hlt => by have := own_blk_le HO.out.2.1 hk; omega)
        case measure => simp [intOf]; omega
    · obtain rfl : cr = 0 := by omega
      have g1 : decide ((k : Int) < (n : Int)) = false := by simp; omega
      have g1' : decide (k < n) = false := by simp; omega
      have g2 : decide ((k : Int) < (n' : Int)) = false := by simp; omega
      have g2' : decide (k < n') = false := by simp; omega
      have h1 : n ≤ k := by omega
      have h2 : n' ≤ k := by omega
      clear hgo
      go_wp2
      go_ret
      obtain ⟨hA, ho, hn⟩ := HO.out
      obtain ⟨ha, hb, hNa, hNb, hla, hlb⟩ := H0.out
      refine ⟨R, k, d, rfl, ⟨o, ho, hA.digs, ?_⟩, hn⟩
      rw [hA.done (by omega) (by omega), hNa.val, hNb.val]
end Go.Proofs.YtbocpkjajocpiaaGreatDoor

namespace Go.Proofs.YtbocpkjajocpiaaGreatDoor
set_option linter.unusedVariables false
open Go.RowKit Go.Mem Go.Dig

set_option maxRecDepth 100000 in
set_option maxHeartbeats 2000000 in
theorem minus_any (A : Option Addr) (n c : Nat) (A' : Option Addr) (n' c' : Nat) (x y : Nat) (w : World) (hx : DM w A n c x) (hy : DM w A' n' c' y) (hle : y ≤ x) (hn : n ≤ 1000000) :
    Calls Tryz.prog 120 #[.slice A n c, .slice A' n' c'] w fun e w' => ∃ R k d, e = .returned (.slice R k d) ∧ OM w' w.heap.size R k d (x - y) ∧ New w w' := by
  obtain ⟨la, ha, hc1, hc2, hNa⟩ := hx
  obtain ⟨lb, hb, hd1, hd2, hNb⟩ := hy
  have hla : la.length = n := by have := ha.len; rwa [nv_length] at this
  have hlb : lb.length = n' := by have := hb.len; rwa [nv_length] at this
  have hn' : n' ≤ n := by
    rcases Nat.lt_or_ge n n' with h | h
    · have := hNa.len_lt (by omega) hNb (by omega); omega
    · exact h
  have H0 := Lib.hid (And.intro ha (And.intro hb (And.intro hNa (And.intro hNb (And.intro hla (And.intro hlb hle))))))
  clear ha hb hNa hNb hla hlb hle
  go_enter Tryz.func120, Tryz.ntmps120
  go_wp2
  go_loopw [5, 6, 7] (fun v u i wr => ∃ k br : Nat, ∃ R d o, v = .slice R k d ∧ u = .int .i64 br ∧ i = .int .i64 k ∧ br ≤ 1 ∧ k ≤ n ∧ Hid (SubI 10000 la lb k o br ∧ wr.ownsRow w.heap.size 3 1 (.slice R k d) k (nv .i64 o) ∧ New w wr)) (fun _ _ i _ => n - (intOf i).toNat)
  case atStart => exact ⟨0, 0, none, 0, [], rfl, rfl, rfl, by omega, by omega, SubI.start _ _ _, World.ownsRow_nil _ _ _ _, Chg.refl _ _⟩
  case round =>
    obtain ⟨k, br, R, d, o, rfl, rfl, rfl, hbr, hk, HO⟩ := hrel
    by_cases hlt : k < n
    · have hda : dg la k < 10000 := dg_lt H0.out.2.2.1.digs (by omega) k
      have hdb : dg lb k < 10000 := dg_lt H0.out.2.2.2.1.digs (by omega) k
      have hst := fun v r' => HO.out.1.step (v := v) (r' := r') (by omega) H0.out.2.2.1.digs H0.out.2.2.2.1.digs
      obtain ⟨p, hp⟩ : ∃ p, dg la k = p := ⟨_, rfl⟩
      obtain ⟨r, hr⟩ : ∃ r, dg lb k = r := ⟨_, rfl⟩
      rw [hp] at hda hst
      rw [hr] at hdb hst
      have HPR := Lib.hid (And.intro hp (And.intro hr hst))
      clear hp hr hst
      have hlti : (k : Int) < (n : Int) := by omega
      go_wp2_with fail
      obtain ⟨ha, hb, hNa, hNb, hla, hlb, hle⟩ := H0.out
      refine (at_any A n c la k wr (ha.new HO.out.2.2) (by omega)).mono ?_
      rw [HPR.out.1]
      rintro e w1 ⟨rfl, rfl⟩
      clear ha hb hNa hNb hla hlb hle
      go_wp2_with fail
      obtain ⟨ha, hb, hNa, hNb, hla, hlb, hle⟩ := H0.out
      refine (at_any A' n' c' lb k wr (hb.new HO.out.2.2) (by omega)).mono ?_
      rw [HPR.out.2.1]
      rintro e w1 ⟨rfl, rfl⟩
      clear ha hb hNa hNb hla hlb hle
      by_cases hng : p < r + br
      · obtain ⟨v, hv⟩ : ∃ v, p + 10000 - r - br = v := ⟨_, rfl⟩
        have hvi : (p : Int) - (r : Int) - (br : Int) + 10000 = (v : Int) := by omega
        have hneg : (p : Int) - (r : Int) - (br : Int) < 0 := by omega
        have HN := Lib.hid (HPR.out.2.2 v 1 (by omega) (by omega) (by omega))
        clear hv HPR
        go_wp2_with (at_builtin; refine wpList_app elemInts rfl _ _ rfl rfl (HO.out.2.1.alloc _) rfl (Rd.lit (nv .i64 [v]) rfl) (nv_one _) (by simp only [maxLen]; omega) (by omega) (by have := HO.out.2.2.size; simp; omega) ?_; intro R' d' w1 hown hg hat; have HA := Lib.hid (And.intro hown hg); clear hown hg hat)
        go_roundw
        case rel =>
          obtain ⟨hown, hg⟩ := HA.out
          rw [← nv_append] at hown
          refine ⟨k + 1, 1, R', d', o ++ [v], rfl, rfl, by go_num, by omega, by omega, HN.out, hown, ?_⟩
          exact (HO.out.2.2.alloc _).grown hg (fun k hk hlt => by have := own_blk_le HO.out.2.1 hk; omega)
        case measure => simp [intOf]; omega
      · obtain ⟨v, hv⟩ : ∃ v, p - r - br = v := ⟨_, rfl⟩
        have hvi : (p : Int) - (r : Int) - (br : Int) = (v : Int) := by omega
        have hneg : decide ((v : Int) < 0) = false := by simp
        have HN := Lib.hid (HPR.out.2.2 v 0 (by omega) (by omega) (by omega))
        clear hv HPR
        go_wp2_with (at_builtin; refine wpList_app elemInts rfl _ _ rfl rfl (HO.out.2.1.alloc _) rfl (Rd.lit (nv .i64 [v]) rfl) (nv_one _) (by simp only [maxLen]; omega) (by omega) (by have := HO.out.2.2.size; simp; omega) ?_; intro R' d' w1 hown hg hat; have HA := Lib.hid (And.intro hown hg); clear hown hg hat)
        go_roundw
        case rel =>
          obtain ⟨hown, hg⟩ := HA.out
          rw [← nv_append] at hown
          refine ⟨k + 1, 0, R', d', o ++ [v], rfl, rfl, by go_num, by omega, by omega, HN.out, hown, ?_⟩
          exact (HO.out.2.2.alloc _).grown hg (fun k hk hlt => by have := own_blk_le HO.out.2.1 hk; omega)
        case measure => simp [intOf]; omega
    · obtain rfl : n = k := by omega
      go_wp2
      go_ret
      obtain ⟨hA, ho, hn⟩ := HO.out
      obtain ⟨ha, hb, hNa, hNb, hla, hlb, hle⟩ := H0.out
      refine ⟨R, n, d, rfl, ⟨o, ho, hA.digs, ?_⟩, hn⟩
      subst hla
      rw [hA.done (by omega) (by omega) (by rw [hNa.val, hNb.val]; exact hle), hNa.val, hNb.val]
end Go.Proofs.YtbocpkjajocpiaaGreatDoor

namespace Go.Proofs.YtbocpkjajocpiaaGreatDoor
set_option linter.unusedVariables false
open Go.RowKit Go.Mem Go.Dig

set_option maxHeartbeats 400000 in
theorem rneg_any (v : Value) (x : Int) (w : World) (hx : RN w v x) :
    Calls Tryz.prog 14 #[v] w fun e w' => ∃ v, e = .returned v ∧ RN w' v (-x) ∧ New w w' := by
  obtain ⟨s, A, n, c, rfl, hs, l, hr, hnc, hcm, hN⟩ := hx
  have H := Lib.hid (And.intro hs (And.intro hr hN))
  clear hs hr hN
  go_enter Tryz.func14, Tryz.ntmps14
  go_wp2_with fail
  obtain ⟨hs, hr, hN⟩ := H.out
  have hb0 := Blk.new (w.alloc (.cells #[.bool s, .slice A n c] 26)) 26 #[.bool false, .slice none 0 0]
  rw [World.size_alloc] at hb0
  have hn0 : New w ((w.alloc (.cells #[.bool s, .slice A n c] 26)).alloc (.cells #[.bool false, .slice none 0 0] 26)) := ((Chg.refl _ w).alloc _).alloc _
  refine (normal_rn (!s) A n c l _ (hr.new hn0) hN.digs hnc hcm).mono ?_
  rintro e w1 ⟨v, rfl, hwi, hn1⟩
  have hval : sg (!s) (val 10000 l) = -x := by
    rw [hN.val, hs]
    unfold sg
    by_cases h : x < 0 <;> simp [h] <;> omega
  rw [hval] at hwi
  have hb1 := hb0.chg hn1 (fun h => h)
  obtain ⟨s', A', n', c', rfl, hs', hwm⟩ := hwi
  have hc0 := hb1.cell 0 rfl
  have hc1 := hb1.cell 1 rfl
  have hf0 := hb1.frozen 0
  have hf1 := hb1.frozen 1
  have H1 := Lib.hid (And.intro hb1 (And.intro (hn0.new hn1) (And.intro hs' hwm)))
  clear hb0 hn0 hn1 hb1 hs' hwm H hs hr hN hval
  go_wp2
  obtain ⟨hb1, hn1, hs, hwm⟩ := H1.out
  refine bodyPost_ret (res_c rfl _ rfl (aggN.load (hb1.set2 _ _))) rfl ⟨_, rfl, ⟨s', A', n', c', rfl, hs, ?_⟩, ?_⟩
  · exact hwm.store hb1 (noInt_two' _ _ _ _) (Chg.at2 _ _ _ _)
  · exact Chg.owned hn1 (Chg.at2 _ _ _ _) (fun k e => by omega)

theorem normal_om (s : Bool) (R : Option Addr) (k d b m : Nat) (w : World) (h : Hid (OM w b R k d m)) :
    Calls Tryz.prog 72 #[.bool s, .slice R k d] w fun e w' => ∃ s' A' n' c', e = .returned (.agg #[.bool s', .slice A' n' c']) ∧ Hid (s' = decide (sg s m < 0) ∧ DM w' A' n' c' (sg s m).natAbs) ∧ Hid (New w w') := by
  obtain ⟨l, ho, hd, hv⟩ := h.out
  have hcap := own_cap ho
  refine (normal_rn s R k d l w (Rd.of_own ho) hd hcap.1 hcap.2).mono ?_
  rintro e w' ⟨v, rfl, ⟨s', A', n', c', rfl, h1, h2⟩, hn⟩
  rw [hv] at h1 h2
  exact ⟨s', A', n', c', rfl, ⟨h1, h2⟩, hn⟩

set_option maxRecDepth 100000 in
set_option maxHeartbeats 2000000 in
theorem radd_same (s : Bool) (A : Option Addr) (n c : Nat) (A' : Option Addr) (n' c' : Nat) (x y : Nat) (w : World) (hx : DM w A n c x) (hy : DM w A' n' c' y) (hn : n ≤ 1000000) (hn' : n' ≤ 1000000) :
    Calls Tryz.prog 71 #[.agg #[.bool s, .slice A n c], .agg #[.bool s, .slice A' n' c']] w fun e w' => ∃ v, e = .returned v ∧ RN w' v (sg s (x + y)) ∧ New w w' := by
  have H0 := Lib.hid (And.intro hx hy)
  clear hx hy
  go_enter Tryz.func71, Tryz.ntmps71
  go_wp2_with fail
  refine Code.new3 ?_
  intro W hb1 hb2 hb3 hnW hzW
  have hc10 := hb1.cell 0 (u := .bool s) rfl
  have hc11 := hb1.cell 1 (u := .slice A n c) rfl
  have hc21 := hb2.cell 1 (u := .slice A' n' c') rfl
  have hc30 := hb3.cell 0 (u := .bool false) rfl
  have hc31 := hb3.cell 1 (u := .slice none 0 0) rfl
  have hf30 := hb3.frozen 0
  have hf31 := hb3.frozen 1
  have hplus : ∀ W', New W W' → Calls Tryz.prog 118 #[.slice A n c, .slice A' n' c'] W' fun e w' => ∃ R k d, e = .returned (.slice R k d) ∧ Hid (OM w' W'.heap.size R k d (x + y)) ∧ Hid (New W w') := fun W' h =>
    (plus_any A n c A' n' c' x y W' (H0.out.1.new (hnW.new h)) (H0.out.2.new (hnW.new h)) hn hn').mono fun e w' ⟨R, k, d, h1, h2, h3⟩ => ⟨R, k, d, h1, h2, h.new h3⟩
  have HP := Lib.hid hplus
  have HB := Lib.hid (And.intro hb1 (And.intro hb2 (And.intro hb3 hnW)))
  clear hplus hb1 hb2 hb3 hnW
  go_region_held3 (fun w' => w'.cell? ⟨w.heap.size, 0, none⟩ = some (.bool s) ∧ w'.cell? ⟨w.heap.size, 1, none⟩ = some (.slice A n c) ∧ w'.cell? ⟨w.heap.size + 1, 1, none⟩ = some (.slice A' n' c')) (first | exact ⟨by assumption, by assumption, by assumption⟩ | exact ⟨far2 he10 (by dsimp only; omega) _ _, far2 he11 (by dsimp only; omega) _ _, far2 he21 (by dsimp only; omega) _ _⟩)
    (first
      | (go_at_call 118; refine (HP.out _ ?_).mono ?_; exact (Chg.refl _ _).drew; rintro e w5 ⟨R, k, d, rfl, HO5, HN5⟩; have hd10 := HN5.out.cell hc10 (fun h => h); have hd11 := HN5.out.cell hc11 (fun h => h); have hd21 := HN5.out.cell hc21 (fun h => h); have hd30 := HN5.out.cell hc30 (fun h => h); have hd31 := HN5.out.cell hc31 (fun h => h); have hg30 := (HB.out.2.2.1.chg HN5.out (fun h => h)).frozen 0; have hg31 := (HB.out.2.2.1.chg HN5.out (fun h => h)).frozen 1)
      | (go_at_call 72; refine (normal_om s R k d _ _ _ HO5).mono ?_; rintro e w6 ⟨s6, A6, n6, c6, rfl, H6, HN6⟩; have he10 := HN6.out.cell hd10 (fun h => h); have he11 := HN6.out.cell hd11 (fun h => h); have he21 := HN6.out.cell hd21 (fun h => h); have he30 := HN6.out.cell hd30 (fun h => h); have he31 := HN6.out.cell hd31 (fun h => h); have hh30 := ((HB.out.2.2.1.chg HN5.out (fun h => h)).chg HN6.out (fun h => h)).frozen 0; have hh31 := ((HB.out.2.2.1.chg HN5.out (fun h => h)).chg HN6.out (fun h => h)).frozen 1))
  all_goals
    clear hc10 hc11 hc21 hc30 hc31 hf30 hf31 hd10 hd11 hd21 hd30 hd31 hg30 hg31
    go_wp2
    obtain ⟨hs6, hm6⟩ := H6.out
    have hb6 := (HB.out.2.2.1.chg HN5.out (fun h => h)).chg HN6.out (fun h => h)
    refine bodyPost_ret (res_c rfl _ rfl (aggN.load (hb6.set2 _ _))) rfl ⟨_, rfl, ⟨s6, A6, n6, c6, rfl, hs6, hm6.store hb6 (noInt_two' _ _ _ _) (Chg.at2 _ _ _ _)⟩, ?_⟩
    exact Chg.owned (HB.out.2.2.2.new (HN5.out.new HN6.out)) (Chg.at2 _ _ _ _) (fun k e => by omega)

set_option maxRecDepth 100000 in
set_option maxHeartbeats 2000000 in
theorem radd_lt (s s' : Bool) (hss : (s == s') = false) (A : Option Addr) (n c : Nat) (A' : Option Addr) (n' c' : Nat) (x y : Nat) (w : World) (hx : DM w A n c x) (hy : DM w A' n' c' y) (hn : n ≤ 1000000) (hn' : n' ≤ 1000000) (hlt : x < y) :
    Calls Tryz.prog 71 #[.agg #[.bool s, .slice A n c], .agg #[.bool s', .slice A' n' c']] w fun e w' => ∃ v, e = .returned v ∧ RN w' v (sg s' (y - x : Nat)) ∧ New w w' := by
  have H0 := Lib.hid (And.intro hx hy)
  clear hx hy
  go_enter Tryz.func71, Tryz.ntmps71
  go_wp2_with fail
  refine Calls.new3 ?_
  intro W0 hb1 hb2 hb3 hnW hzW
  refine (compared_any A n c A' n' c' x y W0 (H0.out.1.new hnW) (H0.out.2.new hnW)).mono ?_
  rintro e W ⟨rfl, q, hq⟩
  rw [cmpI_lt (show (x : Int) < (y : Int) by omega)]
  have hneg : decide ((-1 : Int) < 0) = true := by decide
  have hnq : New W0 W := by rw [hq]; exact (Chg.refl _ _).drewN q
  replace hb1 := hb1.chg hnq (fun h => h)
  replace hb2 := hb2.chg hnq (fun h => h)
  replace hb3 := hb3.chg hnq (fun h => h)
  replace hnW := hnW.new hnq
  have hc20 := hb2.cell 0 (u := .bool s') rfl
  have hc21 := hb2.cell 1 (u := .slice A' n' c') rfl
  have hc11 := hb1.cell 1 (u := .slice A n c) rfl
  have hc30 := hb3.cell 0 (u := .bool false) rfl
  have hc31 := hb3.cell 1 (u := .slice none 0 0) rfl
  have hf30 := hb3.frozen 0
  have hf31 := hb3.frozen 1
  have hmin : ∀ W', New W W' → Calls Tryz.prog 120 #[.slice A' n' c', .slice A n c] W' fun e w' => ∃ R k d, e = .returned (.slice R k d) ∧ Hid (OM w' W'.heap.size R k d (y - x)) ∧ Hid (New W w') := fun W' h =>
    (minus_any A' n' c' A n c y x W' (H0.out.2.new (hnW.new h)) (H0.out.1.new (hnW.new h)) (by omega) hn').mono fun e w' ⟨R, k, d, h1, h2, h3⟩ => ⟨R, k, d, h1, h2, h.new h3⟩
  have HP := Lib.hid hmin
  have HB := Lib.hid (And.intro hb1 (And.intro hb2 (And.intro hb3 hnW)))
  clear hmin hb1 hb2 hb3 hnW hq hnq hzW
  go_wp2_with fail
  go_region_held3 (fun w' => w'.cell? ⟨w.heap.size + 1, 0, none⟩ = some (.bool s') ∧ w'.cell? ⟨w.heap.size + 1, 1, none⟩ = some (.slice A' n' c') ∧ w'.cell? ⟨w.heap.size, 1, none⟩ = some (.slice A n c)) (first | exact ⟨by assumption, by assumption, by assumption⟩ | exact ⟨far2 he20 (by dsimp only; omega) _ _, far2 he21 (by dsimp only; omega) _ _, far2 he11 (by dsimp only; omega) _ _⟩)
    (first
      | (go_at_call 120; refine (HP.out _ ?_).mono ?_; exact (Chg.refl _ _).drew; rintro e w5 ⟨R, k, d, rfl, HO5, HN5⟩; have hd20 := HN5.out.cell hc20 (fun h => h); have hd21 := HN5.out.cell hc21 (fun h => h); have hd11 := HN5.out.cell hc11 (fun h => h); have hd30 := HN5.out.cell hc30 (fun h => h); have hd31 := HN5.out.cell hc31 (fun h => h); have hg30 := (HB.out.2.2.1.chg HN5.out (fun h => h)).frozen 0; have hg31 := (HB.out.2.2.1.chg HN5.out (fun h => h)).frozen 1)
      | (go_at_call 72; refine (normal_om s' R k d _ _ _ HO5).mono ?_; rintro e w6 ⟨s6, A6, n6, c6, rfl, H6, HN6⟩; have he20 := HN6.out.cell hd20 (fun h => h); have he21 := HN6.out.cell hd21 (fun h => h); have he11 := HN6.out.cell hd11 (fun h => h); have he30 := HN6.out.cell hd30 (fun h => h); have he31 := HN6.out.cell hd31 (fun h => h); have hh30 := ((HB.out.2.2.1.chg HN5.out (fun h => h)).chg HN6.out (fun h => h)).frozen 0; have hh31 := ((HB.out.2.2.1.chg HN5.out (fun h => h)).chg HN6.out (fun h => h)).frozen 1))
  all_goals
    clear hc20 hc21 hc11 hc30 hc31 hf30 hf31 hd20 hd21 hd11 hd30 hd31 hg30 hg31
    go_wp2
    obtain ⟨hs6, hm6⟩ := H6.out
    have hb6 := (HB.out.2.2.1.chg HN5.out (fun h => h)).chg HN6.out (fun h => h)
    refine bodyPost_ret (res_c rfl _ rfl (aggN.load (hb6.set2 _ _))) rfl ⟨_, rfl, ⟨s6, A6, n6, c6, rfl, hs6, hm6.store hb6 (noInt_two' _ _ _ _) (Chg.at2 _ _ _ _)⟩, ?_⟩
    exact Chg.owned (HB.out.2.2.2.new (HN5.out.new HN6.out)) (Chg.at2 _ _ _ _) (fun k e => by omega)

set_option maxRecDepth 100000 in
set_option maxHeartbeats 2000000 in
theorem radd_ge (s s' : Bool) (hss : (s == s') = false) (A : Option Addr) (n c : Nat) (A' : Option Addr) (n' c' : Nat) (x y : Nat) (w : World) (hx : DM w A n c x) (hy : DM w A' n' c' y) (hn : n ≤ 1000000) (hn' : n' ≤ 1000000) (hlt : y ≤ x) :
    Calls Tryz.prog 71 #[.agg #[.bool s, .slice A n c], .agg #[.bool s', .slice A' n' c']] w fun e w' => ∃ v, e = .returned v ∧ RN w' v (sg s (x - y : Nat)) ∧ New w w' := by
  have H0 := Lib.hid (And.intro hx hy)
  clear hx hy
  go_enter Tryz.func71, Tryz.ntmps71
  go_wp2_with fail
  refine Calls.new3 ?_
  intro W0 hb1 hb2 hb3 hnW hzW
  refine (compared_any A n c A' n' c' x y W0 (H0.out.1.new hnW) (H0.out.2.new hnW)).mono ?_
  rintro e W ⟨rfl, q, hq⟩
  have hcv : decide (cmpI (x : Int) (y : Int) < 0) = false := by
    unfold cmpI
    rw [if_neg (by omega)]
    split <;> decide
  generalize cmpI (x : Int) (y : Int) = cv at *
  have hnq : New W0 W := by rw [hq]; exact (Chg.refl _ _).drewN q
  replace hb1 := hb1.chg hnq (fun h => h)
  replace hb2 := hb2.chg hnq (fun h => h)
  replace hb3 := hb3.chg hnq (fun h => h)
  replace hnW := hnW.new hnq
  have hc10 := hb1.cell 0 (u := .bool s) rfl
  have hc11 := hb1.cell 1 (u := .slice A n c) rfl
  have hc21 := hb2.cell 1 (u := .slice A' n' c') rfl
  have hc30 := hb3.cell 0 (u := .bool false) rfl
  have hc31 := hb3.cell 1 (u := .slice none 0 0) rfl
  have hf30 := hb3.frozen 0
  have hf31 := hb3.frozen 1
  have hmin : ∀ W', New W W' → Calls Tryz.prog 120 #[.slice A n c, .slice A' n' c'] W' fun e w' => ∃ R k d, e = .returned (.slice R k d) ∧ Hid (OM w' W'.heap.size R k d (x - y)) ∧ Hid (New W w') := fun W' h =>
    (minus_any A n c A' n' c' x y W' (H0.out.1.new (hnW.new h)) (H0.out.2.new (hnW.new h)) (by omega) hn).mono fun e w' ⟨R, k, d, h1, h2, h3⟩ => ⟨R, k, d, h1, h2, h.new h3⟩
  have HP := Lib.hid hmin
  have HB := Lib.hid (And.intro hb1 (And.intro hb2 (And.intro hb3 hnW)))
  clear hmin hb1 hb2 hb3 hnW hq hnq hzW
  go_wp2_with fail
  go_region_held3 (fun w' => w'.cell? ⟨w.heap.size, 0, none⟩ = some (.bool s) ∧ w'.cell? ⟨w.heap.size, 1, none⟩ = some (.slice A n c) ∧ w'.cell? ⟨w.heap.size + 1, 1, none⟩ = some (.slice A' n' c')) (first | exact ⟨by assumption, by assumption, by assumption⟩ | exact ⟨far2 he10 (by dsimp only; omega) _ _, far2 he11 (by dsimp only; omega) _ _, far2 he21 (by dsimp only; omega) _ _⟩)
    (first
      | (go_at_call 120; refine (HP.out _ ?_).mono ?_; exact (Chg.refl _ _).drew; rintro e w5 ⟨R, k, d, rfl, HO5, HN5⟩; have hd10 := HN5.out.cell hc10 (fun h => h); have hd11 := HN5.out.cell hc11 (fun h => h); have hd21 := HN5.out.cell hc21 (fun h => h); have hd30 := HN5.out.cell hc30 (fun h => h); have hd31 := HN5.out.cell hc31 (fun h => h); have hg30 := (HB.out.2.2.1.chg HN5.out (fun h => h)).frozen 0; have hg31 := (HB.out.2.2.1.chg HN5.out (fun h => h)).frozen 1)
      | (go_at_call 72; refine (normal_om s R k d _ _ _ HO5).mono ?_; rintro e w6 ⟨s6, A6, n6, c6, rfl, H6, HN6⟩; have he10 := HN6.out.cell hd10 (fun h => h); have he11 := HN6.out.cell hd11 (fun h => h); have he21 := HN6.out.cell hd21 (fun h => h); have he30 := HN6.out.cell hd30 (fun h => h); have he31 := HN6.out.cell hd31 (fun h => h); have hh30 := ((HB.out.2.2.1.chg HN5.out (fun h => h)).chg HN6.out (fun h => h)).frozen 0; have hh31 := ((HB.out.2.2.1.chg HN5.out (fun h => h)).chg HN6.out (fun h => h)).frozen 1))
  all_goals
    clear hc10 hc11 hc21 hc30 hc31 hf30 hf31 hd10 hd11 hd21 hd30 hd31 hg30 hg31
    go_wp2
    obtain ⟨hs6, hm6⟩ := H6.out
    have hb6 := (HB.out.2.2.1.chg HN5.out (fun h => h)).chg HN6.out (fun h => h)
    refine bodyPost_ret (res_c rfl _ rfl (aggN.load (hb6.set2 _ _))) rfl ⟨_, rfl, ⟨s6, A6, n6, c6, rfl, hs6, hm6.store hb6 (noInt_two' _ _ _ _) (Chg.at2 _ _ _ _)⟩, ?_⟩
    exact Chg.owned (HB.out.2.2.2.new (HN5.out.new HN6.out)) (Chg.at2 _ _ _ _) (fun k e => by omega)

theorem bz_len {w : World} {A : Option Addr} {n c : Nat} {z : Int} (h : DM w A n c z.natAbs) {k : Nat} (hk : z.natAbs < 2 ^ k) : n ≤ k :=
  h.len (Nat.lt_of_lt_of_le hk (Nat.pow_le_pow_left (by omega) k))
theorem radd_any (v v' : Value) (x y : Int) (w : World) (hx : RN w v x) (hy : RN w v' y) (bx : x.natAbs < 2 ^ 1000000) (bY : y.natAbs < 2 ^ 1000000) :
    Calls Tryz.prog 71 #[v, v'] w fun e w' => ∃ v, e = .returned v ∧ RN w' v (x + y) ∧ New w w' := by
  obtain ⟨s, A, n, c, rfl, hs, hm⟩ := hx
  obtain ⟨s', A', n', c', rfl, hs', hm'⟩ := hy
  have hn := bz_len hm bx
  have hn' := bz_len hm' bY
  clear bx bY
  by_cases hss : s = s'
  · subst hss
    refine (radd_same s A n c A' n' c' _ _ w hm hm' hn hn').mono ?_
    rintro e w1 ⟨v1, rfl, h1, h2⟩
    have e1 : sg s (x.natAbs + y.natAbs) = x + y := by
      unfold sg
      cases s
      · have : ¬ x < 0 := by simpa using hs.symm
        have : ¬ y < 0 := by simpa using hs'.symm
        simp; omega
      · have : x < 0 := by simpa using hs.symm
        have : y < 0 := by simpa using hs'.symm
        simp; omega
    rw [e1] at h1
    exact ⟨v1, rfl, h1, h2⟩
  · have hb : (s == s') = false := by simp [hss]
    have hsg : (s = true ∧ s' = false ∧ x < 0 ∧ ¬ y < 0) ∨ (s = false ∧ s' = true ∧ ¬ x < 0 ∧ y < 0) := by
      cases s <;> cases s'
      · exact absurd rfl hss
      · exact .inr ⟨rfl, rfl, by simpa using hs.symm, by simpa using hs'.symm⟩
      · exact .inl ⟨rfl, rfl, by simpa using hs.symm, by simpa using hs'.symm⟩
      · exact absurd rfl hss
    rcases Nat.lt_or_ge x.natAbs y.natAbs with hlt | hlt
    · refine (radd_lt s s' hb A n c A' n' c' _ _ w hm hm' hn hn' hlt).mono ?_
      rintro e w1 ⟨v1, rfl, h1, h2⟩
      have e1 : sg s' (y.natAbs - x.natAbs : Nat) = x + y := by
        unfold sg
        rcases hsg with ⟨_, rfl, h3, h4⟩ | ⟨_, rfl, h3, h4⟩ <;> simp <;> omega
      rw [e1] at h1
      exact ⟨v1, rfl, h1, h2⟩
    · refine (radd_ge s s' hb A n c A' n' c' _ _ w hm hm' hn hn' hlt).mono ?_
      rintro e w1 ⟨v1, rfl, h1, h2⟩
      have e1 : sg s (x.natAbs - y.natAbs : Nat) = x + y := by
        unfold sg
        rcases hsg with ⟨rfl, _, h3, h4⟩ | ⟨rfl, _, h3, h4⟩ <;> simp <;> omega
      rw [e1] at h1
      exact ⟨v1, rfl, h1, h2⟩

end Go.Proofs.YtbocpkjajocpiaaGreatDoor

namespace Go.Txt
set_option linter.unusedVariables false
open Go.Lib (decDigits nDigits)

theorem snocRec {α : Type} {motive : List α → Prop} (nil : motive []) (snoc : ∀ l c, motive l → motive (l ++ [c])) (l : List α) : motive l := by
  rw [← List.reverse_reverse l]
  induction l.reverse with
  | nil => exact nil
  | cons a t ih => rw [List.reverse_cons]; exact snoc _ _ ih

theorem dec_small {u : Nat} (h : u < 10) : decDigits u = [UInt8.ofNat (48 + u)] := by rw [decDigits, dif_pos h]
theorem dec_big {u : Nat} (h : ¬ u < 10) : decDigits u = decDigits (u / 10) ++ [UInt8.ofNat (48 + u % 10)] := by rw [decDigits, dif_neg h]
/-- The last k digits of r. -/
def pad : Nat → Nat → List UInt8
  | 0, _ => []
  | k + 1, r => pad k (r / 10) ++ [UInt8.ofNat (48 + r % 10)]
theorem pad_len (k r : Nat) : (pad k r).length = k := by
  induction k generalizing r with
  | zero => rfl
  | succ k ih => simp [pad, ih]
theorem dec_pad (k : Nat) : ∀ (q r : Nat), r < 10 ^ k → 0 < q → decDigits (q * 10 ^ k + r) = decDigits q ++ pad k r := by
  induction k with
  | zero => intro q r hr hq; simp [pad] at hr ⊢; rw [hr]; rfl
  | succ k ih =>
    intro q r hr hq
    have hp : 1 ≤ 10 ^ k := Nat.one_le_pow _ _ (by decide)
    have e : q * 10 ^ (k + 1) = q * 10 ^ k * 10 := by rw [Nat.pow_succ, Nat.mul_assoc]
    have h1 : 10 ^ k ≤ q * 10 ^ k := Nat.le_mul_of_pos_left _ hq
    have h2 : r < 10 ^ k * 10 := by rwa [Nat.pow_succ] at hr
    rw [dec_big (by omega), pad, show (q * 10 ^ (k + 1) + r) / 10 = q * 10 ^ k + r / 10 by omega, ih q (r / 10) (by omega) hq, List.append_assoc, show (q * 10 ^ (k + 1) + r) % 10 = r % 10 by omega]
theorem rep_snoc (k : Nat) (a : UInt8) : List.replicate (k + 1) a = List.replicate k a ++ [a] := by
  rw [List.replicate_succ']
theorem pad_zero (k : Nat) : pad k 0 = List.replicate k 48 := by
  induction k with
  | zero => rfl
  | succ k ih => rw [pad, Nat.zero_div, ih, rep_snoc]; rfl
theorem pad_dec (k : Nat) : ∀ u, 1 ≤ k → u < 10 ^ k → pad k u = List.replicate (k - (decDigits u).length) 48 ++ decDigits u := by
  induction k with
  | zero => intro u h; omega
  | succ k ih =>
    intro u _ hu
    by_cases h : u < 10
    · rw [dec_small h, pad, Nat.div_eq_of_lt h, pad_zero, Nat.mod_eq_of_lt h]; simp
    · have hk : 1 ≤ k := by
        rcases Nat.eq_zero_or_pos k with h0 | h0
        · subst h0; simp at hu; omega
        · exact h0
      rw [dec_big h, pad, ih (u / 10) hk (by rw [Nat.pow_succ] at hu; omega), List.append_assoc]
      simp
theorem dec_len_le {u k : Nat} (hk : 1 ≤ k) (h : u < 10 ^ k) : (decDigits u).length ≤ k := by
  have h1 := congrArg List.length (pad_dec k u hk h)
  rw [pad_len] at h1
  simp at h1
  omega
theorem dec_len_pos (u : Nat) : 1 ≤ (decDigits u).length := by
  rw [Go.Lib.decDigits_length]; exact Go.Lib.nDigits_pos u

/-! ### digits -/
def isDig (c : UInt8) : Prop := 48 ≤ c.toNat ∧ c.toNat ≤ 57
instance (c : UInt8) : Decidable (isDig c) := inferInstanceAs (Decidable (_ ∧ _))
def AllDig (l : List UInt8) : Prop := ∀ c ∈ l, isDig c
theorem AllDig.nil : AllDig [] := fun _ h => by simp at h
theorem AllDig.append {a b : List UInt8} (ha : AllDig a) (hb : AllDig b) : AllDig (a ++ b) := fun c h => (List.mem_append.1 h).elim (ha c) (hb c)
theorem AllDig.left {a b : List UInt8} (h : AllDig (a ++ b)) : AllDig a := fun c hc => h c (List.mem_append.2 (.inl hc))
theorem AllDig.right {a b : List UInt8} (h : AllDig (a ++ b)) : AllDig b := fun c hc => h c (List.mem_append.2 (.inr hc))
theorem AllDig.take {a : List UInt8} (h : AllDig a) (k : Nat) : AllDig (a.take k) := fun c hc => h c (List.mem_of_mem_take hc)
theorem AllDig.drop {a : List UInt8} (h : AllDig a) (k : Nat) : AllDig (a.drop k) := fun c hc => h c (List.mem_of_mem_drop hc)
theorem dig_nat {d : Nat} (h : d < 10) : (UInt8.ofNat (48 + d)).toNat = 48 + d := by
  rw [UInt8.toNat_ofNat']; omega
theorem AllDig.one {d : Nat} (h : d < 10) : AllDig [UInt8.ofNat (48 + d)] := by
  intro c hc
  rw [List.mem_singleton] at hc
  subst hc
  unfold isDig
  rw [dig_nat h]; omega
theorem allDig_dec (u : Nat) : AllDig (decDigits u) := by
  induction u using Nat.strongRecOn with
  | _ u ih =>
    by_cases h : u < 10
    · rw [dec_small h]; exact AllDig.one h
    · rw [dec_big h]; exact (ih _ (by omega)).append (AllDig.one (by omega))
def decVal (l : List UInt8) : Nat := l.foldl (fun a c => a * 10 + (c.toNat - 48)) 0
theorem decVal_nil : decVal [] = 0 := rfl
theorem decVal_snoc (l : List UInt8) (c : UInt8) : decVal (l ++ [c]) = decVal l * 10 + (c.toNat - 48) := by simp [decVal]
theorem decVal_append (a b : List UInt8) : decVal (a ++ b) = decVal a * 10 ^ b.length + decVal b := by
  induction b using snocRec with
  | nil => simp [decVal_nil]
  | snoc b c ih =>
    rw [← List.append_assoc, decVal_snoc, ih, decVal_snoc, List.length_append, List.length_singleton, Nat.pow_succ, Nat.add_mul, Nat.mul_assoc, Nat.add_assoc]
theorem decVal_dec (u : Nat) : decVal (decDigits u) = u := by
  induction u using Nat.strongRecOn with
  | _ u ih =>
    by_cases h : u < 10
    · rw [dec_small h]
      simp [decVal, UInt8.toNat_ofNat']
      omega
    · rw [dec_big h, decVal_snoc, ih _ (by omega), dig_nat (by omega)]; omega
theorem decVal_lt {l : List UInt8} (h : AllDig l) : decVal l < 10 ^ l.length := by
  induction l using snocRec with
  | nil => simp [decVal_nil]
  | snoc l c ih =>
    have h1 := ih h.left
    have h2 := h.right c (by simp)
    rw [decVal_snoc, List.length_append, List.length_singleton, Nat.pow_succ]
    unfold isDig at h2
    omega
theorem byte_of_dig {c : UInt8} (h : isDig c) : UInt8.ofNat (48 + (c.toNat - 48)) = c := by
  unfold isDig at h
  rw [show 48 + (c.toNat - 48) = c.toNat by omega]
  exact UInt8.ofNat_toNat
/-- Digits without a zero ahead. -/
def Formed (l : List UInt8) : Prop := AllDig l ∧ (l = [48] ∨ ∃ c t, l = c :: t ∧ c ≠ 48)
theorem Formed.ne {l : List UInt8} (h : Formed l) : l ≠ [] := by
  rcases h.2 with rfl | ⟨c, t, rfl, _⟩ <;> simp
theorem dec_of_val {l : List UInt8} (h : Formed l) : decDigits (decVal l) = l := by
  obtain ⟨hd, h⟩ := h
  rcases h with rfl | ⟨c, t, rfl, hc⟩
  · rw [show decVal [48] = 0 by rfl, dec_small (by omega)]; rfl
  · induction t using snocRec with
    | nil =>
      have h1 := hd c (by simp)
      have : decVal [c] = c.toNat - 48 := by simp [decVal]
      unfold isDig at h1
      rw [this, dec_small (by omega), byte_of_dig h1]
    | snoc t x ih =>
      rw [← List.cons_append] at hd ⊢
      have h1 := hd.right x (by simp)
      have h2 := ih hd.left
      have hx := h1
      unfold isDig at h1
      have hpos : 0 < decVal (c :: t) := by
        rcases Nat.eq_zero_or_pos (decVal (c :: t)) with h0 | h0
        · exfalso
          rw [h0, dec_small (by omega)] at h2
          injection h2 with h3 h4
          exact hc h3.symm
        · exact h0
      rw [decVal_snoc, dec_big (by omega), show (decVal (c :: t) * 10 + (x.toNat - 48)) / 10 = decVal (c :: t) by omega, h2, show (decVal (c :: t) * 10 + (x.toNat - 48)) % 10 = x.toNat - 48 by omega, byte_of_dig hx]
theorem formed_dec (u : Nat) : Formed (decDigits u) := by
  refine ⟨allDig_dec u, ?_⟩
  induction u using Nat.strongRecOn with
  | _ u ih =>
    by_cases h : u < 10
    · rw [dec_small h]
      rcases Nat.eq_zero_or_pos u with h0 | h0
      · subst h0; left; rfl
      · right
        refine ⟨_, [], rfl, fun e => ?_⟩
        have := congrArg UInt8.toNat e
        rw [dig_nat h] at this
        simp at this
        omega
    · rw [dec_big h]
      right
      rcases ih (u / 10) (by omega) with e | ⟨c, t, e, hc⟩
      · exfalso
        have := decVal_dec (u / 10)
        rw [e] at this
        have h2 : decVal [48] = 0 := rfl
        omega
      · rw [e]; exact ⟨c, _, rfl, hc⟩
theorem dec_inj {a b : Nat} (h : decDigits a = decDigits b) : a = b := by rw [← decVal_dec a, h, decVal_dec]

/-! ### texts of integers -/
def text (z : Int) : List UInt8 := if z < 0 then 45 :: decDigits z.natAbs else decDigits z.natAbs
theorem not45 {l : List UInt8} (h : AllDig l) {t : List UInt8} : l ≠ 45 :: t := by
  intro e; subst e
  have := h 45 (by simp)
  unfold isDig at this
  simp at this
theorem text_inj {a b : Int} (h : text a = text b) : a = b := by
  unfold text at h
  split at h <;> split at h
  · injection h with _ h; have := dec_inj h; omega
  · exact absurd h.symm (not45 (allDig_dec _))
  · exact absurd h (not45 (allDig_dec _))
  · have := dec_inj h; omega
theorem text_len {z : Int} {k : Nat} (hk : 1 ≤ k) (h : z.natAbs < 10 ^ k) : (text z).length ≤ k + 1 := by
  have := dec_len_le hk h
  unfold text
  split <;> simp <;> omega
/-- The sign and the rest of a text. -/
def body (l : List UInt8) : List UInt8 := if l.head? = some 45 then l.tail else l
/-- The integer with a text. -/
def Reads (l : List UInt8) (z : Int) : Prop := Formed (body l) ∧ ¬ (l.head? = some 45 ∧ body l = [48]) ∧ z = (if l.head? = some 45 then -(decVal (body l) : Int) else (decVal (body l) : Int))
theorem Reads.text {l : List UInt8} {z : Int} (h : Reads l z) : text z = l := by
  obtain ⟨h1, h2, h3⟩ := h
  have h4 := dec_of_val h1
  by_cases hs : l.head? = some 45
  · rw [if_pos hs] at h3
    obtain ⟨t, rfl⟩ : ∃ t, l = 45 :: t := by
      cases l with
      | nil => simp at hs
      | cons a t => simp at hs; exact ⟨t, by rw [hs]⟩
    have hb : body (45 :: t) = t := by simp [body]
    rw [hb] at h1 h2 h3 h4
    have hpos : 0 < decVal t := by
      rcases Nat.eq_zero_or_pos (decVal t) with h0 | h0
      · exfalso
        rw [h0, dec_small (by omega)] at h4
        exact h2 ⟨hs, h4.symm⟩
      · exact h0
    unfold Txt.text
    rw [if_pos (by omega), show z.natAbs = decVal t by omega, h4]
  · rw [if_neg hs] at h3
    have hb : body l = l := by simp [body, hs]
    rw [hb] at h1 h2 h3 h4
    unfold Txt.text
    rw [if_neg (by omega), show z.natAbs = decVal l by omega, h4]
theorem reads_text (z : Int) : Reads (text z) z := by
  have hf := formed_dec z.natAbs
  by_cases h : z < 0
  · have e : text z = 45 :: decDigits z.natAbs := by unfold text; rw [if_pos h]
    have hb : body (text z) = decDigits z.natAbs := by rw [e]; simp [body]
    have hh : (text z).head? = some 45 := by rw [e]; rfl
    refine ⟨by rw [hb]; exact hf, ?_, by rw [if_pos hh, hb, decVal_dec]; omega⟩
    rintro ⟨_, h2⟩
    rw [hb] at h2
    have := decVal_dec z.natAbs
    rw [h2] at this
    have h3 : decVal [48] = 0 := rfl
    omega
  · have e : text z = decDigits z.natAbs := by unfold text; rw [if_neg h]
    have hh : (text z).head? ≠ some 45 := by
      rw [e]
      intro hh
      cases hd : decDigits z.natAbs with
      | nil => rw [hd] at hh; simp at hh
      | cons a t => rw [hd] at hh; simp at hh; exact not45 (allDig_dec _) (by rw [hd, hh])
    have hb : body (text z) = decDigits z.natAbs := by rw [body, if_neg hh, e]
    exact ⟨by rw [hb]; exact hf, fun h => hh h.1, by rw [if_neg hh, hb, decVal_dec]; omega⟩
theorem Reads.uniq {l : List UInt8} {z z' : Int} (h : Reads l z) (h' : Reads l z') : z = z' := by rw [h.2.2, h'.2.2]
theorem Reads.body_len (l : List UInt8) : (body l).length ≤ l.length := by
  unfold body; split
  · simp
  · exact Nat.le_refl _
end Go.Txt

namespace Go.Proofs.YtbocpkjajocpiaaGreatDoor
set_option linter.unusedVariables false
open Go.RowKit Go.Mem Go.Dig
open Go.Lib (decDigits)

/-- The string with these bytes. -/
def St (l : List UInt8) : ByteArray := ⟨l.toArray⟩
theorem St_app (a b : List UInt8) : St a ++ St b = St (a ++ b) := by
  unfold St
  apply ByteArray.ext
  simp
theorem St_size (a : List UInt8) : (St a).size = a.length := by simp [St, ByteArray.size]
theorem run_slice_string_lh {P : Program} (w : World) (t : TypeId) (s : ByteArray) (ht : P.underlying t = some .string) (kl kh : IntKind) (l h : Int) (h0 : 0 ≤ l) (h1 : l ≤ h) (h2 : h ≤ s.size) :
    (Instr.slice t (.string s) (some (.int kl l)) (some (.int kh h)) none).run P w = .ok (.string (s.extract l.toNat h.toNat)) w := by
  have eh : (h.toNat : Int) = h := Int.toNat_of_nonneg (by omega)
  simp [Instr.slice, run_underlying ht, Instr.sliceBounds, run_sliceBound, sliced, *, eh, (by omega : 0 ≤ l), (by omega : 0 ≤ h)]
theorem dig_slice (P : Program) (t : TypeId) (ht : P.underlying t = some .string) (d : Nat) (hd : d < 10) (W : World) :
    (Instr.slice t (.string ⟨#[48, 49, 50, 51, 52, 53, 54, 55, 56, 57]⟩) (some (.int .i64 (d : Int))) (some (.int .i64 ((d : Int) + 1))) none).run P W = .ok (.string (St [UInt8.ofNat (48 + d)])) W := by
  have hz : (⟨#[48, 49, 50, 51, 52, 53, 54, 55, 56, 57]⟩ : ByteArray).size = 10 := rfl
  have h := run_slice_string_lh (P := P) W t ⟨#[48, 49, 50, 51, 52, 53, 54, 55, 56, 57]⟩ ht .i64 .i64 (d : Int) ((d : Int) + 1) (by omega) (by omega) (by rw [hz]; omega)
  rw [h]
  rcases (show d = 0 ∨ d = 1 ∨ d = 2 ∨ d = 3 ∨ d = 4 ∨ d = 5 ∨ d = 6 ∨ d = 7 ∨ d = 8 ∨ d = 9 by omega) with h | h | h | h | h | h | h | h | h | h <;> subst h <;> rfl

def DecI (T : List UInt8) (i : Nat) (l : List UInt8) : Prop := (if i = 0 then l else decDigits i ++ l) = T
theorem dec_step {k : Nat} {s t : List UInt8} (hk : k ≠ 0) (h : DecI t k s) : DecI t (k / 10) ([UInt8.ofNat (48 + k % 10)] ++ s) := by
  unfold DecI at h ⊢
  rw [if_neg hk] at h
  rw [← h]
  by_cases h1 : k < 10
  · rw [if_pos (by omega), Txt.dec_small h1, Nat.mod_eq_of_lt h1]
  · rw [if_neg (by omega), Txt.dec_big h1, List.append_assoc]

set_option maxHeartbeats 1000000 in
theorem decimal_any (d : Nat) (hd : d ≤ 9999) (w : World) :
    Calls Tryz.prog 79 #[.int .i64 d] w fun e w' => e = .returned (.string (St (decDigits d))) ∧ w = w' := by
  obtain ⟨T, hT⟩ : ∃ T, decDigits d = T := ⟨_, rfl⟩
  rw [hT]
  by_cases h0 : d = 0
  · subst h0
    obtain rfl : [48] = T := by rw [← hT, Txt.dec_small (by omega)]; rfl
    clear hT
    go_enter Tryz.func79, Tryz.ntmps79
    go_wp2
    go_ret
    exact ⟨rfl, rfl⟩
  · have HT := Lib.hid hT
    have hdz : ((d : Int) == 0) = false := by simp; omega
    clear hT
    go_enter Tryz.func79, Tryz.ntmps79
    go_wp2
    go_loop [5, 4, 6] (fun k s _ => ∃ (i : Nat) (b : ByteArray), k = .int .i64 (i : Int) ∧ s = .string b ∧ b.size + i ≤ 9999 ∧ Hid (∃ l, b = St l ∧ DecI T i l)) (fun k _ _ => (intOf k).toNat)
    case atStart => exact ⟨d, ⟨#[]⟩, rfl, rfl, by simp [ByteArray.size]; omega, [], rfl, by unfold DecI; rw [if_neg h0, List.append_nil]; exact HT.out⟩
    case round =>
      obtain ⟨i, b, rfl, rfl, hi, HI⟩ := hrel
      by_cases hz : i = 0
      · subst hz
        have hneg : decide ((d : Int) < 0) = false := by simp
        go_wp2
        go_ret
        obtain ⟨l, rfl, this⟩ := HI.out
        unfold DecI at this
        rw [if_pos rfl] at this
        subst this
        exact ⟨rfl, rfl⟩
      · have hzb : ((i : Int) != 0) = true := by simp; omega
        obtain ⟨r, hr⟩ : ∃ r, i % 10 = r := ⟨_, rfl⟩
        obtain ⟨q, hq⟩ : ∃ q, i / 10 = q := ⟨_, rfl⟩
        have hri : (i : Int) % 10 = (r : Int) := by omega
        have hqi : (i : Int) / 10 = (q : Int) := by omega
        have hrb : r < 10 := by omega
        have hqb : q < i := by omega
        have hsl := dig_slice Tryz.prog 9 Tryz.underlying9 r hrb
        obtain ⟨l, hbl, hdec⟩ := HI.out
        have hst := dec_step hz hdec
        rw [hr, hq] at hst
        obtain ⟨D, hD⟩ : ∃ D, St [UInt8.ofNat (48 + r)] = D := ⟨_, rfl⟩
        rw [hD] at hsl
        have hDs : D.size = 1 := by rw [← hD, St_size]; rfl
        have hsz : ¬ 9223372036854775807 < D.size + b.size := by omega
        have hnew : (D ++ b).size = D.size + b.size := by simp
        have HS : Hid (∃ l, D ++ b = St l ∧ DecI T q l) := ⟨_, by rw [← hD, hbl, St_app], hst⟩
        have HDS := Lib.hid (And.intro hDs hnew)
        have hrn : decide ((r : Int) < 0) = false := by simp
        clear hr hq hst HI hbl hdec hD hDs hnew
        go_wp2
        go_round
        case rel => exact ⟨q, _, rfl, rfl, by have := HDS.out; omega, HS.out⟩
        case measure => simp [intOf]; omega

/-- The text of digits, the first n of them read from the end. -/
def TxtI (l : List Nat) (k : Nat) (t : List UInt8) : Prop := t = decDigits (val 10000 (l.drop k))
theorem txt_step {l : List Nat} {k d : Nat} {t : List UInt8} (h : TxtI l (k + 1) t) (hd : l[k]? = some d) (hdb : d < 10000) (hpos : 0 < val 10000 (l.drop (k + 1))) : TxtI l k (t ++ Txt.pad 4 d) := by
  unfold TxtI at h ⊢
  have e := Txt.dec_pad 4 (val 10000 (l.drop (k + 1))) d (by omega) hpos
  rw [h, val_drop hd, show d + 10000 * val 10000 (l.drop (k + 1)) = val 10000 (l.drop (k + 1)) * 10 ^ 4 + d by omega, e]

theorem txt_top {l : List Nat} {z : Nat} {n : Nat} (h : Num 10000 l z) (hl : l.length = n) (hn : 1 ≤ n) : ∃ d, l[n - 1]? = some d ∧ d < 10000 ∧ 1 ≤ d ∧ TxtI l (n - 1) (decDigits d) := by
  obtain ⟨d, hd⟩ : ∃ d, l[n - 1]? = some d := ⟨_, List.getElem?_eq_getElem (by omega)⟩
  refine ⟨d, hd, h.digs.at_ hd, ?_, ?_⟩
  · rcases Nat.eq_zero_or_pos d with h0 | h0
    · exfalso
      apply h.trim
      rw [List.getLast?_eq_getElem?, hl, hd, h0]
    · exact h0
  · unfold TxtI
    rw [val_drop hd, List.drop_eq_nil_of_le (by omega), val_nil]
    simp
theorem val_drop_pos {l : List Nat} {z n k : Nat} (h : Num 10000 l z) (hl : l.length = n) (hk : k < n) : 0 < val 10000 (l.drop k) := by
  have h1 := val_pos (B := 10000) (by omega) (h.trim.drop k) (by intro e; have := congrArg List.length e; simp at this; omega)
  exact Nat.lt_of_lt_of_le (Nat.pow_pos (by omega)) h1
theorem pad4 {c : ByteArray} {d : Nat} (hd : d < 10000) (h : c = St (List.replicate (c.size - (decDigits d).length) 48 ++ decDigits d)) (h4 : c.size = 4) : c = St (Txt.pad 4 d) := by
  rw [Txt.pad_dec 4 d (by omega) (by omega), ← h4]
  exact h

set_option maxHeartbeats 1000000 in
set_option maxRecDepth 100000 in
theorem rtext_any (v : Value) (z : Int) (w : World) (hv : RN w v z) (hz : z.natAbs < 2 ^ 1000000) :
    Calls Tryz.prog 20 #[v] w fun e w' => e = .returned (.string (St (Txt.text z))) ∧ New w w' := by
  obtain ⟨s, A, n, c, rfl, hs, hm⟩ := hv
  have hn := bz_len hm hz
  obtain ⟨l, hr, hnc, hc, hN⟩ := hm
  have hll : l.length = n := by have := hr.len; rwa [nv_length] at this
  obtain ⟨T, hT⟩ : ∃ T, Txt.text z = T := ⟨_, rfl⟩
  rw [hT]
  clear hz
  by_cases h0 : n = 0
  · subst h0
    have hz0 : z.natAbs = 0 := (hN.nil_iff (by omega)).1 (List.eq_nil_of_length_eq_zero hll)
    obtain rfl : [48] = T := by
      rw [← hT]; unfold Txt.text; rw [if_neg (by omega), hz0, Txt.dec_small (by omega)]; rfl
    clear hr hN hll hT hz0 hs
    go_enter Tryz.func20, Tryz.ntmps20
    go_wp2
    go_ret
    exact ⟨rfl, (Chg.refl _ w).alloc _⟩
  · obtain ⟨d, hd, hdb, hd1, htop⟩ := txt_top hN hll (by omega)
    obtain ⟨j, hj⟩ : ∃ j, n - 1 = j := ⟨_, rfl⟩
    rw [hj] at hd htop
    have hji : (n : Int) - 1 = (j : Int) := by omega
    have hj2 : (n : Int) - 2 = (j : Int) - 1 := by omega
    have hjn : j < n := by omega
    have hn0 : ((n : Int) == 0) = false := by simp; omega
    obtain ⟨ad, u, rfl, hu, hcu⟩ := hr.at_ hjn
    obtain ⟨d', hd', rfl⟩ := nv_at hu
    obtain rfl : d = d' := by rw [hd] at hd'; injection hd'
    have H0 := Lib.hid (And.intro hr (And.intro hN (And.intro hll (And.intro hs (And.intro hT hj)))))
    have HTOP := Lib.hid htop
    have hdl := Txt.dec_len_le (u := d) (k := 4) (by omega) (by omega)
    have hcW := ((Chg.refl (fun _ => False) w).alloc (.cells #[.bool s, .slice (some ad) n c] 26)).cell hcu (fun h => h)
    clear hr hN hll hT hs hu hd' hd htop hj hcu
    go_enter Tryz.func20, Tryz.ntmps20
    go_wp2_with fail
    refine Calls.new1 ?_
    intro W hb1 hnW hzW
    refine (decimal_any d (by omega) W).mono ?_
    rintro e w1 ⟨rfl, rfl⟩
    have hk1 := hb1.cell 1 (u := .slice (some ad) n c) rfl
    have hk0 := hb1.cell 0 (u := .bool s) rfl
    have HW := Lib.hid hnW
    clear hcW hb1 hnW hzW
    obtain ⟨b0, hb0⟩ : ∃ b, St (decDigits d) = b := ⟨_, rfl⟩
    have hb0s : b0.size ≤ 4 := by rw [← hb0, St_size]; exact hdl
    rw [hb0]
    have HB0 : Hid (∃ t, b0 = St t ∧ TxtI l j t) := ⟨_, hb0.symm, HTOP.out⟩
    have hj4 : b0.size + 4 * j ≤ 4 * n := by omega
    clear hb0 HTOP hdl hji
    go_wp2_with fail
    clear hj2
    go_loop [4, 3, 5] (fun i o _ => ∃ (k : Nat) (b : ByteArray), i = .int .i64 ((k : Int) - 1) ∧ o = .string b ∧ k ≤ j ∧ b.size + 4 * k ≤ 4 * n ∧ Hid (∃ t, b = St t ∧ TxtI l k t)) (fun i _ _ => (intOf i + 1).toNat)
    case atStart => exact ⟨j, b0, rfl, rfl, Nat.le_refl _, hj4, HB0.out⟩
    case round =>
      obtain ⟨k, b, rfl, rfl, hkj, hbs, HI⟩ := hrel
      by_cases hk : k = 0
      · subst hk
        obtain ⟨t, hbt, htx⟩ := HI.out
        obtain ⟨hr, hN, hll, hs, hT, hj⟩ := H0.out
        have hfin : t = decDigits z.natAbs := by unfold TxtI at htx; rw [List.drop_zero, hN.val] at htx; exact htx
        have hneg : decide ((0 : Int) ≤ ((0 : Nat) : Int) - 1) = false := by simp
        rw [show (((0 : Nat) : Int) - 1) = -1 by rfl]
        have hbs2 : ¬ 9223372036854775807 < (⟨#[45]⟩ : ByteArray).size + b.size := by
          have : (⟨#[45]⟩ : ByteArray).size = 1 := rfl
          omega
        cases s
        · have e : St T = b := by rw [← hT, hbt, hfin]; unfold Txt.text; rw [if_neg (by simpa using hs.symm)]
          have HE := Lib.hid e
          clear hr hN hll hs hT hj hfin hbt htx HI e
          go_wp2
          go_ret
          rw [HE.out]
          exact ⟨rfl, HW.out⟩
        · have e : St T = ⟨#[45]⟩ ++ b := by
            rw [← hT, hbt, hfin]; unfold Txt.text; rw [if_pos (by simpa using hs.symm)]
            exact (St_app [45] _).symm
          have HE := Lib.hid e
          clear hr hN hll hs hT hj hfin hbt htx HI e
          go_wp2
          go_ret
          rw [HE.out]
          exact ⟨rfl, HW.out⟩
      · obtain ⟨i, rfl⟩ : ∃ i, k = i + 1 := ⟨k - 1, by omega⟩
        have hi0 : (((i + 1 : Nat) : Int) - 1) = (i : Int) := by omega
        rw [hi0]
        clear hi0
        obtain ⟨t, hbt, htx⟩ := HI.out
        obtain ⟨hr, hN, hll, hs, hT, hj⟩ := H0.out
        obtain ⟨ad2, u, hA, hu, hcu⟩ := (hr.new HW.out).at_ (show i < n by omega)
        injection hA with hA
        subst hA
        obtain ⟨d2, hd2, rfl⟩ := nv_at hu
        have hd2b : d2 < 10000 := hN.digs.at_ hd2
        have hst := txt_step htx hd2 hd2b (val_drop_pos hN hll (by omega))
        have hd2l := Txt.dec_len_le (u := d2) (k := 4) (by omega) (by omega)
        have HS := Lib.hid (And.intro hbt hst)
        clear hr hN hll hs hT hj hu hd2 hst hbt htx HI
        go_wp2_with fail
        refine (decimal_any d2 (by omega) W).mono ?_
        rintro e w1 ⟨rfl, rfl⟩
        obtain ⟨c0, hc0⟩ : ∃ b, St (decDigits d2) = b := ⟨_, rfl⟩
        have hc0s : c0.size ≤ 4 := by rw [← hc0, St_size]; exact hd2l
        have HC0 : Hid (c0 = St (List.replicate (c0.size - (decDigits d2).length) 48 ++ decDigits d2) ∧ (decDigits d2).length ≤ c0.size) := by
          have : c0.size = (decDigits d2).length := by rw [← hc0, St_size]
          exact ⟨by rw [this, Nat.sub_self]; exact hc0.symm, by omega⟩
        rw [hc0]
        clear hc0 hd2l hcu
        go_wp2_with fail
        go_loop [5] (fun s => ∃ c : ByteArray, s = .string c ∧ c.size ≤ 4 ∧ Hid (c = St (List.replicate (c.size - (decDigits d2).length) 48 ++ decDigits d2) ∧ (decDigits d2).length ≤ c.size)) (fun s => match s with | .string c => 4 - c.size | _ => 0)
        case atStart => exact ⟨c0, rfl, hc0s, HC0⟩
        case round =>
          obtain ⟨c1, rfl, hc1s, HC1⟩ := hrel
          by_cases h4 : c1.size < 4
          · have hlt : (c1.size : Int) < 4 := by omega
            have hsz : ¬ 9223372036854775807 < (⟨#[48]⟩ : ByteArray).size + c1.size := by
              have : (⟨#[48]⟩ : ByteArray).size = 1 := rfl
              omega
            have hnew : ((⟨#[48]⟩ : ByteArray) ++ c1).size = c1.size + 1 := by
              have : (⟨#[48]⟩ : ByteArray).size = 1 := rfl
              simp [this]; omega
            have HN2 : Hid ((⟨#[48]⟩ : ByteArray) ++ c1 = St (List.replicate (((⟨#[48]⟩ : ByteArray) ++ c1).size - (decDigits d2).length) 48 ++ decDigits d2) ∧ (decDigits d2).length ≤ ((⟨#[48]⟩ : ByteArray) ++ c1).size) := by
              obtain ⟨h1, h2⟩ := HC1.out
              refine ⟨?_, by omega⟩
              rw [hnew, show c1.size + 1 - (decDigits d2).length = (c1.size - (decDigits d2).length) + 1 by omega, List.replicate_succ, List.cons_append]
              have h3 := St_app [48] (List.replicate (c1.size - (decDigits d2).length) 48 ++ decDigits d2)
              rw [← h1] at h3
              exact h3
            have HNEW := Lib.hid hnew
            clear hnew HC1
            go_wp2
            go_round
            case rel => exact ⟨_, rfl, by rw [HNEW.out]; omega, HN2⟩
            case measure =>
              show 4 - ((⟨#[48]⟩ : ByteArray) ++ c1).size < 4 - c1.size
              rw [HNEW.out]; omega
          · have h44 : c1.size = 4 := by omega
            have hlt : decide ((c1.size : Int) < 4) = false := by simp; omega
            have hpad := pad4 hd2b HC1.out.1 h44
            have hsz : ¬ 9223372036854775807 < b.size + c1.size := by omega
            have hnew : (b ++ c1).size = b.size + 4 := by simp [h44]
            have HN3 : Hid (∃ t, b ++ c1 = St t ∧ TxtI l i t) := ⟨_, by rw [HS.out.1, hpad, St_app], HS.out.2⟩
            have HNEW := Lib.hid hnew
            clear hnew hpad HC1 h44
            go_wp2
            go_round
            case rel => exact ⟨i, _, rfl, rfl, by omega, by rw [HNEW.out]; omega, HN3⟩
            case measure => simp [intOf]
end Go.Proofs.YtbocpkjajocpiaaGreatDoor

namespace Go.Proofs.YtbocpkjajocpiaaGreatDoor
set_option linter.unusedVariables false
open Go.RowKit Go.Mem Go.Dig

/-- The closure step of addMag. -/
theorem addStep_any (p r cr : Nat) (hp : p < 4294967296) (hr : r < 4294967296) (hcr : cr ≤ 1) (g : Nat) (w : World) (hb : Blk w g 22 #[.int .u64 cr]) :
    Calls Tryz.prog 124 #[.int .u32 p, .int .u32 r, .pointer (some ⟨g, 0, none⟩)] w fun e w' => e = .returned (.int .u32 (((p + r + cr) % 4294967296 : Nat) : Int)) ∧ Blk w' g 22 #[.int .u64 (((p + r + cr) / 4294967296 : Nat) : Int)] ∧ Chg (fun k => k = g) w w' := by
  obtain ⟨v, hv⟩ : ∃ v, p + r + cr = v := ⟨_, rfl⟩
  rw [hv]
  have hvi : (cr : Int) + ((p : Int) + (r : Int)) = (v : Int) := by omega
  have hvb : v ≤ 8589934591 := by omega
  have hc := hb.cell 0 (u := .int .u64 cr) rfl
  have hf := hb.frozen 0
  have HB := Lib.hid hb
  clear hb hv
  go_enter Tryz.func124, Tryz.ntmps124
  go_wp2
  go_ret
  refine ⟨ret_int (by omega), ?_, ((Chg.refl (fun k => k = g) w).setCell (p := ⟨g, 0, none⟩) (fun _ => rfl) _).setCell (p := ⟨g, 0, none⟩) (fun _ => rfl) _⟩
  have := (HB.out.set1 (.int .u64 (v : Int))).set1 (.int .u64 ((v / 4294967296 : Nat) : Int))
  rw [show ((v : Int) / 4294967296) = ((v / 4294967296 : Nat) : Int) by omega]
  exact this
theorem own_frz {w : World} {base : Nat} {e : TypeId} {g n c : Nat} {xs : List Value} (h : w.ownsRow base e 1 (.slice (some ⟨g, 0, none⟩) n c) n xs) (hn : 0 < n) (i : Nat) : w.frozen? ⟨g, i, none⟩ = false := by
  obtain ⟨gg, hgg, _, _, hfz⟩ := own_form h hn
  have : g = gg := by simpa using hgg
  subst this
  exact hfz i
theorem set_mid (o : List Nat) (m k d : Nat) (hk : o.length = k) : (o ++ List.replicate (m + 1) 0).set k d = (o ++ [d]) ++ List.replicate m 0 := by
  subst hk
  rw [List.set_append_right _ _ (Nat.le_refl _), Nat.sub_self, List.replicate_succ, List.set_cons_zero, List.append_assoc]
  rfl

/-- Digits, whatever stands at the end. -/
structure DN (B : Nat) (l : List Nat) (n : Nat) : Prop where
  digs : Digs B l
  val : val B l = n
def WD (w : World) (A : Option Addr) (n c : Nat) (m : Nat) : Prop := ∃ l, Rd w A n (nv .u32 l) ∧ n ≤ c ∧ c ≤ 9223372036854775807 ∧ DN 4294967296 l m
theorem WM.wd {w : World} {A : Option Addr} {n c m : Nat} (h : WM w A n c m) : WD w A n c m := by
  obtain ⟨l, h1, h2, h3, h4⟩ := h
  exact ⟨l, h1, h2, h3, h4.digs, h4.val⟩
/-- What the loops of addMag hold. -/
def AdI (w W : World) (gs gc : Nat) (la lb : List Nat) (n k : Nat) (wr : World) : Prop :=
  ∃ o cr, AddI 4294967296 la lb k o cr ∧ wr.ownsRow gs 108 1 (.slice (some ⟨gs, 0, none⟩) (n + 1) (n + 1)) (n + 1) (nv .u32 (o ++ List.replicate (n + 1 - k) 0)) ∧ Blk wr gc 22 #[.int .u64 cr] ∧ Chg (fun j => j = gs ∨ j = gc) W wr

set_option maxRecDepth 100000 in
set_option maxHeartbeats 4000000 in
theorem addMag_ge (A : Option Addr) (n c : Nat) (A' : Option Addr) (n' c' : Nat) (x y : Nat) (w : World) (hx : WD w A n c x) (hy : WD w A' n' c' y) (hn : n ≤ 1000000) (hnn : n' ≤ n) :
    Calls Tryz.prog 76 #[.slice A n c, .slice A' n' c'] w fun e w' => ∃ R m d, e = .returned (.slice R m d) ∧ Hid (WM w' R m d (x + y) ∧ New w w') := by
  obtain ⟨la, ha, hc1, hc2, hNa⟩ := hx
  obtain ⟨lb, hb, hd1, hd2, hNb⟩ := hy
  have hla : la.length = n := by have := ha.len; rwa [nv_length] at this
  have hlb : lb.length = n' := by have := hb.len; rwa [nv_length] at this
  have H0 := Lib.hid (And.intro ha (And.intro hb (And.intro hNa (And.intro hNb (And.intro hla hlb)))))
  have htest : decide ((n : Int) < (n' : Int)) = false := by simp; omega
  have htest' : decide (n < n') = false := by simp; omega
  clear ha hb hNa hNb hla hlb
  go_enter Tryz.func76, Tryz.ntmps76
  go_wp2_with (at_make; refine wpList_mk elemU32 rfl rfl _ _ rfl (n := n + 1) rfl rfl (by omega) (by omega) (by omega) (by simp only [maxLen]; omega) ?_; intro w1 hown hg hz; have HMK := Lib.hid (And.intro hown (And.intro hg hz)); clear hown hg hz)
  obtain ⟨ho, hnw, hz⟩ := HMK.out
  obtain ⟨gs, hgs⟩ : ∃ g, w.heap.size = g := ⟨_, rfl⟩
  obtain ⟨gc, hgc⟩ : ∃ g, w1.heap.size = g := ⟨_, rfl⟩
  have hgcs : gc = gs + 1 := by omega
  refine Code.new1 ?_
  intro W hbc hnW hzW
  rw [hgs] at ho
  rw [hgc] at hbc
  rw [show List.replicate (n + 1) (Value.int .u32 0) = nv .u32 ([] ++ List.replicate (n + 1 - 0) 0) by simp [nv]] at ho
  have HG := Lib.hid (And.intro hgs hgcs)
  have HW := Lib.hid (And.intro (hnw.new hnW) (And.intro (own_chg ho hnW (fun _ _ h => h)) hbc))
  simp only [hgs, hgc]
  clear hgs hgc hgcs hnw hz ho hbc hnW hzW HMK
  go_loopw [24] (fun i wr => ∃ k : Nat, i = .int .i64 k ∧ k ≤ n' ∧ Hid (AdI w W gs gc la lb n k wr)) (fun i _ => n' - (intOf i).toNat)
  case atStart => exact ⟨0, rfl, by omega, [], 0, AddI.start _ _ _, HW.out.2.1, HW.out.2.2, Chg.refl _ _⟩
  case round =>
    obtain ⟨i, rfl, hi, HO⟩ := hrel
    by_cases hlt : i < n'
    · obtain ⟨wo, rfl⟩ : ∃ wo : World, wo = wr := ⟨_, rfl⟩
      obtain ⟨ha, hb, hNa, hNb, hla, hlb⟩ := H0.out
      obtain ⟨o, cr, hA, hown, hbc, hch⟩ := HO.out
      have hchg : Chg (fun j => j = gs ∨ j = gc) w wo := (HW.out.1.mono (fun _ _ h => h.elim)).trans hch (fun _ _ h => h)
      obtain ⟨ad, u, rfl, hu, hcu⟩ := (ha.chg hchg (fun k _ h e => by have := HG.out; omega)).at_ (show i < n by omega)
      obtain ⟨bd, v, rfl, hv, hcv⟩ := (hb.chg hchg (fun k _ h e => by have := HG.out; omega)).at_ hlt
      obtain ⟨p, hp, rfl⟩ := nv_at hu
      obtain ⟨r, hr, rfl⟩ := nv_at hv
      have hpb := hNa.digs.at_ hp
      have hrb := hNb.digs.at_ hr
      have hst := hA.step (by omega) hNa.digs hNb.digs
      rw [dg_some hp, dg_some hr] at hst
      have hcrb := hA.carry
      obtain ⟨q, hq⟩ : ∃ q, (p + r + cr) % 4294967296 = q := ⟨_, rfl⟩
      obtain ⟨cr2, hcr2⟩ : ∃ c2, (p + r + cr) / 4294967296 = c2 := ⟨_, rfl⟩
      have hol : (o ++ List.replicate (n + 1 - i) 0)[i]? = some 0 := by
        obtain ⟨m, hm⟩ : ∃ m, n + 1 - i = m + 1 := ⟨n - i, by omega⟩
        rw [hm, List.getElem?_append_right (by rw [hA.len]; exact Nat.le_refl _), hA.len, Nat.sub_self, List.replicate_succ]
        rfl
      have hcs := own_cell hown (i := i) (u := .int .u32 (0 : Nat)) (by rw [nv, List.getElem?_map, hol]; rfl)
      obtain ⟨gg, hgg, _, hgsz, hfz⟩ := own_form hown (by omega)
      have hgg' : gs = gg := by simpa using hgg
      subst hgg'
      have hf := hfz i
      have hin : (i : Int) < (n : Int) := by omega
      have hin1 : (i : Int) < (n : Int) + 1 := by omega
      have hstep : ∀ W', New wo W' → Calls Tryz.prog 124 #[.int .u32 p, .int .u32 r, .pointer (some ⟨gc, 0, none⟩)] W' fun e w' => e = .returned (.int .u32 (q : Int)) ∧ Hid (Blk w' gc 22 #[.int .u64 (cr2 : Int)] ∧ Chg (fun k => k = gc) wo w') := fun W' h =>
        (addStep_any p r cr hpb hrb hcrb gc W' (hbc.chg h (fun h => h))).mono fun e w' ⟨h1, h2, h3⟩ => ⟨by rw [h1, hq], by rw [← hcr2]; exact h2, (h.mono (fun _ _ h => h.elim)).trans h3 (fun _ _ h => h)⟩
      rw [hq, hcr2] at hst
      have HS := Lib.hid (And.intro hst (And.intro hown hch))
      have HST := Lib.hid hstep
      have HA := Lib.hid (fun W' (h : Chg (fun k => k = gc) wo W') => And.intro (own_chg hown h (fun k hk e => by have := HG.out; simp [blk] at hk; omega)) (hA.len))
      clear ha hb hNa hNb hla hlb hA hown hbc hch hchg hu hv hp hr hst hol hgg hfz hstep hq hcr2
      go_wp2_with fail
      go_region_with (first
        | (go_at_call 124; refine (HST.out _ ?_).mono ?_; exact (Chg.refl _ _).drew; rintro e w5 ⟨rfl, H5⟩; have hk5 := own_cell (HA.out w5 H5.out.2).1 (i := i) (u := .int .u32 (0 : Nat)) (by rw [nv, List.getElem?_map, List.getElem?_append_right (by rw [(HA.out w5 H5.out.2).2]; exact Nat.le_refl _), (HA.out w5 H5.out.2).2, Nat.sub_self, show n + 1 - i = (n - i) + 1 by omega, List.replicate_succ]; rfl); have hf5 := own_frz (HA.out w5 H5.out.2).1 (by omega) i))
      all_goals
        go_wp2
        go_roundw
        case rel =>
          obtain ⟨hst, _, hch⟩ := HS.out
          obtain ⟨hbc5, hc5⟩ := H5.out
          obtain ⟨hown5, hol⟩ := HA.out w5 hc5
          have hset := own_set hown5 i (.int .u32 (q : Int)) (by omega)
          rw [nv_set, show n + 1 - i = (n - i) + 1 by omega, set_mid o (n - i) i q hol] at hset
          refine ⟨i + 1, by go_num, by omega, o ++ [q], cr2, hst, by rw [show n + 1 - (i + 1) = n - i by omega]; exact hset, hbc5.far (p := ⟨gs, i, none⟩) (by have := HG.out; dsimp only; omega) _, ?_⟩
          exact (hch.trans (hc5.mono (fun _ _ h => .inr h)) (fun _ _ h => h)).setCell (fun _ => .inl rfl) _
        case measure => simp [intOf]; omega
    · obtain rfl : n' = i := by omega
      go_wp2_with fail
      go_loopw [9] (fun v wr => ∃ k : Nat, v = .int .i64 k ∧ n' ≤ k ∧ k ≤ n ∧ Hid (AdI w W gs gc la lb n k wr)) (fun v _ => n - (intOf v).toNat)
      case atStart => exact ⟨n', rfl, Nat.le_refl _, by omega, HO.out⟩
      case round =>
        clear HO
        obtain ⟨wo, rfl⟩ : ∃ wo : World, wo = wr := ⟨_, rfl⟩
        obtain ⟨i, rfl, hi1, hi2, HO⟩ := hrel
        obtain ⟨ha, hb, hNa, hNb, hla, hlb⟩ := H0.out
        obtain ⟨o, cr, hA, hown, hbc, hch⟩ := HO.out
        have hchg : Chg (fun j => j = gs ∨ j = gc) w wo := (HW.out.1.mono (fun _ _ h => h.elim)).trans hch (fun _ _ h => h)
        have hcrb := hA.carry
        by_cases hlt : i < n
        · obtain ⟨ad, u, rfl, hu, hcu⟩ := (ha.chg hchg (fun k _ h e => by have := HG.out; omega)).at_ hlt
          obtain ⟨p, hp, rfl⟩ := nv_at hu
          have hpb := hNa.digs.at_ hp
          have hst := hA.step (by omega) hNa.digs hNb.digs
          rw [dg_some hp, dg_none (by omega)] at hst
          obtain ⟨q, hq⟩ : ∃ q, (p + 0 + cr) % 4294967296 = q := ⟨_, rfl⟩
          obtain ⟨cr2, hcr2⟩ : ∃ c2, (p + 0 + cr) / 4294967296 = c2 := ⟨_, rfl⟩
          rw [hq, hcr2] at hst
          have hstep := addStep_any p 0 cr hpb (by omega) hcrb gc wo hbc
          rw [hq, hcr2, show (((0 : Nat)) : Int) = 0 from rfl] at hstep
          have hkeep := fun W' (h : Chg (fun k => k = gc) wo W') => And.intro (own_chg hown h (fun k hk e => by have := HG.out; simp [blk] at hk; omega)) hA.len
          have HS := Lib.hid (And.intro hst (And.intro hch (And.intro hstep hkeep)))
          have hin : (i : Int) < (n : Int) := by omega
          clear ha hb hNa hNb hla hlb hA hown hbc hch hchg hu hp hst hq hcr2 hstep hkeep
          go_wp2_with fail
          refine HS.out.2.2.1.mono ?_
          rintro e w5 ⟨rfl, hbc5, hc5⟩
          obtain ⟨hown5, hol⟩ := HS.out.2.2.2 w5 hc5
          have hk5 := own_cell hown5 (i := i) (u := .int .u32 (0 : Nat)) (by rw [nv, List.getElem?_map, List.getElem?_append_right (by rw [hol]; exact Nat.le_refl _), hol, Nat.sub_self, show n + 1 - i = (n - i) + 1 by omega, List.replicate_succ]; rfl)
          have hf5 := own_frz hown5 (by omega) i
          have hin1 : (i : Int) < (n : Int) + 1 := by omega
          have H5 := Lib.hid (And.intro hbc5 (And.intro hc5 (And.intro hown5 hol)))
          clear hbc5 hc5 hown5 hol
          go_wp2
          go_roundw
          case rel =>
            obtain ⟨hst, hch, _⟩ := HS.out
            obtain ⟨hbc5, hc5, hown5, hol⟩ := H5.out
            have hset := own_set hown5 i (.int .u32 (q : Int)) (by omega)
            rw [nv_set, show n + 1 - i = (n - i) + 1 by omega, set_mid o (n - i) i q hol] at hset
            refine ⟨i + 1, by go_num, by omega, by omega, o ++ [q], cr2, hst, by rw [show n + 1 - (i + 1) = n - i by omega]; exact hset, hbc5.far (p := ⟨gs, i, none⟩) (by have := HG.out; dsimp only; omega) _, ?_⟩
            exact (hch.trans (hc5.mono (fun _ _ h => .inr h)) (fun _ _ h => h)).setCell (fun _ => .inl rfl) _
          case measure => simp [intOf]; omega
        · obtain rfl : n = i := by omega
          have hk0 := hbc.cell 0 (u := .int .u64 cr) rfl
          have hks := own_cell hown (i := n) (u := .int .u32 (0 : Nat)) (by rw [nv, List.getElem?_map, List.getElem?_append_right (by rw [hA.len]; exact Nat.le_refl _), hA.len, Nat.sub_self, show n + 1 - n = 0 + 1 by omega, List.replicate_succ]; rfl)
          have hfs := own_frz hown (by omega) n
          have hset := own_set hown n (.int .u32 (cr : Int)) (by omega)
          rw [nv_set, show n + 1 - n = 0 + 1 by omega, set_mid o 0 n cr hA.len, List.replicate_zero, List.append_nil] at hset
          have hval : val 4294967296 (o ++ [cr]) = x + y := by
            rw [val_snoc, hA.len, hA.eq, List.take_of_length_le (by omega), List.take_of_length_le (by omega), hNa.val, hNb.val]
          have hdg : Digs 4294967296 (o ++ [cr]) := hA.digs.snoc (by omega)
          have hn1 : New w (wo.setCell ⟨gs, n, none⟩ (.int .u32 (cr : Int))) := Chg.owned HW.out.1 (hch.setCell (p := ⟨gs, n, none⟩) (fun _ => .inl rfl) _) (fun k e => by have := HG.out; omega)
          have hcri : (cr : Int) % 4294967296 = (cr : Int) := by omega
          have HF := Lib.hid (And.intro hset (And.intro hval (And.intro hdg hn1)))
          clear ha hb hNa hNb hla hlb hA hown hbc hch hchg hset hval hdg hn1
          go_wp2_with fail
          obtain ⟨hset, hval, hdg, hn1⟩ := HF.out
          refine (trim_wm _ (n + 1) (n + 1) (o ++ [cr]) _ (Rd.of_own hset) hdg (Nat.le_refl _) (by omega)).mono ?_
          rintro e w2 ⟨T, rfl, HT, rfl⟩
          clear hset hval hdg hn1
          go_wp2
          go_ret
          obtain ⟨hset, hval, hdg, hn1⟩ := HF.out
          have hT := HT.out.1
          rw [hval] at hT
          exact ⟨_, _, _, rfl, hT, hn1⟩

set_option maxRecDepth 100000 in
set_option maxHeartbeats 4000000 in
theorem addMag_lt (A : Option Addr) (n c : Nat) (A' : Option Addr) (n' c' : Nat) (x y : Nat) (w : World) (hx : WD w A n c x) (hy : WD w A' n' c' y) (hn : n ≤ 1000000) (hnn : n' < n) :
    Calls Tryz.prog 76 #[.slice A' n' c', .slice A n c] w fun e w' => ∃ R m d, e = .returned (.slice R m d) ∧ Hid (WM w' R m d (x + y) ∧ New w w') := by
  obtain ⟨la, ha, hc1, hc2, hNa⟩ := hx
  obtain ⟨lb, hb, hd1, hd2, hNb⟩ := hy
  have hla : la.length = n := by have := ha.len; rwa [nv_length] at this
  have hlb : lb.length = n' := by have := hb.len; rwa [nv_length] at this
  have H0 := Lib.hid (And.intro ha (And.intro hb (And.intro hNa (And.intro hNb (And.intro hla hlb)))))
  have htest : (n' : Int) < (n : Int) := by omega
  clear ha hb hNa hNb hla hlb
  go_enter Tryz.func76, Tryz.ntmps76
  go_wp2_with (at_make; refine wpList_mk elemU32 rfl rfl _ _ rfl (n := n + 1) rfl rfl (by omega) (by omega) (by omega) (by simp only [maxLen]; omega) ?_; intro w1 hown hg hz; have HMK := Lib.hid (And.intro hown (And.intro hg hz)); clear hown hg hz)
  obtain ⟨ho, hnw, hz⟩ := HMK.out
  obtain ⟨gs, hgs⟩ : ∃ g, w.heap.size = g := ⟨_, rfl⟩
  obtain ⟨gc, hgc⟩ : ∃ g, w1.heap.size = g := ⟨_, rfl⟩
  have hgcs : gc = gs + 1 := by omega
  refine Code.new1 ?_
  intro W hbc hnW hzW
  rw [hgs] at ho
  rw [hgc] at hbc
  rw [show List.replicate (n + 1) (Value.int .u32 0) = nv .u32 ([] ++ List.replicate (n + 1 - 0) 0) by simp [nv]] at ho
  have HG := Lib.hid (And.intro hgs hgcs)
  have HW := Lib.hid (And.intro (hnw.new hnW) (And.intro (own_chg ho hnW (fun _ _ h => h)) hbc))
  simp only [hgs, hgc]
  clear hgs hgc hgcs hnw hz ho hbc hnW hzW HMK
  go_loopw [24] (fun i wr => ∃ k : Nat, i = .int .i64 k ∧ k ≤ n' ∧ Hid (AdI w W gs gc la lb n k wr)) (fun i _ => n' - (intOf i).toNat)
  case atStart => exact ⟨0, rfl, by omega, [], 0, AddI.start _ _ _, HW.out.2.1, HW.out.2.2, Chg.refl _ _⟩
  case round =>
    obtain ⟨i, rfl, hi, HO⟩ := hrel
    by_cases hlt : i < n'
    · obtain ⟨wo, rfl⟩ : ∃ wo : World, wo = wr := ⟨_, rfl⟩
      obtain ⟨ha, hb, hNa, hNb, hla, hlb⟩ := H0.out
      obtain ⟨o, cr, hA, hown, hbc, hch⟩ := HO.out
      have hchg : Chg (fun j => j = gs ∨ j = gc) w wo := (HW.out.1.mono (fun _ _ h => h.elim)).trans hch (fun _ _ h => h)
      obtain ⟨ad, u, rfl, hu, hcu⟩ := (ha.chg hchg (fun k _ h e => by have := HG.out; omega)).at_ (show i < n by omega)
      obtain ⟨bd, v, rfl, hv, hcv⟩ := (hb.chg hchg (fun k _ h e => by have := HG.out; omega)).at_ hlt
      obtain ⟨p, hp, rfl⟩ := nv_at hu
      obtain ⟨r, hr, rfl⟩ := nv_at hv
      have hpb := hNa.digs.at_ hp
      have hrb := hNb.digs.at_ hr
      have hst := hA.step (by omega) hNa.digs hNb.digs
      rw [dg_some hp, dg_some hr] at hst
      have hcrb := hA.carry
      obtain ⟨q, hq⟩ : ∃ q, (p + r + cr) % 4294967296 = q := ⟨_, rfl⟩
      obtain ⟨cr2, hcr2⟩ : ∃ c2, (p + r + cr) / 4294967296 = c2 := ⟨_, rfl⟩
      have hol : (o ++ List.replicate (n + 1 - i) 0)[i]? = some 0 := by
        obtain ⟨m, hm⟩ : ∃ m, n + 1 - i = m + 1 := ⟨n - i, by omega⟩
        rw [hm, List.getElem?_append_right (by rw [hA.len]; exact Nat.le_refl _), hA.len, Nat.sub_self, List.replicate_succ]
        rfl
      have hcs := own_cell hown (i := i) (u := .int .u32 (0 : Nat)) (by rw [nv, List.getElem?_map, hol]; rfl)
      obtain ⟨gg, hgg, _, hgsz, hfz⟩ := own_form hown (by omega)
      have hgg' : gs = gg := by simpa using hgg
      subst hgg'
      have hf := hfz i
      have hin : (i : Int) < (n : Int) := by omega
      have hin1 : (i : Int) < (n : Int) + 1 := by omega
      have hstep : ∀ W', New wo W' → Calls Tryz.prog 124 #[.int .u32 p, .int .u32 r, .pointer (some ⟨gc, 0, none⟩)] W' fun e w' => e = .returned (.int .u32 (q : Int)) ∧ Hid (Blk w' gc 22 #[.int .u64 (cr2 : Int)] ∧ Chg (fun k => k = gc) wo w') := fun W' h =>
        (addStep_any p r cr hpb hrb hcrb gc W' (hbc.chg h (fun h => h))).mono fun e w' ⟨h1, h2, h3⟩ => ⟨by rw [h1, hq], by rw [← hcr2]; exact h2, (h.mono (fun _ _ h => h.elim)).trans h3 (fun _ _ h => h)⟩
      rw [hq, hcr2] at hst
      have HS := Lib.hid (And.intro hst (And.intro hown hch))
      have HST := Lib.hid hstep
      have HA := Lib.hid (fun W' (h : Chg (fun k => k = gc) wo W') => And.intro (own_chg hown h (fun k hk e => by have := HG.out; simp [blk] at hk; omega)) (hA.len))
      clear ha hb hNa hNb hla hlb hA hown hbc hch hchg hu hv hp hr hst hol hgg hfz hstep hq hcr2
      go_wp2_with fail
      go_region_with (first
        | (go_at_call 124; refine (HST.out _ ?_).mono ?_; exact (Chg.refl _ _).drew; rintro e w5 ⟨rfl, H5⟩; have hk5 := own_cell (HA.out w5 H5.out.2).1 (i := i) (u := .int .u32 (0 : Nat)) (by rw [nv, List.getElem?_map, List.getElem?_append_right (by rw [(HA.out w5 H5.out.2).2]; exact Nat.le_refl _), (HA.out w5 H5.out.2).2, Nat.sub_self, show n + 1 - i = (n - i) + 1 by omega, List.replicate_succ]; rfl); have hf5 := own_frz (HA.out w5 H5.out.2).1 (by omega) i))
      all_goals
        go_wp2
        go_roundw
        case rel =>
          obtain ⟨hst, _, hch⟩ := HS.out
          obtain ⟨hbc5, hc5⟩ := H5.out
          obtain ⟨hown5, hol⟩ := HA.out w5 hc5
          have hset := own_set hown5 i (.int .u32 (q : Int)) (by omega)
          rw [nv_set, show n + 1 - i = (n - i) + 1 by omega, set_mid o (n - i) i q hol] at hset
          refine ⟨i + 1, by go_num, by omega, o ++ [q], cr2, hst, by rw [show n + 1 - (i + 1) = n - i by omega]; exact hset, hbc5.far (p := ⟨gs, i, none⟩) (by have := HG.out; dsimp only; omega) _, ?_⟩
          exact (hch.trans (hc5.mono (fun _ _ h => .inr h)) (fun _ _ h => h)).setCell (fun _ => .inl rfl) _
        case measure => simp [intOf]; omega
    · obtain rfl : n' = i := by omega
      go_wp2_with fail
      go_loopw [9] (fun v wr => ∃ k : Nat, v = .int .i64 k ∧ n' ≤ k ∧ k ≤ n ∧ Hid (AdI w W gs gc la lb n k wr)) (fun v _ => n - (intOf v).toNat)
      case atStart => exact ⟨n', rfl, Nat.le_refl _, by omega, HO.out⟩
      case round =>
        clear HO
        obtain ⟨wo, rfl⟩ : ∃ wo : World, wo = wr := ⟨_, rfl⟩
        obtain ⟨i, rfl, hi1, hi2, HO⟩ := hrel
        obtain ⟨ha, hb, hNa, hNb, hla, hlb⟩ := H0.out
        obtain ⟨o, cr, hA, hown, hbc, hch⟩ := HO.out
        have hchg : Chg (fun j => j = gs ∨ j = gc) w wo := (HW.out.1.mono (fun _ _ h => h.elim)).trans hch (fun _ _ h => h)
        have hcrb := hA.carry
        by_cases hlt : i < n
        · obtain ⟨ad, u, rfl, hu, hcu⟩ := (ha.chg hchg (fun k _ h e => by have := HG.out; omega)).at_ hlt
          obtain ⟨p, hp, rfl⟩ := nv_at hu
          have hpb := hNa.digs.at_ hp
          have hst := hA.step (by omega) hNa.digs hNb.digs
          rw [dg_some hp, dg_none (by omega)] at hst
          obtain ⟨q, hq⟩ : ∃ q, (p + 0 + cr) % 4294967296 = q := ⟨_, rfl⟩
          obtain ⟨cr2, hcr2⟩ : ∃ c2, (p + 0 + cr) / 4294967296 = c2 := ⟨_, rfl⟩
          rw [hq, hcr2] at hst
          have hstep := addStep_any p 0 cr hpb (by omega) hcrb gc wo hbc
          rw [hq, hcr2, show (((0 : Nat)) : Int) = 0 from rfl] at hstep
          have hkeep := fun W' (h : Chg (fun k => k = gc) wo W') => And.intro (own_chg hown h (fun k hk e => by have := HG.out; simp [blk] at hk; omega)) hA.len
          have HS := Lib.hid (And.intro hst (And.intro hch (And.intro hstep hkeep)))
          have hin : (i : Int) < (n : Int) := by omega
          clear ha hb hNa hNb hla hlb hA hown hbc hch hchg hu hp hst hq hcr2 hstep hkeep
          go_wp2_with fail
          refine HS.out.2.2.1.mono ?_
          rintro e w5 ⟨rfl, hbc5, hc5⟩
          obtain ⟨hown5, hol⟩ := HS.out.2.2.2 w5 hc5
          have hk5 := own_cell hown5 (i := i) (u := .int .u32 (0 : Nat)) (by rw [nv, List.getElem?_map, List.getElem?_append_right (by rw [hol]; exact Nat.le_refl _), hol, Nat.sub_self, show n + 1 - i = (n - i) + 1 by omega, List.replicate_succ]; rfl)
          have hf5 := own_frz hown5 (by omega) i
          have hin1 : (i : Int) < (n : Int) + 1 := by omega
          have H5 := Lib.hid (And.intro hbc5 (And.intro hc5 (And.intro hown5 hol)))
          clear hbc5 hc5 hown5 hol
          go_wp2
          go_roundw
          case rel =>
            obtain ⟨hst, hch, _⟩ := HS.out
            obtain ⟨hbc5, hc5, hown5, hol⟩ := H5.out
            have hset := own_set hown5 i (.int .u32 (q : Int)) (by omega)
            rw [nv_set, show n + 1 - i = (n - i) + 1 by omega, set_mid o (n - i) i q hol] at hset
            refine ⟨i + 1, by go_num, by omega, by omega, o ++ [q], cr2, hst, by rw [show n + 1 - (i + 1) = n - i by omega]; exact hset, hbc5.far (p := ⟨gs, i, none⟩) (by have := HG.out; dsimp only; omega) _, ?_⟩
            exact (hch.trans (hc5.mono (fun _ _ h => .inr h)) (fun _ _ h => h)).setCell (fun _ => .inl rfl) _
          case measure => simp [intOf]; omega
        · obtain rfl : n = i := by omega
          have hk0 := hbc.cell 0 (u := .int .u64 cr) rfl
          have hks := own_cell hown (i := n) (u := .int .u32 (0 : Nat)) (by rw [nv, List.getElem?_map, List.getElem?_append_right (by rw [hA.len]; exact Nat.le_refl _), hA.len, Nat.sub_self, show n + 1 - n = 0 + 1 by omega, List.replicate_succ]; rfl)
          have hfs := own_frz hown (by omega) n
          have hset := own_set hown n (.int .u32 (cr : Int)) (by omega)
          rw [nv_set, show n + 1 - n = 0 + 1 by omega, set_mid o 0 n cr hA.len, List.replicate_zero, List.append_nil] at hset
          have hval : val 4294967296 (o ++ [cr]) = x + y := by
            rw [val_snoc, hA.len, hA.eq, List.take_of_length_le (by omega), List.take_of_length_le (by omega), hNa.val, hNb.val]
          have hdg : Digs 4294967296 (o ++ [cr]) := hA.digs.snoc (by omega)
          have hn1 : New w (wo.setCell ⟨gs, n, none⟩ (.int .u32 (cr : Int))) := Chg.owned HW.out.1 (hch.setCell (p := ⟨gs, n, none⟩) (fun _ => .inl rfl) _) (fun k e => by have := HG.out; omega)
          have hcri : (cr : Int) % 4294967296 = (cr : Int) := by omega
          have HF := Lib.hid (And.intro hset (And.intro hval (And.intro hdg hn1)))
          clear ha hb hNa hNb hla hlb hA hown hbc hch hchg hset hval hdg hn1
          go_wp2_with fail
          obtain ⟨hset, hval, hdg, hn1⟩ := HF.out
          refine (trim_wm _ (n + 1) (n + 1) (o ++ [cr]) _ (Rd.of_own hset) hdg (Nat.le_refl _) (by omega)).mono ?_
          rintro e w2 ⟨T, rfl, HT, rfl⟩
          clear hset hval hdg hn1
          go_wp2
          go_ret
          obtain ⟨hset, hval, hdg, hn1⟩ := HF.out
          have hT := HT.out.1
          rw [hval] at hT
          exact ⟨_, _, _, rfl, hT, hn1⟩

theorem addMag_wd (A : Option Addr) (n c : Nat) (A' : Option Addr) (n' c' : Nat) (x y : Nat) (w : World) (hx : WD w A n c x) (hy : WD w A' n' c' y) (hn : n ≤ 1000000) (hn' : n' ≤ 1000000) :
    Calls Tryz.prog 76 #[.slice A n c, .slice A' n' c'] w fun e w' => ∃ R m d, e = .returned (.slice R m d) ∧ Hid (WM w' R m d (x + y) ∧ New w w') := by
  rcases Nat.lt_or_ge n n' with h | h
  · have := addMag_lt A' n' c' A n c y x w hy hx hn' h
    rwa [Nat.add_comm y x] at this
  · exact addMag_ge A n c A' n' c' x y w hx hy hn h
theorem addMag_any (A : Option Addr) (n c : Nat) (A' : Option Addr) (n' c' : Nat) (x y : Nat) (w : World) (hx : WM w A n c x) (hy : WM w A' n' c' y) (hn : n ≤ 1000000) (hn' : n' ≤ 1000000) :
    Calls Tryz.prog 76 #[.slice A n c, .slice A' n' c'] w fun e w' => ∃ R m d, e = .returned (.slice R m d) ∧ Hid (WM w' R m d (x + y) ∧ New w w') :=
  addMag_wd A n c A' n' c' x y w hx.wd hy.wd hn hn'
end Go.Proofs.YtbocpkjajocpiaaGreatDoor

namespace Go.Mem
set_option linter.unusedVariables false
open Go.RowKit
/-- copy of a whole slice into a row of the call's own. -/
theorem wpList_cp {P : Program} {w : World} {t e : TypeId} {z : Value} {bytes : Nat} (hE : Elem P t e z bytes) {ops : Array Oper} {rest : List Oper} {o : Oper} {a : Act} {Q : Exit → Act → World → Prop} (hgd : o.guard = none) (d s : Operand)
    (ho : o.op = .call { callee := .builtin .copy, args := #[d, s], argTypes := #[t, t] }) {g n base k : Nat} {xs ys : List Value} (hd : a.eval d = .slice (some ⟨g, 0, none⟩) k k) (hown : w.ownsRow base e 1 (.slice (some ⟨g, 0, none⟩) k k) k xs)
    {A : Option Addr} {c : Nat} (hs : a.eval s = .slice A n c) (hnk : n ≤ k) (hr : Rd w A n ys) (h1 : ∀ v ∈ ys, v.oneCell' = true)
    (h : ∀ w', w'.ownsRow base e 1 (.slice (some ⟨g, 0, none⟩) k k) k (ys ++ xs.drop n) → Chg (fun j => j = g) w w' → wpList P ops Q rest (a.put o.dst (goInt n)) w') :
    wpList P ops Q (o :: rest) a w := by
  obtain ⟨ht, ⟨i, hi, hz0, hz1, hz2⟩, hzs⟩ := hE
  have hsz : (P.info? e).map (·.size) = some 1 := by rw [hi]; simp [hz1]
  have hyl := hr.len
  rcases hown.2 with ⟨hv, _⟩ | ⟨g', cap, cur, hv, hbg, hg, hnc, hcm, hcs, htake⟩
  · cases hv
  · injection hv with hv1 _ hv3
    injection hv1 with hv1
    injection hv1 with hv1
    subst hv1 hv3
    rw [Nat.mul_one] at hcs htake
    have hxs : cur.toList = xs := by rw [← htake, List.take_of_length_le (by simp [hcs])]
    rcases Nat.eq_zero_or_pos n with h0 | h0
    · subst h0
      have hy0 : ys = [] := List.eq_nil_of_length_eq_zero hyl
      subst hy0
      refine wpList_copy_nothing hgd d s t t ho e ht hsz _ _ _ _ _ _ hd hs (by simp) ?_
      exact h w (by simpa using hown) (Chg.refl _ _)
    · obtain ⟨ad, rfl, hcell⟩ := hr.2 h0
      refine wpList_copy_own hgd d s t t ho e ht hsz g 0 k k ad n c hd hs cur e hg ys (by rw [hyl]; simp [Nat.min_eq_left hnk]) hcell (by rw [hyl, hcs]; omega) h1 ?_
      rw [hyl]
      refine h _ ⟨?_, .inr ⟨g, k, _, rfl, hbg, setRow_heap w g cur _ e _ hg, Nat.le_refl _, hcm, ?_, ?_⟩⟩ ⟨rfl, rfl, rfl, by simp [World.setRow], fun j hj hn => setRow_other w g j _ hn⟩
      · have := hown.1
        rw [List.length_append, List.length_drop, hyl, this]; omega
      · rw [hxs]
        have := hown.1
        simp only [List.size_toArray, List.length_append, List.length_take, List.length_drop, hyl, this]
        omega
      · have := hown.1
        rw [hxs, List.take_zero, List.nil_append, Nat.zero_add, Nat.mul_one, List.take_of_length_le]
        rw [List.length_append, List.length_drop, hyl, this]; omega
end Go.Mem
namespace Go.Proofs.YtbocpkjajocpiaaGreatDoor
set_option linter.unusedVariables false
open Go.RowKit Go.Mem Go.Dig

theorem subWrap {d t v b : Nat} (hd : d < 4294967296) (ht : t ≤ 4294967296) (hv : v + t = d + 4294967296 * b) (hb : b ≤ 1) (hvb : v < 4294967296) : IntKind.u32.wrap ((d : Int) - (t : Int) % 4294967296) = (v : Int) := by
  rw [IntKind.wrap_u32]
  omega

set_option maxHeartbeats 1000000 in
/-- The closure step of subMag. -/
theorem subStep_any (i n y br d : Nat) (l : List Nat) (hi : i < n) (hn : n ≤ 1000000) (hy : y < 4294967296) (hbr : br ≤ 1) (gb gl g : Nat) (hg1 : gb ≠ g) (hg2 : gl ≠ g) (hg3 : gb ≠ gl) (w : World) (hb : Blk w gb 22 #[.int .u64 br]) (hl : Blk w gl 33 #[.slice (some ⟨g, 0, none⟩) n n])
    (hown : w.ownsRow g 108 1 (.slice (some ⟨g, 0, none⟩) n n) n (nv .u32 l)) (hd : l[i]? = some d) (hdb : d < 4294967296) :
    Calls Tryz.prog 157 #[.int .i64 i, .int .u32 y, .pointer (some ⟨gb, 0, none⟩), .pointer (some ⟨gl, 0, none⟩)] w fun e w' => (∃ v, e = .returned v) ∧ ∃ v b : Nat, v < 4294967296 ∧ b ≤ 1 ∧ v + y + br = d + 4294967296 * b ∧
      Blk w' gb 22 #[.int .u64 b] ∧ w'.ownsRow g 108 1 (.slice (some ⟨g, 0, none⟩) n n) n (nv .u32 (l.set i v)) ∧ Chg (fun k => k = gb ∨ k = g) w w' := by
  have hc := hb.cell 0 (u := .int .u64 br) rfl
  have hf := hb.frozen 0
  have hcl := hl.cell 0 (u := .slice (some ⟨g, 0, none⟩) n n) rfl
  have hcd := own_cell hown (i := i) (u := .int .u32 (d : Nat)) (by rw [nv, List.getElem?_map, hd]; rfl)
  have hfd := own_frz hown (by omega) i
  obtain ⟨t, ht⟩ : ∃ t, y + br = t := ⟨_, rfl⟩
  have hti : (y : Int) + (br : Int) = (t : Int) := by omega
  have htb : t ≤ 4294967296 := by omega
  have HB := Lib.hid (And.intro hb hown)
  have hii : (i : Int) < (n : Int) := by omega
  clear hb hown hl hd
  have fin : ∀ v b : Nat, v < 4294967296 → Blk (((w.setCell ⟨gb, 0, none⟩ (.int .u64 0)).setCell ⟨gb, 0, none⟩ (.int .u64 (b : Int))).setCell ⟨g, i, none⟩ (.int .u32 (v : Int))) gb 22 #[.int .u64 (b : Int)] ∧
      (((w.setCell ⟨gb, 0, none⟩ (.int .u64 0)).setCell ⟨gb, 0, none⟩ (.int .u64 (b : Int))).setCell ⟨g, i, none⟩ (.int .u32 (v : Int))).ownsRow g 108 1 (.slice (some ⟨g, 0, none⟩) n n) n (nv .u32 (l.set i v)) ∧ Chg (fun k => k = gb ∨ k = g) w (((w.setCell ⟨gb, 0, none⟩ (.int .u64 0)).setCell ⟨gb, 0, none⟩ (.int .u64 (b : Int))).setCell ⟨g, i, none⟩ (.int .u32 (v : Int))) := fun v b hv => by
    obtain ⟨hb, hown⟩ := HB.out
    refine ⟨(((hb.set1 _).set1 _).far (p := ⟨g, i, none⟩) hg1 _), ?_, (((Chg.refl (fun k => k = gb ∨ k = g) w).setCell (p := ⟨gb, 0, none⟩) (fun _ => .inl rfl) _).setCell (p := ⟨gb, 0, none⟩) (fun _ => .inl rfl) _).setCell (p := ⟨g, i, none⟩) (fun _ => .inr rfl) _⟩
    have h1 : Chg (fun k => k = gb) w ((w.setCell ⟨gb, 0, none⟩ (.int .u64 0)).setCell ⟨gb, 0, none⟩ (.int .u64 (b : Int))) := ((Chg.refl (fun k => k = gb) w).setCell (p := ⟨gb, 0, none⟩) (fun _ => rfl) _).setCell (p := ⟨gb, 0, none⟩) (fun _ => rfl) _
    have h2 := own_set (own_chg hown h1 (fun k hk e => by simp [blk] at hk; omega)) i (.int .u32 (v : Int)) hi
    rwa [nv_set] at h2
  have HF := Lib.hid fin
  clear fin
  by_cases hlt : d < t
  · have hgt : (d : Int) < (t : Int) := by omega
    obtain ⟨v, hv⟩ : ∃ v, d + 4294967296 - t = v := ⟨_, rfl⟩
    have hvw : IntKind.u32.wrap ((d : Int) - (t : Int) % 4294967296) = (v : Int) := subWrap hdb htb (b := 1) (by omega) (by omega) (by omega)
    have HV : Hid (v < 4294967296 ∧ v + y + br = d + 4294967296 * 1) := ⟨by omega, by omega⟩
    clear hv ht
    go_enter Tryz.func157, Tryz.ntmps157
    go_wp2
    refine bodyPost_end (results_none rfl _ _ _) rfl ⟨⟨_, rfl⟩, v, 1, HV.out.1, by omega, HV.out.2, ?_⟩
    have := HF.out v 1 HV.out.1
    rwa [show ((1 : Nat) : Int) = 1 from rfl] at this
  · have hgt : decide ((d : Int) < (t : Int)) = false := by simp; omega
    have hgt' : decide (d < t) = false := by simp; omega
    obtain ⟨v, hv⟩ : ∃ v, d - t = v := ⟨_, rfl⟩
    have hvw : (d : Int) - (t : Int) = (v : Int) := by omega
    have htm : (t : Int) % 4294967296 = (t : Int) := by omega
    have HV : Hid (v < 4294967296 ∧ v + y + br = d + 4294967296 * 0) := ⟨by omega, by omega⟩
    have htd : t ≤ d := by omega
    clear hv ht
    go_enter Tryz.func157, Tryz.ntmps157
    go_wp2
    refine bodyPost_end (results_none rfl _ _ _) rfl ⟨⟨_, rfl⟩, v, 0, HV.out.1, by omega, HV.out.2, ?_⟩
    obtain ⟨hb, hown⟩ := HB.out
    have h1 : Chg (fun k => k = gb) w (w.setCell ⟨gb, 0, none⟩ (.int .u64 0)) := (Chg.refl (fun k => k = gb) w).setCell (p := ⟨gb, 0, none⟩) (fun _ => rfl) _
    have h2 := own_set (own_chg hown h1 (fun k hk e => by simp [blk] at hk; omega)) i (.int .u32 (v : Int)) hi
    rw [nv_set] at h2
    exact ⟨(hb.set1 (.int .u64 0)).far (p := ⟨g, i, none⟩) hg1 _, h2, (h1.mono (fun _ _ h => .inl h)).setCell (p := ⟨g, i, none⟩) (fun _ => .inr rfl) _⟩

/-- What the loops of subMag hold. -/
def SbI (W : World) (gs gl gb : Nat) (la lb : List Nat) (n k br : Nat) (wr : World) : Prop :=
  ∃ o, SubI 4294967296 la lb k o br ∧ wr.ownsRow gs 108 1 (.slice (some ⟨gs, 0, none⟩) n n) n (nv .u32 (o ++ la.drop k)) ∧ Blk wr gb 22 #[.int .u64 br] ∧ Blk wr gl 33 #[.slice (some ⟨gs, 0, none⟩) n n] ∧ Chg (fun j => j = gs ∨ j = gb) W wr
theorem set_drop {o la : List Nat} {k d : Nat} (hk : o.length = k) (hd : la[k]? = some d) (v : Nat) : (o ++ la.drop k).set k v = (o ++ [v]) ++ la.drop (k + 1) := by
  subst hk
  obtain ⟨h, rfl⟩ := List.getElem?_eq_some_iff.1 hd
  rw [List.set_append_right _ _ (Nat.le_refl _), Nat.sub_self, List.drop_eq_getElem_cons h, List.set_cons_zero, List.append_assoc]
  rfl
theorem at_drop {o la : List Nat} {k d : Nat} (hk : o.length = k) (hd : la[k]? = some d) : (o ++ la.drop k)[k]? = some d := by
  subst hk
  rw [List.getElem?_append_right (Nat.le_refl _), Nat.sub_self, List.getElem?_drop, Nat.add_zero, hd]
/-- One step. -/
theorem sbi_step {W : World} {gs gl gb : Nat} {la lb : List Nat} {n k br y d : Nat} {wo : World} (hla : la.length = n) (hk : k < n) (hn : n ≤ 1000000) (hda : Digs 4294967296 la) (hdb : Digs 4294967296 lb) (hd : la[k]? = some d) (hy : dg lb k = y) (hg : gs < gl ∧ gl < gb) (h : SbI W gs gl gb la lb n k br wo) :
    Calls Tryz.prog 157 #[.int .i64 k, .int .u32 y, .pointer (some ⟨gb, 0, none⟩), .pointer (some ⟨gl, 0, none⟩)] wo fun e w' => (∃ v, e = .returned v) ∧ ∃ b : Nat, b ≤ 1 ∧ Hid (SbI W gs gl gb la lb n (k + 1) b w') := by
  obtain ⟨o, hS, hown, hbb, hbl, hch⟩ := h
  have hyb := dg_lt hdb (by omega) k
  rw [hy] at hyb
  refine (subStep_any k n y br d _ hk hn hyb hS.borrow gb gl gs (by omega) (by omega) (by omega) wo hbb hbl hown (at_drop hS.len hd) (hda.at_ hd)).mono ?_
  rintro e w' ⟨hv, v, b, h1, h2, h3, h4, h5, h6⟩
  refine ⟨hv, b, h2, o ++ [v], hS.step (by omega) hda hdb h1 h2 (by rw [hy, dg_some hd]; exact h3), ?_, h4, hbl.chg h6 (by omega), ?_⟩
  · rw [set_drop hS.len hd] at h5; exact h5
  · exact hch.trans h6 (fun _ _ h => by omega)

set_option maxRecDepth 100000 in
set_option maxHeartbeats 4000000 in
theorem subMag_any (A : Option Addr) (n c : Nat) (A' : Option Addr) (n' c' : Nat) (x y : Nat) (w : World) (hx : WM w A n c x) (hy : WM w A' n' c' y) (hle : y ≤ x) (hn : n ≤ 1000000) :
    Calls Tryz.prog 126 #[.slice A n c, .slice A' n' c'] w fun e w' => ∃ R m d, e = .returned (.slice R m d) ∧ Hid (WM w' R m d (x - y) ∧ New w w') := by
  obtain ⟨la, ha, hc1, hc2, hNa⟩ := hx
  obtain ⟨lb, hb, hd1, hd2, hNb⟩ := hy
  have hla : la.length = n := by have := ha.len; rwa [nv_length] at this
  have hlb : lb.length = n' := by have := hb.len; rwa [nv_length] at this
  have hnn : n' ≤ n := by
    rcases Nat.lt_or_ge n n' with h | h
    · have := hNa.len_lt (by omega) hNb (by omega); omega
    · exact h
  have H0 := Lib.hid (And.intro ha (And.intro hb (And.intro hNa (And.intro hNb (And.intro hla (And.intro hlb hle))))))
  clear ha hb hNa hNb hla hlb hle
  go_enter Tryz.func126, Tryz.ntmps126
  go_wp2_with (first
    | (at_make; refine wpList_mk elemU32 rfl rfl _ _ rfl (n := n) rfl rfl rfl rfl (by omega) (by simp only [maxLen]; omega) ?_; intro w1 hown hg hz; have HMK := Lib.hid (And.intro hown (And.intro hg hz)); clear hown hg hz)
    | ((with_reducible refine wpList_cp elemU32 rfl (.tmp 14) (.tmp 15) rfl rfl (HMK.out.1.alloc _) rfl (Nat.le_refl _) (H0.out.1.new (HMK.out.2.1.alloc _)) (nv_one _) ?_); intro w2 hown2 hch2; have HCP := Lib.hid (And.intro hown2 hch2); clear hown2 hch2))
  obtain ⟨ho, hnw, hz⟩ := HMK.out
  obtain ⟨hown2, hch2⟩ := HCP.out
  have hb0 := Blk.new w1 33 #[.slice (some ⟨w.heap.size, 0, none⟩) n n]
  have hbl2 := hb0.chg hch2 (by omega)
  have hnw2 : New w w2 := Chg.owned (hnw.alloc _) hch2 (fun k e => by omega)
  rw [List.drop_of_length_le (by simp), List.append_nil] at hown2
  refine Code.new1 ?_
  intro W hbb hnW hzW
  obtain ⟨gs, hgs⟩ : ∃ g, w.heap.size = g := ⟨_, rfl⟩
  obtain ⟨gl, hgl⟩ : ∃ g, w1.heap.size = g := ⟨_, rfl⟩
  obtain ⟨gb, hgb⟩ : ∃ g, w2.heap.size = g := ⟨_, rfl⟩
  have hlt : gs < gl ∧ gl < gb := by have h1 := hbl2.lt; omega
  rw [hgs] at hown2 hbl2
  rw [hgl] at hbl2
  rw [hgb] at hbb
  have HW : Hid (New w W ∧ SbI W gs gl gb la lb n 0 0 W) := ⟨hnw2.new hnW, [], SubI.start _ _ _, own_chg hown2 hnW (fun _ _ h => h), hbb, hbl2.chg hnW (fun h => h), Chg.refl _ _⟩
  have HG := Lib.hid (And.intro hgs hlt)
  simp only [hgs, hgl, hgb]
  clear ho hnw hz hown2 hch2 hb0 hbl2 hnw2 hbb hnW hzW hgs hgl hgb hlt HMK HCP
  go_loopw [20] (fun v wr => ∃ k br : Nat, v = .int .i64 k ∧ k ≤ n' ∧ br ≤ 1 ∧ Hid (SbI W gs gl gb la lb n k br wr)) (fun v _ => n' - (intOf v).toNat)
  case atStart => exact ⟨0, 0, rfl, by omega, by omega, HW.out.2⟩
  case round =>
    obtain ⟨i, br, rfl, hi, hbr, HO⟩ := hrel
    by_cases hlt : i < n'
    · obtain ⟨wo, rfl⟩ : ∃ wo : World, wo = wr := ⟨_, rfl⟩
      obtain ⟨ha, hb, hNa, hNb, hla, hlb, hle⟩ := H0.out
      have hchg : Chg (fun j => j = gs ∨ j = gb) w wo := (HW.out.1.mono (fun _ _ h => h.elim)).trans HO.out.choose_spec.2.2.2.2 (fun _ _ h => h)
      obtain ⟨bd, v, rfl, hv, hcv⟩ := (hb.chg hchg (fun k _ h e => by have := HG.out; omega)).at_ hlt
      obtain ⟨r, hr, rfl⟩ := nv_at hv
      obtain ⟨d, hd⟩ : ∃ d, la[i]? = some d := ⟨_, List.getElem?_eq_getElem (by omega)⟩
      have hst := sbi_step hla (show i < n by omega) hn hNa.digs hNb.digs hd (dg_some hr) HG.out.2 HO.out
      have HS := Lib.hid hst
      clear ha hb hNa hNb hla hlb hle hchg hv hr hd hst
      go_wp2_with fail
      refine HS.out.mono ?_
      rintro e w5 ⟨⟨ve, rfl⟩, b, hb1, H5⟩
      go_wp2
      go_roundw
      case rel => exact ⟨i + 1, b, by go_num, by omega, hb1, H5.out⟩
      case measure => simp [intOf]; omega
    · obtain rfl : n' = i := by omega
      go_wp2_with fail
      go_loopw [10] (fun v wr => ∃ k br : Nat, v = .int .i64 k ∧ n' ≤ k ∧ k ≤ n ∧ br ≤ 1 ∧ Hid (SbI W gs gl gb la lb n k br wr)) (fun v _ => n - (intOf v).toNat)
      case atStart => exact ⟨n', br, rfl, Nat.le_refl _, hnn, hbr, HO.out⟩
      case round =>
        clear HO
        obtain ⟨wo, rfl⟩ : ∃ wo : World, wo = wr := ⟨_, rfl⟩
        obtain ⟨i, br, rfl, hi1, hi2, hbr, HO⟩ := hrel
        obtain ⟨o, hS, hown, hbb, hbl, hch⟩ := HO.out
        have kb := hbb.cell 0 (u := .int .u64 br) rfl
        have kl := hbl.cell 0 (u := .slice (some ⟨gs, 0, none⟩) n n) rfl
        have HX := Lib.hid (And.intro hS (And.intro hown hch))
        clear hS hown hbb hbl hch
        by_cases hgo : i < n ∧ br = 1
        · obtain ⟨hlt, rfl⟩ := hgo
          obtain ⟨ha, hb, hNa, hNb, hla, hlb, hle⟩ := H0.out
          obtain ⟨d, hd⟩ : ∃ d, la[i]? = some d := ⟨_, List.getElem?_eq_getElem (by omega)⟩
          have hst := sbi_step hla hlt hn hNa.digs hNb.digs hd (dg_none (l := lb) (by omega)) HG.out.2 HO.out
          rw [show ((0 : Nat) : Int) = 0 from rfl] at hst
          have HS := Lib.hid hst
          have hlti : (i : Int) < (n : Int) := by omega
          clear ha hb hNa hNb hla hlb hle hd hst HX
          go_wp2_with fail
          refine HS.out.mono ?_
          rintro e w5 ⟨⟨ve, rfl⟩, b, hb1, H5⟩
          go_wp2
          go_roundw
          case rel => exact ⟨i + 1, b, by go_num, by omega, by omega, hb1, H5.out⟩
          case measure => simp [intOf]; omega
        · have hfin : val 4294967296 (o ++ la.drop i) = x - y ∧ Digs 4294967296 (o ++ la.drop i) ∧ Rd wo (some ⟨gs, 0, none⟩) n (nv .u32 (o ++ la.drop i)) ∧ New w wo := by
            obtain ⟨ha, hb, hNa, hNb, hla, hlb, hle⟩ := H0.out
            obtain ⟨hS, hown, hch⟩ := HX.out
            refine ⟨?_, hS.digs.app (hNa.digs.drop i), Rd.of_own hown, Chg.owned HW.out.1 hch (fun k e => by have := HG.out; omega)⟩
            have hbz : br = 0 := by
              rcases Nat.lt_or_ge i n with h | h
              · omega
              · obtain rfl : i = n := by omega
                have e := hS.eq
                rw [List.take_of_length_le (by omega), List.take_of_length_le (by omega), hNa.val, hNb.val] at e
                have hv := val_lt hS.digs
                rw [hS.len] at hv
                have hbr0 : br = 0 ∨ br = 1 := by omega
                rcases hbr0 with h0 | h0
                · exact h0
                · rw [h0, Nat.mul_one] at e; omega
            have e := hS.eq
            rw [hbz, Nat.mul_zero, Nat.add_zero, List.take_of_length_le (l := lb) (by omega), hNb.val] at e
            have hsp := val_split 4294967296 la i (by omega)
            rw [hNa.val] at hsp
            rw [val_append, hS.len]
            omega
          have HF := Lib.hid hfin
          clear hfin HX
          have hguard : (i < n ∧ br = 0) ∨ ¬ i < n := by omega
          clear hgo
          rcases hguard with ⟨hlt, rfl⟩ | hlt
          · have hlti : (i : Int) < (n : Int) := by omega
            go_wp2_with fail
            obtain ⟨hval, hdg, hrd, hnw⟩ := HF.out
            refine (trim_wm _ n n (o ++ la.drop i) wo hrd hdg (Nat.le_refl _) (by omega)).mono ?_
            rintro e w2 ⟨T, rfl, HT, rfl⟩
            clear hval hdg hrd hnw
            go_wp2
            go_ret
            obtain ⟨hval, hdg, hrd, hnw⟩ := HF.out
            have hT := HT.out.1
            rw [hval] at hT
            exact ⟨_, _, _, rfl, hT, hnw⟩
          · have hlti : decide ((i : Int) < (n : Int)) = false := by simp; omega
            have hlti' : decide (i < n) = false := by simp; omega
            go_wp2_with fail
            obtain ⟨hval, hdg, hrd, hnw⟩ := HF.out
            refine (trim_wm _ n n (o ++ la.drop i) wo hrd hdg (Nat.le_refl _) (by omega)).mono ?_
            rintro e w2 ⟨T, rfl, HT, rfl⟩
            clear hval hdg hrd hnw
            go_wp2
            go_ret
            obtain ⟨hval, hdg, hrd, hnw⟩ := HF.out
            have hT := HT.out.1
            rw [hval] at hT
            exact ⟨_, _, _, rfl, hT, hnw⟩
end Go.Proofs.YtbocpkjajocpiaaGreatDoor
