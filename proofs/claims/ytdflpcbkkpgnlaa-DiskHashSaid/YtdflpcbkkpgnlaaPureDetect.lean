/- One inverted bit behind the length of a frame is found, on plain bytes: the hash is one to one in each word. -/
import Derived.Test.YtdflpcbkkpgnlaaPureEq
namespace Go.Pure
open Go.RowKit

/-- One mixing step on numbers. -/
def mixN (a b : Nat) : Nat := ((a ^^^ b) * 11400714819323198485 % 18446744073709551616) ^^^ ((a ^^^ b) * 11400714819323198485 % 18446744073709551616 / 4294967296)
theorem xor_lt64 {a b : Nat} (ha : a < 18446744073709551616) (hb : b < 18446744073709551616) : a ^^^ b < 18446744073709551616 := Nat.xor_lt_two_pow (n := 64) ha hb
theorem mixI_nat {a b : Nat} (ha : a < 18446744073709551616) (hb : b < 18446744073709551616) : mixI (a : Int) (b : Int) = (mixN a b : Int) := by
  unfold mixI mixN
  rw [u64_xor_nat a b ha hb, IntKind.wrap_u64]
  generalize a ^^^ b = x
  have e1 : (x : Int) * 11400714819323198485 % 18446744073709551616 = ((x * 11400714819323198485 % 18446744073709551616 : Nat) : Int) := by omega
  rw [e1]
  have hm : x * 11400714819323198485 % 18446744073709551616 < 18446744073709551616 := Nat.mod_lt _ (by omega)
  generalize x * 11400714819323198485 % 18446744073709551616 = m at *
  have e2 : (m : Int) / 4294967296 = ((m / 4294967296 : Nat) : Int) := by omega
  rw [e2, u64_xor_nat _ _ hm (by omega)]
theorem mixI_zero {a : Nat} (ha : a < 18446744073709551616) : mixI (a : Int) 0 = (mixN a 0 : Int) := by
  have h := mixI_nat ha (b := 0) (by omega)
  rw [show ((0 : Nat) : Int) = 0 from rfl] at h
  exact h
theorem mixN_lt {a b : Nat} : mixN a b < 18446744073709551616 := by
  unfold mixN
  have hm : (a ^^^ b) * 11400714819323198485 % 18446744073709551616 < 18446744073709551616 := Nat.mod_lt _ (by omega)
  exact xor_lt64 hm (by omega)
theorem xorshift_inj {m n : Nat} (hm : m < 18446744073709551616) (hn : n < 18446744073709551616) (h : m ^^^ (m / 4294967296) = n ^^^ (n / 4294967296)) : m = n := by
  have key : ∀ x : Nat, x < 18446744073709551616 → (x ^^^ (x / 4294967296)) ^^^ ((x ^^^ (x / 4294967296)) / 4294967296) = x := by
    intro x hx
    have e : ∀ y : Nat, y / 4294967296 = y >>> 32 := fun y => by rw [Nat.shiftRight_eq_div_pow]
    rw [e, e, Nat.shiftRight_xor_distrib, ← Nat.shiftRight_add]
    have h0 : x >>> (32 + 32) = 0 := by rw [Nat.shiftRight_eq_div_pow]; exact Nat.div_eq_of_lt hx
    rw [h0, Nat.xor_zero, Nat.xor_assoc, Nat.xor_self, Nat.xor_zero]
  rw [← key m hm, h, key n hn]
theorem mul_inj64 {a b : Nat} (ha : a < 18446744073709551616) (hb : b < 18446744073709551616) (h : a * 11400714819323198485 % 18446744073709551616 = b * 11400714819323198485 % 18446744073709551616) : a = b := by
  have key : ∀ x : Nat, x < 18446744073709551616 → (x * 11400714819323198485 % 18446744073709551616) * 17428512612931826493 % 18446744073709551616 = x := by
    intro x hx
    rw [Nat.mod_mul_mod, Nat.mul_assoc, Nat.mul_mod]
    have : 11400714819323198485 * 17428512612931826493 % 18446744073709551616 = 1 := by decide
    rw [this, Nat.mul_one, Nat.mod_mod, Nat.mod_eq_of_lt hx]
  rw [← key a ha, h, key b hb]
theorem xor_left_inj {a b c : Nat} (h : a ^^^ b = a ^^^ c) : b = c := by
  have : a ^^^ (a ^^^ b) = a ^^^ (a ^^^ c) := by rw [h]
  rwa [← Nat.xor_assoc, ← Nat.xor_assoc, Nat.xor_self, Nat.zero_xor, Nat.zero_xor] at this
theorem mixN_xor {a b c d : Nat} (ha : a < 18446744073709551616) (hb : b < 18446744073709551616) (hc : c < 18446744073709551616) (hd : d < 18446744073709551616) (h : mixN a b = mixN c d) : a ^^^ b = c ^^^ d := by
  unfold mixN at h
  exact mul_inj64 (xor_lt64 ha hb) (xor_lt64 hc hd) (xorshift_inj (Nat.mod_lt _ (by omega)) (Nat.mod_lt _ (by omega)) h)
theorem mixN_right {a b c : Nat} (ha : a < 18446744073709551616) (hb : b < 18446744073709551616) (hc : c < 18446744073709551616) (h : mixN a b = mixN a c) : b = c := xor_left_inj (mixN_xor ha hb ha hc h)
theorem mixN_left {a b c : Nat} (ha : a < 18446744073709551616) (hb : b < 18446744073709551616) (hc : c < 18446744073709551616) (h : mixN b a = mixN c a) : b = c := by
  have := mixN_xor hb ha hc ha h
  rw [Nat.xor_comm b, Nat.xor_comm c] at this
  exact xor_left_inj this
/-- The state behind some words, on numbers. -/
def absorbN (s : Nat) (l : List Nat) : Nat := l.foldl mixN s
theorem absorbN_lt {s : Nat} (hs : s < 18446744073709551616) (l : List Nat) : absorbN s l < 18446744073709551616 := by
  induction l generalizing s with
  | nil => exact hs
  | cons x l ih => exact ih mixN_lt
theorem absorb_nat {s : Nat} (hs : s < 18446744073709551616) (l : List Nat) (hl : ∀ x ∈ l, x < 18446744073709551616) : absorb (s : Int) (l.map (fun n : Nat => (n : Int))) = (absorbN s l : Int) := by
  induction l generalizing s with
  | nil => rfl
  | cons x l ih =>
    have hx := hl x (by simp)
    show absorb (mixI (s : Int) (x : Int)) _ = _
    rw [mixI_nat hs hx]
    exact ih mixN_lt (fun y hy => hl y (by simp [hy]))
theorem absorb_zero (l : List Nat) (hl : ∀ x ∈ l, x < 18446744073709551616) : absorb 0 (l.map (fun n : Nat => (n : Int))) = (absorbN 0 l : Int) := by
  have h := absorb_nat (s := 0) (by omega) l hl
  rw [show ((0 : Nat) : Int) = 0 from rfl] at h
  exact h
theorem absorbN_inj {l : List Nat} (hl : ∀ x ∈ l, x < 18446744073709551616) : ∀ {s t : Nat}, s < 18446744073709551616 → t < 18446744073709551616 → absorbN s l = absorbN t l → s = t := by
  induction l with
  | nil => intro s t _ _ h; exact h
  | cons x l ih =>
    intro s t hs ht h
    have hx := hl x (by simp)
    have := ih (fun y hy => hl y (by simp [hy])) mixN_lt mixN_lt h
    exact mixN_left hx hs ht this
theorem absorbN_one {p q : List Nat} {x y s : Nat} (hs : s < 18446744073709551616) (hx : x < 18446744073709551616) (hy : y < 18446744073709551616) (hq : ∀ z ∈ q, z < 18446744073709551616)
    (h : absorbN s (p ++ x :: q) = absorbN s (p ++ y :: q)) : x = y := by
  unfold absorbN at h
  rw [List.foldl_append, List.foldl_append] at h
  have := absorbN_inj (l := q) hq mixN_lt mixN_lt h
  exact mixN_right (absorbN_lt hs p) hx hy this

theorem word_inj : ∀ (a b : List UInt8), a.length = b.length → word a = word b → a = b := by
  intro a
  induction a with
  | nil => intro b hl _; exact (List.eq_nil_of_length_eq_zero hl.symm).symm
  | cons x a ih =>
    intro b hl h
    cases b with
    | nil => cases hl
    | cons y b =>
      rw [word_cons, word_cons] at h
      have hx := x.toNat_lt
      have hy := y.toNat_lt
      have h1 : x.toNat = y.toNat := by omega
      have h2 : word a = word b := by omega
      rw [ih b (by simpa using hl) h2, UInt8.toNat.inj h1]
theorem wd_set_ne {b : List UInt8} {i j : Nat} {y : UInt8} (h : j ≠ i / 8) : wd (b.set i y) j = wd b j := by
  unfold wd
  rw [List.drop_set]
  split
  · rfl
  · rw [List.take_set, List.set_eq_of_length_le (by simp; omega)]
theorem wd_set_eq {b : List UInt8} {i : Nat} {y : UInt8} (hi : i < b.length) (h : wd (b.set i y) (i / 8) = wd b (i / 8)) : b[i]? = some y := by
  unfold wd at h
  have h1 := word_inj _ _ (by simp) h
  have h2 := congrArg (fun l : List UInt8 => l[i % 8]?) h1
  simp only [List.getElem?_take, List.getElem?_drop] at h2
  rw [if_pos (by omega), if_pos (by omega), show 8 * (i / 8) + i % 8 = i by omega, List.getElem?_set_self hi] at h2
  exact h2.symm
theorem wrap_wrap (n : Nat) (h : n < 18446744073709551616) : IntKind.u64.wrap (wrap64 (n : Int)) = (n : Int) := by
  rw [IntKind.wrap_u64]
  unfold wrap64
  omega
/-- The words of a text and its length, as the hash takes them. -/
def allW (b : List UInt8) : List Nat := wds b ++ [b.length]
theorem wds_lt (b : List UInt8) : ∀ x ∈ wds b, x < 18446744073709551616 := by
  intro x hx
  obtain ⟨i, _, rfl⟩ := List.mem_map.1 hx
  exact wd_lt b i
theorem allW_lt (c : List UInt8) (hc : c.length < 9223372036854775808) : ∀ x ∈ allW c, x < 18446744073709551616 := by
  intro x hx
  rcases List.mem_append.1 hx with h | h
  · exact wds_lt c x h
  · simp at h; omega
theorem allW_map (c : List UInt8) (hc : c.length < 9223372036854775808) : ((wds c).map (fun n : Nat => wrap64 (n : Int)) ++ [(c.length : Int)]).map IntKind.u64.wrap = (allW c).map (fun n : Nat => (n : Int)) := by
  unfold allW
  rw [List.map_append, List.map_append, List.map_map]
  have e1 : (wds c).map (IntKind.u64.wrap ∘ fun n : Nat => wrap64 (n : Int)) = (wds c).map (fun n : Nat => (n : Int)) := by
    refine List.map_congr_left fun x hx => ?_
    rw [Function.comp_apply, wrap_wrap x (wds_lt c x hx)]
  have e2 : IntKind.u64.wrap (c.length : Int) = (c.length : Int) := by rw [IntKind.wrap_u64]; omega
  rw [e1, List.map_cons, List.map_nil, List.map_cons, List.map_nil, e2]
theorem allW_len (c : List UInt8) : (((wds c).map (fun n : Nat => wrap64 (n : Int)) ++ [(c.length : Int)]).length) = nw c + 1 := by
  rw [List.length_append, List.length_map, wds_length]
  rfl
theorem nw_same {b c : List UInt8} (h : c.length = b.length) : nw c = nw b := by unfold nw; rw [h]
def startN (lab : List UInt8) (m : Nat) : Nat := mixN (mixN (absorbN 0 (wds lab)) lab.length) m
theorem startN_lt (lab : List UInt8) (m : Nat) : startN lab m < 18446744073709551616 := mixN_lt
theorem startN_eq (lab : List UInt8) (m : Nat) (hlab : lab.length < 18446744073709551616) (hm : m < 18446744073709551616) :
    mixI (mixI (absorb 0 ((wds lab).map (fun n : Nat => (n : Int)))) lab.length) m = (startN lab m : Int) := by
  rw [absorb_zero (wds lab) (wds_lt lab), mixI_nat (absorbN_lt (by omega) _) hlab, mixI_nat mixN_lt hm]
  rfl
theorem bytesI_abs (lab b : List UInt8) (hlab : lab.length < 18446744073709551616) (hb : b.length < 9223372036854775808) : bytesI lab b = (mixN (absorbN (startN lab (nw b + 1)) (allW b)) 0 : Int) := by
  have hnw : nw b + 1 < 18446744073709551616 := by unfold nw; omega
  unfold bytesI sumI
  rw [allW_map b hb, allW_len b]
  have h1 := startN_eq lab (nw b + 1) hlab hnw
  have h2 := startN_lt lab (nw b + 1)
  generalize startN lab (nw b + 1) = s at *
  rw [h1, absorb_nat h2 _ (allW_lt b hb)]
  have h3 := absorbN_lt h2 (allW b)
  generalize absorbN s (allW b) = q at *
  exact mixI_zero h3
theorem wdsTo_split (b : List UInt8) (n j : Nat) (h : j < n) : (List.range n).map (wd b) = (List.range j).map (wd b) ++ wd b j :: ((List.range (n - j - 1)).map (fun i => wd b (j + 1 + i))) := by
  have e : n = j + (1 + (n - j - 1)) := by omega
  conv => lhs; rw [e, List.range_add, List.map_append, List.map_map, List.range_add]
  simp [List.map_map, Function.comp_def, Nat.add_assoc, Nat.add_comm, Nat.add_left_comm]
/-- One byte changed: another sum. -/
theorem sumP_set {b : List UInt8} {i : Nat} {y : UInt8} (hb : b.length < 9223372036854775808) (hi : i < b.length) (h : sumP (b.set i y) = sumP b) : b[i]? = some y := by
  have h1 : bytesI entryL (b.set i y) = bytesI entryL b := by rw [bytesI_toNat, bytesI_toNat, h]
  rw [bytesI_abs entryL b (by decide) hb, bytesI_abs entryL (b.set i y) (by decide) (by rw [List.length_set]; exact hb), nw_same (List.length_set (as := b) (i := i) (a := y))] at h1
  have hs := startN_lt entryL (nw b + 1)
  generalize startN entryL (nw b + 1) = s at *
  have h2 : mixN (absorbN s (allW (b.set i y))) 0 = mixN (absorbN s (allW b)) 0 := by omega
  have h3 := mixN_left (by omega) (absorbN_lt hs _) (absorbN_lt hs _) h2
  have hj : i / 8 < nw b := by unfold nw; omega
  have hnw : nw (b.set i y) = nw b := by simp [nw]
  refine wd_set_eq hi ?_
  unfold allW wds at h3
  rw [hnw, wdsTo_split _ _ _ hj, wdsTo_split b _ _ hj] at h3
  have ep : (List.range (i / 8)).map (wd (b.set i y)) = (List.range (i / 8)).map (wd b) := List.map_congr_left fun x hx => wd_set_ne (by have := List.mem_range.1 hx; omega)
  have eq : (List.range (nw b - i / 8 - 1)).map (fun x => wd (b.set i y) (i / 8 + 1 + x)) = (List.range (nw b - i / 8 - 1)).map (fun x => wd b (i / 8 + 1 + x)) := List.map_congr_left fun x hx => wd_set_ne (by omega)
  rw [ep, eq, List.length_set, List.append_assoc, List.append_assoc, List.cons_append, List.cons_append] at h3
  refine absorbN_one hs (wd_lt _ _) (wd_lt _ _) ?_ h3
  intro z hz
  rcases List.mem_append.1 hz with h | h
  · obtain ⟨k, _, rfl⟩ := List.mem_map.1 h
    exact wd_lt _ _
  · simp at h; omega
/-- The frame with one byte behind its length changed is not accepted. -/
theorem detect {own : List UInt8} {p : Nat} {y c0 : UInt8} (hl : own.length ≤ 100000000) (hp : (uvar (coreP 0 own).length).length ≤ p) (hc : (frameP 0 own)[p]? = some c0) (hne : y ≠ c0) :
    firstC ((frameP 0 own).set p y) 0 = none := by
  cases hf : firstC ((frameP 0 own).set p y) 0 with
  | none => rfl
  | some r =>
    exfalso
    have ht := firstC_take hf
    have hle := firstC_le hf
    have hsp := split_of_take ht
    generalize ((frameP 0 own).set p y).drop (frameP 0 r).length = rest at *
    have hcl := coreP_len 0 own (by omega) (by omega) (by omega)
    have hfl := frameP_len 0 own (by omega) (by omega) (by omega)
    have hplt : p < (frameP 0 own).length := (List.getElem?_eq_some_iff.1 hc).1
    rw [List.length_set] at hle
    have hrl : (coreP 0 r).length < 18446744073709551616 := by
      have : (coreP 0 r).length ≤ (frameP 0 r).length := by unfold frameP rawP; simp only [List.length_append]; omega
      omega
    generalize hC : coreP 0 own = C at *
    have hF : frameP 0 own = uvar C.length ++ (C ++ uvar (sumP C)) := by unfold frameP rawP; rw [hC, List.append_assoc]
    have hR : frameP 0 r = uvar (coreP 0 r).length ++ (coreP 0 r ++ uvar (sumP (coreP 0 r))) := by unfold frameP rawP; rw [List.append_assoc]
    generalize coreP 0 r = D at *
    rw [hF, hR, List.set_append_right _ _ hp, List.append_assoc] at hsp
    have g1 := getU_uvar (n := C.length) (by omega) ((C ++ uvar (sumP C)).set (p - (uvar C.length).length) y)
    have g2 := getU_uvar (n := D.length) hrl ((D ++ uvar (sumP D)) ++ rest)
    rw [hsp, g2] at g1
    injection g1 with g1
    injection g1 with hlen htail
    have hp' : p - (uvar C.length).length < (C ++ uvar (sumP C)).length := by
      rw [hF, List.length_append] at hplt
      omega
    have hc' : (C ++ uvar (sumP C))[p - (uvar C.length).length]? = some c0 := by
      rw [hF, List.getElem?_append_right hp] at hc
      exact hc
    generalize p - (uvar C.length).length = k at *
    by_cases hk : k < C.length
    · rw [List.set_append_left _ _ hk, List.append_assoc] at htail
      obtain ⟨h1, h2⟩ := List.append_inj htail (by simpa using hlen)
      have g3 := getU_uvar (n := sumP D) (sumP_lt _) rest
      have g4 := getU_uvar (n := sumP C) (sumP_lt _) []
      rw [List.append_nil, ← h2, g3] at g4
      injection g4 with g4
      injection g4 with hs _
      rw [h1] at hs
      have := sumP_set (by omega) hk hs
      rw [List.getElem?_append_left hk, this] at hc'
      injection hc' with h
      exact hne h
    · rw [List.set_append_right _ _ (by omega), List.append_assoc] at htail
      obtain ⟨h1, h2⟩ := List.append_inj htail (by simpa using hlen)
      subst h1
      have hle2 := congrArg List.length h2
      rw [List.length_append, List.length_set] at hle2
      have hr0 : rest = [] := List.eq_nil_of_length_eq_zero (by omega)
      rw [hr0, List.append_nil] at h2
      rw [List.getElem?_append_right (by omega)] at hc'
      have h3 := congrArg (fun l : List UInt8 => l[k - D.length]?) h2
      have hk2 : k - D.length < (uvar (sumP D)).length := (List.getElem?_eq_some_iff.1 hc').1
      simp only [List.getElem?_set_self hk2, hc'] at h3
      injection h3 with h3
      exact hne h3.symm
theorem scan_detect {own : List UInt8} {p : Nat} {y c0 : UInt8} (hl : own.length ≤ 100000000) (hp : (uvar (coreP 0 own).length).length ≤ p) (hc : (frameP 0 own)[p]? = some c0) (hne : y ≠ c0) : scanC ((frameP 0 own).set p y) 0 = [] :=
  scanC_none (detect hl hp hc hne)
theorem scan_one (own : List UInt8) (hl : own.length ≤ 100000000) : scanC (frameP 0 own) 0 = [own] := by
  have hf := frameP_len 0 own (by omega) (by omega) hl
  have h := scan_frames [own] 0 [] (by
    rw [show framesP 0 [own] = frameP ((0 : Nat) : Int) own ++ framesP 1 [] from rfl, framesP_nil, List.append_nil, List.append_nil]
    simp at hf ⊢
    omega)
  rw [show framesP 0 [own] = frameP ((0 : Nat) : Int) own ++ framesP 1 [] from rfl, framesP_nil, List.append_nil, List.append_nil] at h
  rw [show frameP 0 own = frameP ((0 : Nat) : Int) own from rfl, h, scanC_none]
  · simp
  · exact firstC_nil _

end Go.Pure
