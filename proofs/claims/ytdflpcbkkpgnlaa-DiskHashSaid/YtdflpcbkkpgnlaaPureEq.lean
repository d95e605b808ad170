/- Scan of the program and of the reference compute the same; what Scan makes of frames. -/
import Derived.Test.YtdflpcbkkpgnlaaPureScan
namespace Go.Pure
set_option linter.unusedVariables false

theorem scanU_uvar (n : Nat) : ∀ (i acc : Nat) (t : List UInt8), n * 128 ^ i < 18446744073709551616 → (0 < i → 0 < n) → scanU i acc (uvar n ++ t) = .ok (acc + n * 128 ^ i, t) := by
  induction n using Nat.strongRecOn with
  | _ n ih =>
    intro i acc t hlt hpos
    have hp9 : (128 : Nat) ^ 9 = 9223372036854775808 := by decide
    by_cases hn : n < 128
    · rw [uvar_lt hn, List.singleton_append]
      have hc : (UInt8.ofNat n).toNat = n := by simp; omega
      rw [scanU_end, hc]
      · rw [hc]
        rintro (⟨rfl, h⟩ | ⟨h1, h2⟩)
        · rw [hp9] at hlt; omega
        · have := hpos h1; omega
      · rw [hc]; exact hn
    · rw [uvar_ge (by omega), List.cons_append]
      have hc : (UInt8.ofNat (128 + n % 128)).toNat = 128 + n % 128 := by simp; omega
      have hi : i ≤ 8 := by
        rcases Nat.lt_or_ge i 9 with h | h
        · omega
        · have h1 : 128 ^ 9 ≤ 128 ^ i := Nat.pow_le_pow_right (by omega) h
          have h2 : 128 * 128 ^ 9 ≤ n * 128 ^ i := Nat.mul_le_mul (by omega) h1
          rw [hp9] at h2
          omega
      rw [scanU_on, hc]
      · have e : n * 128 ^ i = n % 128 * 128 ^ i + n / 128 * 128 ^ (i + 1) := by
          rw [Nat.pow_succ, ← Nat.mul_assoc, Nat.mul_right_comm, ← Nat.add_mul, Nat.add_comm, Nat.div_add_mod' n 128]
        rw [ih (n / 128) (by omega) (i + 1) _ t (by omega) (fun _ => by omega)]
        rw [show (128 + n % 128) % 128 = n % 128 by omega, e, Nat.add_assoc]
      · rw [hc]; omega
      · rw [hc]; omega
theorem getU_uvar {n : Nat} (h : n < 18446744073709551616) (t : List UInt8) : getU (uvar n ++ t) = .ok (n, t) := by
  unfold getU
  rw [scanU_uvar n 0 0 t (by simpa using h) (fun h => by omega)]
  simp
theorem uintR_uvar {n : Nat} (h : n < 18446744073709551616) (t : List UInt8) : uintR (uvar n ++ t) 0 = (n, t, 0) := uintR_ok (getU_uvar h t)
theorem unzig_zig (n : Int) : unzig (zig n) = n := by
  unfold unzig zig
  split <;> split <;> omega
theorem intR_uvar {n : Int} (hlo : -9223372036854775808 ≤ n) (hhi : n ≤ 9223372036854775807) (t : List UInt8) : intR (uvar (zig n) ++ t) 0 = (n, t, 0) := by
  unfold intR
  rw [uintR_uvar (zig_lt n hlo hhi), unzig_zig]
theorem rawR_rawP (b t : List UInt8) (h : b.length < 18446744073709551616) : rawR (rawP b ++ t) 0 = (b, t, 0) := by
  have h1 : lengthR (rawP b ++ t) 0 = (b.length, b ++ t, 0) := by
    unfold rawP
    rw [List.append_assoc]
    exact lengthR_ok (uintR_uvar h (b ++ t)) (by simp)
  unfold rawR
  rw [h1]
  simp

/-- The bytes begin with the frame of a record. -/
theorem split_of_take {b f : List UInt8} (h : b.take f.length = f) : b = f ++ b.drop f.length := by
  have := List.take_append_drop f.length b
  rw [h] at this
  exact this.symm
theorem coreP_lt {b r : List UInt8} {num : Int} (h : b.take (frameP num r).length = frameP num r) (hb : b.length < 18446744073709551616) : (coreP num r).length < b.length ∧ r.length < b.length := by
  have h1 := congrArg List.length h
  have h3 := uvar_pos (sumP (coreP num r))
  have h4 := uvar_pos (coreP num r).length
  have h5 : r.length ≤ (coreP num r).length := by unfold coreP; simp only [List.length_append]; omega
  unfold frameP rawP at h1
  simp only [List.length_take, List.length_append] at h1
  omega

theorem firstRf_of {b r : List UInt8} {num : Int} (hlo : -9223372036854775808 ≤ num) (hhi : num ≤ 9223372036854775807) (hb : b.length < 18446744073709551616) (h : b.take (frameP num r).length = frameP num r) : firstRf b num = some r := by
  obtain ⟨hc, hr⟩ := coreP_lt h hb
  have e := split_of_take h
  generalize b.drop (frameP num r).length = t at e
  have h3 : rawR b 0 = (coreP num r, uvar (sumP (coreP num r)) ++ t, 0) := by
    rw [e, show frameP num r = rawP (coreP num r) ++ uvar (sumP (coreP num r)) from rfl, List.append_assoc]
    exact rawR_rawP _ _ (by omega)
  have h5 : intR (coreP num r) 0 = (num, rawP r, 0) := by
    rw [show coreP num r = uvar (zig num) ++ rawP r from rfl]
    exact intR_uvar hlo hhi _
  have h6 : rawR (rawP r) 0 = (r, [], 0) := by
    have := rawR_rawP r [] (by omega)
    rwa [List.append_nil] at this
  rw [firstRf_val h3 h5 h6, if_neg (by simp), if_pos h]

theorem firstC_of {b r : List UInt8} {num : Int} (hlo : -9223372036854775808 ≤ num) (hhi : num ≤ 9223372036854775807) (hb : b.length < 18446744073709551616) (h : b.take (frameP num r).length = frameP num r) : firstC b num = some r := by
  obtain ⟨hc, hr⟩ := coreP_lt h hb
  have hlen := congrArg List.length h
  have e := split_of_take h
  generalize b.drop (frameP num r).length = t at e
  have hu1 := uvar_len (n := (coreP num r).length) (by omega)
  have hu2 := uvar_len (sumP_lt (coreP num r))
  have e2 : b = uvar (coreP num r).length ++ (coreP num r ++ (uvar (sumP (coreP num r)) ++ t)) := by
    rw [e, show frameP num r = (uvar (coreP num r).length ++ coreP num r) ++ uvar (sumP (coreP num r)) from rfl, List.append_assoc, List.append_assoc]
  have h1 : (uintR (b.take 10) 0).1 = (coreP num r).length := by
    rw [e2, List.take_append, List.take_of_length_le hu1, uintR_uvar (by omega)]
  have h3 : rawR (b.take ((coreP num r).length + 20)) 0 = (coreP num r, uvar (sumP (coreP num r)) ++ (t.take ((coreP num r).length + 20 - (uvar (coreP num r).length).length - (coreP num r).length - (uvar (sumP (coreP num r))).length)), 0) := by
    rw [e2, List.take_append, List.take_of_length_le (by omega), List.take_append, List.take_of_length_le (by omega), List.take_append, List.take_of_length_le (by omega), ← List.append_assoc]
    exact rawR_rawP _ _ (by omega)
  have h4 := uintR_uvar (sumP_lt (coreP num r)) (t.take ((coreP num r).length + 20 - (uvar (coreP num r).length).length - (coreP num r).length - (uvar (sumP (coreP num r))).length))
  have h5 : intR (coreP num r) 0 = (num, rawP r, 0) := by
    rw [show coreP num r = uvar (zig num) ++ rawP r from rfl]
    exact intR_uvar hlo hhi _
  have h6 : rawR (rawP r) 0 = (r, [], 0) := by
    have := rawR_rawP r [] (by omega)
    rwa [List.append_nil] at this
  rw [firstC_val h1 (by omega) h3 (congrArg Prod.fst h4) h5 h6, if_neg (by simp [endR]), if_pos h]

theorem first_eq {b : List UInt8} {num : Int} (hlo : -9223372036854775808 ≤ num) (hhi : num ≤ 9223372036854775807) (hb : b.length < 18446744073709551616) : firstC b num = firstRf b num := by
  cases h : firstC b num with
  | some r => exact (firstRf_of hlo hhi hb (firstC_take h)).symm
  | none =>
    cases h' : firstRf b num with
    | none => rfl
    | some r => rw [firstC_of hlo hhi hb (firstRf_take h')] at h; cases h

theorem firstC_nil (num : Int) : firstC [] num = none := by
  cases h : firstC [] num with
  | none => rfl
  | some r =>
    have h1 := firstC_le h
    have h2 := frameP_pos num r
    rw [List.length_nil] at h1
    omega
theorem scan_eq (n : Nat) : ∀ (b : List UInt8) (k : Nat), b.length ≤ n → k + b.length ≤ 9223372036854775807 → scanC b k = scanRf b k := by
  induction n with
  | zero =>
    intro b k hb _
    have : b = [] := List.eq_nil_of_length_eq_zero (by omega)
    subst this
    rw [scanRf_nil, scanC_none (firstC_nil _)]
  | succ n ih =>
    intro b k hb hk
    cases hbe : b with
    | nil => rw [scanRf_nil, scanC_none (firstC_nil _)]
    | cons x b' =>
      rw [← hbe]
      have hne : b ≠ [] := by rw [hbe]; simp
      have he := first_eq (b := b) (num := (k : Int)) (by omega) (by omega) (by omega)
      cases h : firstC b (k : Int) with
      | none => rw [scanC_none h, scanRf_none (by rw [← he]; exact h)]
      | some r =>
        have hle := firstC_le h
        have hpos := frameP_pos (k : Int) r
        rw [scanC_some h, scanRf_some hne (by rw [← he]; exact h), ih _ _ (by rw [List.length_drop]; omega) (by rw [List.length_drop]; omega)]
/-- Frames are read back, whatever follows them. -/
theorem scan_frames (ls : List (List UInt8)) : ∀ (k : Nat) (t : List UInt8), k + (framesP k ls ++ t).length ≤ 9223372036854775807 → scanC (framesP k ls ++ t) k = ls ++ scanC t (k + ls.length) := by
  induction ls with
  | nil => intro k t _; rw [framesP_nil]; simp
  | cons r ls ih =>
    intro k t h
    have e : framesP k (r :: ls) ++ t = frameP (k : Int) r ++ (framesP (k + 1) ls ++ t) := by
      rw [show framesP k (r :: ls) = frameP (k : Int) r ++ framesP (k + 1) ls from rfl, List.append_assoc]
    rw [e] at h ⊢
    have hpos := frameP_pos (k : Int) r
    rw [List.length_append] at h
    have hf : firstC (frameP (k : Int) r ++ (framesP (k + 1) ls ++ t)) (k : Int) = some r :=
      firstC_of (by omega) (by omega) (by rw [List.length_append]; omega) (List.take_left' rfl)
    rw [scanC_some hf, List.drop_left' rfl, ih (k + 1) t (by omega), List.length_cons, List.cons_append, show k + 1 + ls.length = k + (ls.length + 1) by omega]
theorem framesP_append (a b : List (List UInt8)) : ∀ k, framesP k (a ++ b) = framesP k a ++ framesP (k + a.length) b := by
  induction a with
  | nil => intro k; rw [framesP_nil]; simp
  | cons r a ih =>
    intro k
    rw [List.cons_append, show framesP k (r :: (a ++ b)) = frameP (k : Int) r ++ framesP (k + 1) (a ++ b) from rfl, ih, show framesP k (r :: a) = frameP (k : Int) r ++ framesP (k + 1) a from rfl, List.append_assoc, List.length_cons, show k + 1 + a.length = k + (a.length + 1) by omega]
end Go.Pure
