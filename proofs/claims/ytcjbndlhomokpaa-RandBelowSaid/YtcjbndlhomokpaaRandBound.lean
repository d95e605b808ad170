/- Contracts of the generators refuterref05.Bound and refuterref01.Bound. -/
import Derived.Test.YtcjbndlhomokpaaBase
namespace Go.Proofs.Ytcjbndlhomokpaa
set_option linter.unusedVariables false
open Go.RowKit Go.Mem

set_option maxHeartbeats 400000 in
theorem bound1_any (n most : Int) (hn : -9223372036854775808 ≤ n) (hn2 : n ≤ 9223372036854775807) (h1 : 0 ≤ most) (h2 : most ≤ 1000000) (w : World) :
    Calls Try.prog 26 #[.int .i64 n, .int .i64 most] w fun e w' => e = .returned (.int .i64 (aroundI n (2 * most + 1) - most)) ∧ w = w' := by
  obtain ⟨a0, ha0⟩ : ∃ a, aroundI n (2 * most + 1) = a := ⟨_, rfl⟩
  rw [ha0]
  have HA := Lib.hid ha0
  clear ha0
  go_enter Try.func26, Try.ntmps26
  go_wp2_with fail
  refine (around_any n (2 * most + 1) w hn hn2 (by omega) (by omega)).mono ?_
  rintro e w1 ⟨rfl, rfl⟩
  have hr := aroundI_range n (2 * most + 1) (by omega)
  rw [HA.out] at hr ⊢
  obtain ⟨hr1, hr2⟩ := hr
  go_wp2
  go_ret
  exact ⟨rfl, rfl⟩
theorem max_ex (P : Program) (x y : Int) : ∃ m, ((x ≤ y ∧ m = y) ∨ (y ≤ x ∧ m = x)) ∧ ∀ ts t W, (Builtin.max_ ts t #[.int .i64 x, .int .i64 y]).run P W = .ok (.int .i64 m) W := by
  rcases Int.le_total x y with h | h
  · exact ⟨y, .inl ⟨h, rfl⟩, fun ts t W => run_max2 _ _ _ (.inl ⟨h, rfl⟩) ts t W⟩
  · exact ⟨x, .inr ⟨h, rfl⟩, fun ts t W => run_max2 _ _ _ (.inr ⟨h, rfl⟩) ts t W⟩

theorem pow_le61 {k : Nat} (h : k ≤ 61) : 2 ^ k ≤ 2305843009213693952 := Nat.le_trans (Nat.pow_le_pow_right (by omega) h) (by decide)
set_option maxHeartbeats 1000000 in
theorem rbound_any (k : Int) (hk : -9223372036854775808 ≤ k) (hk2 : k ≤ 9223372036854775807) (w : World) :
    Calls Try.prog 10 #[.int .i64 k] w fun e w' => ∃ b : Nat, e = .returned (.int .i64 b) ∧ (1 ≤ b ∧ b ≤ 4611686018427387904) ∧ w = w' := by
  go_enter Try.func10, Try.ntmps10
  go_wp2_with fail
  refine (around_any k 1000000 w hk hk2 (by omega) (by omega)).mono ?_
  rintro e w1 ⟨rfl, rfl⟩
  obtain ⟨n, hn, hnb⟩ : ∃ n : Nat, aroundI k 1000000 = (n : Int) ∧ n < 1000000 := by
    have := aroundI_range k 1000000 (by omega)
    exact ⟨(aroundI k 1000000).toNat, by omega, by omega⟩
  rw [hn]
  clear hn hk hk2
  obtain ⟨r, hr⟩ : ∃ r : Nat, n % 4 = r := ⟨_, rfl⟩
  have hri : (n : Int) % 4 = (r : Int) := by omega
  have hr4 : r < 4 := by omega
  obtain ⟨d, hd⟩ : ∃ d : Nat, n / 4 = d := ⟨_, rfl⟩
  have hdi : (n : Int) / 4 = (d : Int) := by omega
  have hdb : d < 250000 := by omega
  clear hr hd
  match r, hr4 with
  | 0, _ =>
    go_wp2
    go_ret
    exact ⟨1 + d % 40, by simp, by omega, rfl⟩
  | 1, _ =>
    obtain ⟨t, ht⟩ : ∃ t : Nat, d % 62 = t := ⟨_, rfl⟩
    have hti : (d : Int) % 62 = (t : Int) := by omega
    have htb : t ≤ 61 := by omega
    have HT := Lib.hid ht
    clear ht
    go_wp2
    go_loop [4, 5] (fun o i => ∃ j p : Nat, j ≤ t ∧ i = .int .i64 j ∧ o = .int .i64 p ∧ Hid (p = 2 ^ j)) (fun _ i => t - (intOf i).toNat)
    case atStart => exact ⟨0, 1, by omega, rfl, rfl, rfl⟩
    case round =>
      obtain ⟨j, p, hj, rfl, rfl, HP⟩ := hrel
      have hpb : p ≤ 2305843009213693952 := by rw [HP.out]; exact pow_le61 (by omega)
      by_cases hlt : j < t
      · have hlti : (j : Int) < (t : Int) := by omega
        go_wp2
        go_round
        case rel => exact ⟨j + 1, 2 * p, by omega, by go_num, by go_num, by show _ = _; rw [HP.out, Nat.pow_succ]; omega⟩
        case measure => simp [intOf]; omega
      · have hlti : decide ((j : Int) < (t : Int)) = false := by simp; omega
        have hlti' : decide (j < t) = false := by simp; omega
        have hp1 : 1 ≤ p := by rw [HP.out]; exact Nat.pow_pos (by omega)
        obtain ⟨m, hm, hmax⟩ := max_ex Try.prog 1 ((p : Int) + (n : Int) / 400 % 3 - 1)
        go_wp2
        go_ret
        exact ⟨m.toNat, ret_int (by omega), by omega, rfl⟩
  | 2, _ =>
    go_wp2
    go_ret
    exact ⟨4611686018427387903 - d % 9, ret_int (by omega), by omega, rfl⟩
  | 3, _ =>
    have hmul : n * n ≤ 1000000000000 := Nat.le_trans (Nat.mul_le_mul (Nat.le_of_lt hnb) (Nat.le_of_lt hnb)) (by decide)
    have hmi : (n : Int) * (n : Int) = ((n * n : Nat) : Int) := by simp
    generalize n * n = q at hmul hmi
    go_wp2
    go_ret
    exact ⟨1 + q, by simp, by omega, rfl⟩
end Go.Proofs.Ytcjbndlhomokpaa
