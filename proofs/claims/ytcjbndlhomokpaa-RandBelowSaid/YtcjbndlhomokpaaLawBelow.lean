/- The walk of refuterlaw05.RandBelow. -/
import Derived.Test.YtcjbndlhomokpaaRandLives
import Derived.Test.YtcjbndlhomokpaaRefN
import Derived.Test.YtcjbndlhomokpaaRandBound
import Derived.Test.YtcjbndlhomokpaaArgs
namespace Go.Proofs.Ytcjbndlhomokpaa
set_option linter.unusedVariables false
open Go.RowKit Go.Mem Go.Dig Go.Pure

/-- Both return the same. -/
theorem below_pair (seed : Int) (s : ByteArray) (hs : s.size ≤ 1000000) (i : Int) (hi : 0 ≤ i ∧ i ≤ 1000000000) (n : Int) : ∃ a x : Int, (0 < n → 0 ≤ a ∧ a < n) ∧
    (∀ W, Calls Try.prog 11 #[.int .u64 seed, .string s, .int .i64 i, .int .i64 n] W fun e w' => e = .returned (.tuple #[.int .i64 a, .int .i64 x]) ∧ New W w') ∧
    (∀ W, Calls Try.prog 12 #[.int .u64 seed, .string s, .int .i64 i, .int .i64 n] W fun e w' => e = .returned (.tuple #[.int .i64 a, .int .i64 x]) ∧ New W w') := by
  by_cases h : n < 1 ∨ 4611686018427387904 < n
  · exact ⟨0, i, fun h0 => ⟨by omega, h0⟩, fun W => below_bad seed s i n h W, fun W => rbelow_bad seed s i n h W⟩
  · obtain ⟨N, rfl⟩ : ∃ N : Nat, n = (N : Int) := ⟨n.toNat, by omega⟩
    exact ⟨_, _, fun h0 => ⟨Int.emod_nonneg _ (by omega), Int.emod_lt_of_pos _ (by omega)⟩, fun W => below_any seed s hs i hi N (by omega) (by omega) W, fun W => rbelow_any seed s hs i hi N (by omega) (by omega) W⟩

set_option maxRecDepth 100000 in
set_option maxHeartbeats 4000000 in
theorem randBelow_walk (seed : Int) (i k n : Int) (hi : -9223372036854775808 ≤ i ∧ i ≤ 9223372036854775807) (hk : -9223372036854775808 ≤ k ∧ k ≤ 9223372036854775807) (hn : -9223372036854775808 ≤ n ∧ n ≤ 9223372036854775807) (w : World) :
    Calls Try.prog 3 #[.int .u64 seed, .int .i64 i, .int .i64 k, .int .i64 n] w fun e w' => e = .returned (.bool true) ∧ New w w' := by
  have HN := Lib.hid (And.intro hi (And.intro hk hn))
  clear hi hk hn
  go_enter Try.func3, Try.ntmps3
  go_wp2_with fail
  refine (around_any i 1000000 w HN.out.1.1 HN.out.1.2 (by omega) (by omega)).mono ?_
  rintro e w1 ⟨rfl, rfl⟩
  obtain ⟨a0, ha, hab⟩ : ∃ a : Int, aroundI i 1000000 = a ∧ (0 ≤ a ∧ a ≤ 1000000000) := by
    have := aroundI_range i 1000000 (by omega)
    exact ⟨_, rfl, by omega, by omega⟩
  rw [ha]
  have HAB := Lib.hid hab
  clear ha hab
  go_wp2_with fail
  refine (rbound_any k HN.out.2.1.1 HN.out.2.1.2 w).mono ?_
  rintro e w1 ⟨m0, rfl, ⟨hm01, hm02⟩, rfl⟩
  go_wp2_with fail
  refine (around_any n 5 w HN.out.2.2.1 HN.out.2.2.2 (by omega) (by omega)).mono ?_
  rintro e w1 ⟨rfl, rfl⟩
  obtain ⟨a1, ha, hab1⟩ : ∃ a : Nat, aroundI n 5 = (a : Int) ∧ a < 5 := by
    have := aroundI_range n 5 (by omega)
    exact ⟨(aroundI n 5).toNat, by omega, by omega⟩
  rw [ha]
  clear ha
  go_wp2_with fail
  obtain ⟨W0, hW0⟩ : ∃ W0, w.alloc (.cells #[.int .i64 (m0 : Int), .int .i64 n, .int .i64 ((a1 : Int) - 2)] 3) = W0 := ⟨_, rfl⟩
  have hr0 : Rd W0 (some ⟨w.heap.size, 0, none⟩) 3 (is [(m0 : Int), n, (a1 : Int) - 2]) := by rw [← hW0]; exact Rd.lit (is [(m0 : Int), n, (a1 : Int) - 2]) rfl
  have hn0 : New w W0 := by rw [← hW0]; exact (Chg.refl _ w).alloc _
  rw [hW0]
  clear hW0
  have H0 := Lib.hid (And.intro hr0 hn0)
  clear hr0 hn0
  generalize [(m0 : Int), n, (a1 : Int) - 2] = ms at H0
  generalize w.heap.size = B0 at *
  clear hm01 hm02 hab1
  go_loopw [11] (fun j wr => ∃ q : Nat, q ≤ 3 ∧ j = .int .i64 q ∧ Hid (New W0 wr)) (fun j _ => 3 - (intOf j).toNat)
  case atStart => exact ⟨0, by omega, rfl, Chg.refl _ _⟩
  case round =>
    obtain ⟨j, hj, rfl, HW⟩ := hrel
    by_cases hlt : j < 3
    · have hlti : (j : Int) < 3 := by omega
      obtain ⟨hr0, hn0⟩ := H0.out
      obtain ⟨ad, u, hAd, hu, hcu⟩ := (hr0.new HW.out).at_ hlt
      injection hAd with hAd
      subst hAd
      obtain ⟨m, hm, rfl⟩ := is_at hu
      rw [Addr.add_lit, Nat.zero_add] at hcu
      obtain ⟨a, x, hok, hO, hRO⟩ := below_pair seed ⟨#[116, 101, 115, 116]⟩ (by decide) a0 HAB.out m
      have HC := Lib.hid (And.intro hok (And.intro hO hRO))
      clear hr0 hn0 hu hm hok hO hRO
      go_wp2_with fail
      refine (HC.out.2.1 wr).mono ?_
      rintro e w5 ⟨rfl, hn5⟩
      have hcu5 := hn5.cell hcu (fun h => h)
      have H5 := Lib.hid (HW.out.new hn5)
      clear hn5 hcu HW
      go_wp2_with fail
      refine (HC.out.2.2 w5).mono ?_
      rintro e w6 ⟨rfl, hn6⟩
      have hcu6 := hn6.cell hcu5 (fun h => h)
      have H6 := Lib.hid (H5.out.new hn6)
      have hok := HC.out.1
      clear hn6 hcu5 H5 HC
      by_cases hm0 : 0 < m
      · obtain ⟨ha1, ha2⟩ := hok hm0
        have hd1 : decide (a < 0) = false := by simp; omega
        have hd2 : decide (m ≤ a) = false := by simp; omega
        clear hok ha1 ha2
        go_wp2
        go_roundw
        case rel => exact ⟨j + 1, by omega, by go_num, H6.out⟩
        case measure => simp [intOf]; omega
      · have hd1 : decide (0 < m) = false := by simp; omega
        clear hok
        go_wp2
        go_roundw
        case rel => exact ⟨j + 1, by omega, by go_num, H6.out⟩
        case measure => simp [intOf]; omega
    · have hlti : decide ((j : Int) < 3) = false := by simp; omega
      go_wp2_with fail
      refine (lives_any wr).mono ?_
      rintro e w5 ⟨rfl, hn5⟩
      have H5 := Lib.hid (H0.out.2.new (HW.out.new hn5))
      clear hn5
      go_wp2
      go_ret
      exact ⟨rfl, H5.out⟩
end Go.Proofs.Ytcjbndlhomokpaa
