/- Contracts of the model's turned and Order. -/
import Derived.Test.YtcjbndlhomokpaaRandOrder
namespace Go.Proofs.Ytcjbndlhomokpaa
open Go.RowKit Go.Shelf Go.Mem Go.Pure

set_option maxHeartbeats 2000000 in
set_option maxRecDepth 100000 in
theorem rturned_any (seed : Int) (h x S : Nat) (hh : h ≤ 20) (hS : 2 ^ h = S) (hx : x < S * S) (w : World) :
    Calls Try.prog 49 #[.int .u64 seed, .int .i64 x, .int .i64 S] w fun e w' => e = .returned (.int .i64 (forthN (partN seed h) h x)) ∧ New w w' := by
  have hside := side_le hh
  have hS0 : 0 < S := by rw [← hS]; exact Nat.pow_pos (by omega)
  rw [hS] at hside
  have hxb : x < 1099511627776 := Nat.lt_of_lt_of_le hx (Nat.le_trans (Nat.mul_le_mul hside hside) (by decide))
  obtain ⟨l0, r0, hx0⟩ : ∃ l r, halves h x = (l, r) := ⟨_, _, rfl⟩
  have hlt := halves_lt (h := h) (k := x) (by rw [hS]; exact hx)
  rw [hx0, hS] at hlt
  have hq : (x : Int) / (S : Int) = (l0 : Int) := by
    have := left_eq h x
    rw [hx0] at this
    rw [← hS, ← this]
    simp
  have hm : (x : Int) % (S : Int) = (r0 : Int) := by
    have e : (halves h x).2 = x % 2 ^ h := rfl
    rw [hx0, hS] at e
    have e' : r0 = x % S := e
    rw [e']
    exact (Int.natCast_emod x S).symm
  have hl0 : l0 < S := hlt.1
  have hr0 : r0 < S := hlt.2
  have H0 := Lib.hid (And.intro hS (And.intro hx0 (And.intro hl0 hr0)))
  clear hlt hS hx hx0
  go_enter Try.func49, Try.ntmps49
  have HM := Lib.hid hm
  go_wp2_with fail
  clear hq hm
  go_loopw [7, 8, 9] (fun l r i wr => ∃ j l' r' : Nat, j ≤ 4 ∧ l = .int .i64 l' ∧ r = .int .i64 r' ∧ i = .int .i64 (j : Int) ∧ fwd (partN seed h) j (l0, r0) = (l', r') ∧ l' < S ∧ r' < S ∧ New w wr)
    (fun _ _ i _ => 4 - (intOf i).toNat)
  case atStart => exact ⟨0, l0, r0, by omega, rfl, by rw [HM.out], rfl, rfl, hl0, hr0, Chg.refl _ _⟩
  case round =>
    obtain ⟨j, l, r, hj, rfl, rfl, rfl, hfw, hl, hr, hnew⟩ := hrel
    have HW := Lib.hid (And.intro hfw (And.intro hl (And.intro hr hnew)))
    have hlb : l < 1048576 := by omega
    have hrb : r < 1048576 := by omega
    clear hfw hnew
    by_cases hjl : j = 4
    · subst hjl
      have hmul : (l : Int) * (S : Int) = ((l * S : Nat) : Int) := (Int.natCast_mul l S).symm
      have hmb : l * S ≤ 1048576 * 1048576 := Nat.mul_le_mul (by omega) hside
      obtain ⟨P, hP⟩ : ∃ P, l * S = P := ⟨_, rfl⟩
      rw [hP] at hmul hmb
      have HP := Lib.hid hP
      clear hP
      go_wp2
      go_ret
      obtain ⟨hfw, hl, hr, hnew⟩ := HW.out
      refine ⟨ret_int ?_, hnew⟩
      unfold forthN
      rw [H0.out.2.1, hfw]
      unfold joinH
      rw [H0.out.1]
      have := HP.out
      show _ = ((l * S + r : Nat) : Int)
      omega
    · have hji : (j : Int) < 4 := by omega
      go_wp2_with fail
      refine (rsum_any ⟨#[111, 114, 100, 101, 114]⟩ (by decide) _ 3 3 [wrap64 seed, (j : Int), (r : Int)] _ rd_three (by omega)).mono ?_
      rintro e w5 ⟨rfl, hn5⟩
      have hrg := sumI_range' orderL [wrap64 seed, (j : Int), (r : Int)]
      have hpeq : sumI orderL [wrap64 seed, (j : Int), (r : Int)] % (S : Int) = (partN seed h j r : Int) := by
        unfold partN
        rw [H0.out.1, Int.natCast_emod, Int.toNat_of_nonneg hrg.1]
      have hpl := partN_lt seed h j r
      rw [H0.out.1] at hpl
      rw [show sumI (ByteArray.mk #[111, 114, 100, 101, 114]).data.toList [wrap64 seed, (j : Int), (r : Int)] = sumI orderL [wrap64 seed, (j : Int), (r : Int)] from rfl]
      obtain ⟨T, hT⟩ : ∃ T, sumI orderL [wrap64 seed, (j : Int), (r : Int)] = T := ⟨_, rfl⟩
      rw [hT] at hrg hpeq ⊢
      obtain ⟨p, hp⟩ : ∃ p, partN seed h j r = p := ⟨_, rfl⟩
      rw [hp] at hpeq hpl
      have hxor := i64_xor_nat l p (by omega) (by omega)
      have HN5 := Lib.hid (And.intro (((Chg.refl (fun _ => False) wr).alloc _).new hn5) hp)
      clear hn5 hT hp
      go_wp2
      go_roundw
      case rel =>
        obtain ⟨hfw, hl, hr, hnew⟩ := HW.out
        refine ⟨j + 1, r, l ^^^ p, by omega, rfl, ?_, by go_num, ?_, hr, ?_, hnew.new HN5.out.1⟩
        · rfl
        · show ((fwd (partN seed h) j (l0, r0)).2, (fwd (partN seed h) j (l0, r0)).1 ^^^ partN seed h j (fwd (partN seed h) j (l0, r0)).2) = _
          rw [hfw]
          show (r, l ^^^ partN seed h j r) = _
          rw [HN5.out.2]
        · have := Nat.xor_lt_two_pow (n := h) (x := l) (y := p) (by rw [H0.out.1]; exact hl) (by rw [H0.out.1]; exact hpl)
          rwa [H0.out.1] at this
      case measure => simp [intOf]; omega

set_option maxHeartbeats 2000000 in
set_option maxRecDepth 100000 in
theorem rorder_any (seed : Int) (n k : Int) (w : World) (hn : -9223372036854775808 ≤ n ∧ n ≤ 9223372036854775807) : Calls Try.prog 28 #[.int .u64 seed, .int .i64 n, .int .i64 k] w fun e w' =>
    e = .returned (.tuple #[.int .i64 (if boundsI n k = 0 then (orderN seed n.toNat k.toNat : Int) else 0), .int .i64 (boundsI n k)]) ∧ New w w' := by
  by_cases h1 : n < 1
  · have hbi : boundsI n k = 1 := by unfold boundsI; rw [if_pos (.inl h1)]
    rw [hbi, if_neg (by decide)]
    clear hbi
    go_enter Try.func28, Try.ntmps28
    go_wp2
    go_ret2
    exact ⟨rfl, Chg.refl _ _⟩
  · have g1 : decide (n < 1) = false := by simp; omega
    by_cases h2 : 1099511627776 < n
    · have hbi : boundsI n k = 1 := by unfold boundsI; rw [if_pos (.inr h2)]
      rw [hbi, if_neg (by decide)]
      clear hbi
      go_enter Try.func28, Try.ntmps28
      go_wp2
      go_ret2
      exact ⟨rfl, Chg.refl _ _⟩
    · have g2 : decide (1099511627776 < n) = false := by simp; omega
      by_cases h3 : k < 0
      · have hbi : boundsI n k = 5 := by unfold boundsI; rw [if_neg (by omega), if_pos (.inl h3)]
        rw [hbi, if_neg (by decide)]
        clear hbi
        go_enter Try.func28, Try.ntmps28
        go_wp2
        go_ret2
        exact ⟨rfl, Chg.refl _ _⟩
      · have g3 : decide (k < 0) = false := by simp; omega
        by_cases h4 : n ≤ k
        · have hbi : boundsI n k = 5 := by unfold boundsI; rw [if_neg (by omega), if_pos (.inr h4)]
          rw [hbi, if_neg (by decide)]
          clear hbi
          go_enter Try.func28, Try.ntmps28
          go_wp2
          go_ret2
          exact ⟨rfl, Chg.refl _ _⟩
        · have g4 : decide (n ≤ k) = false := by simp; omega
          have hb : boundsI n k = 0 := boundsI_of (by omega) (by omega) (by omega) (by omega)
          obtain ⟨N, rfl⟩ : ∃ N : Nat, n = (N : Int) := ⟨n.toNat, by omega⟩
          obtain ⟨K, rfl⟩ : ∃ K : Nat, k = (K : Int) := ⟨k.toNat, by omega⟩
          have hN : N ≤ 1099511627776 := by omega
          have hK : K < N := by omega
          rw [if_pos hb, hb, Int.toNat_natCast, Int.toNat_natCast]
          clear hb hn
          obtain ⟨h, hH⟩ := half_ex N hN
          have hh := hH.le hN
          have hon : orderN seed N K = land (forthN (partN seed h) h) N K := by unfold orderN; rw [halfN_eq hH]
          rw [hon]
          clear hon
          have hperm := permN seed hH
          obtain ⟨f, hf⟩ : ∃ f, forthN (partN seed h) h = f := ⟨_, rfl⟩
          have hfa := fun x (hx : x < 4 ^ h) W => rturned_any seed h x (2 ^ h) hh rfl (by rw [sq_pow]; exact hx) W
          rw [hf] at hfa hperm ⊢
          have HF := Lib.hid (And.intro hperm (And.intro hfa (And.intro hH hf)))
          have hN4 := hH.2.1
          obtain ⟨M, hM⟩ : ∃ M, 4 ^ h = M := ⟨_, rfl⟩
          rw [hM] at hN4
          have HM := Lib.hid hM
          clear hM hf hperm hfa hH
          go_enter Try.func28, Try.ntmps28
          go_wp2_with fail
          go_loopw [8] (fun x wr => ∃ j : Nat, 1 ≤ j ∧ j ≤ h ∧ x = .int .i64 ((2 ^ j : Nat) : Int) ∧ wr = w) (fun x _ => 2 ^ h - (intOf x).toNat)
          case atStart => exact ⟨1, by omega, HF.out.2.2.1.1, rfl, rfl⟩
          case round =>
            obtain ⟨j, hj1, hjh, rfl, rfl⟩ := hrel
            have hsb := side_le (h := j) (by omega)
            have hsq : 2 ^ j * 2 ^ j = 4 ^ j := sq_pow j
            obtain ⟨s, hs⟩ : ∃ s, 2 ^ j = s := ⟨_, rfl⟩
            rw [hs] at hsb hsq ⊢
            have hmi : (s : Int) * (s : Int) = ((4 ^ j : Nat) : Int) := by rw [← hsq, Int.natCast_mul]
            have h4b : 4 ^ j ≤ 1099511627776 := Nat.le_trans (Nat.pow_le_pow_right (by omega) (show j ≤ 20 by omega)) (by decide)
            obtain ⟨q, hq⟩ : ∃ q, 4 ^ j = q := ⟨_, rfl⟩
            rw [hq] at hmi h4b hsq
            have HQ := Lib.hid (And.intro hs (And.intro hq hsq))
            clear hs hq hsq
            by_cases hlt : q < N
            · have hlti : (q : Int) < (N : Int) := by omega
              have hjl : j < h := by
                rcases Nat.lt_or_ge j h with g | g
                · exact g
                · obtain rfl : j = h := by omega
                  have e1 := HQ.out.2.1
                  have e2 := HF.out.2.2.1.2.1
                  omega
              go_wp2
              go_roundw
              case rel => exact ⟨j + 1, by omega, by omega, by have := HQ.out.1; rw [Nat.pow_succ, this]; congr 1, trivial⟩
              case measure =>
                have h1 := HQ.out.1
                have h2 : 2 ^ (j + 1) ≤ 2 ^ h := Nat.pow_le_pow_right (by omega) (by omega)
                have h3 : 0 < 2 ^ j := Nat.pow_pos (by omega)
                rw [Nat.pow_succ] at h2
                simp [intOf]
                omega
            · have hlti : decide ((q : Int) < (N : Int)) = false := by simp; omega
              have hje : j = h := by
                rcases Nat.lt_or_ge j h with g | g
                · have := HF.out.2.2.1.2.2 j hj1 g
                  have e1 := HQ.out.2.1
                  omega
                · omega
              subst hje
              go_wp2_with fail
              have hfa := HF.out.2.1
              rw [HQ.out.1] at hfa
              refine (hfa K (by have := HM.out; omega) wr).mono ?_
              rintro e w4 ⟨rfl, hn4⟩
              have HN4 := Lib.hid (And.intro hn4 hfa)
              clear hn4 hfa
              go_wp2_with fail
              go_loopw [9] (fun x wq => ∃ y : Nat, x = .int .i64 y ∧ y < M ∧ (∃ t, iter f t y < N) ∧ land f N K = iter f (dist f N y) y ∧ New w4 wq) (fun x _ => dist f N (intOf x).toNat)
              case atStart => exact ⟨f K, rfl, by have := HF.out.1.fl K (by have := HM.out; omega); have := HM.out; omega, land_ex (HF.out.1) (by have := HM.out; omega) hK, rfl, Chg.refl _ _⟩
              case round =>
                obtain ⟨y, rfl, hy, hex, hland, hnew⟩ := hrel
                have HX := Lib.hid (And.intro hex (And.intro hland hnew))
                clear hex hland hnew
                by_cases hlt : y < N
                · have hge : decide ((N : Int) ≤ (y : Int)) = false := by simp; omega
                  go_wp2
                  go_ret2
                  obtain ⟨hex, hland, hnew⟩ := HX.out
                  rw [hland, dist_zero hlt]
                  exact ⟨rfl, HN4.out.1.new hnew⟩
                · have hge : (N : Int) ≤ (y : Int) := by omega
                  go_wp2_with fail
                  refine (HN4.out.2 y (by have := HM.out; omega) _).mono ?_
                  rintro e w6 ⟨rfl, hn6⟩
                  have HN6 := Lib.hid hn6
                  clear hn6
                  go_wp2
                  go_roundw
                  case rel =>
                    obtain ⟨hex, hland, hnew⟩ := HX.out
                    obtain ⟨h1, h2, h3⟩ := land_walk hex hland hlt
                    exact ⟨f y, rfl, by have := HF.out.1.fl y (by have := HM.out; omega); have := HM.out; omega, h1, h2, hnew.new HN6.out⟩
                  case measure =>
                    obtain ⟨hex, hland, hnew⟩ := HX.out
                    obtain ⟨h1, h2, h3⟩ := land_walk hex hland hlt
                    simpa [intOf] using h3
end Go.Proofs.Ytcjbndlhomokpaa
