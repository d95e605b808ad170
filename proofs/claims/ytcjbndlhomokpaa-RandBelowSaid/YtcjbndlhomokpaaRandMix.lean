/- Contracts of rand's mixer: rounds, part, forth, back, newMixer, bounds. -/
import Derived.Test.YtcjbndlhomokpaaRandWord
import Derived.Test.YtcjbndlhomokpaaPureFeist
import Derived.Deep.RegionWith
namespace Go.Proofs.Ytcjbndlhomokpaa
open Go.RowKit Go.Shelf Go.Mem Go.Pure

def orderL : List UInt8 := [111, 114, 100, 101, 114]
/-- What a round mixes into a half. -/
def partN (seed : Int) (h : Nat) (i r : Nat) : Nat := (sumI orderL [wrap64 seed, (i : Int), (r : Int)]).toNat % 2 ^ h
theorem partN_lt (seed : Int) (h i r : Nat) : partN seed h i r < 2 ^ h := Nat.mod_lt _ (Nat.pow_pos (by omega))

set_option maxHeartbeats 1000000 in
theorem rounds_any (w : World) : Calls Try.prog 69 #[] w fun e w' => e = .returned (.agg #[.int .i64 0, .int .i64 1, .int .i64 2, .int .i64 3]) ∧ New w w' := by
  go_enter Try.func69, Try.ntmps69
  go_wp2
  refine bodyPost_ret (results_cell_row rfl _ _ w.heap.size _ _ (0, 0) _ rfl (heap_alloc_new _ _) Try.underlying104 rfl (by kernel_rfl)) rfl ?_
  exact ⟨rfl, (Chg.refl _ w).alloc _⟩

/-- h is the half for n numbers. -/
def IsHalf (n h : Nat) : Prop := 1 ≤ h ∧ n ≤ 4 ^ h ∧ ∀ j, 1 ≤ j → j < h → 4 ^ j < n
theorem IsHalf.le {n h : Nat} (H : IsHalf n h) (hn : n ≤ 1099511627776) : h ≤ 20 := by
  rcases Nat.lt_or_ge 20 h with h1 | h1
  · have := H.2.2 20 (by omega) h1
    omega
  · exact h1
theorem IsHalf.uniq {n h g : Nat} (H : IsHalf n h) (G : IsHalf n g) : h = g := by
  rcases Nat.lt_trichotomy h g with h1 | h1 | h1
  · have := G.2.2 h H.1 h1; have := H.2.1; omega
  · exact h1
  · have := H.2.2 g G.1 h1; have := G.2.1; omega
theorem four_pow (h : Nat) : 4 ^ h = 2 ^ (2 * h) := by rw [Nat.pow_mul]

set_option maxHeartbeats 1000000 in
theorem newMixer_any (seed : Int) (n : Nat) (hn : n ≤ 1099511627776) (w : World) : Calls Try.prog 47 #[.int .u64 seed, .int .i64 n] w fun e w' => ∃ h : Nat, e = .returned (.agg #[.int .u64 seed, .int .i64 h]) ∧ IsHalf n h ∧ New w w' := by
  go_enter Try.func47, Try.ntmps47
  go_wp2
  go_loopw [5] (fun i wr => ∃ h : Nat, 1 ≤ h ∧ h ≤ 20 ∧ i = .int .i64 h ∧ (∀ j, 1 ≤ j → j < h → 4 ^ j < n) ∧ wr = w.alloc (.cells #[.int .u64 0, .int .i64 0] 85)) (fun i _ => 21 - (intOf i).toNat)
  case atStart => exact ⟨1, by omega, by omega, rfl, fun j h1 h2 => by omega, rfl⟩
  case round =>
    obtain ⟨h, h1, h20, rfl, hj, rfl⟩ := hrel
    have HJ := Lib.hid hj
    clear hj
    obtain ⟨q, hq⟩ : ∃ q, 4 ^ h = q := ⟨_, rfl⟩
    have hq2 : 2 ^ (2 * h) = q := by rw [← four_pow, hq]
    have hqb : q ≤ 1099511627776 := by rw [← hq]; exact Nat.le_trans (Nat.pow_le_pow_right (by omega) h20) (by decide)
    have hwq : wrap64 (2 ^ (2 * h)) = (q : Int) := by
      have e : (2 : Int) ^ (2 * h) = ((2 ^ (2 * h) : Nat) : Int) := by simp
      rw [e, hq2]
      unfold wrap64
      omega
    have HQ := Lib.hid hq
    clear hq hq2
    by_cases hlt : q < n
    · have hlti : (q : Int) < (n : Int) := by omega
      have hh19 : h ≤ 19 := by
        rcases Nat.lt_or_ge 19 h with g | g
        · obtain rfl : h = 20 := by omega
          have := HQ.out
          omega
        · exact g
      go_wp2
      go_roundw
      case rel => exact ⟨h + 1, by omega, by omega, by go_num, fun j h1 h2 => by
        rcases Nat.lt_or_ge j h with g | g
        · exact HJ.out j h1 g
        · obtain rfl : j = h := by omega
          rw [HQ.out]; exact hlt, trivial⟩
      case measure => simp [intOf]; omega
    · have hlti : decide ((q : Int) < (n : Int)) = false := by simp; omega
      go_wp2
      refine bodyPost_ret (results_cell_row rfl _ _ w.heap.size _ _ (0, 0) _ rfl (heap_alloc_new _ _) Try.underlying85 rfl (by kernel_rfl)) rfl ?_
      exact ⟨h, rfl, ⟨h1, by rw [HQ.out]; omega, HJ.out⟩, (Chg.refl _ w).alloc _⟩

theorem wrapEq (x : Int) : IntKind.i64.wrap x = wrap64 x := by rw [IntKind.wrap_i64]; unfold wrap64; omega

theorem mask_eq {h : Nat} (hh : h ≤ 20) : IntKind.u64.wrap (IntKind.u64.wrap (2 ^ h) - 1) = ((2 ^ h - 1 : Nat) : Int) := by
  have h1 : 2 ^ h ≤ 1048576 := Nat.le_trans (Nat.pow_le_pow_right (by omega) hh) (by decide)
  have h0 : 0 < 2 ^ h := Nat.pow_pos (by omega)
  have e : (2 : Int) ^ h = ((2 ^ h : Nat) : Int) := by simp
  rw [e, IntKind.wrap_u64, IntKind.wrap_u64]
  omega
theorem part_eq {seed : Int} {i r S h : Nat} (hS : (S : Int) = sumI orderL [wrap64 seed, (i : Int), (r : Int)]) (hlt : S < 18446744073709551616) (hh : h ≤ 20) :
    wrap64 (bits .and .u64 (S : Int) (IntKind.u64.wrap (IntKind.u64.wrap (2 ^ h) - 1))) = (partN seed h i r : Int) := by
  have h1 : 2 ^ h ≤ 1048576 := Nat.le_trans (Nat.pow_le_pow_right (by omega) hh) (by decide)
  rw [mask_eq hh, u64_and_nat _ _ hlt (by omega), Nat.and_two_pow_sub_one_eq_mod]
  unfold partN
  rw [← hS, Int.toNat_natCast]
  have h0 : 0 < 2 ^ h := Nat.pow_pos (by omega)
  have := Nat.mod_lt S h0
  unfold wrap64
  omega

set_option maxHeartbeats 2000000 in
theorem part_any (seed : Int) (h : Nat) (hh : h ≤ 20) (i r : Nat) (w : World) : Calls Try.prog 70 #[.agg #[.int .u64 seed, .int .i64 h], .int .i64 i, .int .i64 r] w fun e w' => e = .returned (.int .i64 (partN seed h i r)) ∧ New w w' := by
  go_enter Try.func70, Try.ntmps70
  go_wp2_with fail
  have hsum := fun (W : World) (hr : Rd W (some ⟨w.heap.size + 1, 0, none⟩) 3 (is [IntKind.i64.wrap seed, (i : Int), (r : Int)])) (hW : New w W) (hb : W.cell? ⟨w.heap.size, 1, none⟩ = some (.int .i64 h)) =>
    (sum_any ⟨#[111, 114, 100, 101, 114]⟩ (by decide) _ 3 3 [IntKind.i64.wrap seed, (i : Int), (r : Int)] W hr (by omega)).mono (R' := fun e w' => ∃ S : Nat, e = .returned (.int .u64 (S : Int)) ∧ Hid ((S : Int) = sumI orderL [wrap64 seed, (i : Int), (r : Int)]) ∧ S < 18446744073709551616 ∧ Hid (New w w') ∧ w'.cell? ⟨w.heap.size, 1, none⟩ = some (.int .i64 h)) fun e w' ⟨h1, h2⟩ => by
      have hrg := sumI_range' orderL [wrap64 seed, (i : Int), (r : Int)]
      refine ⟨(sumI orderL [wrap64 seed, (i : Int), (r : Int)]).toNat, ?_, ?_, by omega, hW.new h2, h2.cell hb (fun h => h)⟩
      · rw [h1, wrapEq, Int.toNat_of_nonneg hrg.1]; rfl
      · exact Int.toNat_of_nonneg hrg.1
  have hb0 : Blk (w.alloc (.cells #[.int .u64 seed, .int .i64 h] 85)) w.heap.size 85 #[.int .u64 seed, .int .i64 h] := Blk.new _ _ _
  have hR := Rd.lit (w := w.alloc (.cells #[.int .u64 seed, .int .i64 h] 85)) (e := 3) (is [IntKind.i64.wrap seed, (i : Int), (r : Int)]) (n := 3) rfl
  rw [World.size_alloc] at hR
  have hcall := hsum ((w.alloc (.cells #[.int .u64 seed, .int .i64 h] 85)).alloc (.cells #[.int .i64 (IntKind.i64.wrap seed), .int .i64 (i : Int), .int .i64 (r : Int)] 3)).drew
    (hR.new ((Chg.refl _ _).drew)) ((((Chg.refl _ w).alloc _).alloc _).drew) (((hb0.alloc _).drew).cell 1 rfl)
  have HC := Lib.hid hcall
  clear hsum hb0 hR hcall
  go_region_with (first
    | (go_at_call 21; refine HC.out.mono ?_; rintro e w1 ⟨S, rfl, HS, hSlt, HN1, hc1⟩))
  all_goals
    go_wp2
    go_ret
    refine ⟨ret_int ?_, HN1.out⟩
    rw [← part_eq HS.out hSlt hh, wrapEq]
end Go.Proofs.Ytcjbndlhomokpaa
