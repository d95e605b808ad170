/- The walk of refuterlaw05.RandAgrees. -/
import Derived.Test.YtgofjkppeobjfaaB5
import Derived.Test.YtgofjkppeobjfaaArgsZ
namespace Go.Proofs.Ytgofjkppeobjfaa
set_option linter.unusedVariables false
open Go.RowKit Go.Mem Go.Dig Go.Pure

theorem big_word (seed : Int) (s : ByteArray) (hs : s.size ≤ 1000000) (i : Int) (hi : 0 ≤ i ∧ i ≤ 100000000) (v : Value) (N : Nat) (h2 : 2 ≤ N) (hN : N ≤ 4611686018427387904) (X Y : Int) (hX : wordI seed s.data.toList (i + takenN seed s.data.toList i N) % N = X) (hY : i + takenN seed s.data.toList i N + 1 = Y) (w : World) (hv : WI w v (N : Int)) :
    Calls Try.prog 12 #[.int .u64 seed, .string s, .int .i64 i, v] w fun e w' => ∃ sr Ar nr cr, e = .returned (.tuple #[.agg #[.bool sr, .slice Ar nr cr], .int .i64 Y, .int .i64 0]) ∧ Hid (WI w' (.agg #[.bool sr, .slice Ar nr cr]) X ∧ New w w') := by
  have h1 : p64 1 = 18446744073709551616 := Nat.pow_one _
  refine (big_ok seed s hs i hi v N 1 (by omega) (by omega) (by omega) (by rw [h1]; omega) (fun j hj => by rw [show j = 0 by omega, p64_zero]; omega) w hv).mono ?_
  rintro e w1 ⟨sr, Ar, nr, cr, t, rfl, H⟩
  have ht : takenN seed s.data.toList i N = t := taken_of (by omega) (by rw [← p64_two]; exact H.out.1)
  rw [ht] at hX hY
  have hw := H.out.2.1
  rw [Int.natCast_emod, try1, hX] at hw
  refine ⟨sr, Ar, nr, cr, ?_, hw, H.out.2.2⟩
  rw [Nat.mul_one, ← hY]
  rfl

theorem sum_ones (m : Nat) : (List.replicate m (1 : Int)).sum = (m : Int) := by
  induction m with
  | zero => rfl
  | succ m ih => rw [List.replicate_succ, List.sum_cons, ih]; omega
theorem seek_ones : ∀ (m : Nat) (r k : Nat), r < m → seek (List.replicate m 1) (r : Int) k = some (k + r) := by
  intro m
  induction m with
  | zero => intro r k h; omega
  | succ m ih =>
    intro r k h
    rw [List.replicate_succ, seek]
    by_cases h0 : r = 0
    · subst h0; rw [if_pos (by omega)]; rfl
    · rw [if_neg (by omega), show (r : Int) - 1 = ((r - 1 : Nat) : Int) by omega, ih (r - 1) (k + 1) (by omega)]
      congr 1
      omega
theorem pick_ones (seed : Int) (lab : List UInt8) (i : Int) (m : Nat) (h1 : 1 ≤ m) (h2 : m ≤ 4096) (X Y : Int) (hX : wordI seed lab (i + takenN seed lab i m) % m = X) (hY : i + takenN seed lab i m + 1 = Y) : pickR seed lab i (List.replicate m 1) = (X, Y, 0) := by
  have hg : goodW (List.replicate m 1) := fun w hw => by
    have := (List.mem_replicate.1 hw).2
    omega
  have hb : ¬ pickBad (List.replicate m 1) := by
    intro h
    rcases h with h | h | h | h
    · have := congrArg List.length h; simp at this; omega
    · rw [List.length_replicate] at h; omega
    · exact h hg
    · rw [sum_ones] at h; omega
  have h0 : 0 ≤ X := by rw [← hX]; exact Int.emod_nonneg _ (by omega)
  have hm : X < m := by rw [← hX]; exact Int.emod_lt_of_pos _ (by omega)
  obtain ⟨r, rfl⟩ : ∃ r : Nat, X = (r : Int) := ⟨X.toNat, (Int.toNat_of_nonneg h0).symm⟩
  have hk := seek_ones m r 0 (by omega)
  rw [Nat.zero_add] at hk
  rw [pickR_ok hb (S := m) (sum_ones m) rfl hX hk, hY]

set_option maxRecDepth 100000 in
set_option maxHeartbeats 4000000 in
theorem randAgrees_walk (seed i k : Int) (hi : -9223372036854775808 ≤ i ∧ i ≤ 9223372036854775807) (hk : -9223372036854775808 ≤ k ∧ k ≤ 9223372036854775807) (w : World) :
    Calls Try.prog 4 #[.int .u64 seed, .int .i64 i, .int .i64 k] w fun e w' => e = .returned (.bool true) ∧ New w w' := by
  have HI := Lib.hid (And.intro hi hk)
  clear hi hk
  go_enter Try.func4, Try.ntmps4
  go_wp2_with fail
  refine (around_any i 1000000 w HI.out.1.1 HI.out.1.2 (by omega) (by omega)).mono ?_
  rintro e w1 ⟨rfl, rfl⟩
  obtain ⟨a, ha, hab⟩ : ∃ a : Nat, aroundI i 1000000 = (a : Int) ∧ a < 1000000 := by
    have := aroundI_range i 1000000 (by omega)
    exact ⟨(aroundI i 1000000).toNat, by omega, by omega⟩
  rw [ha]
  clear ha
  go_wp2_with fail
  refine (rbound_any k HI.out.2.1 HI.out.2.2 w).mono ?_
  rintro e w1 ⟨b, rfl, hb, rfl⟩
  obtain ⟨x, hx, hmax⟩ := max_ex Try.prog 2 (b : Int)
  obtain ⟨n, rfl⟩ : ∃ n : Nat, x = (n : Int) := ⟨x.toNat, by omega⟩
  have hn2 : 2 ≤ n := by omega
  have hnb : n ≤ 4611686018427387904 := by omega
  clear hx
  obtain ⟨b0, hb0⟩ : ∃ b0 : ByteArray, ByteArray.mk #[116, 101, 115, 116] = b0 := ⟨_, rfl⟩
  have hb0s : b0.size ≤ 1000000 := by rw [← hb0]; decide
  obtain ⟨X, hX⟩ : ∃ X, wordI seed b0.data.toList ((a : Int) + takenN seed b0.data.toList a n) % n = X := ⟨_, rfl⟩
  obtain ⟨Y, hY⟩ : ∃ Y, (a : Int) + takenN seed b0.data.toList a n + 1 = Y := ⟨_, rfl⟩
  have hbel := below_any seed b0 hb0s (a : Int) ⟨by omega, by omega⟩ n (by omega) hnb w
  rw [hX, hY] at hbel
  have hX0 : 0 ≤ X ∧ X < n := by rw [← hX]; exact ⟨Int.emod_nonneg _ (by omega), Int.emod_lt_of_pos _ (by omega)⟩
  have HB := Lib.hid (And.intro hbel (And.intro hX (And.intro hY (And.intro hX0 hb0))))
  clear hbel hX hY hX0 hb0
  go_wp2_with fail
  clear hmax
  rw [HB.out.2.2.2.2]
  refine HB.out.1.mono ?_
  rintro e w2 ⟨rfl, hn1⟩
  have H2 := Lib.hid hn1
  clear hn1
  go_wp2_with fail
  refine (from_b (n : Int) w2 (by omega) (by omega)).mono ?_
  rintro e w3 ⟨s3, A3, n3, c3, rfl, H3⟩
  go_wp2_with fail
  rw [HB.out.2.2.2.2]
  refine (big_word seed b0 hb0s (a : Int) ⟨by omega, by omega⟩ _ n hn2 hnb X Y HB.out.2.1 HB.out.2.2.1 w3 H3.out.1).mono ?_
  rintro e w4 ⟨s4, A4, n4, c4, rfl, H4⟩
  have H5 := Lib.hid (H2.out.new (H3.out.2.new H4.out.2))
  clear H3 H2
  go_wp2_with fail
  refine Calls.new1 ?_
  intro W5 hb5 hn5 hz5
  have hint : isInt X = true := by unfold isInt; have := HB.out.2.2.2.1; simp; omega
  have hif : intIf X = X := by unfold intIf; rw [hint]; rfl
  have hsm := wsmall_any _ X W5 (H4.out.1.new hn5)
  rw [hint, hif] at hsm
  have HSM := Lib.hid (And.intro hsm (H5.out.new hn5))
  clear hb5 hn5 hz5 hint hif hsm H4 H5
  refine HSM.out.1.mono ?_
  rintro e w6 ⟨rfl, hn6⟩
  have H6 := Lib.hid (HSM.out.2.new hn6)
  clear HSM hn6
  go_wp2_with fail
  refine (around_any k 30 w6 HI.out.2.1 HI.out.2.2 (by omega) (by omega)).mono ?_
  rintro e w7 ⟨rfl, rfl⟩
  obtain ⟨r, hr, hrb⟩ : ∃ r : Nat, aroundI k 30 = (r : Int) ∧ r < 30 := by
    have := aroundI_range k 30 (by omega)
    exact ⟨(aroundI k 30).toNat, by omega, by omega⟩
  rw [hr]
  clear hr
  go_wp2_with fail
  obtain ⟨m, hm⟩ : ∃ m : Nat, 1 + r = m := ⟨_, rfl⟩
  rw [show (1 + (r : Int)) = (m : Int) by omega]
  have hm1 : 1 ≤ m := by omega
  have hm2 : m ≤ 30 := by omega
  clear hm hrb
  have H0 : Hid (w6.ownsRow w6.heap.size 3 1 (.slice none 0 0) 0 (is [])) := World.ownsRow_nil w6 w6.heap.size _ _
  go_loopw [17, 18] (fun v u wr => ∃ j : Nat, ∃ A c, v = .slice A j c ∧ u = .int .i64 (j : Int) ∧ j ≤ m ∧ Hid (wr.ownsRow w6.heap.size 3 1 (.slice A j c) j (is (List.replicate j 1)) ∧ New w6 wr)) (fun _ u _ => m - (intOf u).toNat)
  case atStart => exact ⟨0, none, 0, rfl, rfl, by omega, H0.out, Chg.refl _ _⟩
  case round =>
    clear H0
    obtain ⟨j, A, c, rfl, rfl, hj, HO⟩ := hrel
    by_cases hlt : j < m
    · have hlti : (j : Int) < (m : Int) := by omega
      go_wp2_with (at_builtin; refine wpList_app elemInts rfl _ _ rfl rfl (own_chg HO.out.1 ((Chg.refl (fun _ => False) _).alloc _) (fun _ _ h => h)) rfl (Rd.lit (is [1]) rfl) (by simp [is, Value.oneCell']) (by simp only [maxLen]; omega) (by omega) (by have := HO.out.2.size; simp; omega) ?_; intro A' c' w1 hown hg hat; have HA := Lib.hid (And.intro hown hg); clear hown hg hat)
      go_roundw
      case rel =>
        refine ⟨j + 1, A', c', rfl, by go_num, by omega, ?_, ?_⟩
        · have := HA.out.1
          rwa [show is (List.replicate j 1) ++ is [1] = is (List.replicate (j + 1) 1) by rw [List.replicate_succ']; simp [is]] at this
        · exact (HO.out.2.alloc _).grown HA.out.2 (fun b hb hlt => by have := (own_blk_le HO.out.1 hb).1; omega)
      case measure => simp [intOf]; omega
    · obtain rfl : j = m := by omega
      have hlti : decide ((j : Int) < (j : Int)) = false := by simp
      obtain ⟨X2, hX2⟩ : ∃ X, wordI seed b0.data.toList ((a : Int) + takenN seed b0.data.toList a j) % j = X := ⟨_, rfl⟩
      obtain ⟨Y2, hY2⟩ : ∃ Y, (a : Int) + takenN seed b0.data.toList a j + 1 = Y := ⟨_, rfl⟩
      have hbel := below_any seed b0 hb0s (a : Int) ⟨by omega, by omega⟩ j (by omega) (by omega) wr
      rw [hX2, hY2] at hbel
      have hpk := fun W (h : New wr W) => pick_any seed b0 hb0s (a : Int) ⟨by omega, by omega⟩ A j c (List.replicate j 1) W ((Rd.of_own HO.out.1).new h) (by omega)
      rw [pick_ones seed b0.data.toList a j hm1 (by omega) X2 Y2 hX2 hY2] at hpk
      have HP := Lib.hid (And.intro hbel hpk)
      clear hX2 hY2 hbel hpk hlt hj
      go_wp2_with fail
      rw [HB.out.2.2.2.2]
      refine HP.out.1.mono ?_
      rintro e w7 ⟨rfl, hn7⟩
      have H7 := Lib.hid hn7
      clear hn7
      go_wp2_with fail
      rw [HB.out.2.2.2.2]
      refine (HP.out.2 w7 H7.out).mono ?_
      rintro e w8 ⟨rfl, hn8⟩
      have H8 := Lib.hid (H6.out.new (HO.out.2.new (H7.out.new hn8)))
      clear hn8
      go_wp2_with fail
      refine (lives_any w8).mono ?_
      rintro e w9 ⟨rfl, hn9⟩
      have H9 := Lib.hid (H8.out.new hn9)
      clear hn9
      go_wp2
      go_ret
      exact ⟨rfl, H9.out⟩
end Go.Proofs.Ytgofjkppeobjfaa
