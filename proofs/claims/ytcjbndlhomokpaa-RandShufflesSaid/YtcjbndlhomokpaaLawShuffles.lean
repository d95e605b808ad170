/- The walk of refuterlaw05.RandShuffles. -/
import Derived.Test.YtcjbndlhomokpaaRandLives
import Derived.Test.YtcjbndlhomokpaaArgs
namespace Go.Proofs.Ytcjbndlhomokpaa
set_option linter.unusedVariables false
open Go.RowKit Go.Mem Go.Dig Go.Pure

theorem shufL_at (seed : Int) {n i : Nat} (h : i < n) : (shufL seed n)[i]? = some (placeN seed n i : Int) := by
  unfold shufL
  rw [List.getElem?_map, List.getElem?_range h]
  rfl
set_option maxRecDepth 100000 in
set_option maxHeartbeats 4000000 in
theorem randShuffles_walk (seed : Int) (n : Int) (hn : -9223372036854775808 ≤ n ∧ n ≤ 9223372036854775807) (w : World) :
    Calls Try.prog 8 #[.int .u64 seed, .int .i64 n] w fun e w' => e = .returned (.bool true) ∧ New w w' := by
  have HN := Lib.hid hn
  clear hn
  go_enter Try.func8, Try.ntmps8
  go_wp2_with fail
  refine (around_any n 80 w HN.out.1 HN.out.2 (by omega) (by omega)).mono ?_
  rintro e w1 ⟨rfl, rfl⟩
  obtain ⟨a, ha, hab⟩ : ∃ a : Nat, aroundI n 80 = (a : Int) ∧ a < 80 := by
    have := aroundI_range n 80 (by omega)
    exact ⟨(aroundI n 80).toNat, by omega, by omega⟩
  rw [ha]
  clear ha
  go_wp2_with fail
  obtain ⟨k, hk⟩ : ∃ k : Nat, 1 + a = k := ⟨_, rfl⟩
  rw [show (1 + (a : Int)) = (k : Int) by omega]
  have hk1 : 1 ≤ k := by omega
  have hk2 : k ≤ 80 := by omega
  clear hk hab
  refine (shuffle_any seed k hk1 (by omega) w).mono ?_
  rintro e w2 ⟨A, c, rfl, ho, hn2⟩
  have H2 := Lib.hid (And.intro (Rd.of_own ho) hn2)
  clear ho hn2
  go_wp2_with fail
  go_loopw [8] (fun i wr => ∃ j : Nat, j ≤ k ∧ i = .int .i64 j ∧ Hid (New w2 wr)) (fun i _ => k - (intOf i).toNat)
  case atStart => exact ⟨0, by omega, rfl, Chg.refl _ _⟩
  case round =>
    obtain ⟨i, hi, rfl, HW⟩ := hrel
    by_cases hlt : i < k
    · obtain ⟨hr, _⟩ := H2.out
      have hr2 := hr.new HW.out
      obtain ⟨ad, u, rfl, hu, hcu⟩ := hr2.at_ hlt
      obtain ⟨z, hz, rfl⟩ := is_at hu
      rw [shufL_at seed hlt] at hz
      injection hz with hz
      subst hz
      have hpl := place_lt seed (n := k) (k := i) (by omega) hlt
      have hop := order_place seed (n := k) (k := i) (by omega) hlt
      obtain ⟨p, hp⟩ : ∃ p, placeN seed k i = p := ⟨_, rfl⟩
      rw [hp] at hcu hpl hop
      have HB : Hid (boundsI (k : Int) (p : Int) = 0) := boundsI_of (by omega) (by omega) (by omega) (by omega)
      have HP := Lib.hid (And.intro hp hop)
      clear hr hr2 hu hp hop
      go_wp2_with fail
      refine (order_any seed (k : Int) (p : Int) wr (by omega)).mono ?_
      rw [HB.out, if_pos rfl, Int.toNat_natCast, Int.toNat_natCast, HP.out.2]
      rintro e w3 ⟨rfl, hn3⟩
      have hcu3 := hn3.cell hcu (fun h => h)
      have H3 := Lib.hid (HW.out.new hn3)
      clear hn3 hcu HW
      go_wp2_with fail
      go_loopw [11] (fun i' wr => ∃ j : Nat, j ≤ i ∧ i' = .int .i64 j ∧ Hid (New w3 wr)) (fun i' _ => i - (intOf i').toNat)
      case atStart => exact ⟨0, by omega, rfl, Chg.refl _ _⟩
      case round =>
        obtain ⟨j, hj, rfl, HV⟩ := hrel
        by_cases hji : j < i
        · obtain ⟨hr, _⟩ := H2.out
          have hr2 := hr.new (H3.out.new HV.out)
          obtain ⟨ad', u, hAd, hu, hcv⟩ := hr2.at_ (show j < k by omega)
          injection hAd with hAd
          subst hAd
          obtain ⟨z, hz, rfl⟩ := is_at hu
          rw [shufL_at seed (show j < k by omega)] at hz
          injection hz with hz
          subst hz
          have hne : placeN seed k j ≠ p := fun e => by
            have h1 := order_place seed (n := k) (k := j) (by omega) (by omega)
            rw [e, HP.out.2] at h1
            omega
          obtain ⟨q, hq⟩ : ∃ q, placeN seed k j = q := ⟨_, rfl⟩
          rw [hq] at hcv hne
          have hcu4 := HV.out.cell hcu3 (fun h => h)
          have heq : ((p : Int) == (q : Int)) = false := by simp; omega
          clear hr hr2 hu hq
          go_wp2
          go_quiet (fail)
          go_wp2
          go_roundw
          case rel => exact ⟨j + 1, by omega, by go_num, HV.out.drewN _⟩
          case measure => simp [intOf]; omega
        · obtain rfl : i = j := by omega
          go_wp2
          go_roundw
          case rel => exact ⟨i + 1, by omega, by go_num, H3.out.new HV.out⟩
          case measure => simp [intOf]; omega
    · go_wp2_with fail
      refine (around_any n 3 wr HN.out.1 HN.out.2 (by omega) (by omega)).mono ?_
      rintro e w3 ⟨rfl, rfl⟩
      obtain ⟨b, hb, hb3⟩ : ∃ b : Nat, aroundI n 3 = (b : Int) ∧ b < 3 := by
        have := aroundI_range n 3 (by omega)
        exact ⟨(aroundI n 3).toNat, by omega, by omega⟩
      rw [hb]
      clear hb
      go_wp2_with fail
      refine (shuffle_bad seed ((b : Int) - 2) (.inl (by omega)) wr).mono ?_
      rintro e w3 ⟨rfl, rfl⟩
      go_wp2_with fail
      refine (around_any n 4 wr HN.out.1 HN.out.2 (by omega) (by omega)).mono ?_
      rintro e w3 ⟨rfl, rfl⟩
      obtain ⟨d, hd, hd4⟩ : ∃ d : Nat, aroundI n 4 = (d : Int) ∧ d < 4 := by
        have := aroundI_range n 4 (by omega)
        exact ⟨(aroundI n 4).toNat, by omega, by omega⟩
      rw [hd]
      have HD := Lib.hid hd
      clear hd
      go_wp2_with fail
      by_cases hd2 : d < 2
      · have hd2i : (d : Int) < 2 := by omega
        obtain ⟨m, hm⟩ : ∃ m : Nat, 1023 + d = m := ⟨_, rfl⟩
        rw [show (1023 + (d : Int)) = (m : Int) by omega]
        refine (shuffle_any seed m (by omega) (by omega) wr).mono ?_
        rintro e w3 ⟨A3, c3, rfl, ho3, hn3⟩
        have HM := Lib.hid hm
        have H3 := Lib.hid (HW.out.new hn3)
        clear ho3 hn3 hm
        go_wp2_with fail
        refine (around_any n 4 w3 HN.out.1 HN.out.2 (by omega) (by omega)).mono ?_
        rintro e w4 ⟨rfl, rfl⟩
        rw [HD.out]
        go_wp2_with fail
        refine (around_any n 4 w3 HN.out.1 HN.out.2 (by omega) (by omega)).mono ?_
        rintro e w4 ⟨rfl, rfl⟩
        rw [HD.out]
        have he : ((m : Int) == 1023 + (d : Int)) = true := by have := HM.out; simp; omega
        go_wp2_with fail
        refine (lives_any w3).mono ?_
        rintro e w5 ⟨rfl, hn5⟩
        have H5 := Lib.hid (H2.out.2.new (H3.out.new hn5))
        clear hn5
        go_wp2
        go_ret
        exact ⟨rfl, H5.out⟩
      · have hd2i : decide ((d : Int) < 2) = false := by simp; omega
        refine (shuffle_bad seed (1023 + (d : Int)) (.inr (by omega)) wr).mono ?_
        rintro e w3 ⟨rfl, rfl⟩
        go_wp2_with fail
        refine (around_any n 4 wr HN.out.1 HN.out.2 (by omega) (by omega)).mono ?_
        rintro e w4 ⟨rfl, rfl⟩
        rw [HD.out]
        go_wp2_with fail
        refine (lives_any wr).mono ?_
        rintro e w5 ⟨rfl, hn5⟩
        have H5 := Lib.hid (H2.out.2.new (HW.out.new hn5))
        clear hn5
        go_wp2
        go_ret
        exact ⟨rfl, H5.out⟩
end Go.Proofs.Ytcjbndlhomokpaa
