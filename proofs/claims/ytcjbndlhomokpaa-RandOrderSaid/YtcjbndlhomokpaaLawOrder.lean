/- The walk of refuterlaw05.RandOrder. -/
import Derived.Test.YtcjbndlhomokpaaRandLives
import Derived.Test.YtcjbndlhomokpaaRandRef
import Derived.Test.YtcjbndlhomokpaaRandBound
import Derived.Test.YtcjbndlhomokpaaArgs
import Derived.Deep.RegionWith
import Derived.Deep.CutRange
namespace Go.Proofs.Ytcjbndlhomokpaa
set_option linter.unusedVariables false
open Go.RowKit Go.Mem Go.Dig Go.Pure

/-- What the four calls of a round return. -/
theorem order_round (seed m x : Int) (hm : -9223372036854775808 ≤ m ∧ m ≤ 9223372036854775807) : ∃ a er c g d : Int, (er = 0 → g = 0 ∧ c = x) ∧
    (∀ W, Calls Try.prog 27 #[.int .u64 seed, .int .i64 m, .int .i64 x] W fun e w' => e = .returned (.tuple #[.int .i64 a, .int .i64 er]) ∧ New W w') ∧
    (∀ W, Calls Try.prog 28 #[.int .u64 seed, .int .i64 m, .int .i64 x] W fun e w' => e = .returned (.tuple #[.int .i64 a, .int .i64 er]) ∧ New W w') ∧
    (∀ W, Calls Try.prog 29 #[.int .u64 seed, .int .i64 m, .int .i64 a] W fun e w' => e = .returned (.tuple #[.int .i64 c, .int .i64 g]) ∧ New W w') ∧
    (∀ W, Calls Try.prog 29 #[.int .u64 seed, .int .i64 m, .int .i64 x] W fun e w' => e = .returned (.tuple #[.int .i64 d, .int .i64 er]) ∧ New W w') := by
  refine ⟨_, _, _, _, _, ?_, fun W => order_any seed m x W hm, fun W => rorder_any seed m x W hm, fun W => place_any seed m _ W hm, fun W => place_any seed m x W hm⟩
  intro h
  rw [if_pos h]
  obtain ⟨h1, h2, h3, h4⟩ := boundsI_ok h
  have hlt := order_lt seed (n := m.toNat) (k := x.toNat) (by omega) (by omega)
  have hb : boundsI m (orderN seed m.toNat x.toNat : Int) = 0 := boundsI_of h1 h2 (by omega) (by omega)
  rw [hb, if_pos rfl, Int.toNat_natCast, place_order seed (by omega) (by omega)]
  exact ⟨rfl, by omega⟩

set_option maxRecDepth 100000 in
set_option maxHeartbeats 4000000 in
theorem randOrder_walk (seed : Int) (k n i : Int) (hk : -9223372036854775808 ≤ k ∧ k ≤ 9223372036854775807) (hn : -9223372036854775808 ≤ n ∧ n ≤ 9223372036854775807) (hi : -9223372036854775808 ≤ i ∧ i ≤ 9223372036854775807) (w : World) :
    Calls Try.prog 7 #[.int .u64 seed, .int .i64 k, .int .i64 n, .int .i64 i] w fun e w' => e = .returned (.bool true) ∧ New w w' := by
  have HN := Lib.hid (And.intro hk (And.intro hn hi))
  clear hk hn hi
  go_enter Try.func7, Try.ntmps7
  go_wp2_with fail
  refine (around_any k 1000 w HN.out.1.1 HN.out.1.2 (by omega) (by omega)).mono ?_
  rintro e w1 ⟨rfl, rfl⟩
  obtain ⟨a0, ha, hab⟩ : ∃ a : Nat, aroundI k 1000 = (a : Int) ∧ a < 1000 := by
    have := aroundI_range k 1000 (by omega)
    exact ⟨(aroundI k 1000).toNat, by omega, by omega⟩
  rw [ha]
  clear ha
  go_wp2_with fail
  refine (rbound_any (4 * (a0 : Int)) (by omega) (by omega) w).mono ?_
  rintro e w1 ⟨m0, rfl, ⟨hm01, hm02⟩, rfl⟩
  go_wp2_with fail
  refine (around_any n 1099511627776 w HN.out.2.1.1 HN.out.2.1.2 (by omega) (by omega)).mono ?_
  rintro e w1 ⟨rfl, rfl⟩
  obtain ⟨a1, ha, hab1⟩ : ∃ a : Nat, aroundI n 1099511627776 = (a : Int) ∧ a < 1099511627776 := by
    have := aroundI_range n 1099511627776 (by omega)
    exact ⟨(aroundI n 1099511627776).toNat, by omega, by omega⟩
  rw [ha]
  clear ha
  go_wp2_with fail
  refine (bound1_any n 1 HN.out.2.1.1 HN.out.2.1.2 (by omega) (by omega) w).mono ?_
  rintro e w1 ⟨rfl, rfl⟩
  obtain ⟨a2, ha, hab2⟩ : ∃ a : Int, aroundI n (2 * 1 + 1) - 1 = a ∧ (-1 ≤ a ∧ a ≤ 1) := by
    have := aroundI_range n (2 * 1 + 1) (by omega)
    exact ⟨_, rfl, by omega, by omega⟩
  rw [ha]
  obtain ⟨hab2a, hab2b⟩ := hab2
  clear ha
  go_wp2_with fail
  obtain ⟨W0, hW0⟩ : ∃ W0, w.alloc (.cells #[.int .i64 (m0 : Int), .int .i64 (1 + (a1 : Int)), .int .i64 n, .int .i64 (1099511627776 + a2)] 3) = W0 := ⟨_, rfl⟩
  have hr0 : Rd W0 (some ⟨w.heap.size, 0, none⟩) 4 (is [(m0 : Int), 1 + (a1 : Int), n, 1099511627776 + a2]) := by rw [← hW0]; exact Rd.lit (is [(m0 : Int), 1 + (a1 : Int), n, 1099511627776 + a2]) rfl
  have hn0 : New w W0 := by rw [← hW0]; exact (Chg.refl _ w).alloc _
  rw [hW0]
  clear hW0
  have hall : ∀ m ∈ [(m0 : Int), 1 + (a1 : Int), n, 1099511627776 + a2], -9223372036854775808 ≤ m ∧ m ≤ 9223372036854775807 := by
    intro m hm
    simp only [List.mem_cons, List.not_mem_nil, or_false] at hm
    have := HN.out.2.1
    rcases hm with rfl | rfl | rfl | rfl <;> omega
  have H0 := Lib.hid (And.intro hr0 (And.intro hn0 hall))
  clear hr0 hn0 hall
  generalize [(m0 : Int), 1 + (a1 : Int), n, 1099511627776 + a2] = ms at H0
  generalize w.heap.size = B0 at *
  clear hm01 hm02 hab hab1 hab2a hab2b
  go_loopw [10] (fun j wr => ∃ q : Nat, q ≤ 4 ∧ j = .int .i64 q ∧ Hid (New W0 wr)) (fun j _ => 4 - (intOf j).toNat)
  case atStart => exact ⟨0, by omega, rfl, Chg.refl _ _⟩
  case round =>
    obtain ⟨j, hj, rfl, HW⟩ := hrel
    by_cases hlt : j < 4
    · have hlti : (j : Int) < 4 := by omega
      obtain ⟨hr0, hn0, hall⟩ := H0.out
      obtain ⟨ad, u, hAd, hu, hcu⟩ := (hr0.new HW.out).at_ hlt
      injection hAd with hAd
      subst hAd
      obtain ⟨m, hm, rfl⟩ := is_at hu
      have hmb := hall m (List.mem_of_getElem? hm)
      obtain ⟨x, hx, hmax⟩ := max_ex Try.prog 1 m
      have hx1 : 1 ≤ x := by omega
      have hx2 : x ≤ 9223372036854775807 := by omega
      have HM := Lib.hid hmb
      clear hr0 hn0 hall hu hm hmb hx
      rw [Addr.add_lit, Nat.zero_add] at hcu
      go_wp2_with fail
      refine (around_any i x wr HN.out.2.2.1 HN.out.2.2.2 hx1 hx2).mono ?_
      rintro e w1 ⟨rfl, rfl⟩
      generalize aroundI i x = y
      clear hmax hx1 hx2
      go_wp2_with fail
      obtain ⟨W1, hW1⟩ : ∃ W1, wr.alloc (.cells #[.int .i64 y, .int .i64 i] 3) = W1 := ⟨_, rfl⟩
      have hr1 : Rd W1 (some ⟨wr.heap.size, 0, none⟩) 2 (is [y, i]) := by rw [← hW1]; exact Rd.lit (is [y, i]) rfl
      have hn1 : New wr W1 := by rw [← hW1]; exact (Chg.refl _ wr).alloc _
      have hcm := hn1.cell hcu (fun h => h)
      have H1 := Lib.hid (And.intro hr1 (HW.out.new hn1))
      rw [hW1]
      generalize wr.heap.size = B1 at *
      clear hW1 hr1 hn1 hcu HW
      go_loopw [12] (fun j wr => ∃ q : Nat, q ≤ 2 ∧ j = .int .i64 q ∧ Hid (New W1 wr)) (fun j _ => 2 - (intOf j).toNat)
      case atStart => exact ⟨0, by omega, rfl, Chg.refl _ _⟩
      case round =>
        obtain ⟨wo, rfl⟩ : ∃ wo : World, wo = wr := ⟨_, rfl⟩
        obtain ⟨q, hq, rfl, HW⟩ := hrel
        by_cases hq2 : q < 2
        · have hq2i : (q : Int) < 2 := by omega
          obtain ⟨hr1, hn1⟩ := H1.out
          obtain ⟨ad, u, hAd, hu, hcx⟩ := (hr1.new HW.out).at_ hq2
          injection hAd with hAd
          subst hAd
          obtain ⟨x, hx, rfl⟩ := is_at hu
          rw [Addr.add_lit, Nat.zero_add] at hcx
          have hcmo := HW.out.cell hcm (fun h => h)
          obtain ⟨a, er, c, g, d, hok, hO, hRO, hP1, hP2⟩ := order_round seed m x HM.out
          have HC := Lib.hid (And.intro hok (And.intro hO (And.intro hRO (And.intro hP1 hP2))))
          clear hr1 hn1 hu hx hok hO hRO hP1 hP2
          go_upto_region 9 with fail
          go_cut [13, 14] from 52 to 64 (fun v u wc => v = .int .i64 a ∧ u = .int .i64 er ∧ Hid (New wo wc))
          case first =>
            go_region_with (first
              | (go_at_call 27; refine (HC.out.2.1 _).mono ?_; rintro e w5 ⟨rfl, HN5⟩))
            all_goals
              go_wp2_with fail
              go_meet
              case rel => exact ⟨rfl, rfl, ((Chg.refl _ _).drew).new HN5⟩
          case rest =>
            obtain ⟨rfl, rfl, HV⟩ := hcut
            have hcx1 := HV.out.cell hcx (fun h => h)
            have hcm1 := HV.out.cell hcmo (fun h => h)
            clear hcx hcmo
            obtain ⟨wp, rfl⟩ : ∃ wp : World, wp = wc := ⟨_, rfl⟩
            go_upto_region 10 with fail
            go_cut [15, 16] from 65 to 77 (fun v u wd => v = .int .i64 a ∧ u = .int .i64 er ∧ Hid (New wp wd))
            case first =>
              go_region_with (first
                | (go_at_call 28; refine (HC.out.2.2.1 _).mono ?_; rintro e w5 ⟨rfl, HN5⟩))
              all_goals
                go_wp2_with fail
                go_meet
                case rel => exact ⟨rfl, rfl, ((Chg.refl _ _).drew).new HN5⟩
            case rest =>
              obtain ⟨rfl, rfl, HV2⟩ := hcut
              obtain ⟨wq, rfl⟩ : ∃ wq : World, wq = wc := ⟨_, rfl⟩
              have hcx2 := HV2.out.cell hcx1 (fun h => h)
              have hcm2 := HV2.out.cell hcm1 (fun h => h)
              clear hcx1 hcm1
              go_wp2_with fail
              refine (HC.out.2.2.2.1 wq).mono ?_
              rintro e w6 ⟨rfl, hn6⟩
              have hcx3 := hn6.cell hcx2 (fun h => h)
              have hcm3 := hn6.cell hcm2 (fun h => h)
              have H6 := Lib.hid (HV.out.new (HV2.out.new hn6))
              clear hcx2 hcm2 hn6 HV HV2
              go_upto_region 12 with fail
              go_cut [19, 20] from 88 to 100 (fun v u wd => v = .int .i64 d ∧ u = .int .i64 er ∧ Hid (New w6 wd))
              case first =>
                go_region_with (first
                  | (go_at_call 29; refine (HC.out.2.2.2.2 _).mono ?_; rintro e w5 ⟨rfl, HN5⟩))
                all_goals
                  go_wp2_with fail
                  go_meet
                  case rel => exact ⟨rfl, rfl, ((Chg.refl _ _).drew).new HN5⟩
              case rest =>
                obtain ⟨rfl, rfl, HV4⟩ := hcut
                have hcx4 := HV4.out.cell hcx3 (fun h => h)
                have hok := HC.out.1
                have HX := Lib.hid (HW.out.new (H6.out.new HV4.out))
                clear hcx3 hcm3 HV4 H6 HW HC
                by_cases hz : er = 0
                · obtain ⟨hg, hc⟩ := hok hz
                  subst hz
                  subst hg
                  subst hc
                  clear hok
                  go_wp2
                  go_roundw
                  case rel => exact ⟨q + 1, by omega, by go_num, HX.out⟩
                  case measure => simp [intOf]; omega
                · have hzb : (er == 0) = false := by simp [hz]
                  clear hok hz
                  go_wp2
                  go_roundw
                  case rel => exact ⟨q + 1, by omega, by go_num, HX.out⟩
                  case measure => simp [intOf]; omega
        · have hq2i : decide ((q : Int) < 2) = false := by simp; omega
          go_wp2
          go_roundw
          case rel => exact ⟨j + 1, by omega, by go_num, H1.out.2.new HW.out⟩
          case measure => simp [intOf]; omega
    · have hlti : decide ((j : Int) < 4) = false := by simp; omega
      go_wp2_with fail
      refine (lives_any wr).mono ?_
      rintro e w5 ⟨rfl, hn5⟩
      have H5 := Lib.hid (H0.out.2.1.new (HW.out.new hn5))
      clear hn5
      go_wp2
      go_ret
      exact ⟨rfl, H5.out⟩
end Go.Proofs.Ytcjbndlhomokpaa
