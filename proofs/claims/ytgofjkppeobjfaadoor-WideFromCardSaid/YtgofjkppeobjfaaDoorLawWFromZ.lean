/- The walk of refuterlaw03.WideFrom. -/
import Derived.Test.YtgofjkppeobjfaaDoorB5
import Derived.Test.YtgofjkppeobjfaaDoorTextNZ
import Derived.Test.YtgofjkppeobjfaaDoorCutBoxZ
import Derived.Deep.CutRange
import Derived.Deep.RegionHeld3
namespace Go.Proofs.YtgofjkppeobjfaaDoor
set_option linter.unusedVariables false
open Go.RowKit Go.Mem Go.Dig

theorem from_s1 (n : Int) (w : World) (h1 : -9223372036854775808 ≤ n) (h2 : n ≤ 9223372036854775807) : Calls Tryd.prog 20 #[.int .i64 n] w (RetW w n) := from_h n w h1 h2
theorem of_s1 (n : Int) (w : World) (h1 : -9223372036854775808 ≤ n) (h2 : n ≤ 9223372036854775807) : Calls Tryd.prog 22 #[.int .i64 n] w (RetR w n) := of_h n w h1 h2
theorem int_sm {n : Int} (h1 : -9223372036854775808 ≤ n) (h2 : n ≤ 9223372036854775807) : Sm n := Sm.of (k := 64) (by have : pw2 64 = 18446744073709551616 := rfl; omega) (by decide)
theorem tdiv_range (k : Int) (h1 : -9223372036854775808 ≤ k) (h2 : k ≤ 9223372036854775807) : -9223372036854775808 ≤ k.tdiv 7 ∧ k.tdiv 7 ≤ 9223372036854775807 := by
  rcases Int.lt_or_le k 0 with h | h
  · have e : k = -((k.natAbs : Nat) : Int) := by omega
    rw [e, Int.neg_tdiv, Int.tdiv_eq_ediv_of_nonneg (by omega)]
    omega
  · rw [Int.tdiv_eq_ediv_of_nonneg h]; omega

set_option maxRecDepth 100000 in
set_option maxHeartbeats 4000000 in
theorem wideFrom_walk (N : Int) (hN1 : -9223372036854775808 ≤ N) (hN2 : N ≤ 9223372036854775807) (A : Option Addr) (n c : Nat) (l : List Int) (k : Int) (hk1 : -9223372036854775808 ≤ k) (hk2 : k ≤ 9223372036854775807) (w : World) (hr : Rd w A n (is l)) (hl : ∀ z ∈ l, -9223372036854775808 ≤ z ∧ z ≤ 9223372036854775807) (hn : n ≤ 9223372036854775807) (hpt : PowTab w) :
    Calls Tryd.prog 4 #[.int .i64 N, .slice A n c, .int .i64 k] w fun e w' => e = .returned (.bool true) ∧ New w w' := by
  have hnum := fun W (h : New w W) => number_s A n c l hl W (hr.new h) hn
  have HNUM := Lib.hid hnum
  have HT := Lib.hid hpt
  have hi : isInt N = true := by unfold isInt; rw [decide_eq_true (by omega)]
  have hj : intIf N = N := by unfold intIf; rw [hi]; rfl
  have HI := Lib.hid (And.intro hi hj)
  have HNB := Lib.hid (And.intro hN1 hN2)
  have r1 := aroundI_range k 7 (by omega)
  obtain ⟨a7, ha7⟩ : ∃ a : Nat, aroundI k 7 = a := ⟨(aroundI k 7).toNat, by omega⟩
  obtain ⟨d, hd⟩ : ∃ d : Int, k.tdiv 7 = d := ⟨_, rfl⟩
  have hdb := tdiv_range k hk1 hk2
  rw [hd] at hdb
  have r2 := aroundI_range d 2 (by omega)
  obtain ⟨b2, hb2⟩ : ∃ a : Nat, aroundI d 2 = a := ⟨(aroundI d 2).toNat, by omega⟩
  have har1 := fun W => around_any k 7 W hk1 hk2 (by omega) (by omega)
  have har2 := fun W => around_any d 2 W hdb.1 hdb.2 (by omega) (by omega)
  rw [ha7] at har1 r1
  rw [hb2] at har2 r2
  have ha7b : a7 < 7 := by omega
  have hb2b : b2 < 2 := by omega
  have hsm := near63 a7 b2 ha7b hb2b
  obtain ⟨T, hTT⟩ : ∃ T : Nat, 4 * (a7 : Int) + 3 + 28 * (b2 : Int) = (T : Int) := ⟨4 * a7 + 3 + 28 * b2, by omega⟩
  have Tb : T ≤ 100 := by omega
  rw [hTT] at hsm
  obtain ⟨hdb1, hdb2⟩ := hdb
  have HAR := Lib.hid (And.intro har1 (And.intro har2 (And.intro hsm Tb)))
  clear hnum hpt hr hl hn hi hj hN1 hN2 hk1 hk2 r1 r2 har1 har2 ha7 hb2 hsm Tb
  go_enter Tryd.func4, Tryd.ntmps4
  go_wp2_with fail
  refine (from_s1 N w HNB.out.1 HNB.out.2).mono ?_
  rintro e u1 ⟨sx, Ax, nx, cx, rfl, K1⟩
  have H101 := Lib.hid K1.out.2
  go_wp2_with fail
  refine Calls.new1 ?_
  intro W3 hbx hn3 hz3
  obtain ⟨gx, hgx⟩ : ∃ x, u1.heap.size = x := ⟨_, rfl⟩
  rw [hgx] at hbx
  simp only [hgx]
  have hXx : WX W3 gx sx Ax nx cx (N) := ⟨hbx, K1.out.1.new hn3⟩
  have H102 := Lib.hid (And.intro hXx (H101.out.new hn3))
  clear H101
  clear hXx hbx hgx hn3 hz3
  refine (wsmall_s W3 _ _ N true H102.out.1.2 HI.out.2 HI.out.1).mono ?_
  rintro e u2 ⟨rfl, K2⟩
  have H103 := Lib.hid (And.intro (H102.out.1.new K2.out) (H102.out.2.new K2.out))
  clear H102
  go_upto_region 3 with fail
  have hq0 : ∀ W', Calls Tryd.prog 22 #[.int .i64 N] W' (RetR W' N) := fun W' => of_s1 N W' HNB.out.1 HNB.out.2
  have hq1 : ∀ W' v, New u2 W' → RN W' v N → Calls Tryd.prog 17 #[.agg #[.bool sx, .slice Ax nx cx], v] W' (RetV W' (.bool true)) := fun W' v h h' => equal_s W' _ _ _ (H103.out.1.new h).2 h' (HT.out.new (H103.out.2.new h)) (int_sm HNB.out.1 HNB.out.2)
  have HQ0 := Lib.hid hq0
  have HQ1 := Lib.hid hq1
  clear hq0 hq1
  have hsk : ∀ w', New u2 w' → w'.cell? ⟨gx, 0, none⟩ = some (.bool sx) ∧ w'.cell? ⟨gx, 1, none⟩ = some (.slice Ax nx cx) := fun w' h => ⟨(H103.out.1.new h).c0, (H103.out.1.new h).c1⟩
  have HSK := Lib.hid hsk
  clear hsk
  have hN0 : New u2 u2.drew := (Chg.refl _ _).drew
  have hzx0 := (H103.out.1).c0
  have hzx1 := (H103.out.1).c1
  go_region_held3 (fun w' => w'.cell? ⟨gx, 0, none⟩ = some (.bool sx) ∧ w'.cell? ⟨gx, 1, none⟩ = some (.slice Ax nx cx)) (first | exact HSK.out _ (by assumption) | exact HSK.out _ (Chg.refl _ _))
    (first
      | (go_at_call 22; (with_reducible refine (HQ0.out _).mono ?_); rintro e q0 ⟨sq0, Aq0, nq0, cq0, rfl, Q0⟩; have hM0 := hN0.new Q0.out.2)
      | (go_at_call 17; (with_reducible refine (HQ1.out _ _ hM0 Q0.out.1).mono ?_); rintro e q1 ⟨rfl, Q1⟩; have hM1 := hM0.new Q1.out))
  rename_i hHeld
  clear hHeld
  clear hzx0 hzx1 HSK HQ0 HQ1 hN0 hM0 Q0 Q1
  have H104 := Lib.hid (And.intro (H103.out.1.new hM1) (H103.out.2.new hM1))
  clear H103
  clear hM1
  clear HI HNB
  go_wp2_with fail
  refine ((HNUM.out q1 H104.out.2).1).mono ?_
  rintro e u4 ⟨sr4, Ar4, nr4, cr4, rfl, K4⟩
  have H105 := Lib.hid (And.intro (H104.out.1.new K4.out.2) (H104.out.2.new K4.out.2))
  clear H104
  go_wp2_with fail
  refine (HAR.out.1 _).mono ?_
  rintro e wx ⟨rfl, rfl⟩
  go_wp2_with fail
  refine (HAR.out.2.1 _).mono ?_
  rintro e wx ⟨rfl, rfl⟩
  go_wp2_with fail
  refine (near_s (T : Int) u4 (by have := HAR.out.2.2.2; omega) (by have := HAR.out.2.2.2; omega)).mono ?_
  rintro e u5 ⟨sr5, Ar5, nr5, cr5, rfl, K5⟩
  have H106 := Lib.hid (And.intro (H105.out.1.new K5.out.2) (H105.out.2.new K5.out.2))
  clear H105
  have HZ1 := Lib.hid (K4.out.1.new K5.out.2)
  have HZ2 := Lib.hid K5.out.1
  have HW := Lib.hid H106.out.2
  clear H106 hTT hd hdb1 hdb2
  go_wp2_with fail
  refine Code.new1 ?_
  intro W6 hbg hn6 hz6
  obtain ⟨G, hG⟩ : ∃ x, u5.heap.size = x := ⟨_, rfl⟩
  rw [hG] at hbg
  simp only [hG]
  have HG := Lib.hid (And.intro hbg (And.intro (HZ1.out.new hn6) (HZ2.out.new hn6)))
  have HW6 := Lib.hid (HW.out.new hn6)
  clear hbg hn6 hz6 hG HZ1 HZ2 HW
  go_loopw [11, 12, 13, 14, 15, 16, 17] (fun i _ _ _ _ _ _ wr => ∃ j : Nat, i = .int .i64 (j : Int) ∧ j ≤ 2 ∧ Hid (New W6 wr)) (fun i _ _ _ _ _ _ _ => 2 - (intOf i).toNat)
  case atStart => exact ⟨0, rfl, by omega, Chg.refl _ _⟩
  case round =>
    obtain ⟨j, rfl, hj, HI⟩ := hrel
    obtain ⟨wo, rfl⟩ : ∃ wo : World, wo = wr := ⟨_, rfl⟩
    by_cases hlt : j < 2
    · obtain ⟨sj, Aj, nj, cj, z, hzs, hj0, hj1, hjr⟩ : ∃ sj Aj nj cj z, Sm z ∧ (∀ w', New W6 w' → w'.cell? ⟨G, j * 2, none⟩ = some (.bool sj)) ∧ (∀ w', New W6 w' → w'.cell? ⟨G, j * 2 + 1, none⟩ = some (.slice Aj nj cj)) ∧ RN W6 (.agg #[.bool sj, .slice Aj nj cj]) z := by
        rcases (by omega : j = 0 ∨ j = 1) with rfl | rfl
        · exact ⟨_, _, _, _, _, num_sm l 0, fun w' h => (HG.out.1.chg h (fun h => h)).cell 0 rfl, fun w' h => (HG.out.1.chg h (fun h => h)).cell 1 rfl, HG.out.2.1⟩
        · exact ⟨_, _, _, _, _, HAR.out.2.2.1, fun w' h => (HG.out.1.chg h (fun h => h)).cell 2 rfl, fun w' h => (HG.out.1.chg h (fun h => h)).cell 3 rfl, HG.out.2.2⟩
      have HJ := Lib.hid (And.intro hj0 (And.intro hj1 (And.intro hjr hzs)))
      have hc0 := hj0 wo HI.out
      have hc1 := hj1 wo HI.out
      have hlti : (j : Int) < 2 := by omega
      clear hj0 hj1 hjr hzs HG
      obtain ⟨si, hsi⟩ : ∃ x, intIf z = x := ⟨_, rfl⟩
      obtain ⟨sb, hsb⟩ : ∃ x, isInt z = x := ⟨_, rfl⟩
      have HS := Lib.hid (And.intro hsi hsb)
      clear hsi hsb
      go_wp2_with fail
      clear hc0 hc1
      refine (wider_s wo _ _ (HJ.out.2.2.1.new HI.out) HJ.out.2.2.2).mono ?_
      rintro e u7 ⟨sx', Ax', nx', cx', rfl, K7⟩
      go_wp2_with fail
      refine Calls.new1 ?_
      intro W8 hbx hn8 hz8
      obtain ⟨gy, hgy⟩ : ∃ x, u7.heap.size = x := ⟨_, rfl⟩
      simp only [hgy]
      have HN8 := Lib.hid ((HI.out.new K7.out.2).new hn8)
      have HX := Lib.hid (K7.out.1.new hn8)
      clear hbx hn8 hz8 hgy K7 HI
      refine (wsmall_s W8 _ _ si sb HX.out HS.out.1 HS.out.2).mono ?_
      rintro e u9 ⟨rfl, K9⟩
      have hc0 := HJ.out.1 u9 (HN8.out.new K9.out)
      have hc1 := HJ.out.2.1 u9 (HN8.out.new K9.out)
      go_wp2_with fail
      clear hc0 hc1
      refine (rsmall_s u9 _ _ si sb (HJ.out.2.2.1.new (HN8.out.new K9.out)) HS.out.1 HS.out.2).mono ?_
      rintro e u10 ⟨rfl, K10⟩
      have HE := Lib.hid (HN8.out.new (K9.out.new K10.out))
      clear HN8 K9 K10 HX
      go_wp2
      go_roundw
      case rel => exact ⟨j + 1, by go_num, by omega, HE.out⟩
      case measure => simp [intOf]; omega
    · obtain rfl : j = 2 := by omega
      have hge : decide (((2 : Nat) : Int) < 2) = false := by simp
      clear HG
      go_wp2_with fail
      refine (lives_s wo (HT.out.new (HW6.out.new HI.out))).mono ?_
      rintro e wl ⟨rfl, KL⟩
      have HE := Lib.hid ((HW6.out.new HI.out).new KL.out)
      clear hge
      go_wp2
      go_ret
      exact ⟨rfl, HE.out⟩
end Go.Proofs.YtgofjkppeobjfaaDoor
