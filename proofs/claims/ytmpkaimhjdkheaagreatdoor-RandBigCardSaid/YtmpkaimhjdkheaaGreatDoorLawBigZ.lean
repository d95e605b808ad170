/- The walk of refuterlaw05.RandBig. -/
import Derived.Test.YtmpkaimhjdkheaaGreatDoorB6
import Derived.Test.YtmpkaimhjdkheaaGreatDoorArgsZ
import Derived.Deep.CutRange
import Derived.Test.YtmpkaimhjdkheaaGreatDoorHeldZ
namespace Go.Proofs.YtmpkaimhjdkheaaGreatDoor
set_option linter.unusedVariables false
open Go.RowKit Go.Mem Go.Dig Go.Pure

/-- A call that returns a struct of the reference. -/
def RtR (w : World) (z : Int) (e : Ending) (w' : World) : Prop := ∃ s A n c, e = .returned (.agg #[.bool s, .slice A n c]) ∧ Hid (RN w' (.agg #[.bool s, .slice A n c]) z ∧ New w w')
def qp (k : Nat) : Nat := 2 ^ k
theorem qp_le {a b : Nat} (h : a ≤ b) : qp a ≤ qp b := Nat.pow_le_pow_right (by omega) h
theorem pw_lt {z : Int} {a b : Nat} (h : z.natAbs < qp a) (hab : a ≤ b) : z.natAbs < 2 ^ b := Nat.lt_of_lt_of_le h (qp_le hab)
theorem qp_mul {x y : Int} {a b : Nat} (hx : x.natAbs < qp a) (hy : y.natAbs < qp b) : (x * y).natAbs < qp (a + b) := by
  unfold qp at *
  rw [Int.natAbs_mul, Nat.pow_add]
  exact Nat.mul_lt_mul'' hx hy
theorem fit500 {z : Int} (h : z.natAbs < qp 500) : z.natAbs < topN ∧ z.natAbs < dmax ∧ z ≤ ((p64 255 : Nat) : Int) := by
  obtain ⟨M, hM⟩ : ∃ M, M = 8 := ⟨_, rfl⟩
  have h1 : z.natAbs < p64 M := by rw [p64_two]; exact pw_lt h (by omega)
  have h2 := p64_top (k := M) (by omega)
  have h3 : p64 M ≤ p64 255 := p64_le (by omega)
  have h4 := top_dmax
  refine ⟨by omega, by omega, by omega⟩

set_option maxRecDepth 100000 in
set_option maxHeartbeats 8000000 in
theorem randBig_walk (seed i : Int) (A : Option Addr) (n c : Nat) (l : List Int) (w : World) (hi : -9223372036854775808 ≤ i ∧ i ≤ 9223372036854775807) (hr : Rd w A n (is l)) (hn : n ≤ 9223372036854775807) (hl : ∀ z ∈ l, -9223372036854775808 ≤ z ∧ z ≤ 9223372036854775807) (hpt : PowTab w) :
    Calls Tryz.prog 3 #[.int .u64 seed, .int .i64 i, .slice A n c] w fun e w' => e = .returned (.bool true) ∧ New w w' := by
  obtain ⟨Z, hZ⟩ : ∃ Z, numI l 0 = Z := ⟨_, rfl⟩
  have hZb : Z.natAbs < qp 230 := by rw [← hZ]; exact numI_bnd l 0
  have hnum := fun W (h : New w W) => number_any A n c l hl 0 (by omega) W (hr.new h) hn
  rw [hZ] at hnum
  obtain ⟨p7, hp7, hp7b⟩ : ∃ p : Nat, pickI l 7 4 = (p : Int) ∧ p < 4 := by
    have := pickI_range l 7 4 (by omega)
    exact ⟨(pickI l 7 4).toNat, by omega, by omega⟩
  obtain ⟨p8, hp8, hp8b⟩ : ∃ p : Nat, pickI l 8 4 = (p : Int) ∧ p < 4 := by
    have := pickI_range l 8 4 (by omega)
    exact ⟨(pickI l 8 4).toNat, by omega, by omega⟩
  have hpk7 : ∀ W, New w W → Calls Tryz.prog 8 #[.slice A n c, .int .i64 7, .int .i64 4] W fun e w' => e = .returned (.int .i64 (p7 : Int)) ∧ W = w' := fun W h => hp7 ▸ pick01_any A n c l hl 7 4 (by omega) (by omega) W (hr.new h) (by omega)
  have hpk8 : ∀ W, New w W → Calls Tryz.prog 8 #[.slice A n c, .int .i64 8, .int .i64 4] W fun e w' => e = .returned (.int .i64 (p8 : Int)) ∧ W = w' := fun W h => hp8 ▸ pick01_any A n c l hl 8 4 (by omega) (by omega) W (hr.new h) (by omega)
  obtain ⟨K, hK⟩ : ∃ K, 64 * p8 = K := ⟨_, rfl⟩
  have hKi : IntKind.i64.wrap (64 * (p8 : Int)) = (K : Int) := by rw [IntWalk.i64_in _ (by omega)]; omega
  have hKb : K ≤ 192 := by omega
  obtain ⟨P, hP⟩ : ∃ P : Nat, 2 ^ K = P := ⟨_, rfl⟩
  have hPb : ((P : Nat) : Int).natAbs < qp 500 := by rw [Int.natAbs_natCast, ← hP]; exact Nat.lt_of_lt_of_le (Nat.pow_lt_pow_right (by omega) (Nat.lt_succ_self K)) (qp_le (a := K + 1) (by omega))
  have hpw := fun W => power_h K (by omega) W
  rw [hP] at hpw
  have HB := Lib.hid (And.intro hZb (And.intro hPb hpt))
  have HC := Lib.hid (And.intro hnum (And.intro hpk7 (And.intro hpk8 hpw)))
  have HI := Lib.hid hi
  clear hnum hpk7 hpk8 hpw hp7 hp8 hK hP hPb hZb hZ hpt hi hr hl
  go_enter Tryz.func3, Tryz.ntmps3
  go_wp2_with fail
  refine (around_any i 1000000 w HI.out.1 HI.out.2 (by omega) (by omega)).mono ?_
  rintro e w1 ⟨rfl, rfl⟩
  obtain ⟨a0, ha, hab⟩ : ∃ a : Nat, aroundI i 1000000 = (a : Int) ∧ a < 1000000 := by
    have := aroundI_range i 1000000 (by omega)
    exact ⟨(aroundI i 1000000).toNat, by omega, by omega⟩
  rw [ha]
  clear ha
  go_wp2_with fail
  refine (HC.out.1 w (Chg.refl _ _)).mono ?_
  rintro e u1 ⟨sa, Aa, na, ca, rfl, K1⟩
  go_upto_region 3 with fail
  refine Code.new1 ?_
  intro W1 hba hn1 hz1
  obtain ⟨ga, hga⟩ : ∃ x, u1.heap.size = x := ⟨_, rfl⟩
  rw [hga] at hba
  simp only [hga]
  have HA := Lib.hid (And.intro hba (And.intro (K1.out.1.new hn1) (K1.out.2.new hn1)))
  clear hba hn1 hz1 hga K1
  have hq0 : ∀ W', New W1 W' → Calls Tryz.prog 6 #[.agg #[.bool sa, .slice Aa na ca]] W' (RtR W' (-Z)) := fun W' h => (rneg_any _ _ W' (HA.out.2.1.new h)).mono fun e w' ⟨v, h1, ⟨s, A, n, c, h2, h3, h4⟩, h5⟩ => ⟨s, A, n, c, by rw [h1, h2], ⟨s, A, n, c, rfl, h3, h4⟩, h5⟩
  have hq4 : ∀ W', New W1 W' → Calls Tryz.prog 10 #[.agg #[.bool sa, .slice Aa na ca], .agg #[.bool sa, .slice Aa na ca]] W' (RtR W' (Z * Z)) := fun W' h => rmul_h _ _ _ _ W' (HA.out.2.1.new h) (HA.out.2.1.new h) (pw_lt HB.out.1 (b := 1000000) (by omega)) (pw_lt HB.out.1 (b := 1000000) (by omega))
  have HQ0 := Lib.hid hq0
  have HQ4 := Lib.hid hq4
  clear hq0 hq4
  have hsk : ∀ w', New W1 w' → w'.cell? ⟨ga, 0, none⟩ = some (.bool sa) ∧ w'.cell? ⟨ga, 1, none⟩ = some (.slice Aa na ca) := fun w' h => ⟨(HA.out.1.chg h (fun h => h)).cell 0 rfl, (HA.out.1.chg h (fun h => h)).cell 1 rfl⟩
  have HSK := Lib.hid hsk
  clear hsk
  have hN0 : New W1 W1.drew := (Chg.refl _ _).drew
  obtain ⟨hs0, hs1⟩ := HSK.out W1 (Chg.refl _ _)
  go_region_held3 (fun w' => w'.cell? ⟨ga, 0, none⟩ = some (.bool sa) ∧ w'.cell? ⟨ga, 1, none⟩ = some (.slice Aa na ca)) (first | exact HSK.out _ (by assumption) | exact HSK.out _ (Chg.refl _ _) | exact HSK.out _ (Chg.alloc (by assumption) _))
    (first
      | (go_at_call 6; (with_reducible refine (HQ0.out _ hN0).mono ?_); rintro e q0 ⟨sq0, Aq0, nq0, cq0, rfl, Q0⟩; have hM0 := hN0.new Q0.out.2)
      | (go_at_call 8; (with_reducible refine (HC.out.2.1 _ (HA.out.2.2.new hM0)).mono ?_); rintro e q9 ⟨rfl, rfl⟩)
      | (go_at_call 7; (with_reducible refine (of_h (p7 : Int) _ (by omega) (by omega)).mono ?_); rintro e q1 ⟨sq1, Aq1, nq1, cq1, rfl, Q1⟩; have hM1 := hM0.new Q1.out.2)
      | (go_at_call 8; (with_reducible refine (HC.out.2.2.1 _ (HA.out.2.2.new hM1)).mono ?_); rintro e q9 ⟨rfl, rfl⟩)
      | (go_at_call 9; (with_reducible refine (HC.out.2.2.2 _).mono ?_); rintro e q2 ⟨sq2, Aq2, nq2, cq2, rfl, Q2⟩; have hM2 := hM1.new Q2.out.2)
      | (go_at_call 10; (with_reducible refine (HQ4.out _ hM2).mono ?_); rintro e q3 ⟨sq3, Aq3, nq3, cq3, rfl, Q3⟩; have hM3 := hM2.new Q3.out.2))
  rename_i hHeld
  have HR := Lib.hid (And.intro (HA.out.2.1.new hM3) (And.intro ((Q0.out.1.new Q1.out.2).new (Q2.out.2.new Q3.out.2)) (And.intro (Q1.out.1.new (Q2.out.2.new Q3.out.2)) (And.intro (Q2.out.1.new Q3.out.2) (And.intro Q3.out.1 (HA.out.2.2.new hM3))))))
  clear hHeld hs0 hs1 hN0 hM0 hM1 hM2 hM3 Q0 Q1 Q2 Q3 HSK HQ0 HQ4 HC HA hKi
  go_wp2_with fail
  refine Code.new1 ?_
  intro W6 hbg hn6 hz6
  obtain ⟨G, hG⟩ : ∃ x, q3.heap.size = x := ⟨_, rfl⟩
  rw [hG] at hbg
  simp only [hG]
  have HG := Lib.hid (And.intro hbg (And.intro (HR.out.1.new hn6) (And.intro (HR.out.2.1.new hn6) (And.intro (HR.out.2.2.1.new hn6) (And.intro (HR.out.2.2.2.1.new hn6) (HR.out.2.2.2.2.1.new hn6))))))
  have HW := Lib.hid (HR.out.2.2.2.2.2.new hn6)
  clear hbg hn6 hz6 hG HR
  go_loopw [10] (fun v wr => ∃ j : Nat, v = .int .i64 (j : Int) ∧ j ≤ 5 ∧ Hid (New W6 wr)) (fun v _ => 5 - (intOf v).toNat)
  case atStart => exact ⟨0, rfl, by omega, Chg.refl _ _⟩
  case round =>
    obtain ⟨j, rfl, hj, HJ⟩ := hrel
    obtain ⟨wo, rfl⟩ : ∃ wo : World, wo = wr := ⟨_, rfl⟩
    by_cases hlt : j < 5
    · obtain ⟨sj, Aj, nj, cj, z, hzs, hj0, hj1, hjr⟩ : ∃ sj Aj nj cj z, z.natAbs < qp 500 ∧ (∀ w', New W6 w' → w'.cell? ⟨G, j * 2, none⟩ = some (.bool sj)) ∧ (∀ w', New W6 w' → w'.cell? ⟨G, j * 2 + 1, none⟩ = some (.slice Aj nj cj)) ∧ RN W6 (.agg #[.bool sj, .slice Aj nj cj]) z := by
        have b230 : Z.natAbs < qp 500 := Nat.lt_of_lt_of_le HB.out.1 (qp_le (by omega))
        rcases (by omega : j = 0 ∨ j = 1 ∨ j = 2 ∨ j = 3 ∨ j = 4) with rfl | rfl | rfl | rfl | rfl
        · exact ⟨sa, Aa, na, ca, Z, b230, fun w' h => (HG.out.1.chg h (fun h => h)).cell 0 rfl, fun w' h => (HG.out.1.chg h (fun h => h)).cell 1 rfl, HG.out.2.1⟩
        · exact ⟨sq0, Aq0, nq0, cq0, -Z, by rw [Int.natAbs_neg]; exact b230, fun w' h => (HG.out.1.chg h (fun h => h)).cell 2 rfl, fun w' h => (HG.out.1.chg h (fun h => h)).cell 3 rfl, HG.out.2.2.1⟩
        · exact ⟨sq1, Aq1, nq1, cq1, (p7 : Int), Nat.lt_of_lt_of_le (show ((p7 : Nat) : Int).natAbs < qp 2 by show _ < 4; omega) (qp_le (by omega)), fun w' h => (HG.out.1.chg h (fun h => h)).cell 4 rfl, fun w' h => (HG.out.1.chg h (fun h => h)).cell 5 rfl, HG.out.2.2.2.1⟩
        · exact ⟨sq2, Aq2, nq2, cq2, (P : Int), HB.out.2.1, fun w' h => (HG.out.1.chg h (fun h => h)).cell 6 rfl, fun w' h => (HG.out.1.chg h (fun h => h)).cell 7 rfl, HG.out.2.2.2.2.1⟩
        · exact ⟨sq3, Aq3, nq3, cq3, Z * Z, Nat.lt_of_lt_of_le (qp_mul HB.out.1 HB.out.1) (qp_le (by omega)), fun w' h => (HG.out.1.chg h (fun h => h)).cell 8 rfl, fun w' h => (HG.out.1.chg h (fun h => h)).cell 9 rfl, HG.out.2.2.2.2.2⟩
      obtain ⟨hzt, hzd, hzp⟩ := fit500 hzs
      obtain ⟨b, hb⟩ : ∃ b, St (Txt.text z) = b := ⟨_, rfl⟩
      have htx := fun W (h : New W6 W) => rtext_any _ z W (hjr.new h) (pw_lt hzs (b := 1000000) (by omega))
      have hps := fun W => wparse_text z hzd W
      rw [hb] at htx hps
      rw [(rg_in hzt).1, (rg_in hzt).2] at hps
      have HT := Lib.hid (And.intro htx (And.intro hps (And.intro hzs (And.intro hzp (And.intro hj0 (And.intro hj1 hjr))))))
      have hc0 := hj0 wo HJ.out
      have hc1 := hj1 wo HJ.out
      have hlti : (j : Int) < 5 := by omega
      clear htx hps hb hzt hzd hzp hzs hj0 hj1 hjr
      go_wp2_with fail
      clear hc0 hc1
      refine (HT.out.1 wo HJ.out).mono ?_
      rintro e u7 ⟨rfl, hn7⟩
      have H7 := Lib.hid (HJ.out.new hn7)
      clear hn7
      go_wp2_with fail
      refine (HT.out.2.1 u7).mono ?_
      rintro e u8 ⟨s8, A8, n8, c8, rfl, K8⟩
      go_wp2_with fail
      refine Calls.new1 ?_
      intro W8 hb11 hn8 hz8
      obtain ⟨g11, hg11⟩ : ∃ x, u8.heap.size = x := ⟨_, rfl⟩
      rw [hg11] at hb11
      simp only [hg11]
      have H8 := Lib.hid (And.intro hb11 (And.intro (K8.out.1.new hn8) (H7.out.new (K8.out.2.new hn8))))
      clear hb11 hn8 hz8 hg11 K8 H7
      refine (wbig_r seed ⟨#[116, 101, 115, 116]⟩ (by decide) (a0 : Int) ⟨by omega, by omega⟩ _ z HT.out.2.2.2.1 W8 H8.out.2.1).mono ?_
      rintro e u9 ⟨sr, Ar, nr, cr, X, Y, E, rfl, K9⟩
      have hn9' : New W6 (u9.alloc (.cells #[.bool sr, .slice Ar nr cr] 35)) := (H8.out.2.2.new K9.out.2.2).alloc _
      have hc0 := HT.out.2.2.2.2.1 _ hn9'
      have hc1 := HT.out.2.2.2.2.2.1 _ hn9'
      clear hn9'
      go_wp2_with fail
      clear hc0 hc1
      refine Calls.new1 ?_
      intro W9 hb13 hn9 hz9
      obtain ⟨g13, hg13⟩ : ∃ x, u9.heap.size = x := ⟨_, rfl⟩
      rw [hg13] at hb13
      simp only [hg13]
      have hn89 := K9.out.2.2.new hn9
      have H9 := Lib.hid (And.intro hb13 (And.intro (K9.out.2.1.new hn9) (And.intro (H8.out.1.chg hn89 (fun h => h)) (And.intro (H8.out.2.1.new hn89) (H8.out.2.2.new hn89)))))
      have HX := Lib.hid K9.out.1
      clear hb13 hn9 hz9 hg13 hn89 K9 H8
      refine (rbig_r seed ⟨#[116, 101, 115, 116]⟩ (by decide) (a0 : Int) ⟨by omega, by omega⟩ _ z HT.out.2.2.2.1 W9 (HT.out.2.2.2.2.2.2.new H9.out.2.2.2.2)).mono ?_
      rintro e u10 ⟨sy, Ay, ny, cy, X', Y', E', rfl, K10⟩
      obtain ⟨rfl, rfl, rfl⟩ := HX.out.uniq K10.out.1
      go_upto_region 10 with fail
      refine Code.new1 ?_
      intro W10 hb16 hn10 hz10
      obtain ⟨g16, hg16⟩ : ∃ x, u10.heap.size = x := ⟨_, rfl⟩
      rw [hg16] at hb16
      simp only [hg16]
      have hn910 := K10.out.2.2.new hn10
      have H10 := Lib.hid (And.intro hb16 (And.intro (K10.out.2.1.new hn10) (And.intro (H9.out.1.chg hn910 (fun h => h)) (And.intro (H9.out.2.1.new hn910) (And.intro (H9.out.2.2.1.chg hn910 (fun h => h)) (And.intro (H9.out.2.2.2.1.new hn910) (H9.out.2.2.2.2.new hn910)))))))
      clear hb16 hn10 hz10 hg16 hn910 K10 H9
      have hXb : X.natAbs < qp 500 := Nat.lt_of_le_of_lt HX.out.small HT.out.2.2.1
      obtain ⟨b2, hb2⟩ : ∃ b, St (Txt.text X) = b := ⟨_, rfl⟩
      have hq0 := fun W (h : New W10 W) => wstring_any _ X W (H10.out.2.2.2.1.new h) (HB.out.2.2.new ((HW.out.new H10.out.2.2.2.2.2.2).new h)) (pw_lt hXb (b := 900000) (by omega))
      have hq1 := fun W (h : New W10 W) => rtext_any _ X W (H10.out.2.1.new h) (pw_lt hXb (b := 1000000) (by omega))
      rw [hb2] at hq0 hq1
      have hq2 := fun W (h : New W10 W) => sign_any _ X W (H10.out.2.2.2.1.new h)
      have hq3 := fun W (h : New W10 W) => compare_any _ _ X z W (H10.out.2.2.2.1.new h) (H10.out.2.2.2.2.2.1.new h)
      obtain ⟨C1, hC1⟩ : ∃ C, cmpI X 0 = C := ⟨_, rfl⟩
      obtain ⟨C2, hC2⟩ : ∃ C, cmpI X z = C := ⟨_, rfl⟩
      rw [hC1] at hq2
      rw [hC2] at hq3
      have HQ := Lib.hid (And.intro hq0 (And.intro hq1 (And.intro hq2 hq3)))
      have hsk : ∀ w', New W10 w' → w'.cell? ⟨g13, 0, none⟩ = some (.bool sr) ∧ w'.cell? ⟨g13, 1, none⟩ = some (.slice Ar nr cr) ∧ w'.cell? ⟨g16, 0, none⟩ = some (.bool sy) ∧ w'.cell? ⟨g16, 1, none⟩ = some (.slice Ay ny cy) ∧ w'.cell? ⟨g11, 0, none⟩ = some (.bool s8) ∧ w'.cell? ⟨g11, 1, none⟩ = some (.slice A8 n8 c8) := fun w' h => ⟨(H10.out.2.2.1.chg h (fun h => h)).cell 0 rfl, (H10.out.2.2.1.chg h (fun h => h)).cell 1 rfl, (H10.out.1.chg h (fun h => h)).cell 0 rfl, (H10.out.1.chg h (fun h => h)).cell 1 rfl, (H10.out.2.2.2.2.1.chg h (fun h => h)).cell 0 rfl, (H10.out.2.2.2.2.1.chg h (fun h => h)).cell 1 rfl⟩
      have HSK := Lib.hid hsk
      have hN0 : New W10 W10.drew := (Chg.refl _ _).drew
      obtain ⟨hs0, hs1, hs2, hs3, hs4, hs5⟩ := HSK.out W10 (Chg.refl _ _)
      have hok := HX.out.ok
      have HCC := Lib.hid (And.intro hC1 hC2)
      clear hq0 hq1 hq2 hq3 hsk hb2 hXb hC1 hC2
      rcases hok with ⟨rfl, hX0, hXz⟩ | rfl
      · have hA1 : decide (C1 < 0) = false := by
          rw [← HCC.out.1]
          unfold cmpI
          rw [if_neg (by omega)]
          split <;> simp
        have hA2 : decide (0 ≤ C2) = false := by
          rw [← HCC.out.2, cmpI_lt hXz]
          rfl
        clear hX0 hXz
        go_region_held3 (fun w' => w'.cell? ⟨g13, 0, none⟩ = some (.bool sr) ∧ w'.cell? ⟨g13, 1, none⟩ = some (.slice Ar nr cr) ∧ w'.cell? ⟨g16, 0, none⟩ = some (.bool sy) ∧ w'.cell? ⟨g16, 1, none⟩ = some (.slice Ay ny cy) ∧ w'.cell? ⟨g11, 0, none⟩ = some (.bool s8) ∧ w'.cell? ⟨g11, 1, none⟩ = some (.slice A8 n8 c8)) (first | exact HSK.out _ (by assumption) | exact HSK.out _ (Chg.refl _ _))
          (first
            | (go_at_call 15; (with_reducible refine (HQ.out.1 _ hN0).mono ?_); rintro e r0 ⟨rfl, R0⟩; have hM0 := hN0.new R0)
            | (go_at_call 12; (with_reducible refine (HQ.out.2.1 _ hM0).mono ?_); rintro e r1 ⟨rfl, R1⟩; have hM1 := hM0.new R1)
            | (go_at_call 16; (with_reducible refine (HQ.out.2.2.1 _ hM1).mono ?_); rintro e r2 ⟨rfl, R2⟩; have hM2 := hM1.new R2)
            | (go_at_call 17; (with_reducible refine (HQ.out.2.2.2 _ hM2).mono ?_); rintro e r3 ⟨rfl, R3⟩; have hM3 := hM2.new R3))
        have HE := Lib.hid (H10.out.2.2.2.2.2.2.new hM3)
        clear hs0 hs1 hs2 hs3 hs4 hs5 hN0 hM0 hM1 hM2 hM3 R0 R1 R2 R3 HSK HQ
        go_wp2
        go_roundw
        case rel => exact ⟨j + 1, by go_num, by omega, HE.out⟩
        case measure => simp [intOf]; omega
      · refine wp_region_held_drew (S := fun w' => w'.cell? ⟨g13, 0, none⟩ = some (.bool sr) ∧ w'.cell? ⟨g13, 1, none⟩ = some (.slice Ar nr cr) ∧ w'.cell? ⟨g16, 0, none⟩ = some (.bool sy) ∧ w'.cell? ⟨g16, 1, none⟩ = some (.slice Ay ny cy) ∧ w'.cell? ⟨g11, 0, none⟩ = some (.bool s8) ∧ w'.cell? ⟨g11, 1, none⟩ = some (.slice A8 n8 c8)) (by kernel_rfl) (HSK.out W10 (Chg.refl _ _)) (fun hHeld => ?_)
        refine heldW (i := 0) (v := ?zv0) rfl (by kernel_rfl) (by kernel_rfl) (by kernel_rfl) (fun _ _ _ h => h) (by rfl) ?zhy0 hHeld ?zrest0
        case zhy0 => (intro w hSw; (try dsimp only at hSw); go_simp; try with_reducible rfl)
        simp only [Act.put, List.setIfInBounds_toArray, List.set_cons_zero, List.set_cons_succ]
        refine heldW (i := 1) (v := ?zv1) rfl (by kernel_rfl) (by kernel_rfl) (by kernel_rfl) (fun _ _ _ h => h) (by rfl) ?zhy1 hHeld ?zrest1
        case zhy1 => (intro w hSw; (try dsimp only at hSw); go_simp; try with_reducible rfl)
        simp only [Act.put, List.setIfInBounds_toArray, List.set_cons_zero, List.set_cons_succ]
        refine heldW (i := 2) (v := ?zv2) rfl (by kernel_rfl) (by kernel_rfl) (by kernel_rfl) (fun _ _ _ h => h) (by rfl) ?zhy2 hHeld ?zrest2
        case zhy2 => (intro w hSw; (try dsimp only at hSw); go_simp; try with_reducible rfl)
        simp only [Act.put, List.setIfInBounds_toArray, List.set_cons_zero, List.set_cons_succ]
        refine heldW (i := 3) (v := ?zv3) rfl (by kernel_rfl) (by kernel_rfl) (by kernel_rfl) (fun _ _ _ h => h) (by rfl) ?zhy3 hHeld ?zrest3
        case zhy3 => (intro w hSw; (try dsimp only at hSw); go_simp; try with_reducible rfl)
        simp only [Act.put, List.setIfInBounds_toArray, List.set_cons_zero, List.set_cons_succ]
        refine heldW (i := 4) (v := ?zv4) rfl (by kernel_rfl) (by kernel_rfl) (by kernel_rfl) (fun _ _ _ h => h) (by rfl) ?zhy4 hHeld ?zrest4
        case zhy4 => (intro w hSw; (try dsimp only at hSw); go_simp; try with_reducible rfl)
        simp only [Act.put, List.setIfInBounds_toArray, List.set_cons_zero, List.set_cons_succ]
        refine heldW (i := 5) (v := ?zv5) rfl (by kernel_rfl) (by kernel_rfl) (by kernel_rfl) (fun _ _ _ h => h) (by rfl) ?zhy5 hHeld ?zrest5
        case zhy5 => (intro w hSw; (try dsimp only at hSw); go_simp; try with_reducible rfl)
        simp only [Act.put, List.setIfInBounds_toArray, List.set_cons_zero, List.set_cons_succ]
        refine heldW (i := 6) (v := ?zv6) rfl (by kernel_rfl) (by kernel_rfl) (by kernel_rfl) (fun _ _ _ h => h) (by rfl) ?zhy6 hHeld ?zrest6
        case zhy6 => (intro w hSw; (try dsimp only at hSw); go_simp; try with_reducible rfl)
        simp only [Act.put, List.setIfInBounds_toArray, List.set_cons_zero, List.set_cons_succ]
        refine heldW (i := 7) (v := ?zv7) rfl (by kernel_rfl) (by kernel_rfl) (by kernel_rfl) (fun _ _ _ h => h) (by rfl) ?zhy7 hHeld ?zrest7
        case zhy7 => (intro w hSw; (try dsimp only at hSw); go_simp; try with_reducible rfl)
        simp only [Act.put, List.setIfInBounds_toArray, List.set_cons_zero, List.set_cons_succ]
        refine heldW (i := 8) (v := ?zv8) rfl (by kernel_rfl) (by kernel_rfl) (by kernel_rfl) (fun _ _ _ h => h) (by rfl) ?zhy8 hHeld ?zrest8
        case zhy8 => (intro w hSw; (try dsimp only at hSw); go_simp; try with_reducible rfl)
        simp only [Act.put, List.setIfInBounds_toArray, List.set_cons_zero, List.set_cons_succ]
        refine heldW (i := 9) (v := ?zv9) rfl (by kernel_rfl) (by kernel_rfl) (by kernel_rfl) (fun _ _ _ h => h) (by rfl) ?zhy9 hHeld ?zrest9
        case zhy9 => (intro w hSw; (try dsimp only at hSw); go_simp; try with_reducible rfl)
        simp only [Act.put, List.setIfInBounds_toArray, List.set_cons_zero, List.set_cons_succ]
        refine heldW (i := 10) (v := ?zv10) rfl (by kernel_rfl) (by kernel_rfl) (by kernel_rfl) (fun _ _ _ h => h) (by rfl) ?zhy10 hHeld ?zrest10
        case zhy10 => (intro w hSw; (try dsimp only at hSw); go_simp; try with_reducible rfl)
        simp only [Act.put, List.setIfInBounds_toArray, List.set_cons_zero, List.set_cons_succ]
        refine heldW (i := 11) (v := ?zv11) rfl (by kernel_rfl) (by kernel_rfl) (by kernel_rfl) (fun _ _ _ h => h) (by rfl) ?zhy11 hHeld ?zrest11
        case zhy11 => (intro w hSw; (try dsimp only at hSw); go_simp; try with_reducible rfl)
        simp only [Act.put, List.setIfInBounds_toArray, List.set_cons_zero, List.set_cons_succ]
        refine heldW (i := 12) (v := ?zv12) rfl (by kernel_rfl) (by kernel_rfl) (by kernel_rfl) (fun _ _ _ h => h) (by rfl) ?zhy12 hHeld ?zrest12
        case zhy12 => (intro w hSw; (try dsimp only at hSw); go_simp; try with_reducible rfl)
        simp only [Act.put, List.setIfInBounds_toArray, List.set_cons_zero, List.set_cons_succ]
        refine heldW (i := 13) (v := ?zv13) rfl (by kernel_rfl) (by kernel_rfl) (by kernel_rfl) (fun _ _ _ h => h) (by rfl) ?zhy13 hHeld ?zrest13
        case zhy13 => (intro w hSw; (try dsimp only at hSw); go_simp; try with_reducible rfl)
        simp only [Act.put, List.setIfInBounds_toArray, List.set_cons_zero, List.set_cons_succ]
        refine heldW (i := 15) (v := ?zv15) rfl (by kernel_rfl) (by kernel_rfl) (by kernel_rfl) (fun _ _ _ h => h) (by rfl) ?zhy15 hHeld ?zrest15
        case zhy15 => (intro w hSw; (try dsimp only at hSw); go_simp; try with_reducible rfl)
        simp only [Act.put, List.setIfInBounds_toArray, List.set_cons_zero, List.set_cons_succ]
        refine heldC (i := 14) rfl (by kernel_rfl) (by rfl) (fun K hK => ?_)
        go_simp
        refine (HQ.out.1 _ hN0).mono ?_
        rintro e r0 ⟨rfl, R0⟩
        have hM0 := hN0.new R0
        (try go_wp2_with fail)
        refine hK.out _ _ (HSK.out _ hM0) (fun hHeld2 => ?_)
        clear hK K hHeld
        have hHeld := hHeld2
        clear hHeld2
        (try simp only [Act.put, List.setIfInBounds_toArray, List.set_cons_zero, List.set_cons_succ])
        refine heldC (i := 16) rfl (by kernel_rfl) (by rfl) (fun K hK => ?_)
        go_simp
        refine (HQ.out.2.1 _ hM0).mono ?_
        rintro e r1 ⟨rfl, R1⟩
        have hM1 := hM0.new R1
        (try go_wp2_with fail)
        refine hK.out _ _ (HSK.out _ hM1) (fun hHeld2 => ?_)
        clear hK K hHeld
        have hHeld := hHeld2
        clear hHeld2
        (try simp only [Act.put, List.setIfInBounds_toArray, List.set_cons_zero, List.set_cons_succ])
        refine heldW (i := 17) (v := ?zv17) rfl (by kernel_rfl) (by kernel_rfl) (by kernel_rfl) (fun _ _ _ h => h) (by rfl) ?zhy17 hHeld ?zrest17
        case zhy17 => (intro w hSw; (try dsimp only at hSw); go_simp; try with_reducible rfl)
        simp only [Act.put, List.setIfInBounds_toArray, List.set_cons_zero, List.set_cons_succ]
        refine heldW (i := 18) (v := ?zv18) rfl (by kernel_rfl) (by kernel_rfl) (by kernel_rfl) (fun _ _ _ h => h) (by rfl) ?zhy18 hHeld ?zrest18
        case zhy18 => (intro w hSw; (try dsimp only at hSw); go_simp; try with_reducible rfl)
        simp only [Act.put, List.setIfInBounds_toArray, List.set_cons_zero, List.set_cons_succ]
        refine heldW (i := 19) (v := ?zv19) rfl (by kernel_rfl) (by kernel_rfl) (by kernel_rfl) (fun _ _ _ h => h) (by rfl) ?zhy19 hHeld ?zrest19
        case zhy19 => (intro w hSw; (try dsimp only at hSw); go_simp; try with_reducible rfl)
        simp only [Act.put, List.setIfInBounds_toArray, List.set_cons_zero, List.set_cons_succ]
        refine heldW (i := 20) (v := ?zv20) rfl (by kernel_rfl) (by kernel_rfl) (by kernel_rfl) (fun _ _ _ h => h) (by rfl) ?zhy20 hHeld ?zrest20
        case zhy20 => (intro w hSw; (try dsimp only at hSw); go_simp; try with_reducible rfl)
        simp only [Act.put, List.setIfInBounds_toArray, List.set_cons_zero, List.set_cons_succ]
        refine heldW (i := 21) (v := ?zv21) rfl (by kernel_rfl) (by kernel_rfl) (by kernel_rfl) (fun _ _ _ h => h) (by rfl) ?zhy21 hHeld ?zrest21
        case zhy21 => (intro w hSw; (try dsimp only at hSw); go_simp; try with_reducible rfl)
        simp only [Act.put, List.setIfInBounds_toArray, List.set_cons_zero, List.set_cons_succ]
        refine heldW (i := 22) (v := ?zv22) rfl (by kernel_rfl) (by kernel_rfl) (by kernel_rfl) (fun _ _ _ h => h) (by rfl) ?zhy22 hHeld ?zrest22
        case zhy22 => (intro w hSw; (try dsimp only at hSw); go_simp; try with_reducible rfl)
        simp only [Act.put, List.setIfInBounds_toArray, List.set_cons_zero, List.set_cons_succ]
        refine heldU (i := 23) rfl (by kernel_rfl) (by kernel_rfl) (by kernel_rfl) (fun _ _ _ h => h) (by rfl) hHeld ?_
        simp only [Act.put, List.setIfInBounds_toArray, List.set_cons_zero, List.set_cons_succ]
        refine heldU (i := 24) rfl (by kernel_rfl) (by kernel_rfl) (by kernel_rfl) (fun _ _ _ h => h) (by rfl) hHeld ?_
        simp only [Act.put, List.setIfInBounds_toArray, List.set_cons_zero, List.set_cons_succ]
        refine heldU (i := 25) rfl (by kernel_rfl) (by kernel_rfl) (by kernel_rfl) (fun _ _ _ h => h) (by rfl) hHeld ?_
        simp only [Act.put, List.setIfInBounds_toArray, List.set_cons_zero, List.set_cons_succ]
        refine heldU (i := 26) rfl (by kernel_rfl) (by kernel_rfl) (by kernel_rfl) (fun _ _ _ h => h) (by rfl) hHeld ?_
        simp only [Act.put, List.setIfInBounds_toArray, List.set_cons_zero, List.set_cons_succ]
        refine heldU (i := 27) rfl (by kernel_rfl) (by kernel_rfl) (by kernel_rfl) (fun _ _ _ h => h) (by rfl) hHeld ?_
        simp only [Act.put, List.setIfInBounds_toArray, List.set_cons_zero, List.set_cons_succ]
        refine heldU (i := 28) rfl (by kernel_rfl) (by kernel_rfl) (by kernel_rfl) (fun _ _ _ h => h) (by rfl) hHeld ?_
        simp only [Act.put, List.setIfInBounds_toArray, List.set_cons_zero, List.set_cons_succ]
        refine heldU (i := 29) rfl (by kernel_rfl) (by kernel_rfl) (by kernel_rfl) (fun _ _ _ h => h) (by rfl) hHeld ?_
        simp only [Act.put, List.setIfInBounds_toArray, List.set_cons_zero, List.set_cons_succ]
        refine heldU (i := 30) rfl (by kernel_rfl) (by kernel_rfl) (by kernel_rfl) (fun _ _ _ h => h) (by rfl) hHeld ?_
        simp only [Act.put, List.setIfInBounds_toArray, List.set_cons_zero, List.set_cons_succ]
        refine heldU (i := 31) rfl (by kernel_rfl) (by kernel_rfl) (by kernel_rfl) (fun _ _ _ h => h) (by rfl) hHeld ?_
        simp only [Act.put, List.setIfInBounds_toArray, List.set_cons_zero, List.set_cons_succ]
        refine heldW (i := 32) (v := ?zv32) rfl (by kernel_rfl) (by kernel_rfl) (by kernel_rfl) (fun _ _ _ h => h) (by rfl) ?zhy32 hHeld ?zrest32
        case zhy32 => (intro w hSw; (try dsimp only at hSw); go_simp; try with_reducible rfl)
        simp only [Act.put, List.setIfInBounds_toArray, List.set_cons_zero, List.set_cons_succ]
        refine heldW (i := 33) (v := ?zv33) rfl (by kernel_rfl) (by kernel_rfl) (by kernel_rfl) (fun _ _ _ h => h) (by rfl) ?zhy33 hHeld ?zrest33
        case zhy33 => (intro w hSw; (try dsimp only at hSw); go_simp; try with_reducible rfl)
        simp only [Act.put, List.setIfInBounds_toArray, List.set_cons_zero, List.set_cons_succ]
        refine wpAnyH_done (by kernel_rfl) ?_ _
        have HE := Lib.hid (H10.out.2.2.2.2.2.2.new hM1)
        clear hs0 hs1 hs2 hs3 hs4 hs5 hN0 hM0 hM1 R0 R1 HSK HQ
        go_wp2
        go_roundw
        case rel => exact ⟨j + 1, by go_num, by omega, HE.out⟩
        case measure => simp [intOf]; omega
    · obtain rfl : j = 5 := by omega
      go_wp2_with fail
      refine (lives_any wo).mono ?_
      rintro e w9 ⟨rfl, hn9⟩
      have H9 := Lib.hid (HW.out.new (HJ.out.new hn9))
      clear hn9
      go_wp2
      go_ret
      exact ⟨rfl, H9.out⟩
end Go.Proofs.YtmpkaimhjdkheaaGreatDoor
