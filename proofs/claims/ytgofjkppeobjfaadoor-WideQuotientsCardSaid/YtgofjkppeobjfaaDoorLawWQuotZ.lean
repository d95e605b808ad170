/- The walk of refuterlaw03.WideQuotients. -/
import Derived.Test.YtgofjkppeobjfaaDoorB5
import Derived.Test.YtgofjkppeobjfaaDoorLawWOrderZ
import Derived.Test.YtgofjkppeobjfaaDoorCutBoxZ
import Derived.Deep.Cut
namespace Go.Proofs.YtgofjkppeobjfaaDoor
set_option linter.unusedVariables false
open Go.RowKit Go.Mem Go.Dig

theorem Sm.div {x y : Int} (h : Sm x) : Sm (x / y) := Nat.lt_of_le_of_lt (Int.natAbs_ediv_le_natAbs x y) h
theorem Sm.mod {x y : Int} (h0 : ¬ y = 0) (h : Sm y) : Sm (x % y) := natAbs_mod_lt x y h0 h
theorem rdiv_s (w : World) (v v' : Value) (x y : Int) (hx : RN w v x) (hy : RN w v' y) (bx : Sm x) (bY : Sm y) (h0 : y ≠ 0) : Calls Tryd.prog 30 #[v, v'] w fun e w' => ∃ s A n c s' A' n' c', e = .returned (.tuple #[.agg #[.bool s, .slice A n c], .agg #[.bool s', .slice A' n' c']]) ∧ Hid (RN w' (.agg #[.bool s, .slice A n c]) (x / y) ∧ RN w' (.agg #[.bool s', .slice A' n' c']) (x % y) ∧ New w w') :=
  (rdiv_any v v' x y w hx hy bx.p10 bY.p9 h0).mono fun e w' ⟨v, v', h1, ⟨s, A, n, c, h2, h3, h4⟩, ⟨s', A', n', c', h2', h3', h4'⟩, h5⟩ => ⟨s, A, n, c, s', A', n', c', by rw [h1, h2, h2'], ⟨s, A, n, c, rfl, h3, h4⟩, ⟨s', A', n', c', rfl, h3', h4'⟩, h5⟩

set_option maxRecDepth 100000 in
set_option maxHeartbeats 4000000 in
theorem wideQuotients_walk (A : Option Addr) (n c : Nat) (l : List Int) (k : Int) (hk1 : -9223372036854775808 ≤ k) (hk2 : k ≤ 9223372036854775807) (w : World) (hr : Rd w A n (is l)) (hl : ∀ z ∈ l, -9223372036854775808 ≤ z ∧ z ≤ 9223372036854775807) (hn : n ≤ 9223372036854775807) (hpt : PowTab w) :
    Calls Tryd.prog 6 #[.slice A n c, .int .i64 k] w fun e w' => e = .returned (.bool true) ∧ New w w' := by
  have hnum := fun W (h : New w W) => number_s A n c l hl W (hr.new h) hn
  have HNUM := Lib.hid hnum
  have HT := Lib.hid hpt
  have HK := Lib.hid (And.intro hk1 hk2)
  have hT : k.natAbs < pw2 64 := by have : pw2 64 = 18446744073709551616 := rfl; omega
  have HKS := Lib.hid (Sm.of hT (by decide))
  have HP := Lib.hid (Sm.of (natAbs_mul_lt (num_lt l 0) (num_lt l 6)) (by decide))
  have HBB := Lib.hid (Sm.of (natAbs_mul_lt (num_lt l 6) (num_lt l 6)) (by decide))
  have HS1 := Lib.hid (Sm.of (natAbs_add_lt (natAbs_mul_lt (num_lt l 0) (num_lt l 6)) (Nat.lt_of_lt_of_le hT (pw2_le (by decide)))) (by decide))
  have HS2 := Lib.hid (Sm.of (natAbs_mul_lt (natAbs_mul_lt (num_lt l 6) (num_lt l 6)) (num_lt l 0)) (by decide))
  clear hnum hpt hr hl hn hk1 hk2 hT
  go_enter Tryd.func6, Tryd.ntmps6
  go_wp2_with fail
  refine ((HNUM.out w (Chg.refl _ _)).1).mono ?_
  rintro e u1 ⟨sa, Aa, na, ca, rfl, K1⟩
  have H101 := Lib.hid K1.out.2
  go_wp2_with fail
  refine Calls.new1 ?_
  intro W3 hba hn3 hz3
  obtain ⟨ga, hga⟩ : ∃ x, u1.heap.size = x := ⟨_, rfl⟩
  rw [hga] at hba
  simp only [hga]
  have hXa : RX W3 ga sa Aa na ca (numI l 0) := ⟨hba, K1.out.1.new hn3⟩
  have H102 := Lib.hid (And.intro hXa (H101.out.new hn3))
  clear H101
  clear hXa hba hga hn3 hz3
  refine ((HNUM.out W3 H102.out.2).2.1).mono ?_
  rintro e u2 ⟨sb, Ab, nb, cb, rfl, K2⟩
  have H103 := Lib.hid (And.intro (H102.out.1.new K2.out.2) (H102.out.2.new K2.out.2))
  clear H102
  go_upto_region 3 with fail
  refine Code.new1 ?_
  intro W4 hbb hn4 hz4
  obtain ⟨gb, hgb⟩ : ∃ x, u2.heap.size = x := ⟨_, rfl⟩
  rw [hgb] at hbb
  simp only [hgb]
  have hXb : RX W4 gb sb Ab nb cb (numI l 6) := ⟨hbb, K2.out.1.new hn4⟩
  have H104 := Lib.hid (And.intro (H103.out.1.new hn4) (And.intro hXb (H103.out.2.new hn4)))
  clear H103
  clear hXb hbb hgb hn4 hz4
  have hq0 : ∀ W', New W4 W' → Calls Tryd.prog 27 #[.agg #[.bool sa, .slice Aa na ca], .agg #[.bool sb, .slice Ab nb cb]] W' (RetR W' (numI l 0 * numI l 6)) := fun W' h => rmul_s W' _ _ _ _ (H104.out.1.new h).2 (H104.out.2.1.new h).2 (num_sm l 0) (num_sm l 6)
  have hq1 : ∀ W', Calls Tryd.prog 22 #[.int .i64 k] W' (RetR W' k) := fun W' => of_s k W' HK.out.1 HK.out.2
  have hq2 : ∀ W' v v', RN W' v (numI l 0 * numI l 6) → RN W' v' k → Calls Tryd.prog 28 #[v, v'] W' (RetR W' (numI l 0 * numI l 6 + k)) := fun W' v v' h h' => radd_s W' _ _ _ _ h h' HP.out HKS.out
  have hq3 : ∀ W', New W4 W' → Calls Tryd.prog 27 #[.agg #[.bool sb, .slice Ab nb cb], .agg #[.bool sb, .slice Ab nb cb]] W' (RetR W' (numI l 6 * numI l 6)) := fun W' h => rmul_s W' _ _ _ _ (H104.out.2.1.new h).2 (H104.out.2.1.new h).2 (num_sm l 6) (num_sm l 6)
  have hq4 : ∀ W' v, New W4 W' → RN W' v (numI l 6 * numI l 6) → Calls Tryd.prog 27 #[v, .agg #[.bool sa, .slice Aa na ca]] W' (RetR W' (numI l 6 * numI l 6 * numI l 0)) := fun W' v h h' => rmul_s W' _ _ _ _ h' (H104.out.1.new h).2 HBB.out (num_sm l 0)
  have HQ0 := Lib.hid hq0
  have HQ1 := Lib.hid hq1
  have HQ2 := Lib.hid hq2
  have HQ3 := Lib.hid hq3
  have HQ4 := Lib.hid hq4
  clear hq0 hq1 hq2 hq3 hq4
  have hsk : ∀ w', New W4 w' → w'.cell? ⟨ga, 0, none⟩ = some (.bool sa) ∧ w'.cell? ⟨ga, 1, none⟩ = some (.slice Aa na ca) ∧ w'.cell? ⟨gb, 0, none⟩ = some (.bool sb) ∧ w'.cell? ⟨gb, 1, none⟩ = some (.slice Ab nb cb) := fun w' h => ⟨(H104.out.1.new h).c0, (H104.out.1.new h).c1, (H104.out.2.1.new h).c0, (H104.out.2.1.new h).c1⟩
  have HSK := Lib.hid hsk
  clear hsk
  have hN0 : New W4 W4.drew := (Chg.refl _ _).drew
  have hza0 := (H104.out.1).c0
  have hza1 := (H104.out.1).c1
  have hzb0 := (H104.out.2.1).c0
  have hzb1 := (H104.out.2.1).c1
  go_region_held3 (fun w' => w'.cell? ⟨ga, 0, none⟩ = some (.bool sa) ∧ w'.cell? ⟨ga, 1, none⟩ = some (.slice Aa na ca) ∧ w'.cell? ⟨gb, 0, none⟩ = some (.bool sb) ∧ w'.cell? ⟨gb, 1, none⟩ = some (.slice Ab nb cb)) (first | exact HSK.out _ (by assumption) | exact HSK.out _ (Chg.refl _ _) | exact HSK.out _ (Chg.alloc (by assumption) _))
    (first
      | (go_at_call 27; (with_reducible refine (HQ0.out _ hN0).mono ?_); rintro e q0 ⟨sq0, Aq0, nq0, cq0, rfl, Q0⟩; have hM0 := hN0.new Q0.out.2)
      | (go_at_call 22; (with_reducible refine (HQ1.out _).mono ?_); rintro e q1 ⟨sq1, Aq1, nq1, cq1, rfl, Q1⟩; have hM1 := hM0.new Q1.out.2)
      | (go_at_call 28; (with_reducible refine (HQ2.out _ _ _ (Q0.out.1.new Q1.out.2) Q1.out.1).mono ?_); rintro e q2 ⟨sq2, Aq2, nq2, cq2, rfl, Q2⟩; have hM2 := hM1.new Q2.out.2)
      | (go_at_call 27; (with_reducible refine (HQ3.out _ hM2).mono ?_); rintro e q3 ⟨sq3, Aq3, nq3, cq3, rfl, Q3⟩; have hM3 := hM2.new Q3.out.2)
      | (go_at_call 27; (with_reducible refine (HQ4.out _ _ hM3 Q3.out.1).mono ?_); rintro e q4 ⟨sq4, Aq4, nq4, cq4, rfl, Q4⟩; have hM4 := hM3.new Q4.out.2))
  rename_i hHeld
  obtain ⟨hd0, hd1, hd2, hd3⟩ := hHeld
  clear hza0 hza1 hzb0 hzb1
  have HN := Lib.hid hM4
  have HR2 := Lib.hid (Q2.out.1.new (Q3.out.2.new Q4.out.2))
  have HR4 := Lib.hid Q4.out.1
  clear hM0 hM1 hM2 hM3 hM4 hN0 HQ0 HQ1 HQ2 HQ3 HQ4 Q0 Q1 Q2 Q3 Q4 HSK HK HKS HP HBB
  go_wp2_with fail
  clear hd0 hd1 hd2 hd3
  refine Calls.new1 ?_
  intro W4 hbg hn4 hz4
  obtain ⟨G, hG⟩ : ∃ x, q4.heap.size = x := ⟨_, rfl⟩
  rw [hG] at hbg
  simp only [hG]
  have hN4 := HN.out.new hn4
  have FA := Lib.hid (H104.out.1.new hN4)
  have FB := Lib.hid (H104.out.2.1.new hN4)
  have FN := Lib.hid (H104.out.2.2.new hN4)
  have FG := Lib.hid (And.intro hbg (And.intro FA.out.2 (And.intro (HR2.out.new hn4) (HR4.out.new hn4))))
  clear hbg hG hn4 hz4 HN HR2 HR4 H104 FA hN4
  refine (wider_s W4 _ _ FB.out.2 (num_sm l 6)).mono ?_
  rintro e u5 ⟨sy, Ay, ny, cy, rfl, K5⟩
  go_wp2_with fail
  refine Code.new1 ?_
  intro W6 hby hn6 hz6
  obtain ⟨gy, hgy⟩ : ∃ x, u5.heap.size = x := ⟨_, rfl⟩
  rw [hgy] at hby
  simp only [hgy]
  have hN6 := K5.out.2.new hn6
  have HY : Hid (WX W6 gy sy Ay ny cy (numI l 6)) := Lib.hid ⟨hby, K5.out.1.new hn6⟩
  have HB := Lib.hid (FB.out.new hN6)
  have HW := Lib.hid (FN.out.new hN6)
  have HG := Lib.hid (And.intro (FG.out.1.chg hN6 (fun h => h)) (And.intro (FG.out.2.1.new hN6) (And.intro (FG.out.2.2.1.new hN6) (FG.out.2.2.2.new hN6))))
  clear FB FN FG hby hgy hn6 hz6 hN6 K5
  go_loopw [10, 11, 12, 13, 14, 15, 16, 17] (fun i _ _ _ _ _ _ _ wr => ∃ j : Nat, i = .int .i64 (j : Int) ∧ j ≤ 3 ∧ Hid (New W6 wr)) (fun i _ _ _ _ _ _ _ _ => 3 - (intOf i).toNat)
  case atStart => exact ⟨0, rfl, by omega, Chg.refl _ _⟩
  case round =>
    obtain ⟨j, rfl, hj, HI⟩ := hrel
    obtain ⟨wo, rfl⟩ : ∃ wo : World, wo = wr := ⟨_, rfl⟩
    have hgw := HG.out.1.chg HI.out (fun h => h)
    by_cases hlt : j < 3
    · obtain ⟨sj, Aj, nj, cj, z, hzs, hj0, hj1, hjr⟩ : ∃ sj Aj nj cj z, Sm z ∧ (∀ w', New W6 w' → w'.cell? ⟨G, j * 2, none⟩ = some (.bool sj)) ∧ (∀ w', New W6 w' → w'.cell? ⟨G, j * 2 + 1, none⟩ = some (.slice Aj nj cj)) ∧ RN W6 (.agg #[.bool sj, .slice Aj nj cj]) z := by
        rcases (by omega : j = 0 ∨ j = 1 ∨ j = 2) with rfl | rfl | rfl
        · exact ⟨sa, Aa, na, ca, _, (num_sm l 0), fun w' h => (HG.out.1.chg h (fun h => h)).cell 0 rfl, fun w' h => (HG.out.1.chg h (fun h => h)).cell 1 rfl, HG.out.2.1⟩
        · exact ⟨sq2, Aq2, nq2, cq2, _, HS1.out, fun w' h => (HG.out.1.chg h (fun h => h)).cell 2 rfl, fun w' h => (HG.out.1.chg h (fun h => h)).cell 3 rfl, HG.out.2.2.1⟩
        · exact ⟨sq4, Aq4, nq4, cq4, _, HS2.out, fun w' h => (HG.out.1.chg h (fun h => h)).cell 4 rfl, fun w' h => (HG.out.1.chg h (fun h => h)).cell 5 rfl, HG.out.2.2.2⟩
      have HJ := Lib.hid (And.intro hj0 (And.intro hj1 (And.intro hjr hzs)))
      have hc0 := hj0 wo HI.out
      have hc1 := hj1 wo HI.out
      have hlti : (j : Int) < 3 := by omega
      clear hgw hj0 hj1 hjr hzs HG
      go_wp2_with fail
      clear hc0 hc1
      refine (wider_s wo _ _ (HJ.out.2.2.1.new HI.out) HJ.out.2.2.2).mono ?_
      rintro e u7 ⟨sx, Ax, nx, cx, rfl, K7⟩
      have hy0 := (HY.out.new ((HI.out.new K7.out.2).alloc (.cells #[.bool sx, .slice Ax nx cx] 33))).c0
      have hy1 := (HY.out.new ((HI.out.new K7.out.2).alloc (.cells #[.bool sx, .slice Ax nx cx] 33))).c1
      go_wp2_with fail
      clear hy0 hy1
      refine Calls.new1 ?_
      intro W8 hbx hn8 hz8
      obtain ⟨gx, hgx⟩ : ∃ x, u7.heap.size = x := ⟨_, rfl⟩
      rw [hgx] at hbx
      simp only [hgx]
      have HN8 := Lib.hid ((HI.out.new K7.out.2).new hn8)
      have HX : Hid (WX W8 gx sx Ax nx cx z) := Lib.hid ⟨hbx, K7.out.1.new hn8⟩
      clear hbx hn8 hz8 hgx K7 HI
      by_cases hB : numI l 6 = 0
      · have hY0 : WI W8 (.agg #[.bool sy, .slice Ay ny cy]) 0 := by have := (HY.out.new HN8.out).2; rwa [hB] at this
        obtain rfl : nb = 0 := (RN.len0' HB.out.2).2 hB
        clear hB
        refine (wdiv0_s W8 _ _ _ HX.out.2 hY0).mono ?_
        clear hY0
        rintro e u9 ⟨sq, Aq, nq, cq, sr, Ar, nr, cr, rfl, K9⟩
        have hb1 := (HB.out.new ((((HN8.out.new K9.out.2.2).alloc (.cells #[.bool sq, .slice Aq nq cq] 33)).alloc (.cells #[.bool sr, .slice Ar nr cr] 33)))).c1
        go_wp2_with fail
        clear hb1
        refine Calls.new2 ?_
        intro W10 hbq hbr hn10 hz10
        obtain ⟨gq, hgq⟩ : ∃ x, u9.heap.size = x := ⟨_, rfl⟩
        obtain ⟨gr, hgr⟩ : ∃ x, u9.heap.size + 1 = x := ⟨_, rfl⟩
        rw [hgq] at hbq
        rw [hgr] at hbr
        simp only [hgr]
        simp only [hgq]
        have HQ : Hid (WX W10 gq sq Aq nq cq (0)) := Lib.hid ⟨hbq, K9.out.1.new hn10⟩
        have HR : Hid (WX W10 gr sr Ar nr cr (0)) := Lib.hid ⟨hbr, K9.out.2.1.new hn10⟩
        have HN10 := Lib.hid (HN8.out.new (K9.out.2.2.new hn10))
        clear hbq hbr hn10 hz10 hgq hgr K9 HN8 HX
        refine (equal_s W10 _ _ 0 HQ.out.2 (RN.zero _) (HT.out.new (HW.out.new HN10.out)) (show Sm (0 : Int) from Sm.of (k := 1) (by decide) (by decide))).mono ?_
        rintro e u11 ⟨rfl, K11⟩
        have kr0 := (HR.out.new K11.out).c0
        have kr1 := (HR.out.new K11.out).c1
        go_wp2_with fail
        clear kr0 kr1
        refine (equal_s u11 _ _ 0 (HR.out.new K11.out).2 (RN.zero _) (HT.out.new (HW.out.new (HN10.out.new K11.out))) (show Sm (0 : Int) from Sm.of (k := 1) (by decide) (by decide))).mono ?_
        rintro e u12 ⟨rfl, K12⟩
        have HE := Lib.hid (HN10.out.new (K11.out.new K12.out))
        clear HN10 K11 K12 HQ HR
        go_wp2
        go_roundw
        case rel => exact ⟨j + 1, by go_num, by omega, HE.out⟩
        case measure => simp [intOf]; omega
      · refine (wdiv_s W8 _ _ _ _ HX.out.2 (HY.out.new HN8.out).2 HJ.out.2.2.2 (num_sm l 6) hB).mono ?_
        rintro e u9 ⟨sq, Aq, nq, cq, sr, Ar, nr, cr, rfl, K9⟩
        have hnb : ((nb : Int) == 0) = false := beq_eq_false_iff_ne.2 (fun h => hB ((RN.len0' HB.out.2).1 (by omega)))
        have hb1 := (HB.out.new ((((HN8.out.new K9.out.2.2).alloc (.cells #[.bool sq, .slice Aq nq cq] 33)).alloc (.cells #[.bool sr, .slice Ar nr cr] 33)))).c1
        go_upto_region 15 with fail
        clear hb1 hnb
        refine Code.new2 ?_
        intro W10 hbq hbr hn10 hz10
        obtain ⟨gq, hgq⟩ : ∃ x, u9.heap.size = x := ⟨_, rfl⟩
        obtain ⟨gr, hgr⟩ : ∃ x, u9.heap.size + 1 = x := ⟨_, rfl⟩
        rw [hgq] at hbq
        rw [hgr] at hbr
        simp only [hgr]
        simp only [hgq]
        have HQ : Hid (WX W10 gq sq Aq nq cq (z / numI l 6)) := Lib.hid ⟨hbq, K9.out.1.new hn10⟩
        have HR : Hid (WX W10 gr sr Ar nr cr (z % numI l 6)) := Lib.hid ⟨hbr, K9.out.2.1.new hn10⟩
        have HN10 := Lib.hid (HN8.out.new (K9.out.2.2.new hn10))
        clear hbq hbr hn10 hz10 hgq hgr K9 HN8 HX
        go_cut [16, 17] from 83 to 91 (fun v v' wc => Hid (CutRR W10 (z / numI l 6) (z % numI l 6) v v' wc))
        case first =>
          have hq0 : ∀ W', New W10 W' → Calls Tryd.prog 30 #[.agg #[.bool sj, .slice Aj nj cj], .agg #[.bool sb, .slice Ab nb cb]] W' fun e w' => ∃ s A n c s' A' n' c', e = .returned (.tuple #[.agg #[.bool s, .slice A n c], .agg #[.bool s', .slice A' n' c']]) ∧ Hid (RN w' (.agg #[.bool s, .slice A n c]) (z / numI l 6) ∧ RN w' (.agg #[.bool s', .slice A' n' c']) (z % numI l 6) ∧ New W' w') := fun W' h => rdiv_s W' _ _ _ _ (HJ.out.2.2.1.new (HN10.out.new h)) (HB.out.new (HN10.out.new h)).2 HJ.out.2.2.2 (num_sm l 6) hB
          have HQ0 := Lib.hid hq0
          clear hq0
          have hsk : ∀ w', New W10 w' → w'.cell? ⟨G, j * 2, none⟩ = some (.bool sj) ∧ w'.cell? ⟨G, j * 2 + 1, none⟩ = some (.slice Aj nj cj) ∧ w'.cell? ⟨gb, 0, none⟩ = some (.bool sb) ∧ w'.cell? ⟨gb, 1, none⟩ = some (.slice Ab nb cb) := fun w' h => ⟨HJ.out.1 _ (HN10.out.new h), HJ.out.2.1 _ (HN10.out.new h), (HB.out.new (HN10.out.new h)).c0, (HB.out.new (HN10.out.new h)).c1⟩
          have HSK := Lib.hid hsk
          clear hsk
          have hN0 : New W10 W10.drew := (Chg.refl _ _).drew
          obtain ⟨hs0, hs1, hs2, hs3⟩ := HSK.out W10 (Chg.refl _ _)
          go_region_held3 (fun w' => w'.cell? ⟨G, j * 2, none⟩ = some (.bool sj) ∧ w'.cell? ⟨G, j * 2 + 1, none⟩ = some (.slice Aj nj cj) ∧ w'.cell? ⟨gb, 0, none⟩ = some (.bool sb) ∧ w'.cell? ⟨gb, 1, none⟩ = some (.slice Ab nb cb)) (first | (refine HSK.out _ ?_; repeat (first | assumption | exact Chg.refl _ _ | refine Chg.drew ?_ | refine Chg.alloc ?_ _ | (refine New.set2 ?_ ?_ _ _; rotate_left; omega))))
            (first
              | (go_at_call 30; (with_reducible refine (HQ0.out _ ?_).mono ?_); (first | exact (Chg.refl _ _).drew | exact ((Chg.refl _ _).alloc _).drew | exact (((Chg.refl _ _).alloc _).alloc _).drew); rintro e w5 ⟨s5, A5, n5, c5, s6, A6, n6, c6, rfl, K5⟩; (have HB5 : New W10 w5 := by (first | exact ((Chg.refl _ _).drew).new K5.out.2.2 | exact (((Chg.refl _ _).alloc _).drew).new K5.out.2.2 | exact ((((Chg.refl _ _).alloc _).alloc _).drew).new K5.out.2.2)); obtain ⟨hc5, hf5⟩ := bcell (New.below K5.out.2.2); (have hy5 := K5.out.2.2.size); (try simp only [World.size_alloc, World.drew] at hy5); (try have hs51 : W10.heap.size < w5.heap.size := by omega); (try have hs52 : W10.heap.size + 1 < w5.heap.size := by omega)))
          all_goals
            clear hc5 hf5
            go_wp2_with fail
            go_meet
            case rel =>
              first
                | with_reducible exact CutRR.ll HB5 K5.out.1 K5.out.2.1
                | with_reducible exact CutRR.ll' HB5 K5.out.1 K5.out.2.1
                | (with_reducible refine CutRR.el HB5 K5.out.1 K5.out.2.1 ?_ ?_; exact (Blk.new W10 _ _).drew.chg K5.out.2.2 (fun h => h); exact Nat.le_refl _)
                | (with_reducible refine CutRR.el' HB5 K5.out.1 K5.out.2.1 ?_ ?_; exact (Blk.new W10 _ _).drew.chg K5.out.2.2 (fun h => h); exact Nat.le_refl _)
                | (with_reducible refine CutRR.ee HB5 K5.out.1 K5.out.2.1 ?_ ?_ ?_ ?_ ?_; exact ((Blk.new W10 _ _).alloc _).drew.chg K5.out.2.2 (fun h => h); exact Nat.le_refl _; exact (Blk.two W10 _ _ _).drew.chg K5.out.2.2 (fun h => h); exact Nat.le_succ _; exact Nat.ne_of_lt (Nat.lt_succ_self _))
                | (with_reducible refine CutRR.ee HB5 K5.out.1 K5.out.2.1 ?_ ?_ ?_ ?_ ?_; exact (Blk.two W10 _ _ _).drew.chg K5.out.2.2 (fun h => h); exact Nat.le_succ _; exact ((Blk.new W10 _ _).alloc _).drew.chg K5.out.2.2 (fun h => h); exact Nat.le_refl _; exact Nat.ne_of_gt (Nat.lt_succ_self _))
        case rest =>
          obtain ⟨gc, sc, Ac, nc, cc, gd, sd, Ad, nd, cd, rfl, rfl, hXc, hXd, hNc⟩ := Hid.out hcut
          obtain ⟨W12, hwc⟩ : ∃ x : World, x = wc := ⟨_, rfl⟩
          subst hwc
          have HC := Lib.hid (And.intro hXc (And.intro hXd (HN10.out.new hNc)))
          have HQR := Lib.hid (And.intro (HQ.out.new hNc) (HR.out.new hNc))
          have HB0 := Lib.hid hB
          clear hcut hXc hXd hNc HN10 HQ HR hB
          have k0 := HQR.out.1.c0
          have k1 := HQR.out.1.c1
          have k2 := HC.out.1.c0
          have k3 := HC.out.1.c1
          go_wp2_with fail
          clear k0 k1 k2 k3
          refine (equal_s W12 _ _ _ HQR.out.1.2 HC.out.1.2 (HT.out.new (HW.out.new HC.out.2.2)) (Sm.div HJ.out.2.2.2)).mono ?_
          rintro e u11 ⟨rfl, K11⟩
          have k0 := (HQR.out.2.new K11.out).c0
          have k1 := (HQR.out.2.new K11.out).c1
          have k2 := (HC.out.2.1.new K11.out).c0
          have k3 := (HC.out.2.1.new K11.out).c1
          go_wp2_with fail
          clear k0 k1 k2 k3
          refine (equal_s u11 _ _ _ (HQR.out.2.new K11.out).2 (HC.out.2.1.new K11.out).2 (HT.out.new (HW.out.new (HC.out.2.2.new K11.out))) (Sm.mod HB0.out (num_sm l 6))).mono ?_
          rintro e u12 ⟨rfl, K12⟩
          have HE := Lib.hid (HC.out.2.2.new (K11.out.new K12.out))
          clear HC HQR K11 K12
          go_wp2
          go_roundw
          case rel => exact ⟨j + 1, by go_num, by omega, HE.out⟩
          case measure => simp [intOf]; omega
    · obtain rfl : j = 3 := by omega
      have hge : decide (((3 : Nat) : Int) < 3) = false := by simp
      clear hgw HG
      go_wp2_with fail
      refine (lives_s wo (HT.out.new (HW.out.new HI.out))).mono ?_
      rintro e wl ⟨rfl, KL⟩
      have HE := Lib.hid ((HW.out.new HI.out).new KL.out)
      clear hge
      go_wp2
      go_ret
      exact ⟨rfl, HE.out⟩
end Go.Proofs.YtgofjkppeobjfaaDoor
