/- The walk of refuterlaw03.WideOrder. -/
import Derived.Test.YtgofjkppeobjfaaDoorB5
import Derived.Test.YtgofjkppeobjfaaDoorTextIZ
import Derived.Deep.CutRange
namespace Go.Proofs.YtgofjkppeobjfaaDoor
set_option linter.unusedVariables false
open Go.RowKit Go.Mem Go.Dig

theorem rneg_s (w : World) (v : Value) (x : Int) (hx : RN w v x) : Calls Tryd.prog 32 #[v] w (RetR w (-x)) :=
  (rneg_any v x w hx).mono fun e w' ⟨v, h1, ⟨s, A, n, c, h2, h3, h4⟩, h5⟩ => ⟨s, A, n, c, by rw [h1, h2], ⟨s, A, n, c, rfl, h3, h4⟩, h5⟩
theorem of_s (n : Int) (w : World) (h1 : -9223372036854775808 ≤ n) (h2 : n ≤ 9223372036854775807) : Calls Tryd.prog 22 #[.int .i64 n] w (RetR w n) :=
  (of_any n w h1 h2).mono fun e w' ⟨v, h1, ⟨s, A, n, c, h2, h3, h4⟩, h5⟩ => ⟨s, A, n, c, by rw [h1, h2], ⟨s, A, n, c, rfl, h3, h4⟩, h5⟩
theorem rcmp_s (w : World) (v v' : Value) (x y c : Int) (hx : RN w v x) (hy : RN w v' y) (hc : cmpI x y = c) : Calls Tryd.prog 34 #[v, v'] w (RetV w (.int .i64 c)) := by
  subst hc; exact rcompare_any v v' x y w hx hy

set_option maxRecDepth 100000 in
set_option maxHeartbeats 4000000 in
theorem wideOrder_walk (A : Option Addr) (n c : Nat) (l : List Int) (k : Int) (hk1 : -9223372036854775808 ≤ k) (hk2 : k ≤ 9223372036854775807) (w : World) (hr : Rd w A n (is l)) (hl : ∀ z ∈ l, -9223372036854775808 ≤ z ∧ z ≤ 9223372036854775807) (hn : n ≤ 9223372036854775807) (hpt : PowTab w) :
    Calls Tryd.prog 7 #[.slice A n c, .int .i64 k] w fun e w' => e = .returned (.bool true) ∧ New w w' := by
  have hnum := fun W (h : New w W) => number_s A n c l hl W (hr.new h) hn
  have HNUM := Lib.hid hnum
  have HT := Lib.hid hpt
  obtain ⟨t, ht, ht1, ht2⟩ : ∃ t : Int, aroundI k 3 - 1 = t ∧ -1 ≤ t ∧ t ≤ 1 := by
    have := aroundI_range k 3 (by omega)
    exact ⟨_, rfl, by omega, by omega⟩
  have hbd : ∀ W, Calls Tryd.prog 31 #[.int .i64 k, .int .i64 1] W fun e w' => e = .returned (.int .i64 t) ∧ W = w' := fun W => ht ▸ bound1_any k 1 hk1 hk2 (by omega) (by omega) W
  have HBD := Lib.hid hbd
  have hT : t.natAbs < pw2 1 := by have : pw2 1 = 2 := rfl; omega
  have HS1 := Lib.hid (Sm.of (natAbs_add_lt (num_lt l 0) (Nat.lt_of_lt_of_le hT (pw2_le (by decide)))) (by decide))
  have HS2 := Lib.hid (Sm.of (show (-(numI l 0)).natAbs < pw2 230 by rw [Int.natAbs_neg]; exact num_lt l 0) (by decide))
  clear hnum hpt hr hl hn ht hbd hk1 hk2 hT
  go_enter Tryd.func7, Tryd.ntmps7
  go_wp2_with fail
  refine ((HNUM.out w (Chg.refl _ _)).1).mono ?_
  rintro e u1 ⟨sa, Aa, na, ca, rfl, K1⟩
  have H101 := Lib.hid K1.out.2
  go_upto_region 2 with fail
  refine Code.new1 ?_
  intro W2 hba hn2 hz2
  obtain ⟨ga, hga⟩ : ∃ x, u1.heap.size = x := ⟨_, rfl⟩
  rw [hga] at hba
  simp only [hga]
  have hXa : RX W2 ga sa Aa na ca (numI l 0) := ⟨hba, K1.out.1.new hn2⟩
  have H102 := Lib.hid (And.intro hXa (H101.out.new hn2))
  clear H101
  clear hXa hba hga hn2 hz2
  have hq0 : ∀ W', New W2 W' → Calls Tryd.prog 12 #[.slice A n c, .int .i64 6] W' (RetR W' (numI l 6)) := fun W' h => (HNUM.out W' (H102.out.2.new h)).2.1
  have hq1 : ∀ W', Calls Tryd.prog 22 #[.int .i64 t] W' (RetR W' t) := fun W' => of_s t W' (by omega) (by omega)
  have hq2 : ∀ W' v, New W2 W' → RN W' v t → Calls Tryd.prog 28 #[.agg #[.bool sa, .slice Aa na ca], v] W' (RetR W' (numI l 0 + t)) := fun W' v h hv => radd_s W' _ _ _ _ (H102.out.1.new h).2 hv (num_sm l 0) (Sm.of (k := 230) (Nat.lt_of_lt_of_le (by omega : t.natAbs < 2) (Nat.le_trans (by decide : 2 ≤ pw2 1) (pw2_le (by decide)))) (by decide))
  have hq3 : ∀ W', New W2 W' → Calls Tryd.prog 32 #[.agg #[.bool sa, .slice Aa na ca]] W' (RetR W' (-(numI l 0))) := fun W' h => rneg_s W' _ _ (H102.out.1.new h).2
  have HQ0 := Lib.hid hq0
  have HQ1 := Lib.hid hq1
  have HQ2 := Lib.hid hq2
  have HQ3 := Lib.hid hq3
  clear hq0 hq1 hq2 hq3
  have hsk : ∀ w', New W2 w' → w'.cell? ⟨ga, 0, none⟩ = some (.bool sa) ∧ w'.cell? ⟨ga, 1, none⟩ = some (.slice Aa na ca) := fun w' h => ⟨(H102.out.1.new h).c0, (H102.out.1.new h).c1⟩
  have HSK := Lib.hid hsk
  clear hsk
  have hN0 : New W2 W2.drew := (Chg.refl _ _).drew
  have hza0 := (H102.out.1).c0
  have hza1 := (H102.out.1).c1
  go_region_held3 (fun w' => w'.cell? ⟨ga, 0, none⟩ = some (.bool sa) ∧ w'.cell? ⟨ga, 1, none⟩ = some (.slice Aa na ca)) (first | exact HSK.out _ (by assumption) | exact HSK.out _ (Chg.refl _ _) | exact HSK.out _ (Chg.alloc (by assumption) _))
    (first
      | (go_at_call 12; (with_reducible refine (HQ0.out _ hN0).mono ?_); rintro e q0 ⟨sq0, Aq0, nq0, cq0, rfl, Q0⟩; have hM0 := hN0.new Q0.out.2)
      | (go_at_call 31; (with_reducible refine (HBD.out _).mono ?_); rintro e q9 ⟨rfl, rfl⟩)
      | (go_at_call 22; (with_reducible refine (HQ1.out _).mono ?_); rintro e q1 ⟨sq1, Aq1, nq1, cq1, rfl, Q1⟩; have hM1 := hM0.new Q1.out.2)
      | (go_at_call 28; (with_reducible refine (HQ2.out _ _ hM1 Q1.out.1).mono ?_); rintro e q2 ⟨sq2, Aq2, nq2, cq2, rfl, Q2⟩; have hM2 := hM1.new Q2.out.2)
      | (go_at_call 32; (with_reducible refine (HQ3.out _ hM2).mono ?_); rintro e q3 ⟨sq3, Aq3, nq3, cq3, rfl, Q3⟩; have hM3 := hM2.new Q3.out.2))
  rename_i hHeld
  obtain ⟨hd0, hd1⟩ := hHeld
  clear hza0 hza1
  have HN := Lib.hid hM3
  have HR0 := Lib.hid ((Q0.out.1.new Q1.out.2).new (Q2.out.2.new Q3.out.2))
  have HR2 := Lib.hid (Q2.out.1.new Q3.out.2)
  have HR3 := Lib.hid Q3.out.1
  clear hM0 hM1 hM2 hM3 hN0 HQ0 HQ1 HQ2 HQ3 Q0 Q1 Q2 Q3 HSK HBD
  go_wp2_with fail
  clear hd0 hd1
  refine Calls.new1 ?_
  intro W4 hbg hn4 hz4
  obtain ⟨G, hG⟩ : ∃ x, q3.heap.size = x := ⟨_, rfl⟩
  rw [hG] at hbg
  simp only [hG]
  have FA := Lib.hid ((H102.out.1.new HN.out).new hn4)
  have FN := Lib.hid ((H102.out.2.new HN.out).new hn4)
  have FG := Lib.hid (And.intro hbg (And.intro (HR0.out.new hn4) (And.intro (HR2.out.new hn4) (HR3.out.new hn4))))
  clear hbg hG hn4 hz4 HN HR0 HR2 HR3 H102
  refine (wider_s W4 _ _ FA.out.2 (num_sm l 0)).mono ?_
  rintro e u5 ⟨sx, Ax, nx, cx, rfl, K5⟩
  go_wp2_with fail
  refine Code.new1 ?_
  intro W6 hbx hn6 hz6
  obtain ⟨gx, hgx⟩ : ∃ x, u5.heap.size = x := ⟨_, rfl⟩
  rw [hgx] at hbx
  simp only [hgx]
  have hN6 := K5.out.2.new hn6
  have HX : Hid (WX W6 gx sx Ax nx cx (numI l 0)) := Lib.hid ⟨hbx, K5.out.1.new hn6⟩
  have HA := Lib.hid (FA.out.new hN6)
  have HW := Lib.hid (FN.out.new hN6)
  have HG := Lib.hid (And.intro (FG.out.1.chg hN6 (fun h => h)) (And.intro (FG.out.2.1.new hN6) (And.intro (FG.out.2.2.1.new hN6) (FG.out.2.2.2.new hN6))))
  clear FA FN FG hbx hgx hn6 hz6 hN6 K5
  go_loopw [9, 10, 11] (fun i _ _ wr => ∃ j : Nat, i = .int .i64 (j : Int) ∧ j ≤ 3 ∧ Hid (New W6 wr)) (fun i _ _ _ => 3 - (intOf i).toNat)
  case atStart => exact ⟨0, rfl, by omega, Chg.refl _ _⟩
  case round =>
    obtain ⟨j, rfl, hj, HI⟩ := hrel
    obtain ⟨wo, rfl⟩ : ∃ wo : World, wo = wr := ⟨_, rfl⟩
    have hgw := HG.out.1.chg HI.out (fun h => h)
    by_cases hlt : j < 3
    · rcases (by omega : j = 0 ∨ j = 1 ∨ j = 2) with rfl | rfl | rfl
      · have hc0 := hgw.cell 0 (u := .bool sq0) rfl
        have hc1 := hgw.cell 1 (u := .slice Aq0 nq0 cq0) rfl
        clear hgw
        go_wp2_with fail
        clear hc0 hc1
        refine (wider_s wo _ _ (HG.out.2.1.new HI.out) (num_sm l 6)).mono ?_
        rintro e u7 ⟨sy, Ay, ny, cy, rfl, K7⟩
        go_upto_region 8 with fail
        refine Code.new1 ?_
        intro W8 hby hn8 hz8
        obtain ⟨gy, hgy⟩ : ∃ x, u7.heap.size = x := ⟨_, rfl⟩
        rw [hgy] at hby
        simp only [hgy]
        have HN8 := Lib.hid ((HI.out.new K7.out.2).new hn8)
        have HY : Hid (WX W8 gy sy Ay ny cy (numI l 6)) := Lib.hid ⟨hby, K7.out.1.new hn8⟩
        clear hby hn8 hz8 hgy K7 HI
        obtain ⟨c1, h1⟩ : ∃ c, cmpI (numI l 0) (numI l 6) = c := ⟨_, rfl⟩
        obtain ⟨c2, h2⟩ : ∃ c, cmpI (numI l 6) (numI l 0) = c := ⟨_, rfl⟩
        have hq0 : ∀ W', New W8 W' → Calls Tryd.prog 33 #[.agg #[.bool sx, .slice Ax nx cx], .agg #[.bool sy, .slice Ay ny cy]] W' (RetV W' (.int .i64 c1)) := fun W' h => compare_s W' _ _ _ _ c1 (HX.out.new (HN8.out.new h)).2 (HY.out.new h).2 h1
        have hq1 : ∀ W', New W8 W' → Calls Tryd.prog 34 #[.agg #[.bool sa, .slice Aa na ca], .agg #[.bool sq0, .slice Aq0 nq0 cq0]] W' (RetV W' (.int .i64 c1)) := fun W' h => rcmp_s W' _ _ _ _ c1 (HA.out.new (HN8.out.new h)).2 (HG.out.2.1.new (HN8.out.new h)) h1
        have hq2 : ∀ W', New W8 W' → Calls Tryd.prog 33 #[.agg #[.bool sy, .slice Ay ny cy], .agg #[.bool sx, .slice Ax nx cx]] W' (RetV W' (.int .i64 c2)) := fun W' h => compare_s W' _ _ _ _ c2 (HY.out.new h).2 (HX.out.new (HN8.out.new h)).2 h2
        have hq3 : ∀ W', New W8 W' → Calls Tryd.prog 34 #[.agg #[.bool sq0, .slice Aq0 nq0 cq0], .agg #[.bool sa, .slice Aa na ca]] W' (RetV W' (.int .i64 c2)) := fun W' h => rcmp_s W' _ _ _ _ c2 (HG.out.2.1.new (HN8.out.new h)) (HA.out.new (HN8.out.new h)).2 h2
        have HQ0 := Lib.hid hq0
        have HQ1 := Lib.hid hq1
        have HQ2 := Lib.hid hq2
        have HQ3 := Lib.hid hq3
        clear hq0 hq1 hq2 hq3 h1 h2
        have hsk : ∀ w', New W8 w' → w'.cell? ⟨gx, 0, none⟩ = some (.bool sx) ∧ w'.cell? ⟨gx, 1, none⟩ = some (.slice Ax nx cx) ∧ w'.cell? ⟨gy, 0, none⟩ = some (.bool sy) ∧ w'.cell? ⟨gy, 1, none⟩ = some (.slice Ay ny cy) ∧ w'.cell? ⟨ga, 0, none⟩ = some (.bool sa) ∧ w'.cell? ⟨ga, 1, none⟩ = some (.slice Aa na ca) ∧ w'.cell? ⟨G, 0, none⟩ = some (.bool sq0) ∧ w'.cell? ⟨G, 1, none⟩ = some (.slice Aq0 nq0 cq0) := fun w' h => ⟨(HX.out.new (HN8.out.new h)).c0, (HX.out.new (HN8.out.new h)).c1, (HY.out.new h).c0, (HY.out.new h).c1, (HA.out.new (HN8.out.new h)).c0, (HA.out.new (HN8.out.new h)).c1, (HG.out.1.chg (HN8.out.new h) (fun h => h)).cell 0 rfl, (HG.out.1.chg (HN8.out.new h) (fun h => h)).cell 1 rfl⟩
        have HSK := Lib.hid hsk
        clear hsk
        have hN0 : New W8 W8.drew := (Chg.refl _ _).drew
        obtain ⟨hs0, hs1, hs2, hs3, hs4, hs5, hs6, hs7⟩ := HSK.out W8 (Chg.refl _ _)
        go_region_held3 (fun w' => w'.cell? ⟨gx, 0, none⟩ = some (.bool sx) ∧ w'.cell? ⟨gx, 1, none⟩ = some (.slice Ax nx cx) ∧ w'.cell? ⟨gy, 0, none⟩ = some (.bool sy) ∧ w'.cell? ⟨gy, 1, none⟩ = some (.slice Ay ny cy) ∧ w'.cell? ⟨ga, 0, none⟩ = some (.bool sa) ∧ w'.cell? ⟨ga, 1, none⟩ = some (.slice Aa na ca) ∧ w'.cell? ⟨G, 0, none⟩ = some (.bool sq0) ∧ w'.cell? ⟨G, 1, none⟩ = some (.slice Aq0 nq0 cq0)) (first | exact HSK.out _ (by assumption) | exact HSK.out _ (Chg.refl _ _))
          (first
            | (go_at_call 33; (with_reducible refine (HQ0.out _ hN0).mono ?_); rintro e r0 ⟨rfl, R0⟩; have hM0 := hN0.new R0.out)
            | (go_at_call 34; (with_reducible refine (HQ1.out _ hM0).mono ?_); rintro e r1 ⟨rfl, R1⟩; have hM1 := hM0.new R1.out)
            | (go_at_call 33; (with_reducible refine (HQ2.out _ hM1).mono ?_); rintro e r2 ⟨rfl, R2⟩; have hM2 := hM1.new R2.out)
            | (go_at_call 34; (with_reducible refine (HQ3.out _ hM2).mono ?_); rintro e r3 ⟨rfl, R3⟩; have hM3 := hM2.new R3.out))
        clear HSK hs0 hs1 hs2 hs3 hs4 hs5 hs6 hs7
        have HE := Lib.hid (HN8.out.new hM3)
        go_wp2
        go_roundw
        case rel => exact ⟨1, by go_num, by omega, HE.out⟩
        case measure => simp [intOf]
      · have hc0 := hgw.cell 2 (u := .bool sq2) rfl
        have hc1 := hgw.cell 3 (u := .slice Aq2 nq2 cq2) rfl
        clear hgw
        go_wp2_with fail
        clear hc0 hc1
        refine (wider_s wo _ _ (HG.out.2.2.1.new HI.out) HS1.out).mono ?_
        rintro e u7 ⟨sy, Ay, ny, cy, rfl, K7⟩
        go_upto_region 8 with fail
        refine Code.new1 ?_
        intro W8 hby hn8 hz8
        obtain ⟨gy, hgy⟩ : ∃ x, u7.heap.size = x := ⟨_, rfl⟩
        rw [hgy] at hby
        simp only [hgy]
        have HN8 := Lib.hid ((HI.out.new K7.out.2).new hn8)
        have HY : Hid (WX W8 gy sy Ay ny cy (numI l 0 + t)) := Lib.hid ⟨hby, K7.out.1.new hn8⟩
        clear hby hn8 hz8 hgy K7 HI
        obtain ⟨c1, h1⟩ : ∃ c, cmpI (numI l 0) (numI l 0 + t) = c := ⟨_, rfl⟩
        obtain ⟨c2, h2⟩ : ∃ c, cmpI (numI l 0 + t) (numI l 0) = c := ⟨_, rfl⟩
        have hq0 : ∀ W', New W8 W' → Calls Tryd.prog 33 #[.agg #[.bool sx, .slice Ax nx cx], .agg #[.bool sy, .slice Ay ny cy]] W' (RetV W' (.int .i64 c1)) := fun W' h => compare_s W' _ _ _ _ c1 (HX.out.new (HN8.out.new h)).2 (HY.out.new h).2 h1
        have hq1 : ∀ W', New W8 W' → Calls Tryd.prog 34 #[.agg #[.bool sa, .slice Aa na ca], .agg #[.bool sq2, .slice Aq2 nq2 cq2]] W' (RetV W' (.int .i64 c1)) := fun W' h => rcmp_s W' _ _ _ _ c1 (HA.out.new (HN8.out.new h)).2 (HG.out.2.2.1.new (HN8.out.new h)) h1
        have hq2 : ∀ W', New W8 W' → Calls Tryd.prog 33 #[.agg #[.bool sy, .slice Ay ny cy], .agg #[.bool sx, .slice Ax nx cx]] W' (RetV W' (.int .i64 c2)) := fun W' h => compare_s W' _ _ _ _ c2 (HY.out.new h).2 (HX.out.new (HN8.out.new h)).2 h2
        have hq3 : ∀ W', New W8 W' → Calls Tryd.prog 34 #[.agg #[.bool sq2, .slice Aq2 nq2 cq2], .agg #[.bool sa, .slice Aa na ca]] W' (RetV W' (.int .i64 c2)) := fun W' h => rcmp_s W' _ _ _ _ c2 (HG.out.2.2.1.new (HN8.out.new h)) (HA.out.new (HN8.out.new h)).2 h2
        have HQ0 := Lib.hid hq0
        have HQ1 := Lib.hid hq1
        have HQ2 := Lib.hid hq2
        have HQ3 := Lib.hid hq3
        clear hq0 hq1 hq2 hq3 h1 h2
        have hsk : ∀ w', New W8 w' → w'.cell? ⟨gx, 0, none⟩ = some (.bool sx) ∧ w'.cell? ⟨gx, 1, none⟩ = some (.slice Ax nx cx) ∧ w'.cell? ⟨gy, 0, none⟩ = some (.bool sy) ∧ w'.cell? ⟨gy, 1, none⟩ = some (.slice Ay ny cy) ∧ w'.cell? ⟨ga, 0, none⟩ = some (.bool sa) ∧ w'.cell? ⟨ga, 1, none⟩ = some (.slice Aa na ca) ∧ w'.cell? ⟨G, 2, none⟩ = some (.bool sq2) ∧ w'.cell? ⟨G, 3, none⟩ = some (.slice Aq2 nq2 cq2) := fun w' h => ⟨(HX.out.new (HN8.out.new h)).c0, (HX.out.new (HN8.out.new h)).c1, (HY.out.new h).c0, (HY.out.new h).c1, (HA.out.new (HN8.out.new h)).c0, (HA.out.new (HN8.out.new h)).c1, (HG.out.1.chg (HN8.out.new h) (fun h => h)).cell 2 rfl, (HG.out.1.chg (HN8.out.new h) (fun h => h)).cell 3 rfl⟩
        have HSK := Lib.hid hsk
        clear hsk
        have hN0 : New W8 W8.drew := (Chg.refl _ _).drew
        obtain ⟨hs0, hs1, hs2, hs3, hs4, hs5, hs6, hs7⟩ := HSK.out W8 (Chg.refl _ _)
        go_region_held3 (fun w' => w'.cell? ⟨gx, 0, none⟩ = some (.bool sx) ∧ w'.cell? ⟨gx, 1, none⟩ = some (.slice Ax nx cx) ∧ w'.cell? ⟨gy, 0, none⟩ = some (.bool sy) ∧ w'.cell? ⟨gy, 1, none⟩ = some (.slice Ay ny cy) ∧ w'.cell? ⟨ga, 0, none⟩ = some (.bool sa) ∧ w'.cell? ⟨ga, 1, none⟩ = some (.slice Aa na ca) ∧ w'.cell? ⟨G, 2, none⟩ = some (.bool sq2) ∧ w'.cell? ⟨G, 3, none⟩ = some (.slice Aq2 nq2 cq2)) (first | exact HSK.out _ (by assumption) | exact HSK.out _ (Chg.refl _ _))
          (first
            | (go_at_call 33; (with_reducible refine (HQ0.out _ hN0).mono ?_); rintro e r0 ⟨rfl, R0⟩; have hM0 := hN0.new R0.out)
            | (go_at_call 34; (with_reducible refine (HQ1.out _ hM0).mono ?_); rintro e r1 ⟨rfl, R1⟩; have hM1 := hM0.new R1.out)
            | (go_at_call 33; (with_reducible refine (HQ2.out _ hM1).mono ?_); rintro e r2 ⟨rfl, R2⟩; have hM2 := hM1.new R2.out)
            | (go_at_call 34; (with_reducible refine (HQ3.out _ hM2).mono ?_); rintro e r3 ⟨rfl, R3⟩; have hM3 := hM2.new R3.out))
        clear HSK hs0 hs1 hs2 hs3 hs4 hs5 hs6 hs7
        have HE := Lib.hid (HN8.out.new hM3)
        go_wp2
        go_roundw
        case rel => exact ⟨2, by go_num, by omega, HE.out⟩
        case measure => simp [intOf]
      · have hc0 := hgw.cell 4 (u := .bool sq3) rfl
        have hc1 := hgw.cell 5 (u := .slice Aq3 nq3 cq3) rfl
        clear hgw
        go_wp2_with fail
        clear hc0 hc1
        refine (wider_s wo _ _ (HG.out.2.2.2.new HI.out) HS2.out).mono ?_
        rintro e u7 ⟨sy, Ay, ny, cy, rfl, K7⟩
        go_upto_region 8 with fail
        refine Code.new1 ?_
        intro W8 hby hn8 hz8
        obtain ⟨gy, hgy⟩ : ∃ x, u7.heap.size = x := ⟨_, rfl⟩
        rw [hgy] at hby
        simp only [hgy]
        have HN8 := Lib.hid ((HI.out.new K7.out.2).new hn8)
        have HY : Hid (WX W8 gy sy Ay ny cy (-(numI l 0))) := Lib.hid ⟨hby, K7.out.1.new hn8⟩
        clear hby hn8 hz8 hgy K7 HI
        obtain ⟨c1, h1⟩ : ∃ c, cmpI (numI l 0) (-(numI l 0)) = c := ⟨_, rfl⟩
        obtain ⟨c2, h2⟩ : ∃ c, cmpI (-(numI l 0)) (numI l 0) = c := ⟨_, rfl⟩
        have hq0 : ∀ W', New W8 W' → Calls Tryd.prog 33 #[.agg #[.bool sx, .slice Ax nx cx], .agg #[.bool sy, .slice Ay ny cy]] W' (RetV W' (.int .i64 c1)) := fun W' h => compare_s W' _ _ _ _ c1 (HX.out.new (HN8.out.new h)).2 (HY.out.new h).2 h1
        have hq1 : ∀ W', New W8 W' → Calls Tryd.prog 34 #[.agg #[.bool sa, .slice Aa na ca], .agg #[.bool sq3, .slice Aq3 nq3 cq3]] W' (RetV W' (.int .i64 c1)) := fun W' h => rcmp_s W' _ _ _ _ c1 (HA.out.new (HN8.out.new h)).2 (HG.out.2.2.2.new (HN8.out.new h)) h1
        have hq2 : ∀ W', New W8 W' → Calls Tryd.prog 33 #[.agg #[.bool sy, .slice Ay ny cy], .agg #[.bool sx, .slice Ax nx cx]] W' (RetV W' (.int .i64 c2)) := fun W' h => compare_s W' _ _ _ _ c2 (HY.out.new h).2 (HX.out.new (HN8.out.new h)).2 h2
        have hq3 : ∀ W', New W8 W' → Calls Tryd.prog 34 #[.agg #[.bool sq3, .slice Aq3 nq3 cq3], .agg #[.bool sa, .slice Aa na ca]] W' (RetV W' (.int .i64 c2)) := fun W' h => rcmp_s W' _ _ _ _ c2 (HG.out.2.2.2.new (HN8.out.new h)) (HA.out.new (HN8.out.new h)).2 h2
        have HQ0 := Lib.hid hq0
        have HQ1 := Lib.hid hq1
        have HQ2 := Lib.hid hq2
        have HQ3 := Lib.hid hq3
        clear hq0 hq1 hq2 hq3 h1 h2
        have hsk : ∀ w', New W8 w' → w'.cell? ⟨gx, 0, none⟩ = some (.bool sx) ∧ w'.cell? ⟨gx, 1, none⟩ = some (.slice Ax nx cx) ∧ w'.cell? ⟨gy, 0, none⟩ = some (.bool sy) ∧ w'.cell? ⟨gy, 1, none⟩ = some (.slice Ay ny cy) ∧ w'.cell? ⟨ga, 0, none⟩ = some (.bool sa) ∧ w'.cell? ⟨ga, 1, none⟩ = some (.slice Aa na ca) ∧ w'.cell? ⟨G, 4, none⟩ = some (.bool sq3) ∧ w'.cell? ⟨G, 5, none⟩ = some (.slice Aq3 nq3 cq3) := fun w' h => ⟨(HX.out.new (HN8.out.new h)).c0, (HX.out.new (HN8.out.new h)).c1, (HY.out.new h).c0, (HY.out.new h).c1, (HA.out.new (HN8.out.new h)).c0, (HA.out.new (HN8.out.new h)).c1, (HG.out.1.chg (HN8.out.new h) (fun h => h)).cell 4 rfl, (HG.out.1.chg (HN8.out.new h) (fun h => h)).cell 5 rfl⟩
        have HSK := Lib.hid hsk
        clear hsk
        have hN0 : New W8 W8.drew := (Chg.refl _ _).drew
        obtain ⟨hs0, hs1, hs2, hs3, hs4, hs5, hs6, hs7⟩ := HSK.out W8 (Chg.refl _ _)
        go_region_held3 (fun w' => w'.cell? ⟨gx, 0, none⟩ = some (.bool sx) ∧ w'.cell? ⟨gx, 1, none⟩ = some (.slice Ax nx cx) ∧ w'.cell? ⟨gy, 0, none⟩ = some (.bool sy) ∧ w'.cell? ⟨gy, 1, none⟩ = some (.slice Ay ny cy) ∧ w'.cell? ⟨ga, 0, none⟩ = some (.bool sa) ∧ w'.cell? ⟨ga, 1, none⟩ = some (.slice Aa na ca) ∧ w'.cell? ⟨G, 4, none⟩ = some (.bool sq3) ∧ w'.cell? ⟨G, 5, none⟩ = some (.slice Aq3 nq3 cq3)) (first | exact HSK.out _ (by assumption) | exact HSK.out _ (Chg.refl _ _))
          (first
            | (go_at_call 33; (with_reducible refine (HQ0.out _ hN0).mono ?_); rintro e r0 ⟨rfl, R0⟩; have hM0 := hN0.new R0.out)
            | (go_at_call 34; (with_reducible refine (HQ1.out _ hM0).mono ?_); rintro e r1 ⟨rfl, R1⟩; have hM1 := hM0.new R1.out)
            | (go_at_call 33; (with_reducible refine (HQ2.out _ hM1).mono ?_); rintro e r2 ⟨rfl, R2⟩; have hM2 := hM1.new R2.out)
            | (go_at_call 34; (with_reducible refine (HQ3.out _ hM2).mono ?_); rintro e r3 ⟨rfl, R3⟩; have hM3 := hM2.new R3.out))
        clear HSK hs0 hs1 hs2 hs3 hs4 hs5 hs6 hs7
        have HE := Lib.hid (HN8.out.new hM3)
        go_wp2
        go_roundw
        case rel => exact ⟨3, by go_num, by omega, HE.out⟩
        case measure => simp [intOf]
    · obtain rfl : j = 3 := by omega
      have hge : decide (((3 : Nat) : Int) < 3) = false := by simp
      clear hgw
      go_upto_region 10 with fail
      obtain ⟨c3, h3⟩ : ∃ c, cmpI (numI l 0) 0 = c := ⟨_, rfl⟩
      have hq0 : ∀ W', New wo W' → Calls Tryd.prog 35 #[.agg #[.bool sx, .slice Ax nx cx]] W' (RetV W' (.int .i64 c3)) := fun W' h => sign_s W' _ _ c3 (HX.out.new (HI.out.new h)).2 h3
      have hq1 : ∀ W', New wo W' → Calls Tryd.prog 34 #[.agg #[.bool sa, .slice Aa na ca], .agg #[.bool false, .slice none 0 0]] W' (RetV W' (.int .i64 c3)) := fun W' h => rcmp_s W' _ _ _ _ c3 (HA.out.new (HI.out.new h)).2 (RN.zero W') h3
      have hq2 : ∀ W', New wo W' → Calls Tryd.prog 36 #[.agg #[.bool sx, .slice Ax nx cx]] W' (RetW W' (-(numI l 0))) := fun W' h => neg_s W' _ _ (HX.out.new (HI.out.new h)).2
      have hq3 : ∀ W', New wo W' → Calls Tryd.prog 32 #[.agg #[.bool sa, .slice Aa na ca]] W' (RetR W' (-(numI l 0))) := fun W' h => rneg_s W' _ _ (HA.out.new (HI.out.new h)).2
      have hq4 : ∀ W' v v', New wo W' → WI W' v (-(numI l 0)) → RN W' v' (-(numI l 0)) → Calls Tryd.prog 17 #[v, v'] W' (RetV W' (.bool true)) := fun W' v v' h h1 h2 => equal_s W' _ _ _ h1 h2 (HT.out.new ((HW.out.new HI.out).new h)) HS2.out
      have hq5 : ∀ W', New wo W' → Calls Tryd.prog 19 #[] W' (RetV W' (.bool true)) := fun W' h => lives_s W' (HT.out.new ((HW.out.new HI.out).new h))
      have HQ0 := Lib.hid hq0
      have HQ1 := Lib.hid hq1
      have HQ2 := Lib.hid hq2
      have HQ3 := Lib.hid hq3
      have HQ4 := Lib.hid hq4
      have HQ5 := Lib.hid hq5
      clear hq0 hq1 hq2 hq3 hq4 hq5 h3
      have hsk : ∀ w', New wo w' → w'.cell? ⟨gx, 0, none⟩ = some (.bool sx) ∧ w'.cell? ⟨gx, 1, none⟩ = some (.slice Ax nx cx) ∧ w'.cell? ⟨ga, 0, none⟩ = some (.bool sa) ∧ w'.cell? ⟨ga, 1, none⟩ = some (.slice Aa na ca) := fun w' h => ⟨(HX.out.new (HI.out.new h)).c0, (HX.out.new (HI.out.new h)).c1, (HA.out.new (HI.out.new h)).c0, (HA.out.new (HI.out.new h)).c1⟩
      have HSK := Lib.hid hsk
      clear hsk
      have hN0 : New wo wo.drew := (Chg.refl _ _).drew
      obtain ⟨hs0, hs1, hs2, hs3⟩ := HSK.out wo (Chg.refl _ _)
      go_region_held3 (fun w' => w'.cell? ⟨gx, 0, none⟩ = some (.bool sx) ∧ w'.cell? ⟨gx, 1, none⟩ = some (.slice Ax nx cx) ∧ w'.cell? ⟨ga, 0, none⟩ = some (.bool sa) ∧ w'.cell? ⟨ga, 1, none⟩ = some (.slice Aa na ca)) (first | exact HSK.out _ (by assumption) | exact HSK.out _ (Chg.refl _ _))
        (first
          | (go_at_call 35; (with_reducible refine (HQ0.out _ hN0).mono ?_); rintro e r0 ⟨rfl, R0⟩; have hM0 := hN0.new R0.out)
          | (go_at_call 34; (with_reducible refine (HQ1.out _ hM0).mono ?_); rintro e r1 ⟨rfl, R1⟩; have hM1 := hM0.new R1.out)
          | (go_at_call 36; (with_reducible refine (HQ2.out _ hM1).mono ?_); rintro e r2 ⟨s2, A2, n2, c2, rfl, R2⟩; have hM2 := hM1.new R2.out.2)
          | (go_at_call 32; (with_reducible refine (HQ3.out _ hM2).mono ?_); rintro e r3 ⟨s3, A3, n3, c3', rfl, R3⟩; have hM3 := hM2.new R3.out.2)
          | (go_at_call 17; (with_reducible refine (HQ4.out _ _ _ hM3 (R2.out.1.new R3.out.2) R3.out.1).mono ?_); rintro e r4 ⟨rfl, R4⟩; have hM4 := hM3.new R4.out)
          | (go_at_call 19; (with_reducible refine (HQ5.out _ hM4).mono ?_); rintro e r5 ⟨rfl, R5⟩; have hM5 := hM4.new R5.out))
      clear HSK hs0 hs1 hs2 hs3
      have HE := Lib.hid ((HW.out.new HI.out).new hM5)
      go_wp2
      go_ret
      exact ⟨rfl, HE.out⟩
end Go.Proofs.YtgofjkppeobjfaaDoor
