/- The walk of refuterlaw03.WideProducts. -/
import Derived.Test.YtgofjkppeobjfaaDoorB5
import Derived.Deep.CutRange
namespace Go.Proofs.YtgofjkppeobjfaaDoor
set_option linter.unusedVariables false
open Go.RowKit Go.Mem Go.Dig

set_option maxRecDepth 100000 in
set_option maxHeartbeats 4000000 in
theorem wideProducts_walk (A : Option Addr) (n c : Nat) (l : List Int) (w : World) (hr : Rd w A n (is l)) (hl : ∀ z ∈ l, -9223372036854775808 ≤ z ∧ z ≤ 9223372036854775807) (hn : n ≤ 9223372036854775807) (hpt : PowTab w) :
    Calls Tryd.prog 5 #[.slice A n c] w fun e w' => e = .returned (.bool true) ∧ New w w' := by
  have hnum := fun W (h : New w W) => number_s A n c l hl W (hr.new h) hn
  have HNUM := Lib.hid hnum
  have HT := Lib.hid hpt
  clear hnum hpt hr hl hn
  go_enter Tryd.func5, Tryd.ntmps5
  go_wp2_with fail
  refine ((HNUM.out w (Chg.refl _ _)).1).mono ?_
  rintro e u1 ⟨sa, Aa, na, ca, rfl, K1⟩
  have H101 := Lib.hid K1.out.2
  go_wp2_with fail
  refine Calls.new1 ?_
  intro W3 hba hn3 hz3
  obtain ⟨ga, hga⟩ : ∃ x, u1.heap.size = x := ⟨_, rfl⟩
  rw [hga] at hba
  simp only [hga]
  have hXa : RX W3 ga sa Aa na ca (numI l 0) := ⟨hba, K1.out.1.new hn3⟩
  have H102 := Lib.hid (And.intro hXa (H101.out.new hn3))
  clear H101
  clear hXa hba hga hn3 hz3
  refine ((HNUM.out W3 H102.out.2).2.1).mono ?_
  rintro e u2 ⟨sb, Ab, nb, cb, rfl, K2⟩
  have H103 := Lib.hid (And.intro (H102.out.1.new K2.out.2) (H102.out.2.new K2.out.2))
  clear H102
  have hza0 := (H103.out.1.new ((Chg.refl (fun _ => False) u2).alloc (.cells #[.bool sb, .slice Ab nb cb] 25))).c0
  have hza1 := (H103.out.1.new ((Chg.refl (fun _ => False) u2).alloc (.cells #[.bool sb, .slice Ab nb cb] 25))).c1
  go_wp2_with fail
  clear hza0 hza1
  refine Calls.new1 ?_
  intro W5 hbb hn5 hz5
  obtain ⟨gb, hgb⟩ : ∃ x, u2.heap.size = x := ⟨_, rfl⟩
  rw [hgb] at hbb
  simp only [hgb]
  have hXb : RX W5 gb sb Ab nb cb (numI l 6) := ⟨hbb, K2.out.1.new hn5⟩
  have H104 := Lib.hid (And.intro (H103.out.1.new hn5) (And.intro hXb (H103.out.2.new hn5)))
  clear H103
  clear hXb hbb hgb hn5 hz5
  refine (wider_s W5 _ _ H104.out.1.2 (num_sm l 0)).mono ?_
  rintro e u4 ⟨sx, Ax, nx, cx, rfl, K4⟩
  have H105 := Lib.hid (And.intro (H104.out.1.new K4.out.2) (And.intro (H104.out.2.1.new K4.out.2) (H104.out.2.2.new K4.out.2)))
  clear H104
  have hzb0 := (H105.out.2.1.new ((Chg.refl (fun _ => False) u4).alloc (.cells #[.bool sx, .slice Ax nx cx] 33))).c0
  have hzb1 := (H105.out.2.1.new ((Chg.refl (fun _ => False) u4).alloc (.cells #[.bool sx, .slice Ax nx cx] 33))).c1
  go_wp2_with fail
  clear hzb0 hzb1
  refine Calls.new1 ?_
  intro W7 hbx hn7 hz7
  obtain ⟨gx, hgx⟩ : ∃ x, u4.heap.size = x := ⟨_, rfl⟩
  rw [hgx] at hbx
  simp only [hgx]
  have hXx : WX W7 gx sx Ax nx cx (numI l 0) := ⟨hbx, K4.out.1.new hn7⟩
  have H106 := Lib.hid (And.intro (H105.out.1.new hn7) (And.intro (H105.out.2.1.new hn7) (And.intro hXx (H105.out.2.2.new hn7))))
  clear H105
  clear hXx hbx hgx hn7 hz7
  refine (wider_s W7 _ _ H106.out.2.1.2 (num_sm l 6)).mono ?_
  rintro e u6 ⟨sy, Ay, ny, cy, rfl, K6⟩
  have H107 := Lib.hid (And.intro (H106.out.1.new K6.out.2) (And.intro (H106.out.2.1.new K6.out.2) (And.intro (H106.out.2.2.1.new K6.out.2) (H106.out.2.2.2.new K6.out.2))))
  clear H106
  have hzx0 := (H107.out.2.2.1.new ((Chg.refl (fun _ => False) u6).alloc (.cells #[.bool sy, .slice Ay ny cy] 33))).c0
  have hzx1 := (H107.out.2.2.1.new ((Chg.refl (fun _ => False) u6).alloc (.cells #[.bool sy, .slice Ay ny cy] 33))).c1
  go_wp2_with fail
  clear hzx0 hzx1
  refine Calls.new1 ?_
  intro W9 hby hn9 hz9
  obtain ⟨gy, hgy⟩ : ∃ x, u6.heap.size = x := ⟨_, rfl⟩
  rw [hgy] at hby
  simp only [hgy]
  have hXy : WX W9 gy sy Ay ny cy (numI l 6) := ⟨hby, K6.out.1.new hn9⟩
  have H108 := Lib.hid (And.intro (H107.out.1.new hn9) (And.intro (H107.out.2.1.new hn9) (And.intro (H107.out.2.2.1.new hn9) (And.intro hXy (H107.out.2.2.2.new hn9)))))
  clear H107
  clear hXy hby hgy hn9 hz9
  refine (wmul_s W9 _ _ _ _ H108.out.2.2.1.2 H108.out.2.2.2.1.2 (num_sm l 0) (num_sm l 6) (Sm.of (natAbs_mul_lt (num_lt l 0) (num_lt l 6)) (by decide))).mono ?_
  rintro e u8 ⟨sp, Ap, np, cp, rfl, K8⟩
  have H109 := Lib.hid (And.intro (H108.out.1.new K8.out.2) (And.intro (H108.out.2.1.new K8.out.2) (And.intro (H108.out.2.2.1.new K8.out.2) (And.intro (H108.out.2.2.2.1.new K8.out.2) (H108.out.2.2.2.2.new K8.out.2)))))
  clear H108
  go_upto_region 6 with fail
  refine Code.new1 ?_
  intro W10 hbp hn10 hz10
  obtain ⟨gp, hgp⟩ : ∃ x, u8.heap.size = x := ⟨_, rfl⟩
  rw [hgp] at hbp
  simp only [hgp]
  have hXp : WX W10 gp sp Ap np cp (numI l 0 * numI l 6) := ⟨hbp, K8.out.1.new hn10⟩
  have H110 := Lib.hid (And.intro (H109.out.1.new hn10) (And.intro (H109.out.2.1.new hn10) (And.intro (H109.out.2.2.1.new hn10) (And.intro (H109.out.2.2.2.1.new hn10) (And.intro hXp (H109.out.2.2.2.2.new hn10))))))
  clear H109
  clear hXp hbp hgp hn10 hz10
  have hq0 : ∀ W', New W10 W' → Calls Tryd.prog 27 #[.agg #[.bool sa, .slice Aa na ca], .agg #[.bool sb, .slice Ab nb cb]] W' (RetR W' (numI l 0 * numI l 6)) := fun W' h => rmul_s W' _ _ _ _ (H110.out.1.new h).2 (H110.out.2.1.new h).2 (num_sm l 0) (num_sm l 6)
  have hq1 : ∀ W' v, New W10 W' → RN W' v (numI l 0 * numI l 6) → Calls Tryd.prog 17 #[.agg #[.bool sp, .slice Ap np cp], v] W' (RetV W' (.bool true)) := fun W' v h hv => equal_s W' _ _ _ (H110.out.2.2.2.2.1.new h).2 hv (HT.out.new (H110.out.2.2.2.2.2.new h)) (Sm.of (natAbs_mul_lt (num_lt l 0) (num_lt l 6)) (by decide))
  have hq2 : ∀ W', New W10 W' → Calls Tryd.prog 19 #[] W' (RetV W' (.bool true)) := fun W' h => lives_s W' (HT.out.new (H110.out.2.2.2.2.2.new h))
  have HQ0 := Lib.hid hq0
  have HQ1 := Lib.hid hq1
  have HQ2 := Lib.hid hq2
  clear hq0 hq1 hq2
  have hsk : ∀ w', New W10 w' → w'.cell? ⟨gp, 0, none⟩ = some (.bool sp) ∧ w'.cell? ⟨gp, 1, none⟩ = some (.slice Ap np cp) ∧ w'.cell? ⟨ga, 0, none⟩ = some (.bool sa) ∧ w'.cell? ⟨ga, 1, none⟩ = some (.slice Aa na ca) ∧ w'.cell? ⟨gb, 0, none⟩ = some (.bool sb) ∧ w'.cell? ⟨gb, 1, none⟩ = some (.slice Ab nb cb) := fun w' h => ⟨(H110.out.2.2.2.2.1.new h).c0, (H110.out.2.2.2.2.1.new h).c1, (H110.out.1.new h).c0, (H110.out.1.new h).c1, (H110.out.2.1.new h).c0, (H110.out.2.1.new h).c1⟩
  have HSK := Lib.hid hsk
  clear hsk
  have hN0 : New W10 W10.drew := (Chg.refl _ _).drew
  have hzp0 := (H110.out.2.2.2.2.1).c0
  have hzp1 := (H110.out.2.2.2.2.1).c1
  have hza0 := (H110.out.1).c0
  have hza1 := (H110.out.1).c1
  have hzb0 := (H110.out.2.1).c0
  have hzb1 := (H110.out.2.1).c1
  go_region_held3 (fun w' => w'.cell? ⟨gp, 0, none⟩ = some (.bool sp) ∧ w'.cell? ⟨gp, 1, none⟩ = some (.slice Ap np cp) ∧ w'.cell? ⟨ga, 0, none⟩ = some (.bool sa) ∧ w'.cell? ⟨ga, 1, none⟩ = some (.slice Aa na ca) ∧ w'.cell? ⟨gb, 0, none⟩ = some (.bool sb) ∧ w'.cell? ⟨gb, 1, none⟩ = some (.slice Ab nb cb)) (first | exact HSK.out _ (by assumption) | exact HSK.out _ (Chg.refl _ _))
    (first
      | (go_at_call 27; (with_reducible refine (HQ0.out _ hN0).mono ?_); rintro e q0 ⟨sq0, Aq0, nq0, cq0, rfl, Q0⟩; have hM0 := hN0.new Q0.out.2)
      | (go_at_call 17; (with_reducible refine (HQ1.out _ _ hM0 Q0.out.1).mono ?_); rintro e q1 ⟨rfl, Q1⟩; have hM1 := hM0.new Q1.out)
      | (go_at_call 19; (with_reducible refine (HQ2.out _ hM1).mono ?_); rintro e q2 ⟨rfl, Q2⟩; have hM2 := hM1.new Q2.out))
  all_goals
    have HF := Lib.hid (H110.out.2.2.2.2.2.new hM2)
    clear hzp0 hzp1 hza0 hza1 hzb0 hzb1
    go_wp2
    go_ret
    exact ⟨rfl, HF.out⟩
end Go.Proofs.YtgofjkppeobjfaaDoor
