/- The walk of refuterlaw03.WideSums. -/
import Derived.Test.YtgofjkppeobjfaaDoorB5
import Derived.Deep.CutRange
namespace Go.Proofs.YtgofjkppeobjfaaDoor
set_option linter.unusedVariables false
open Go.RowKit Go.Mem Go.Dig

set_option maxRecDepth 100000 in
set_option maxHeartbeats 4000000 in
theorem wideSums_walk (A : Option Addr) (n c : Nat) (l : List Int) (w : World) (hr : Rd w A n (is l)) (hl : ∀ z ∈ l, -9223372036854775808 ≤ z ∧ z ≤ 9223372036854775807) (hn : n ≤ 9223372036854775807) (hpt : PowTab w) :
    Calls Tryd.prog 8 #[.slice A n c] w fun e w' => e = .returned (.bool true) ∧ New w w' := by
  have hnum := fun W (h : New w W) => number_s A n c l hl W (hr.new h) hn
  have HNUM := Lib.hid hnum
  have HT := Lib.hid hpt
  clear hnum hpt hr hl hn
  go_enter Tryd.func8, Tryd.ntmps8
  go_wp2_with fail
  refine ((HNUM.out w (Chg.refl _ _)).1).mono ?_
  rintro e u1 ⟨sa, Aa, na, ca, rfl, K1⟩
  have H101 := Lib.hid K1.out.2
  go_wp2_with fail
  refine Calls.new1 ?_
  intro W3 hba hn3 hz3
  obtain ⟨ga, hga⟩ : ∃ x, u1.heap.size = x := ⟨_, rfl⟩
  rw [hga] at hba
  simp only [hga]
  have hXa : RX W3 ga sa Aa na ca (numI l 0) := ⟨hba, K1.out.1.new hn3⟩
  have H102 := Lib.hid (And.intro hXa (H101.out.new hn3))
  clear H101
  clear hXa hba hga hn3 hz3
  refine ((HNUM.out W3 H102.out.2).2.1).mono ?_
  rintro e u2 ⟨sb, Ab, nb, cb, rfl, K2⟩
  have H103 := Lib.hid (And.intro (H102.out.1.new K2.out.2) (H102.out.2.new K2.out.2))
  clear H102
  have hza0 := (H103.out.1.new ((Chg.refl (fun _ => False) u2).alloc (.cells #[.bool sb, .slice Ab nb cb] 25))).c0
  have hza1 := (H103.out.1.new ((Chg.refl (fun _ => False) u2).alloc (.cells #[.bool sb, .slice Ab nb cb] 25))).c1
  go_wp2_with fail
  clear hza0 hza1
  refine Calls.new1 ?_
  intro W5 hbb hn5 hz5
  obtain ⟨gb, hgb⟩ : ∃ x, u2.heap.size = x := ⟨_, rfl⟩
  rw [hgb] at hbb
  simp only [hgb]
  have hXb : RX W5 gb sb Ab nb cb (numI l 6) := ⟨hbb, K2.out.1.new hn5⟩
  have H104 := Lib.hid (And.intro (H103.out.1.new hn5) (And.intro hXb (H103.out.2.new hn5)))
  clear H103
  clear hXb hbb hgb hn5 hz5
  refine (wider_s W5 _ _ H104.out.1.2 (num_sm l 0)).mono ?_
  rintro e u4 ⟨sx, Ax, nx, cx, rfl, K4⟩
  have H105 := Lib.hid (And.intro (H104.out.1.new K4.out.2) (And.intro (H104.out.2.1.new K4.out.2) (H104.out.2.2.new K4.out.2)))
  clear H104
  have hzb0 := (H105.out.2.1.new ((Chg.refl (fun _ => False) u4).alloc (.cells #[.bool sx, .slice Ax nx cx] 33))).c0
  have hzb1 := (H105.out.2.1.new ((Chg.refl (fun _ => False) u4).alloc (.cells #[.bool sx, .slice Ax nx cx] 33))).c1
  go_wp2_with fail
  clear hzb0 hzb1
  refine Calls.new1 ?_
  intro W7 hbx hn7 hz7
  obtain ⟨gx, hgx⟩ : ∃ x, u4.heap.size = x := ⟨_, rfl⟩
  rw [hgx] at hbx
  simp only [hgx]
  have hXx : WX W7 gx sx Ax nx cx (numI l 0) := ⟨hbx, K4.out.1.new hn7⟩
  have H106 := Lib.hid (And.intro (H105.out.1.new hn7) (And.intro (H105.out.2.1.new hn7) (And.intro hXx (H105.out.2.2.new hn7))))
  clear H105
  clear hXx hbx hgx hn7 hz7
  refine (wider_s W7 _ _ H106.out.2.1.2 (num_sm l 6)).mono ?_
  rintro e u6 ⟨sy, Ay, ny, cy, rfl, K6⟩
  have H107 := Lib.hid (And.intro (H106.out.1.new K6.out.2) (And.intro (H106.out.2.1.new K6.out.2) (And.intro (H106.out.2.2.1.new K6.out.2) (H106.out.2.2.2.new K6.out.2))))
  clear H106
  have hzx0 := (H107.out.2.2.1.new ((Chg.refl (fun _ => False) u6).alloc (.cells #[.bool sy, .slice Ay ny cy] 33))).c0
  have hzx1 := (H107.out.2.2.1.new ((Chg.refl (fun _ => False) u6).alloc (.cells #[.bool sy, .slice Ay ny cy] 33))).c1
  go_wp2_with fail
  clear hzx0 hzx1
  refine Calls.new1 ?_
  intro W9 hby hn9 hz9
  obtain ⟨gy, hgy⟩ : ∃ x, u6.heap.size = x := ⟨_, rfl⟩
  rw [hgy] at hby
  simp only [hgy]
  have hXy : WX W9 gy sy Ay ny cy (numI l 6) := ⟨hby, K6.out.1.new hn9⟩
  have H108 := Lib.hid (And.intro (H107.out.1.new hn9) (And.intro (H107.out.2.1.new hn9) (And.intro (H107.out.2.2.1.new hn9) (And.intro hXy (H107.out.2.2.2.new hn9)))))
  clear H107
  clear hXy hby hgy hn9 hz9
  refine (wadd_s W9 _ _ _ _ H108.out.2.2.1.2 H108.out.2.2.2.1.2 (num_sm l 0) (num_sm l 6) (Sm.of (natAbs_add_lt (num_lt l 0) (num_lt l 6)) (by decide))).mono ?_
  rintro e u8 ⟨ss, As, ns, cs, rfl, K8⟩
  have H109 := Lib.hid (And.intro (H108.out.1.new K8.out.2) (And.intro (H108.out.2.1.new K8.out.2) (And.intro (H108.out.2.2.1.new K8.out.2) (And.intro (H108.out.2.2.2.1.new K8.out.2) (H108.out.2.2.2.2.new K8.out.2)))))
  clear H108
  have hzx0 := (H109.out.2.2.1.new ((Chg.refl (fun _ => False) u8).alloc (.cells #[.bool ss, .slice As ns cs] 33))).c0
  have hzx1 := (H109.out.2.2.1.new ((Chg.refl (fun _ => False) u8).alloc (.cells #[.bool ss, .slice As ns cs] 33))).c1
  have hzy0 := (H109.out.2.2.2.1.new ((Chg.refl (fun _ => False) u8).alloc (.cells #[.bool ss, .slice As ns cs] 33))).c0
  have hzy1 := (H109.out.2.2.2.1.new ((Chg.refl (fun _ => False) u8).alloc (.cells #[.bool ss, .slice As ns cs] 33))).c1
  go_wp2_with fail
  clear hzx0 hzx1 hzy0 hzy1
  refine Calls.new1 ?_
  intro W11 hbs hn11 hz11
  obtain ⟨gs, hgs⟩ : ∃ x, u8.heap.size = x := ⟨_, rfl⟩
  rw [hgs] at hbs
  simp only [hgs]
  have hXs : WX W11 gs ss As ns cs (numI l 0 + numI l 6) := ⟨hbs, K8.out.1.new hn11⟩
  have H110 := Lib.hid (And.intro (H109.out.1.new hn11) (And.intro (H109.out.2.1.new hn11) (And.intro (H109.out.2.2.1.new hn11) (And.intro (H109.out.2.2.2.1.new hn11) (And.intro hXs (H109.out.2.2.2.2.new hn11))))))
  clear H109
  clear hXs hbs hgs hn11 hz11
  refine (wsub_s W11 _ _ _ _ H110.out.2.2.1.2 H110.out.2.2.2.1.2 (num_sm l 0) (num_sm l 6) (Sm.of (natAbs_sub_lt (num_lt l 0) (num_lt l 6)) (by decide))).mono ?_
  rintro e u10 ⟨st, At, nt, ct, rfl, K10⟩
  have H111 := Lib.hid (And.intro (H110.out.1.new K10.out.2) (And.intro (H110.out.2.1.new K10.out.2) (And.intro (H110.out.2.2.1.new K10.out.2) (And.intro (H110.out.2.2.2.1.new K10.out.2) (And.intro (H110.out.2.2.2.2.1.new K10.out.2) (H110.out.2.2.2.2.2.new K10.out.2))))))
  clear H110
  go_upto_region 7 with fail
  refine Code.new1 ?_
  intro W12 hbt hn12 hz12
  obtain ⟨gt, hgt⟩ : ∃ x, u10.heap.size = x := ⟨_, rfl⟩
  rw [hgt] at hbt
  simp only [hgt]
  have hXt : WX W12 gt st At nt ct (numI l 0 - numI l 6) := ⟨hbt, K10.out.1.new hn12⟩
  have H112 := Lib.hid (And.intro (H111.out.1.new hn12) (And.intro (H111.out.2.1.new hn12) (And.intro (H111.out.2.2.1.new hn12) (And.intro (H111.out.2.2.2.1.new hn12) (And.intro (H111.out.2.2.2.2.1.new hn12) (And.intro hXt (H111.out.2.2.2.2.2.new hn12)))))))
  clear H111
  clear hXt hbt hgt hn12 hz12
  have hq0 : ∀ W', New W12 W' → Calls Tryd.prog 28 #[.agg #[.bool sa, .slice Aa na ca], .agg #[.bool sb, .slice Ab nb cb]] W' (RetR W' (numI l 0 + numI l 6)) := fun W' h => radd_s W' _ _ _ _ (H112.out.1.new h).2 (H112.out.2.1.new h).2 (num_sm l 0) (num_sm l 6)
  have hq1 : ∀ W' v, New W12 W' → RN W' v (numI l 0 + numI l 6) → Calls Tryd.prog 17 #[.agg #[.bool ss, .slice As ns cs], v] W' (RetV W' (.bool true)) := fun W' v h hv => equal_s W' _ _ _ (H112.out.2.2.2.2.1.new h).2 hv (HT.out.new (H112.out.2.2.2.2.2.2.new h)) (Sm.of (natAbs_add_lt (num_lt l 0) (num_lt l 6)) (by decide))
  have hq2 : ∀ W', New W12 W' → Calls Tryd.prog 39 #[.agg #[.bool sa, .slice Aa na ca], .agg #[.bool sb, .slice Ab nb cb]] W' (RetR W' (numI l 0 - numI l 6)) := fun W' h => rsub_s W' _ _ _ _ (H112.out.1.new h).2 (H112.out.2.1.new h).2 (num_sm l 0) (num_sm l 6)
  have hq3 : ∀ W' v, New W12 W' → RN W' v (numI l 0 - numI l 6) → Calls Tryd.prog 17 #[.agg #[.bool st, .slice At nt ct], v] W' (RetV W' (.bool true)) := fun W' v h hv => equal_s W' _ _ _ (H112.out.2.2.2.2.2.1.new h).2 hv (HT.out.new (H112.out.2.2.2.2.2.2.new h)) (Sm.of (natAbs_sub_lt (num_lt l 0) (num_lt l 6)) (by decide))
  have hq4 : ∀ W', New W12 W' → Calls Tryd.prog 17 #[.agg #[.bool sx, .slice Ax nx cx], .agg #[.bool sa, .slice Aa na ca]] W' (RetV W' (.bool true)) := fun W' h => equal_s W' _ _ _ (H112.out.2.2.1.new h).2 (H112.out.1.new h).2 (HT.out.new (H112.out.2.2.2.2.2.2.new h)) (num_sm l 0)
  have hq5 : ∀ W', New W12 W' → Calls Tryd.prog 17 #[.agg #[.bool sy, .slice Ay ny cy], .agg #[.bool sb, .slice Ab nb cb]] W' (RetV W' (.bool true)) := fun W' h => equal_s W' _ _ _ (H112.out.2.2.2.1.new h).2 (H112.out.2.1.new h).2 (HT.out.new (H112.out.2.2.2.2.2.2.new h)) (num_sm l 6)
  have hq6 : ∀ W', New W12 W' → Calls Tryd.prog 19 #[] W' (RetV W' (.bool true)) := fun W' h => lives_s W' (HT.out.new (H112.out.2.2.2.2.2.2.new h))
  have HQ0 := Lib.hid hq0
  have HQ1 := Lib.hid hq1
  have HQ2 := Lib.hid hq2
  have HQ3 := Lib.hid hq3
  have HQ4 := Lib.hid hq4
  have HQ5 := Lib.hid hq5
  have HQ6 := Lib.hid hq6
  clear hq0 hq1 hq2 hq3 hq4 hq5 hq6
  have hsk : ∀ w', New W12 w' → w'.cell? ⟨gs, 0, none⟩ = some (.bool ss) ∧ w'.cell? ⟨gs, 1, none⟩ = some (.slice As ns cs) ∧ w'.cell? ⟨ga, 0, none⟩ = some (.bool sa) ∧ w'.cell? ⟨ga, 1, none⟩ = some (.slice Aa na ca) ∧ w'.cell? ⟨gb, 0, none⟩ = some (.bool sb) ∧ w'.cell? ⟨gb, 1, none⟩ = some (.slice Ab nb cb) ∧ w'.cell? ⟨gt, 0, none⟩ = some (.bool st) ∧ w'.cell? ⟨gt, 1, none⟩ = some (.slice At nt ct) ∧ w'.cell? ⟨gx, 0, none⟩ = some (.bool sx) ∧ w'.cell? ⟨gx, 1, none⟩ = some (.slice Ax nx cx) ∧ w'.cell? ⟨gy, 0, none⟩ = some (.bool sy) ∧ w'.cell? ⟨gy, 1, none⟩ = some (.slice Ay ny cy) := fun w' h => ⟨(H112.out.2.2.2.2.1.new h).c0, (H112.out.2.2.2.2.1.new h).c1, (H112.out.1.new h).c0, (H112.out.1.new h).c1, (H112.out.2.1.new h).c0, (H112.out.2.1.new h).c1, (H112.out.2.2.2.2.2.1.new h).c0, (H112.out.2.2.2.2.2.1.new h).c1, (H112.out.2.2.1.new h).c0, (H112.out.2.2.1.new h).c1, (H112.out.2.2.2.1.new h).c0, (H112.out.2.2.2.1.new h).c1⟩
  have HSK := Lib.hid hsk
  clear hsk
  have hN0 : New W12 W12.drew := (Chg.refl _ _).drew
  have hzs0 := (H112.out.2.2.2.2.1).c0
  have hzs1 := (H112.out.2.2.2.2.1).c1
  have hza0 := (H112.out.1).c0
  have hza1 := (H112.out.1).c1
  have hzb0 := (H112.out.2.1).c0
  have hzb1 := (H112.out.2.1).c1
  have hzt0 := (H112.out.2.2.2.2.2.1).c0
  have hzt1 := (H112.out.2.2.2.2.2.1).c1
  have hzx0 := (H112.out.2.2.1).c0
  have hzx1 := (H112.out.2.2.1).c1
  have hzy0 := (H112.out.2.2.2.1).c0
  have hzy1 := (H112.out.2.2.2.1).c1
  go_region_held3 (fun w' => w'.cell? ⟨gs, 0, none⟩ = some (.bool ss) ∧ w'.cell? ⟨gs, 1, none⟩ = some (.slice As ns cs) ∧ w'.cell? ⟨ga, 0, none⟩ = some (.bool sa) ∧ w'.cell? ⟨ga, 1, none⟩ = some (.slice Aa na ca) ∧ w'.cell? ⟨gb, 0, none⟩ = some (.bool sb) ∧ w'.cell? ⟨gb, 1, none⟩ = some (.slice Ab nb cb) ∧ w'.cell? ⟨gt, 0, none⟩ = some (.bool st) ∧ w'.cell? ⟨gt, 1, none⟩ = some (.slice At nt ct) ∧ w'.cell? ⟨gx, 0, none⟩ = some (.bool sx) ∧ w'.cell? ⟨gx, 1, none⟩ = some (.slice Ax nx cx) ∧ w'.cell? ⟨gy, 0, none⟩ = some (.bool sy) ∧ w'.cell? ⟨gy, 1, none⟩ = some (.slice Ay ny cy)) (first | exact HSK.out _ (by assumption) | exact HSK.out _ (Chg.refl _ _))
    (first
      | (go_at_call 28; (with_reducible refine (HQ0.out _ hN0).mono ?_); rintro e q0 ⟨sq0, Aq0, nq0, cq0, rfl, Q0⟩; have hM0 := hN0.new Q0.out.2)
      | (go_at_call 17; (with_reducible refine (HQ1.out _ _ hM0 Q0.out.1).mono ?_); rintro e q1 ⟨rfl, Q1⟩; have hM1 := hM0.new Q1.out)
      | (go_at_call 39; (with_reducible refine (HQ2.out _ hM1).mono ?_); rintro e q2 ⟨sq2, Aq2, nq2, cq2, rfl, Q2⟩; have hM2 := hM1.new Q2.out.2)
      | (go_at_call 17; (with_reducible refine (HQ3.out _ _ hM2 Q2.out.1).mono ?_); rintro e q3 ⟨rfl, Q3⟩; have hM3 := hM2.new Q3.out)
      | (go_at_call 17; (with_reducible refine (HQ4.out _ hM3).mono ?_); rintro e q4 ⟨rfl, Q4⟩; have hM4 := hM3.new Q4.out)
      | (go_at_call 17; (with_reducible refine (HQ5.out _ hM4).mono ?_); rintro e q5 ⟨rfl, Q5⟩; have hM5 := hM4.new Q5.out)
      | (go_at_call 19; (with_reducible refine (HQ6.out _ hM5).mono ?_); rintro e q6 ⟨rfl, Q6⟩; have hM6 := hM5.new Q6.out))
  all_goals
    have HF := Lib.hid (H112.out.2.2.2.2.2.2.new hM6)
    clear hzs0 hzs1 hza0 hza1 hzb0 hzb1 hzt0 hzt1 hzx0 hzx1 hzy0 hzy1
    go_wp2
    go_ret
    exact ⟨rfl, HF.out⟩
end Go.Proofs.YtgofjkppeobjfaaDoor
