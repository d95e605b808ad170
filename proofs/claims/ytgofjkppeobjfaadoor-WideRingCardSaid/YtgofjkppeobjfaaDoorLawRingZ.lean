/- The walk of refuterlaw03.WideRing. -/
import Derived.Test.YtgofjkppeobjfaaDoorB5
import Derived.Test.YtgofjkppeobjfaaDoorTextIZ
import Derived.Deep.CutRange
namespace Go.Proofs.YtgofjkppeobjfaaDoor
set_option linter.unusedVariables false
open Go.RowKit Go.Mem Go.Dig

set_option maxRecDepth 100000 in
set_option maxHeartbeats 4000000 in
theorem wideRing_walk (A : Option Addr) (n c : Nat) (l : List Int) (w : World) (hr : Rd w A n (is l)) (hl : ∀ z ∈ l, -9223372036854775808 ≤ z ∧ z ≤ 9223372036854775807) (hn : n ≤ 9223372036854775807) (hpt : PowTab w) :
    Calls Tryd.prog 10 #[.slice A n c] w fun e w' => e = .returned (.bool true) ∧ New w w' := by
  have hnum := fun W (h : New w W) => number_s A n c l hl W (hr.new h) hn
  have HNUM := Lib.hid hnum
  have HT := Lib.hid hpt
  clear hnum hpt hr hl hn
  go_enter Tryd.func10, Tryd.ntmps10
  go_wp2_with fail
  refine ((HNUM.out w (Chg.refl _ _)).1).mono ?_
  rintro e u1 ⟨sr1, Ar1, nr1, cr1, rfl, K1⟩
  have H101 := Lib.hid K1.out.2
  go_wp2_with fail
  refine (wider_s u1 _ _ K1.out.1 (num_sm l 0)).mono ?_
  rintro e u2 ⟨sx, Ax, nx, cx, rfl, K2⟩
  have H102 := Lib.hid (H101.out.new K2.out.2)
  clear H101
  go_wp2_with fail
  refine Calls.new1 ?_
  intro W3 hbx hn3 hz3
  obtain ⟨gx, hgx⟩ : ∃ x, u2.heap.size = x := ⟨_, rfl⟩
  rw [hgx] at hbx
  simp only [hgx]
  have hXx : WX W3 gx sx Ax nx cx (numI l 0) := ⟨hbx, K2.out.1.new hn3⟩
  have H103 := Lib.hid (And.intro hXx (H102.out.new hn3))
  clear H102
  clear hXx hbx hgx hn3 hz3
  refine ((HNUM.out W3 H103.out.2).2.1).mono ?_
  rintro e u4 ⟨sr4, Ar4, nr4, cr4, rfl, K4⟩
  have H104 := Lib.hid (And.intro (H103.out.1.new K4.out.2) (H103.out.2.new K4.out.2))
  clear H103
  go_wp2_with fail
  refine (wider_s u4 _ _ K4.out.1 (num_sm l 6)).mono ?_
  rintro e u5 ⟨sy, Ay, ny, cy, rfl, K5⟩
  have H105 := Lib.hid (And.intro (H104.out.1.new K5.out.2) (H104.out.2.new K5.out.2))
  clear H104
  go_wp2_with fail
  refine Calls.new1 ?_
  intro W6 hby hn6 hz6
  obtain ⟨gy, hgy⟩ : ∃ x, u5.heap.size = x := ⟨_, rfl⟩
  rw [hgy] at hby
  simp only [hgy]
  have hXy : WX W6 gy sy Ay ny cy (numI l 6) := ⟨hby, K5.out.1.new hn6⟩
  have H106 := Lib.hid (And.intro (H105.out.1.new hn6) (And.intro hXy (H105.out.2.new hn6)))
  clear H105
  clear hXy hby hgy hn6 hz6
  refine ((HNUM.out W6 H106.out.2.2).2.2).mono ?_
  rintro e u7 ⟨sr7, Ar7, nr7, cr7, rfl, K7⟩
  have H107 := Lib.hid (And.intro (H106.out.1.new K7.out.2) (And.intro (H106.out.2.1.new K7.out.2) (H106.out.2.2.new K7.out.2)))
  clear H106
  go_wp2_with fail
  refine (wider_s u7 _ _ K7.out.1 (num_sm l 12)).mono ?_
  rintro e u8 ⟨sz, Az, nz, cz, rfl, K8⟩
  have H108 := Lib.hid (And.intro (H107.out.1.new K8.out.2) (And.intro (H107.out.2.1.new K8.out.2) (H107.out.2.2.new K8.out.2)))
  clear H107
  have hzx0 := (H108.out.1.new ((Chg.refl (fun _ => False) u8).alloc (.cells #[.bool sz, .slice Az nz cz] 33))).c0
  have hzx1 := (H108.out.1.new ((Chg.refl (fun _ => False) u8).alloc (.cells #[.bool sz, .slice Az nz cz] 33))).c1
  have hzy0 := (H108.out.2.1.new ((Chg.refl (fun _ => False) u8).alloc (.cells #[.bool sz, .slice Az nz cz] 33))).c0
  have hzy1 := (H108.out.2.1.new ((Chg.refl (fun _ => False) u8).alloc (.cells #[.bool sz, .slice Az nz cz] 33))).c1
  go_wp2_with fail
  clear hzx0 hzx1 hzy0 hzy1
  refine Calls.new1 ?_
  intro W10 hbz hn10 hz10
  obtain ⟨gz, hgz⟩ : ∃ x, u8.heap.size = x := ⟨_, rfl⟩
  rw [hgz] at hbz
  simp only [hgz]
  have hXz : WX W10 gz sz Az nz cz (numI l 12) := ⟨hbz, K8.out.1.new hn10⟩
  have H109 := Lib.hid (And.intro (H108.out.1.new hn10) (And.intro (H108.out.2.1.new hn10) (And.intro hXz (H108.out.2.2.new hn10))))
  clear H108
  clear hXz hbz hgz hn10 hz10
  refine (wadd_s W10 _ _ _ _ H109.out.1.2 H109.out.2.1.2 (Sm.of (num_lt l 0) (by decide)) (Sm.of (num_lt l 6) (by decide)) (Sm.of (natAbs_add_lt (num_lt l 0) (num_lt l 6)) (by decide))).mono ?_
  rintro e u9 ⟨sa, Aa, na, ca, rfl, K9⟩
  have H110 := Lib.hid (And.intro (H109.out.1.new K9.out.2) (And.intro (H109.out.2.1.new K9.out.2) (And.intro (H109.out.2.2.1.new K9.out.2) (H109.out.2.2.2.new K9.out.2))))
  clear H109
  have hzy0 := (H110.out.2.1.new ((Chg.refl (fun _ => False) u9).alloc (.cells #[.bool sa, .slice Aa na ca] 33))).c0
  have hzy1 := (H110.out.2.1.new ((Chg.refl (fun _ => False) u9).alloc (.cells #[.bool sa, .slice Aa na ca] 33))).c1
  have hzx0 := (H110.out.1.new ((Chg.refl (fun _ => False) u9).alloc (.cells #[.bool sa, .slice Aa na ca] 33))).c0
  have hzx1 := (H110.out.1.new ((Chg.refl (fun _ => False) u9).alloc (.cells #[.bool sa, .slice Aa na ca] 33))).c1
  go_wp2_with fail
  clear hzy0 hzy1 hzx0 hzx1
  refine Calls.new1 ?_
  intro W12 hba hn12 hz12
  obtain ⟨ga, hga⟩ : ∃ x, u9.heap.size = x := ⟨_, rfl⟩
  rw [hga] at hba
  simp only [hga]
  have hXa : WX W12 ga sa Aa na ca ((numI l 0) + (numI l 6)) := ⟨hba, K9.out.1.new hn12⟩
  have H111 := Lib.hid (And.intro (H110.out.1.new hn12) (And.intro (H110.out.2.1.new hn12) (And.intro (H110.out.2.2.1.new hn12) (And.intro hXa (H110.out.2.2.2.new hn12)))))
  clear H110
  clear hXa hba hga hn12 hz12
  refine (wadd_s W12 _ _ _ _ H111.out.2.1.2 H111.out.1.2 (Sm.of (num_lt l 6) (by decide)) (Sm.of (num_lt l 0) (by decide)) (Sm.of (natAbs_add_lt (num_lt l 6) (num_lt l 0)) (by decide))).mono ?_
  rintro e u11 ⟨sb, Ab, nb, cb, rfl, K11⟩
  have H112 := Lib.hid (And.intro (H111.out.1.new K11.out.2) (And.intro (H111.out.2.1.new K11.out.2) (And.intro (H111.out.2.2.1.new K11.out.2) (And.intro (H111.out.2.2.2.1.new K11.out.2) (H111.out.2.2.2.2.new K11.out.2)))))
  clear H111
  have hza0 := (H112.out.2.2.2.1.new ((Chg.refl (fun _ => False) u11).alloc (.cells #[.bool sb, .slice Ab nb cb] 33))).c0
  have hza1 := (H112.out.2.2.2.1.new ((Chg.refl (fun _ => False) u11).alloc (.cells #[.bool sb, .slice Ab nb cb] 33))).c1
  have hzz0 := (H112.out.2.2.1.new ((Chg.refl (fun _ => False) u11).alloc (.cells #[.bool sb, .slice Ab nb cb] 33))).c0
  have hzz1 := (H112.out.2.2.1.new ((Chg.refl (fun _ => False) u11).alloc (.cells #[.bool sb, .slice Ab nb cb] 33))).c1
  go_wp2_with fail
  clear hza0 hza1 hzz0 hzz1
  refine Calls.new1 ?_
  intro W14 hbb hn14 hz14
  obtain ⟨gb, hgb⟩ : ∃ x, u11.heap.size = x := ⟨_, rfl⟩
  rw [hgb] at hbb
  simp only [hgb]
  have hXb : WX W14 gb sb Ab nb cb ((numI l 6) + (numI l 0)) := ⟨hbb, K11.out.1.new hn14⟩
  have H113 := Lib.hid (And.intro (H112.out.1.new hn14) (And.intro (H112.out.2.1.new hn14) (And.intro (H112.out.2.2.1.new hn14) (And.intro (H112.out.2.2.2.1.new hn14) (And.intro hXb (H112.out.2.2.2.2.new hn14))))))
  clear H112
  clear hXb hbb hgb hn14 hz14
  refine (wmul_s W14 _ _ _ _ H113.out.2.2.2.1.2 H113.out.2.2.1.2 (Sm.of (natAbs_add_lt (num_lt l 0) (num_lt l 6)) (by decide)) (Sm.of (num_lt l 12) (by decide)) (Sm.of (natAbs_mul_lt (natAbs_add_lt (num_lt l 0) (num_lt l 6)) (num_lt l 12)) (by decide))).mono ?_
  rintro e u13 ⟨sc, Ac, nc, cc, rfl, K13⟩
  have H114 := Lib.hid (And.intro (H113.out.1.new K13.out.2) (And.intro (H113.out.2.1.new K13.out.2) (And.intro (H113.out.2.2.1.new K13.out.2) (And.intro (H113.out.2.2.2.1.new K13.out.2) (And.intro (H113.out.2.2.2.2.1.new K13.out.2) (H113.out.2.2.2.2.2.new K13.out.2))))))
  clear H113
  have hzx0 := (H114.out.1.new ((Chg.refl (fun _ => False) u13).alloc (.cells #[.bool sc, .slice Ac nc cc] 33))).c0
  have hzx1 := (H114.out.1.new ((Chg.refl (fun _ => False) u13).alloc (.cells #[.bool sc, .slice Ac nc cc] 33))).c1
  have hzz0 := (H114.out.2.2.1.new ((Chg.refl (fun _ => False) u13).alloc (.cells #[.bool sc, .slice Ac nc cc] 33))).c0
  have hzz1 := (H114.out.2.2.1.new ((Chg.refl (fun _ => False) u13).alloc (.cells #[.bool sc, .slice Ac nc cc] 33))).c1
  go_wp2_with fail
  clear hzx0 hzx1 hzz0 hzz1
  refine Calls.new1 ?_
  intro W16 hbc hn16 hz16
  obtain ⟨gc, hgc⟩ : ∃ x, u13.heap.size = x := ⟨_, rfl⟩
  rw [hgc] at hbc
  simp only [hgc]
  have hXc : WX W16 gc sc Ac nc cc (((numI l 0) + (numI l 6)) * (numI l 12)) := ⟨hbc, K13.out.1.new hn16⟩
  have H115 := Lib.hid (And.intro (H114.out.1.new hn16) (And.intro (H114.out.2.1.new hn16) (And.intro (H114.out.2.2.1.new hn16) (And.intro (H114.out.2.2.2.1.new hn16) (And.intro (H114.out.2.2.2.2.1.new hn16) (And.intro hXc (H114.out.2.2.2.2.2.new hn16)))))))
  clear H114
  clear hXc hbc hgc hn16 hz16
  refine (wmul_s W16 _ _ _ _ H115.out.1.2 H115.out.2.2.1.2 (Sm.of (num_lt l 0) (by decide)) (Sm.of (num_lt l 12) (by decide)) (Sm.of (natAbs_mul_lt (num_lt l 0) (num_lt l 12)) (by decide))).mono ?_
  rintro e u15 ⟨sd, Ad, nd, cd, rfl, K15⟩
  have H116 := Lib.hid (And.intro (H115.out.1.new K15.out.2) (And.intro (H115.out.2.1.new K15.out.2) (And.intro (H115.out.2.2.1.new K15.out.2) (And.intro (H115.out.2.2.2.1.new K15.out.2) (And.intro (H115.out.2.2.2.2.1.new K15.out.2) (And.intro (H115.out.2.2.2.2.2.1.new K15.out.2) (H115.out.2.2.2.2.2.2.new K15.out.2)))))))
  clear H115
  have hzz0 := (H116.out.2.2.1.new ((Chg.refl (fun _ => False) u15).alloc (.cells #[.bool sd, .slice Ad nd cd] 33))).c0
  have hzz1 := (H116.out.2.2.1.new ((Chg.refl (fun _ => False) u15).alloc (.cells #[.bool sd, .slice Ad nd cd] 33))).c1
  have hzy0 := (H116.out.2.1.new ((Chg.refl (fun _ => False) u15).alloc (.cells #[.bool sd, .slice Ad nd cd] 33))).c0
  have hzy1 := (H116.out.2.1.new ((Chg.refl (fun _ => False) u15).alloc (.cells #[.bool sd, .slice Ad nd cd] 33))).c1
  go_wp2_with fail
  clear hzz0 hzz1 hzy0 hzy1
  refine Calls.new1 ?_
  intro W18 hbd hn18 hz18
  obtain ⟨gd, hgd⟩ : ∃ x, u15.heap.size = x := ⟨_, rfl⟩
  rw [hgd] at hbd
  simp only [hgd]
  have hXd : WX W18 gd sd Ad nd cd ((numI l 0) * (numI l 12)) := ⟨hbd, K15.out.1.new hn18⟩
  have H117 := Lib.hid (And.intro (H116.out.1.new hn18) (And.intro (H116.out.2.1.new hn18) (And.intro (H116.out.2.2.1.new hn18) (And.intro (H116.out.2.2.2.1.new hn18) (And.intro (H116.out.2.2.2.2.1.new hn18) (And.intro (H116.out.2.2.2.2.2.1.new hn18) (And.intro hXd (H116.out.2.2.2.2.2.2.new hn18))))))))
  clear H116
  clear hXd hbd hgd hn18 hz18
  refine (wmul_s W18 _ _ _ _ H117.out.2.2.1.2 H117.out.2.1.2 (Sm.of (num_lt l 12) (by decide)) (Sm.of (num_lt l 6) (by decide)) (Sm.of (natAbs_mul_lt (num_lt l 12) (num_lt l 6)) (by decide))).mono ?_
  rintro e u17 ⟨si, Ai, ni, ci, rfl, K17⟩
  have H118 := Lib.hid (And.intro (H117.out.1.new K17.out.2) (And.intro (H117.out.2.1.new K17.out.2) (And.intro (H117.out.2.2.1.new K17.out.2) (And.intro (H117.out.2.2.2.1.new K17.out.2) (And.intro (H117.out.2.2.2.2.1.new K17.out.2) (And.intro (H117.out.2.2.2.2.2.1.new K17.out.2) (And.intro (H117.out.2.2.2.2.2.2.1.new K17.out.2) (H117.out.2.2.2.2.2.2.2.new K17.out.2))))))))
  clear H117
  have hzd0 := (H118.out.2.2.2.2.2.2.1.new ((Chg.refl (fun _ => False) u17).alloc (.cells #[.bool si, .slice Ai ni ci] 33))).c0
  have hzd1 := (H118.out.2.2.2.2.2.2.1.new ((Chg.refl (fun _ => False) u17).alloc (.cells #[.bool si, .slice Ai ni ci] 33))).c1
  go_wp2_with fail
  clear hzd0 hzd1
  refine Calls.new1 ?_
  intro W20 hbi hn20 hz20
  obtain ⟨gi, hgi⟩ : ∃ x, u17.heap.size = x := ⟨_, rfl⟩
  rw [hgi] at hbi
  simp only [hgi]
  have hXi : WX W20 gi si Ai ni ci ((numI l 12) * (numI l 6)) := ⟨hbi, K17.out.1.new hn20⟩
  have H119 := Lib.hid (And.intro (H118.out.1.new hn20) (And.intro (H118.out.2.1.new hn20) (And.intro (H118.out.2.2.1.new hn20) (And.intro (H118.out.2.2.2.1.new hn20) (And.intro (H118.out.2.2.2.2.1.new hn20) (And.intro (H118.out.2.2.2.2.2.1.new hn20) (And.intro (H118.out.2.2.2.2.2.2.1.new hn20) (And.intro hXi (H118.out.2.2.2.2.2.2.2.new hn20)))))))))
  clear H118
  clear hXi hbi hgi hn20 hz20
  refine (wadd_s W20 _ _ _ _ H119.out.2.2.2.2.2.2.1.2 H119.out.2.2.2.2.2.2.2.1.2 (Sm.of (natAbs_mul_lt (num_lt l 0) (num_lt l 12)) (by decide)) (Sm.of (natAbs_mul_lt (num_lt l 12) (num_lt l 6)) (by decide)) (Sm.of (natAbs_add_lt (natAbs_mul_lt (num_lt l 0) (num_lt l 12)) (natAbs_mul_lt (num_lt l 12) (num_lt l 6))) (by decide))).mono ?_
  rintro e u19 ⟨sk, Ak, nk, ck, rfl, K19⟩
  have H120 := Lib.hid (And.intro (H119.out.1.new K19.out.2) (And.intro (H119.out.2.1.new K19.out.2) (And.intro (H119.out.2.2.1.new K19.out.2) (And.intro (H119.out.2.2.2.1.new K19.out.2) (And.intro (H119.out.2.2.2.2.1.new K19.out.2) (And.intro (H119.out.2.2.2.2.2.1.new K19.out.2) (And.intro (H119.out.2.2.2.2.2.2.1.new K19.out.2) (And.intro (H119.out.2.2.2.2.2.2.2.1.new K19.out.2) (H119.out.2.2.2.2.2.2.2.2.new K19.out.2)))))))))
  clear H119
  have hza0 := (H120.out.2.2.2.1.new ((Chg.refl (fun _ => False) u19).alloc (.cells #[.bool sk, .slice Ak nk ck] 33))).c0
  have hza1 := (H120.out.2.2.2.1.new ((Chg.refl (fun _ => False) u19).alloc (.cells #[.bool sk, .slice Ak nk ck] 33))).c1
  have hzy0 := (H120.out.2.1.new ((Chg.refl (fun _ => False) u19).alloc (.cells #[.bool sk, .slice Ak nk ck] 33))).c0
  have hzy1 := (H120.out.2.1.new ((Chg.refl (fun _ => False) u19).alloc (.cells #[.bool sk, .slice Ak nk ck] 33))).c1
  go_wp2_with fail
  clear hza0 hza1 hzy0 hzy1
  refine Calls.new1 ?_
  intro W22 hbk hn22 hz22
  obtain ⟨gk, hgk⟩ : ∃ x, u19.heap.size = x := ⟨_, rfl⟩
  rw [hgk] at hbk
  simp only [hgk]
  have hXk : WX W22 gk sk Ak nk ck ((numI l 0) * (numI l 12) + (numI l 12) * (numI l 6)) := ⟨hbk, K19.out.1.new hn22⟩
  have H121 := Lib.hid (And.intro (H120.out.1.new hn22) (And.intro (H120.out.2.1.new hn22) (And.intro (H120.out.2.2.1.new hn22) (And.intro (H120.out.2.2.2.1.new hn22) (And.intro (H120.out.2.2.2.2.1.new hn22) (And.intro (H120.out.2.2.2.2.2.1.new hn22) (And.intro (H120.out.2.2.2.2.2.2.1.new hn22) (And.intro (H120.out.2.2.2.2.2.2.2.1.new hn22) (And.intro hXk (H120.out.2.2.2.2.2.2.2.2.new hn22))))))))))
  clear H120
  clear hXk hbk hgk hn22 hz22
  refine (wsub_s W22 _ _ _ _ H121.out.2.2.2.1.2 H121.out.2.1.2 (Sm.of (natAbs_add_lt (num_lt l 0) (num_lt l 6)) (by decide)) (Sm.of (num_lt l 6) (by decide)) (Sm.of (natAbs_sub_lt (natAbs_add_lt (num_lt l 0) (num_lt l 6)) (Nat.lt_of_lt_of_le (num_lt l 6) (pw2_le (by decide)))) (by decide))).mono ?_
  rintro e u21 ⟨sn, An, nn, cn, rfl, K21⟩
  have H122 := Lib.hid (And.intro (H121.out.1.new K21.out.2) (And.intro (H121.out.2.1.new K21.out.2) (And.intro (H121.out.2.2.1.new K21.out.2) (And.intro (H121.out.2.2.2.1.new K21.out.2) (And.intro (H121.out.2.2.2.2.1.new K21.out.2) (And.intro (H121.out.2.2.2.2.2.1.new K21.out.2) (And.intro (H121.out.2.2.2.2.2.2.1.new K21.out.2) (And.intro (H121.out.2.2.2.2.2.2.2.1.new K21.out.2) (And.intro (H121.out.2.2.2.2.2.2.2.2.1.new K21.out.2) (H121.out.2.2.2.2.2.2.2.2.2.new K21.out.2))))))))))
  clear H121
  obtain ⟨BB, hBB⟩ : ∃ b, St (Txt.text ((numI l 0) + (numI l 6))) = b := ⟨_, rfl⟩
  have hBB2 : St (Txt.text ((numI l 6) + (numI l 0))) = BB := by rw [Int.add_comm]; exact hBB
  have HBB := Lib.hid (And.intro hBB hBB2)
  clear hBB hBB2
  go_upto_region 13 with fail
  refine Code.new1 ?_
  intro W23 hbn hn23 hz23
  obtain ⟨gn, hgn⟩ : ∃ x, u21.heap.size = x := ⟨_, rfl⟩
  rw [hgn] at hbn
  simp only [hgn]
  have hXn : WX W23 gn sn An nn cn ((numI l 0) + (numI l 6) - (numI l 6)) := ⟨hbn, K21.out.1.new hn23⟩
  have H123 := Lib.hid (And.intro (H122.out.1.new hn23) (And.intro (H122.out.2.1.new hn23) (And.intro (H122.out.2.2.1.new hn23) (And.intro (H122.out.2.2.2.1.new hn23) (And.intro (H122.out.2.2.2.2.1.new hn23) (And.intro (H122.out.2.2.2.2.2.1.new hn23) (And.intro (H122.out.2.2.2.2.2.2.1.new hn23) (And.intro (H122.out.2.2.2.2.2.2.2.1.new hn23) (And.intro (H122.out.2.2.2.2.2.2.2.2.1.new hn23) (And.intro hXn (H122.out.2.2.2.2.2.2.2.2.2.new hn23)))))))))))
  clear H122
  clear hXn hbn hgn hn23 hz23
  have hq0 : ∀ W', New W23 W' → Calls Tryd.prog 33 #[.agg #[.bool sa, .slice Aa na ca], .agg #[.bool sb, .slice Ab nb cb]] W' (RetV W' (.int .i64 0)) := fun W' h => compare_s W' _ _ _ _ 0 (H123.out.2.2.2.1.new h).2 (H123.out.2.2.2.2.1.new h).2 (cmpI_eq (Int.add_comm _ _))
  have hq1 : ∀ W', New W23 W' → Calls Tryd.prog 33 #[.agg #[.bool sc, .slice Ac nc cc], .agg #[.bool sk, .slice Ak nk ck]] W' (RetV W' (.int .i64 0)) := fun W' h => compare_s W' _ _ _ _ 0 (H123.out.2.2.2.2.2.1.new h).2 (H123.out.2.2.2.2.2.2.2.2.1.new h).2 (cmpI_eq (by rw [Int.add_mul, Int.mul_comm (numI l 12) (numI l 6)]))
  have hq2 : ∀ W', New W23 W' → Calls Tryd.prog 33 #[.agg #[.bool sn, .slice An nn cn], .agg #[.bool sx, .slice Ax nx cx]] W' (RetV W' (.int .i64 0)) := fun W' h => compare_s W' _ _ _ _ 0 (H123.out.2.2.2.2.2.2.2.2.2.1.new h).2 (H123.out.1.new h).2 (cmpI_eq (by omega))
  have hq3 : ∀ W', New W23 W' → Calls Tryd.prog 18 #[.agg #[.bool sa, .slice Aa na ca]] W' (RetV W' (.string BB)) := fun W' h => string_s W' _ _ BB HBB.out.1 (H123.out.2.2.2.1.new h).2 (HT.out.new (H123.out.2.2.2.2.2.2.2.2.2.2.new h)) (Sm.of (natAbs_add_lt (num_lt l 0) (num_lt l 6)) (by decide))
  have hq4 : ∀ W', New W23 W' → Calls Tryd.prog 18 #[.agg #[.bool sb, .slice Ab nb cb]] W' (RetV W' (.string BB)) := fun W' h => string_s W' _ _ BB HBB.out.2 (H123.out.2.2.2.2.1.new h).2 (HT.out.new (H123.out.2.2.2.2.2.2.2.2.2.2.new h)) (Sm.of (natAbs_add_lt (num_lt l 6) (num_lt l 0)) (by decide))
  have HQ0 := Lib.hid hq0
  have HQ1 := Lib.hid hq1
  have HQ2 := Lib.hid hq2
  have HQ3 := Lib.hid hq3
  have HQ4 := Lib.hid hq4
  clear hq0 hq1 hq2 hq3 hq4
  have hsk : ∀ w', New W23 w' → w'.cell? ⟨ga, 0, none⟩ = some (.bool sa) ∧ w'.cell? ⟨ga, 1, none⟩ = some (.slice Aa na ca) ∧ w'.cell? ⟨gb, 0, none⟩ = some (.bool sb) ∧ w'.cell? ⟨gb, 1, none⟩ = some (.slice Ab nb cb) ∧ w'.cell? ⟨gc, 0, none⟩ = some (.bool sc) ∧ w'.cell? ⟨gc, 1, none⟩ = some (.slice Ac nc cc) ∧ w'.cell? ⟨gk, 0, none⟩ = some (.bool sk) ∧ w'.cell? ⟨gk, 1, none⟩ = some (.slice Ak nk ck) ∧ w'.cell? ⟨gn, 0, none⟩ = some (.bool sn) ∧ w'.cell? ⟨gn, 1, none⟩ = some (.slice An nn cn) ∧ w'.cell? ⟨gx, 0, none⟩ = some (.bool sx) ∧ w'.cell? ⟨gx, 1, none⟩ = some (.slice Ax nx cx) := fun w' h => ⟨(H123.out.2.2.2.1.new h).c0, (H123.out.2.2.2.1.new h).c1, (H123.out.2.2.2.2.1.new h).c0, (H123.out.2.2.2.2.1.new h).c1, (H123.out.2.2.2.2.2.1.new h).c0, (H123.out.2.2.2.2.2.1.new h).c1, (H123.out.2.2.2.2.2.2.2.2.1.new h).c0, (H123.out.2.2.2.2.2.2.2.2.1.new h).c1, (H123.out.2.2.2.2.2.2.2.2.2.1.new h).c0, (H123.out.2.2.2.2.2.2.2.2.2.1.new h).c1, (H123.out.1.new h).c0, (H123.out.1.new h).c1⟩
  have HSK := Lib.hid hsk
  clear hsk
  have hN0 : New W23 W23.drew := (Chg.refl _ _).drew
  have hza0 := (H123.out.2.2.2.1).c0
  have hza1 := (H123.out.2.2.2.1).c1
  have hzb0 := (H123.out.2.2.2.2.1).c0
  have hzb1 := (H123.out.2.2.2.2.1).c1
  have hzc0 := (H123.out.2.2.2.2.2.1).c0
  have hzc1 := (H123.out.2.2.2.2.2.1).c1
  have hzk0 := (H123.out.2.2.2.2.2.2.2.2.1).c0
  have hzk1 := (H123.out.2.2.2.2.2.2.2.2.1).c1
  have hzn0 := (H123.out.2.2.2.2.2.2.2.2.2.1).c0
  have hzn1 := (H123.out.2.2.2.2.2.2.2.2.2.1).c1
  have hzx0 := (H123.out.1).c0
  have hzx1 := (H123.out.1).c1
  go_region_held3 (fun w' => w'.cell? ⟨ga, 0, none⟩ = some (.bool sa) ∧ w'.cell? ⟨ga, 1, none⟩ = some (.slice Aa na ca) ∧ w'.cell? ⟨gb, 0, none⟩ = some (.bool sb) ∧ w'.cell? ⟨gb, 1, none⟩ = some (.slice Ab nb cb) ∧ w'.cell? ⟨gc, 0, none⟩ = some (.bool sc) ∧ w'.cell? ⟨gc, 1, none⟩ = some (.slice Ac nc cc) ∧ w'.cell? ⟨gk, 0, none⟩ = some (.bool sk) ∧ w'.cell? ⟨gk, 1, none⟩ = some (.slice Ak nk ck) ∧ w'.cell? ⟨gn, 0, none⟩ = some (.bool sn) ∧ w'.cell? ⟨gn, 1, none⟩ = some (.slice An nn cn) ∧ w'.cell? ⟨gx, 0, none⟩ = some (.bool sx) ∧ w'.cell? ⟨gx, 1, none⟩ = some (.slice Ax nx cx)) (first | exact HSK.out _ (by assumption) | exact HSK.out _ (Chg.refl _ _))
    (first
      | (go_at_call 33; (with_reducible refine (HQ0.out _ hN0).mono ?_); rintro e q0 ⟨rfl, Q0⟩; have hM0 := hN0.new Q0.out)
      | (go_at_call 33; (with_reducible refine (HQ1.out _ hM0).mono ?_); rintro e q1 ⟨rfl, Q1⟩; have hM1 := hM0.new Q1.out)
      | (go_at_call 33; (with_reducible refine (HQ2.out _ hM1).mono ?_); rintro e q2 ⟨rfl, Q2⟩; have hM2 := hM1.new Q2.out)
      | (go_at_call 18; (with_reducible refine (HQ3.out _ hM2).mono ?_); rintro e q3 ⟨rfl, Q3⟩; have hM3 := hM2.new Q3.out)
      | (go_at_call 18; (with_reducible refine (HQ4.out _ hM3).mono ?_); rintro e q4 ⟨rfl, Q4⟩; have hM4 := hM3.new Q4.out))
  have hM := hM4
  clear hza0 hza1 hzb0 hzb1 hzc0 hzc1 hzk0 hzk1 hzn0 hzn1 hzx0 hzx1 HSK HQ0 HQ1 HQ2 HQ3 HQ4 hN0 hM0 hM1 hM2 hM3 hM4 Q0 Q1 Q2 Q3 Q4
  have H124 := Lib.hid (And.intro (H123.out.1.new hM) (And.intro (H123.out.2.1.new hM) (And.intro (H123.out.2.2.1.new hM) (And.intro (H123.out.2.2.2.1.new hM) (And.intro (H123.out.2.2.2.2.1.new hM) (And.intro (H123.out.2.2.2.2.2.1.new hM) (And.intro (H123.out.2.2.2.2.2.2.1.new hM) (And.intro (H123.out.2.2.2.2.2.2.2.1.new hM) (And.intro (H123.out.2.2.2.2.2.2.2.2.1.new hM) (And.intro (H123.out.2.2.2.2.2.2.2.2.2.1.new hM) (H123.out.2.2.2.2.2.2.2.2.2.2.new hM)))))))))))
  clear H123
  clear hM
  by_cases hY : numI l 6 = 0
  · have hY0 := Lib.hid hY
    clear hY
    have hzc0 := (H124.out.2.2.2.2.2.1).c0
    have hzy0 := (H124.out.2.1).c0
    have hzc1 := (H124.out.2.2.2.2.2.1).c1
    have hzy1 := (H124.out.2.1).c1
    go_wp2_with fail
    clear hzc0 hzy0 hzc1 hzy1
    refine (wdiv0_s q4 _ _ _ H124.out.2.2.2.2.2.1.2 (by have := H124.out.2.1.2; rwa [hY0.out] at this)).mono ?_
    rintro e u24 ⟨sq, Aq, nq, cq, sr, Ar, nr, cr, rfl, K24⟩
    have H125 := Lib.hid (And.intro (H124.out.1.new K24.out.2.2) (And.intro (H124.out.2.1.new K24.out.2.2) (And.intro (H124.out.2.2.1.new K24.out.2.2) (And.intro (H124.out.2.2.2.1.new K24.out.2.2) (And.intro (H124.out.2.2.2.2.1.new K24.out.2.2) (And.intro (H124.out.2.2.2.2.2.1.new K24.out.2.2) (And.intro (H124.out.2.2.2.2.2.2.1.new K24.out.2.2) (And.intro (H124.out.2.2.2.2.2.2.2.1.new K24.out.2.2) (And.intro (H124.out.2.2.2.2.2.2.2.2.1.new K24.out.2.2) (And.intro (H124.out.2.2.2.2.2.2.2.2.2.1.new K24.out.2.2) (H124.out.2.2.2.2.2.2.2.2.2.2.new K24.out.2.2)))))))))))
    clear H124
    have hzy0 := (H125.out.2.1.new (((Chg.refl (fun _ => False) u24).alloc (.cells #[.bool sq, .slice Aq nq cq] 33)).alloc (.cells #[.bool sr, .slice Ar nr cr] 33))).c0
    have hzy1 := (H125.out.2.1.new (((Chg.refl (fun _ => False) u24).alloc (.cells #[.bool sq, .slice Aq nq cq] 33)).alloc (.cells #[.bool sr, .slice Ar nr cr] 33))).c1
    go_wp2_with fail
    clear hzy0 hzy1
    refine Calls.new2 ?_
    intro W26 hbq hbr hn26 hz26
    obtain ⟨gq, hgq⟩ : ∃ x, u24.heap.size = x := ⟨_, rfl⟩
    obtain ⟨gr, hgr⟩ : ∃ x, u24.heap.size + 1 = x := ⟨_, rfl⟩
    rw [hgq] at hbq
    rw [hgr] at hbr
    simp only [hgr]
    simp only [hgq]
    have hXq : WX W26 gq sq Aq nq cq (0) := ⟨hbq, K24.out.1.new hn26⟩
    have hXr : WX W26 gr sr Ar nr cr (0) := ⟨hbr, K24.out.2.1.new hn26⟩
    have H126 := Lib.hid (And.intro (H125.out.1.new hn26) (And.intro (H125.out.2.1.new hn26) (And.intro (H125.out.2.2.1.new hn26) (And.intro (H125.out.2.2.2.1.new hn26) (And.intro (H125.out.2.2.2.2.1.new hn26) (And.intro (H125.out.2.2.2.2.2.1.new hn26) (And.intro (H125.out.2.2.2.2.2.2.1.new hn26) (And.intro (H125.out.2.2.2.2.2.2.2.1.new hn26) (And.intro (H125.out.2.2.2.2.2.2.2.2.1.new hn26) (And.intro (H125.out.2.2.2.2.2.2.2.2.2.1.new hn26) (And.intro hXq (And.intro hXr (H125.out.2.2.2.2.2.2.2.2.2.2.new hn26)))))))))))))
    clear H125
    clear hXq hbq hgq hXr hbr hgr hn26 hz26
    refine (sign_s W26 _ _ 0 H126.out.2.1.2 (cmpI_eq hY0.out)).mono ?_
    rintro e u25 ⟨rfl, K25⟩
    have H127 := Lib.hid (And.intro (H126.out.1.new K25.out) (And.intro (H126.out.2.1.new K25.out) (And.intro (H126.out.2.2.1.new K25.out) (And.intro (H126.out.2.2.2.1.new K25.out) (And.intro (H126.out.2.2.2.2.1.new K25.out) (And.intro (H126.out.2.2.2.2.2.1.new K25.out) (And.intro (H126.out.2.2.2.2.2.2.1.new K25.out) (And.intro (H126.out.2.2.2.2.2.2.2.1.new K25.out) (And.intro (H126.out.2.2.2.2.2.2.2.2.1.new K25.out) (And.intro (H126.out.2.2.2.2.2.2.2.2.2.1.new K25.out) (And.intro (H126.out.2.2.2.2.2.2.2.2.2.2.1.new K25.out) (And.intro (H126.out.2.2.2.2.2.2.2.2.2.2.2.1.new K25.out) (H126.out.2.2.2.2.2.2.2.2.2.2.2.2.new K25.out)))))))))))))
    clear H126
    go_wp2_with fail
    refine (lives_s u25 (HT.out.new H127.out.2.2.2.2.2.2.2.2.2.2.2.2)).mono ?_
    rintro e u27 ⟨rfl, K27⟩
    have H128 := Lib.hid (And.intro (H127.out.1.new K27.out) (And.intro (H127.out.2.1.new K27.out) (And.intro (H127.out.2.2.1.new K27.out) (And.intro (H127.out.2.2.2.1.new K27.out) (And.intro (H127.out.2.2.2.2.1.new K27.out) (And.intro (H127.out.2.2.2.2.2.1.new K27.out) (And.intro (H127.out.2.2.2.2.2.2.1.new K27.out) (And.intro (H127.out.2.2.2.2.2.2.2.1.new K27.out) (And.intro (H127.out.2.2.2.2.2.2.2.2.1.new K27.out) (And.intro (H127.out.2.2.2.2.2.2.2.2.2.1.new K27.out) (And.intro (H127.out.2.2.2.2.2.2.2.2.2.2.1.new K27.out) (And.intro (H127.out.2.2.2.2.2.2.2.2.2.2.2.1.new K27.out) (H127.out.2.2.2.2.2.2.2.2.2.2.2.2.new K27.out)))))))))))))
    clear H127
    go_wp2
    go_ret
    exact ⟨rfl, H128.out.2.2.2.2.2.2.2.2.2.2.2.2⟩
  · have hY0 := Lib.hid hY
    clear hY
    have hzc0 := (H124.out.2.2.2.2.2.1).c0
    have hzy0 := (H124.out.2.1).c0
    have hzc1 := (H124.out.2.2.2.2.2.1).c1
    have hzy1 := (H124.out.2.1).c1
    go_wp2_with fail
    clear hzc0 hzy0 hzc1 hzy1
    refine (wdiv_s q4 _ _ _ _ H124.out.2.2.2.2.2.1.2 H124.out.2.1.2 (Sm.of (natAbs_mul_lt (natAbs_add_lt (num_lt l 0) (num_lt l 6)) (num_lt l 12)) (by decide)) (Sm.of (num_lt l 6) (by decide)) hY0.out).mono ?_
    rintro e u24 ⟨sq, Aq, nq, cq, sr, Ar, nr, cr, rfl, K24⟩
    have H125 := Lib.hid (And.intro (H124.out.1.new K24.out.2.2) (And.intro (H124.out.2.1.new K24.out.2.2) (And.intro (H124.out.2.2.1.new K24.out.2.2) (And.intro (H124.out.2.2.2.1.new K24.out.2.2) (And.intro (H124.out.2.2.2.2.1.new K24.out.2.2) (And.intro (H124.out.2.2.2.2.2.1.new K24.out.2.2) (And.intro (H124.out.2.2.2.2.2.2.1.new K24.out.2.2) (And.intro (H124.out.2.2.2.2.2.2.2.1.new K24.out.2.2) (And.intro (H124.out.2.2.2.2.2.2.2.2.1.new K24.out.2.2) (And.intro (H124.out.2.2.2.2.2.2.2.2.2.1.new K24.out.2.2) (H124.out.2.2.2.2.2.2.2.2.2.2.new K24.out.2.2)))))))))))
    clear H124
    have hzy0 := (H125.out.2.1.new (((Chg.refl (fun _ => False) u24).alloc (.cells #[.bool sq, .slice Aq nq cq] 33)).alloc (.cells #[.bool sr, .slice Ar nr cr] 33))).c0
    have hzy1 := (H125.out.2.1.new (((Chg.refl (fun _ => False) u24).alloc (.cells #[.bool sq, .slice Aq nq cq] 33)).alloc (.cells #[.bool sr, .slice Ar nr cr] 33))).c1
    go_wp2_with fail
    clear hzy0 hzy1
    refine Calls.new2 ?_
    intro W26 hbq hbr hn26 hz26
    obtain ⟨gq, hgq⟩ : ∃ x, u24.heap.size = x := ⟨_, rfl⟩
    obtain ⟨gr, hgr⟩ : ∃ x, u24.heap.size + 1 = x := ⟨_, rfl⟩
    rw [hgq] at hbq
    rw [hgr] at hbr
    simp only [hgr]
    simp only [hgq]
    have hXq : WX W26 gq sq Aq nq cq (((numI l 0) + (numI l 6)) * (numI l 12) / (numI l 6)) := ⟨hbq, K24.out.1.new hn26⟩
    have hXr : WX W26 gr sr Ar nr cr (((numI l 0) + (numI l 6)) * (numI l 12) % (numI l 6)) := ⟨hbr, K24.out.2.1.new hn26⟩
    have H126 := Lib.hid (And.intro (H125.out.1.new hn26) (And.intro (H125.out.2.1.new hn26) (And.intro (H125.out.2.2.1.new hn26) (And.intro (H125.out.2.2.2.1.new hn26) (And.intro (H125.out.2.2.2.2.1.new hn26) (And.intro (H125.out.2.2.2.2.2.1.new hn26) (And.intro (H125.out.2.2.2.2.2.2.1.new hn26) (And.intro (H125.out.2.2.2.2.2.2.2.1.new hn26) (And.intro (H125.out.2.2.2.2.2.2.2.2.1.new hn26) (And.intro (H125.out.2.2.2.2.2.2.2.2.2.1.new hn26) (And.intro hXq (And.intro hXr (H125.out.2.2.2.2.2.2.2.2.2.2.new hn26)))))))))))))
    clear H125
    clear hXq hbq hgq hXr hbr hgr hn26 hz26
    refine (wmul_s W26 _ _ _ _ H126.out.2.2.2.2.2.2.2.2.2.2.1.2 H126.out.2.1.2 (Sm.of (natAbs_div_le _ _ (natAbs_mul_lt (natAbs_add_lt (num_lt l 0) (num_lt l 6)) (num_lt l 12))) (by decide)) (Sm.of (num_lt l 6) (by decide)) (Sm.of (natAbs_mul_lt (natAbs_div_le _ _ (natAbs_mul_lt (natAbs_add_lt (num_lt l 0) (num_lt l 6)) (num_lt l 12))) (num_lt l 6)) (by decide))).mono ?_
    rintro e u25 ⟨sp, Ap, np, cp, rfl, K25⟩
    have H127 := Lib.hid (And.intro (H126.out.1.new K25.out.2) (And.intro (H126.out.2.1.new K25.out.2) (And.intro (H126.out.2.2.1.new K25.out.2) (And.intro (H126.out.2.2.2.1.new K25.out.2) (And.intro (H126.out.2.2.2.2.1.new K25.out.2) (And.intro (H126.out.2.2.2.2.2.1.new K25.out.2) (And.intro (H126.out.2.2.2.2.2.2.1.new K25.out.2) (And.intro (H126.out.2.2.2.2.2.2.2.1.new K25.out.2) (And.intro (H126.out.2.2.2.2.2.2.2.2.1.new K25.out.2) (And.intro (H126.out.2.2.2.2.2.2.2.2.2.1.new K25.out.2) (And.intro (H126.out.2.2.2.2.2.2.2.2.2.2.1.new K25.out.2) (And.intro (H126.out.2.2.2.2.2.2.2.2.2.2.2.1.new K25.out.2) (H126.out.2.2.2.2.2.2.2.2.2.2.2.2.new K25.out.2)))))))))))))
    clear H126
    have hzr0 := (H127.out.2.2.2.2.2.2.2.2.2.2.2.1.new ((Chg.refl (fun _ => False) u25).alloc (.cells #[.bool sp, .slice Ap np cp] 33))).c0
    have hzr1 := (H127.out.2.2.2.2.2.2.2.2.2.2.2.1.new ((Chg.refl (fun _ => False) u25).alloc (.cells #[.bool sp, .slice Ap np cp] 33))).c1
    go_wp2_with fail
    clear hzr0 hzr1
    refine Calls.new1 ?_
    intro W28 hbp hn28 hz28
    obtain ⟨gp, hgp⟩ : ∃ x, u25.heap.size = x := ⟨_, rfl⟩
    rw [hgp] at hbp
    simp only [hgp]
    have hXp : WX W28 gp sp Ap np cp ((((numI l 0) + (numI l 6)) * (numI l 12) / (numI l 6)) * (numI l 6)) := ⟨hbp, K25.out.1.new hn28⟩
    have H128 := Lib.hid (And.intro (H127.out.1.new hn28) (And.intro (H127.out.2.1.new hn28) (And.intro (H127.out.2.2.1.new hn28) (And.intro (H127.out.2.2.2.1.new hn28) (And.intro (H127.out.2.2.2.2.1.new hn28) (And.intro (H127.out.2.2.2.2.2.1.new hn28) (And.intro (H127.out.2.2.2.2.2.2.1.new hn28) (And.intro (H127.out.2.2.2.2.2.2.2.1.new hn28) (And.intro (H127.out.2.2.2.2.2.2.2.2.1.new hn28) (And.intro (H127.out.2.2.2.2.2.2.2.2.2.1.new hn28) (And.intro (H127.out.2.2.2.2.2.2.2.2.2.2.1.new hn28) (And.intro (H127.out.2.2.2.2.2.2.2.2.2.2.2.1.new hn28) (And.intro hXp (H127.out.2.2.2.2.2.2.2.2.2.2.2.2.new hn28))))))))))))))
    clear H127
    clear hXp hbp hgp hn28 hz28
    refine (wadd_s W28 _ _ _ _ H128.out.2.2.2.2.2.2.2.2.2.2.2.2.1.2 H128.out.2.2.2.2.2.2.2.2.2.2.2.1.2 (Sm.of (natAbs_mul_lt (natAbs_div_le _ _ (natAbs_mul_lt (natAbs_add_lt (num_lt l 0) (num_lt l 6)) (num_lt l 12))) (num_lt l 6)) (by decide)) (Sm.of (natAbs_mod_lt _ _ hY0.out (num_lt l 6)) (by decide)) (Sm.of (natAbs_add_lt (natAbs_mul_lt (natAbs_div_le _ _ (natAbs_mul_lt (natAbs_add_lt (num_lt l 0) (num_lt l 6)) (num_lt l 12))) (num_lt l 6)) (Nat.lt_of_lt_of_le (natAbs_mod_lt _ _ hY0.out (num_lt l 6)) (pw2_le (by decide)))) (by decide))).mono ?_
    rintro e u27 ⟨su, Au, nu, cu, rfl, K27⟩
    have H129 := Lib.hid (And.intro (H128.out.1.new K27.out.2) (And.intro (H128.out.2.1.new K27.out.2) (And.intro (H128.out.2.2.1.new K27.out.2) (And.intro (H128.out.2.2.2.1.new K27.out.2) (And.intro (H128.out.2.2.2.2.1.new K27.out.2) (And.intro (H128.out.2.2.2.2.2.1.new K27.out.2) (And.intro (H128.out.2.2.2.2.2.2.1.new K27.out.2) (And.intro (H128.out.2.2.2.2.2.2.2.1.new K27.out.2) (And.intro (H128.out.2.2.2.2.2.2.2.2.1.new K27.out.2) (And.intro (H128.out.2.2.2.2.2.2.2.2.2.1.new K27.out.2) (And.intro (H128.out.2.2.2.2.2.2.2.2.2.2.1.new K27.out.2) (And.intro (H128.out.2.2.2.2.2.2.2.2.2.2.2.1.new K27.out.2) (And.intro (H128.out.2.2.2.2.2.2.2.2.2.2.2.2.1.new K27.out.2) (H128.out.2.2.2.2.2.2.2.2.2.2.2.2.2.new K27.out.2))))))))))))))
    clear H128
    have hza0 := (H129.out.2.1.new ((Chg.refl (fun _ => False) u27).alloc (.cells #[.bool su, .slice Au nu cu] 33))).c0
    have hza1 := (H129.out.2.1.new ((Chg.refl (fun _ => False) u27).alloc (.cells #[.bool su, .slice Au nu cu] 33))).c1
    have hzb0 := (H129.out.2.1.new (((Chg.refl (fun _ => False) u27).alloc (.cells #[.bool su, .slice Au nu cu] 33)).alloc (.cells #[.bool sy, .slice Ay ny cy] 33))).c0
    have hzb1 := (H129.out.2.1.new (((Chg.refl (fun _ => False) u27).alloc (.cells #[.bool su, .slice Au nu cu] 33)).alloc (.cells #[.bool sy, .slice Ay ny cy] 33))).c1
    go_wp2_with fail
    clear hza0 hza1 hzb0 hzb1
    refine Calls.new2 ?_
    intro W30 hbu hbv hn hz
    obtain ⟨gu, hgu⟩ : ∃ x, u27.heap.size = x := ⟨_, rfl⟩
    obtain ⟨gv, hgv⟩ : ∃ x, u27.heap.size + 1 = x := ⟨_, rfl⟩
    have TN := H129.out.2.2.2.2.2.2.2.2.2.2.2.2.2
    have TC := H129.out.2.2.2.2.2.1
    have TR := H129.out.2.2.2.2.2.2.2.2.2.2.2.1
    have TY := H129.out.2.1
    have nu : gu ≠ gv := by omega
    have nc' : gc ≠ gv := by have := TC.1.lt; omega
    have nr' : gr ≠ gv := by have := TR.1.lt; omega
    have nw : w.heap.size ≤ gv := by have := TN.size; omega
    have hne := Lib.hid (And.intro nu (And.intro nc' (And.intro nr' nw)))
    clear nu nc' nr' nw
    rw [hgu] at hbu
    rw [hgv] at hbv
    simp only [hgv]
    simp only [hgu]
    have TU : WX W30 gu su Au nu cu (((numI l 0) + (numI l 6)) * (numI l 12)) := ⟨hbu, by have := K27.out.1.new hn; rwa [show (((numI l 0) + (numI l 6)) * (numI l 12) / (numI l 6)) * (numI l 6) + (((numI l 0) + (numI l 6)) * (numI l 12) % (numI l 6)) = ((numI l 0) + (numI l 6)) * (numI l 12) from by rw [Int.mul_comm]; exact Int.mul_ediv_add_emod _ _] at this⟩
    have HH := Lib.hid (And.intro TU (And.intro (TC.new hn) (And.intro (TR.new hn) (And.intro (TY.new hn) (And.intro hbv (TN.new hn))))))
    clear TU TC TR TY TN hbu hbv hn hz hgu hgv H129
    have hR0 : 0 ≤ ((numI l 0) + (numI l 6)) * (numI l 12) % (numI l 6) := Int.emod_nonneg _ hY0.out
    have hR1 : ((numI l 0) + (numI l 6)) * (numI l 12) % (numI l 6) < ((numI l 6).natAbs : Int) := by have := Int.emod_lt (((numI l 0) + (numI l 6)) * (numI l 12)) hY0.out; omega
    obtain ⟨cs, hcs, hcs'⟩ : ∃ cs, cmpI (((numI l 0) + (numI l 6)) * (numI l 12) % (numI l 6)) 0 = cs ∧ (cs = 0 ∨ cs = 1) := by
      by_cases h : ((numI l 0) + (numI l 6)) * (numI l 12) % (numI l 6) = 0
      · exact ⟨0, cmpI_eq h, .inl rfl⟩
      · exact ⟨1, cmpI_gt (by omega), .inr rfl⟩
    have HM := Lib.hid (And.intro hR1 hcs)
    clear hR0 hR1 hcs
    rcases Int.lt_or_gt_of_ne hY0.out with hYs' | hYs'
    · have hYs := Lib.hid hYs'
      clear hYs'
      refine (sign_s W30 _ _ (-1) HH.out.2.2.2.1.2 (cmpI_lt hYs.out)).mono ?_
      rintro e v1 ⟨rfl, L1⟩
      have hzy0 := (HH.out.2.2.2.1.new L1.out).c0
      have hzy1 := (HH.out.2.2.2.1.new L1.out).c1
      go_wp2_with fail
      clear hzy0 hzy1
      refine (neg_s v1 _ _ (HH.out.2.2.2.1.new L1.out).2).mono ?_
      rintro e v2 ⟨s2, A2, n2, c2, rfl, L2⟩
      have hn := L1.out.new L2.out.2
      have hv := HH.out.2.2.2.2.1.chg hn (fun h => h)
      have f0 := hv.frozen 0
      have f1 := hv.frozen 1
      have z0 := hv.cell 0 (u := .bool sy) rfl
      have z1 := hv.cell 1 (u := .slice Ay ny cy) rfl
      have hb1 := hv.set2 (.bool s2) (.slice A2 n2 c2)
      have hg := Chg.at2 v2 gv (.bool s2) (.slice A2 n2 c2)
      have TU : WX _ gu su Au nu cu _ := ⟨((HH.out.1.new hn).1.chg hg hne.out.1), (HH.out.1.new hn).2.store hv (noInt_two _ _ _ _) hg⟩
      have TC : WX _ gc sc Ac nc cc _ := ⟨((HH.out.2.1.new hn).1.chg hg hne.out.2.1), (HH.out.2.1.new hn).2.store hv (noInt_two _ _ _ _) hg⟩
      have TR : WX _ gr sr Ar nr cr _ := ⟨((HH.out.2.2.1.new hn).1.chg hg hne.out.2.2.1), (HH.out.2.2.1.new hn).2.store hv (noInt_two _ _ _ _) hg⟩
      have TV : WX _ gv s2 A2 n2 c2 _ := ⟨hb1, L2.out.1.store hv (noInt_two _ _ _ _) hg⟩
      have TN : New w _ := Chg.owned (HH.out.2.2.2.2.2.new hn) hg (fun k e => by have := hne.out.2.2.2; omega)
      have f2 := (hv.set_ 0 (.bool s2)).frozen 1
      go_upto_region 23 with fail
      generalize hW9 : (v2.setCell ⟨gv, 0, none⟩ (.bool s2)).setCell ⟨gv, 1, none⟩ (.slice A2 n2 c2) = W9 at TU TC TR TV TN ⊢
      have FF := Lib.hid (And.intro TU (And.intro TC (And.intro TR (And.intro TV TN))))
      clear TU TC TR TV TN hb1 hg f0 f1 f2 z0 z1 hv hn HH hW9
      rcases hcs' with rfl | rfl
      all_goals
        have hzu0 := FF.out.1.c0
        have hzu1 := FF.out.1.c1
        have hzc0 := FF.out.2.1.c0
        have hzc1 := FF.out.2.1.c1
        go_wp2_with fail
        clear hzu0 hzu1 hzc0 hzc1
        refine (compare_s W9 _ _ _ _ 0 FF.out.1.2 FF.out.2.1.2 (cmpI_eq rfl)).mono ?_
        rintro e a1 ⟨rfl, J1⟩
        have F1 := Lib.hid (And.intro (FF.out.2.2.1.new J1.out) (And.intro (FF.out.2.2.2.1.new J1.out) (FF.out.2.2.2.2.new J1.out)))
        clear FF
        have hzr0 := F1.out.1.c0
        have hzr1 := F1.out.1.c1
        go_wp2_with fail
        clear hzr0 hzr1
        refine (sign_s a1 _ _ _ F1.out.1.2 HM.out.2).mono ?_
        rintro e a2 ⟨rfl, J2⟩
        have F2 := Lib.hid (And.intro (F1.out.1.new J2.out) (And.intro (F1.out.2.1.new J2.out) (F1.out.2.2.new J2.out)))
        clear F1
        have hzr0 := F2.out.1.c0
        have hzr1 := F2.out.1.c1
        have hzv0 := F2.out.2.1.c0
        have hzv1 := F2.out.2.1.c1
        go_wp2_with fail
        clear hzr0 hzr1 hzv0 hzv1
        refine (compare_s a2 _ _ _ _ (-1) F2.out.1.2 F2.out.2.1.2 (cmpI_lt (by have h1 := HM.out.1; have h2 := hYs.out; omega))).mono ?_
        rintro e a3 ⟨rfl, J3⟩
        have F3 := Lib.hid (F2.out.2.2.new J3.out)
        clear F2
        go_wp2_with fail
        refine (lives_s a3 (HT.out.new F3.out)).mono ?_
        rintro e a4 ⟨rfl, J4⟩
        have F4 := Lib.hid (F3.out.new J4.out)
        clear F3
        go_wp2
        go_ret
        exact ⟨rfl, F4.out⟩
    · have hYs := Lib.hid hYs'
      clear hYs'
      refine (sign_s W30 _ _ 1 HH.out.2.2.2.1.2 (cmpI_gt hYs.out)).mono ?_
      rintro e v1 ⟨rfl, L1⟩
      have TV : WX W30 gv sy Ay ny cy _ := ⟨HH.out.2.2.2.2.1, HH.out.2.2.2.1.2⟩
      have FF := Lib.hid (And.intro (HH.out.1.new L1.out) (And.intro (HH.out.2.1.new L1.out) (And.intro (HH.out.2.2.1.new L1.out) (And.intro (TV.new L1.out) (HH.out.2.2.2.2.2.new L1.out)))))
      clear TV HH
      rcases hcs' with rfl | rfl
      all_goals
        have hzu0 := FF.out.1.c0
        have hzu1 := FF.out.1.c1
        have hzc0 := FF.out.2.1.c0
        have hzc1 := FF.out.2.1.c1
        go_wp2_with fail
        clear hzu0 hzu1 hzc0 hzc1
        refine (compare_s v1 _ _ _ _ 0 FF.out.1.2 FF.out.2.1.2 (cmpI_eq rfl)).mono ?_
        rintro e a1 ⟨rfl, J1⟩
        have F1 := Lib.hid (And.intro (FF.out.2.2.1.new J1.out) (And.intro (FF.out.2.2.2.1.new J1.out) (FF.out.2.2.2.2.new J1.out)))
        clear FF
        have hzr0 := F1.out.1.c0
        have hzr1 := F1.out.1.c1
        go_wp2_with fail
        clear hzr0 hzr1
        refine (sign_s a1 _ _ _ F1.out.1.2 HM.out.2).mono ?_
        rintro e a2 ⟨rfl, J2⟩
        have F2 := Lib.hid (And.intro (F1.out.1.new J2.out) (And.intro (F1.out.2.1.new J2.out) (F1.out.2.2.new J2.out)))
        clear F1
        have hzr0 := F2.out.1.c0
        have hzr1 := F2.out.1.c1
        have hzv0 := F2.out.2.1.c0
        have hzv1 := F2.out.2.1.c1
        go_wp2_with fail
        clear hzr0 hzr1 hzv0 hzv1
        refine (compare_s a2 _ _ _ _ (-1) F2.out.1.2 F2.out.2.1.2 (cmpI_lt (by have h1 := HM.out.1; have h2 := hYs.out; omega))).mono ?_
        rintro e a3 ⟨rfl, J3⟩
        have F3 := Lib.hid (F2.out.2.2.new J3.out)
        clear F2
        go_wp2_with fail
        refine (lives_s a3 (HT.out.new F3.out)).mono ?_
        rintro e a4 ⟨rfl, J4⟩
        have F4 := Lib.hid (F3.out.new J4.out)
        clear F3
        go_wp2
        go_ret
        exact ⟨rfl, F4.out⟩
end Go.Proofs.YtgofjkppeobjfaaDoor
