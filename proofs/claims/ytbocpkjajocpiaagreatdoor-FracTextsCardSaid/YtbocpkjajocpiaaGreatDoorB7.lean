/- The parts Rl1, FrZ, FrO, FrW, Own, Ow, By, Lift, Args of the proof, in one text. -/
import Derived.Lib.ConvBytes
import Derived.Handed
import Derived.Test.YtbocpkjajocpiaaGreatDoorB6
set_option linter.unusedSimpArgs false
set_option linter.unusedVariables false

namespace Go.Proofs.YtbocpkjajocpiaaGreatDoor
set_option linter.unusedVariables false
open Go.RowKit Go.Mem Go.Dig Go.Fr Go.Col

set_option maxRecDepth 100000 in
set_option maxHeartbeats 4000000 in
theorem t_lnumber (w : World) (v : Value) (z : Int) (h : (rfC z).sat v w (fun _ => 0)) : CT0 Tryz.prog 30 #[v] w (wfC (z)) := by
 have hz := h.2; refine enter_st Tryz.func30 rfl Tryz.ntmps30 [(0, v)] rfl ⟨rfl, trivial⟩ (Nat.le_of_ble_eq_true rfl) ?_; intro a0 XE0; obtain ⟨c0, hc0⟩ : ∃ c0 : Colr, c0 = fun _ => 0 := ⟨_, rfl⟩; have XG0 : GI w c0 := hc0 ▸ GI.zero w; have XN0 : Ext [21, 22, 23] w c0 w c0 := Ext.refl rfl XG0; have XL0 : All [.s (Fact.val (rfC (z)) v)] b0 f0 w c0 := ⟨(hc0 ▸ h), trivial⟩; refine wp_seq ?_; refine region_st [[], []] [1, 2] [21, 22] (tyvC [(1, PT), (2, PT)]) XE0 XG0 (All.cn 1 21 26 0 #[] (rfC (z)) (All.cn 2 22 35 1 #[] (wfC (0)) XL0)) (fun Q => ⟨sBox 1 21 (rO 0) (fun K h0 => bxs (rf_str' _) (K.fac.val 2 rfl)), sAlz 2 22 (zeroI _) (wf_zero), trivial⟩) ?_; intro bX fX w1 c1 a1 XG1 yx yA yB yV yO yF; obtain ⟨g1_1, e1⟩ := kp (yV 1 rfl) rfl; obtain ⟨g2_1, e2⟩ := kp (yV 2 rfl) rfl; have XE1 := XE0.up yF yO (ck e1 (ck e2 kn)); have XL1 := (All.cb (yA.nb 0 rfl e1 (yB 0 (by decide))) (All.cb (yA.nb 1 rfl e2 (yB 1 (by decide))) (yA.pk yB rfl []))); have XN1 := XN0.trans yx rfl; clear yx yA yB yV yO yF; show Code.wp _ _ _ _ _; refine wp_seq ?_; refine region_st [[], [0], [1], [2], [3], [3], [], [4, 6], [5]] [3, 4, 5, 6, 7, 8, 9, 10] [23] (tyvC [(3, PT), (4, (iE 0)), (5, (TyC.tup1 (wfC (z)) (Value.int .i64 0))), (6, (rfC (z))), (7, (TyC.eq (Value.string (St (Txt.text z))))), (8, (TyC.tup1 (wfC (z)) (Value.int .i64 0))), (9, (wfC (z))), (10, (iE 0))]) XE1 XG1 (All.cn 3 23 35 7 #[.bool false, .slice none 0 0] (wfC (z)) XL1) (fun Q => ⟨sLb 6 (rO 1) 1 aggN (rf_str' _), sC1 7 (rS 6 0) (fun K h0 => k_rtext h0) Tryz.func20, sC1 8 (rS 7 1) (fun K h0 => by cases h0; exact k_wparse _ (Txt.text z) rfl (ft_short hz) z 0 (parsR_self hz)) Tryz.func19, sMv 5 (rS 8 2), sEx 9 (rS 5 3) ex10, sEx 10 (rS 5 3) ex11, sAl 3 23 (zeroI _), sStn 3 23 6 0 (rS 9 4) aggInt (wf_str _), sMv 4 (rS 10 5), trivial⟩) ?_; intro bX fX w2 c2 a2 XG2 yx yA yB yV yO yF; obtain ⟨g3_2, e3⟩ := kp (yV 3 rfl) rfl; have XE2 := XE1.up yF yO (ck e3 kn); have XL2 := (All.cb (yA.nb 0 rfl e3 (yB 7 (by decide))) (yA.pk yB rfl [2])); have XN2 := XN1.trans yx rfl; clear yx yA yB yV yO yF; show Code.wp _ _ _ _ _; refine wp_seq ?_; refine region_st [[], [0]] [11] [22] (tyvC [(11, (wfC (z)))]) XE2 XG2 (All.stg 1 1 (Fact.box g2_1 35 22 (wfC (z))) XL2) (fun Q => ⟨sLb 11 (rO 3) 0 aggInt (wf_str _), sSto 22 (rO 2) (rS 11 0) aggInt (wf_str _) (fun K => BoxC.old (K.fac.sb0 1 rfl K.self) (wf_str _)) (fun K h0 => h0), trivial⟩) ?_; intro bX fX w3 c3 a3 XG3 yx yA yB yV yO yF; have XE3 := XE2.up yF yO kn; have XL3 := (yA.pk yB rfl [1]); have XN3 := XN2.trans yx rfl; clear yx yA yB yV yO yF; show Code.wp _ _ _ _ _; refine wp_ret ?_; (repeat (first | (with_reducible refine then_ret ?_) | (with_reducible refine inBlock_ret ?_) | (with_reducible refine then_normal ?_) | (with_reducible refine inBlock_normal ?_))); show bodyPost Tryz.prog Tryz.f30 _ Exit.ret a3 w3; obtain ⟨r0, hr0, hs0⟩ := BoxC.load (All.box XL3 0 rfl) aggInt (wf_str _); subst hc0; exact bodyPost_ret (res_c rfl _ (XE3.at 2 rfl) hr0) XE3.2.1 ⟨_, rfl, hs0, XN3.new0⟩

theorem k_lnumber {w : World} {c : Colr} {v : Value} {z : Int} (h : (rfC z).sat v w c) (he : Env w) : CV Tryz.prog 30 #[v] w c (wfC z) := (t_lnumber w v z h).cv (pl_wf _)
theorem k_make_self {w : World} {c : Colr} {v v' : Value} {x : Rat} (h : (wfC x.num).sat v w c) (h' : (wfC (dn x)).sat v' w c) : CV Tryz.prog 29 #[v, v'] w c ((ffC x).tup1 (.int .i64 0)) := by
  have := k_make h h'
  rwa [(mkV_self x).1, (mkV_self x).2] at this
set_option maxRecDepth 100000 in
set_option maxHeartbeats 4000000 in
theorem t_lof (w : World) (v : Value) (x : Rat) (h : (rffC x).sat v w (fun _ => 0)) (henv : Env w) : CT0 Tryz.prog 39 #[v] w (ffC (x)) := by
 refine enter_st Tryz.func39 rfl Tryz.ntmps39 [(0, v)] rfl ⟨rfl, trivial⟩ (Nat.le_of_ble_eq_true rfl) ?_; intro a0 XE0; obtain ⟨c0, hc0⟩ : ∃ c0 : Colr, c0 = fun _ => 0 := ⟨_, rfl⟩; have XG0 : GI w c0 := hc0 ▸ GI.zero w; have XN0 : Ext [21, 22, 23] w c0 w c0 := Ext.refl rfl XG0; have XL0 : All [.s (Fact.val (rffC (x)) v)] b0 f0 w c0 := ⟨(hc0 ▸ h), trivial⟩; refine wp_seq ?_; refine region_st [[], []] [1, 2] [21, 22] (tyvC [(1, PT), (2, PT)]) XE0 XG0 (All.cn 1 21 57 0 #[] (rffC (x)) (All.cn 2 22 52 1 #[] (ffC (0)) XL0)) (fun Q => ⟨sBox 1 21 (rO 0) (fun K h0 => bxs (rff_str _) (K.fac.val 2 rfl)), sAlz 2 22 (zeroF _) (ff_zero), trivial⟩) ?_; intro bX fX w1 c1 a1 XG1 yx yA yB yV yO yF; obtain ⟨g1_1, e1⟩ := kp (yV 1 rfl) rfl; obtain ⟨g2_1, e2⟩ := kp (yV 2 rfl) rfl; have XE1 := XE0.up yF yO (ck e1 (ck e2 kn)); have XL1 := (All.cb (yA.nb 0 rfl e1 (yB 0 (by decide))) (All.cb (yA.nb 1 rfl e2 (yB 1 (by decide))) (yA.pk yB rfl []))); have XN1 := XN0.trans yx rfl; clear yx yA yB yV yO yF; show Code.wp _ _ _ _ _; refine wp_seq ?_; refine region_st [[], [0], [1], [], [3], [4], [2, 5], [6], [7], [7], [], [8, 10], [9]] [3, 4, 5, 6, 7, 8, 9, 10, 11, 12, 13, 14] [23] (tyvC [(3, PT), (4, (iE 0)), (5, (TyC.tup1 (ffC (x)) (Value.int .i64 0))), (6, (pE g1_1 0)), (7, (rfC ((x).num))), (8, (wfC ((x).num))), (9, (pE g1_1 2)), (10, (rfC (dn (x)))), (11, (wfC (dn (x)))), (12, (TyC.tup1 (ffC (x)) (Value.int .i64 0))), (13, (ffC (x))), (14, (iE 0))]) XE1 XG1 (All.cn 3 23 52 11 #[.bool false, .slice none 0 0, .bool false, .slice none 0 0] (ffC (x)) XL1) (fun Q => ⟨sFa 6 (rO 1) (fld_r0 _), sLf 7 (rS 6 0) (fun K => lr_P (K.fac.box 1 rfl)), sC1 8 (rS 7 1) (fun K h0 => k_lnumber h0 (env_at henv (XN1.trans K.ext rfl) hc0)) Tryz.func30, sFa 9 (rO 1) (fld_r1 _), sLf 10 (rS 9 3) (fun K => lr_Q (K.fac.box 1 rfl)), sC1 11 (rS 10 4) (fun K h0 => k_lnumber h0 (env_at henv (XN1.trans K.ext rfl) hc0)) Tryz.func30, sC2 12 (rS 8 2) (rS 11 5) (fun K h0 h1 => k_make_self h0 h1) Tryz.func29, sMv 5 (rS 12 6), sEx 13 (rS 5 7) ex10, sEx 14 (rS 5 7) ex11, sAl 3 23 (zeroF _), sStn 3 23 10 0 (rS 13 8) aggF (ff_str _), sMv 4 (rS 14 9), trivial⟩) ?_; intro bX fX w2 c2 a2 XG2 yx yA yB yV yO yF; obtain ⟨g3_2, e3⟩ := kp (yV 3 rfl) rfl; have XE2 := XE1.up yF yO (ck e3 kn); have XL2 := (All.cb (yA.nb 0 rfl e3 (yB 11 (by decide))) (yA.pk yB rfl [2])); have XN2 := XN1.trans yx rfl; clear yx yA yB yV yO yF; show Code.wp _ _ _ _ _; refine wp_seq ?_; refine region_st [[], [0]] [15] [22] (tyvC [(15, (ffC (x)))]) XE2 XG2 (All.stg 1 1 (Fact.box g2_1 52 22 (ffC (x))) XL2) (fun Q => ⟨sLb 15 (rO 3) 0 aggF (ff_str _), sSto 22 (rO 2) (rS 15 0) aggF (ff_str _) (fun K => BoxC.old (K.fac.sb0 1 rfl K.self) (ff_str _)) (fun K h0 => h0), trivial⟩) ?_; intro bX fX w3 c3 a3 XG3 yx yA yB yV yO yF; have XE3 := XE2.up yF yO kn; have XL3 := (yA.pk yB rfl [1]); have XN3 := XN2.trans yx rfl; clear yx yA yB yV yO yF; show Code.wp _ _ _ _ _; refine wp_ret ?_; (repeat (first | (with_reducible refine then_ret ?_) | (with_reducible refine inBlock_ret ?_) | (with_reducible refine then_normal ?_) | (with_reducible refine inBlock_normal ?_)))
 show bodyPost Tryz.prog Tryz.f39 _ Exit.ret a3 w3; obtain ⟨r0, hr0, hs0⟩ := BoxC.load (All.box XL3 0 rfl) aggF (ff_str _); subst hc0; exact bodyPost_ret (res_c rfl _ (XE3.at 2 rfl) hr0) XE3.2.1 ⟨_, rfl, hs0, XN3.new0⟩

theorem k_lof {w : World} {c : Colr} {v : Value} {x : Rat} (h : (rffC x).sat v w c) (he : Env w) : CV Tryz.prog 39 #[v] w c (ffC x) := (t_lof w v x h he).cv (pl_ff _)
set_option maxRecDepth 100000 in
set_option maxHeartbeats 4000000 in
theorem t_lsame (w : World) (v v' : Value) (x : Rat) (h : (ffC x).sat v w (fun _ => 0)) (h' : (rffC x).sat v' w (fun _ => 0)) (henv : Env w) : CT0 Tryz.prog 32 #[v, v'] w (bE true) := by
 refine enter_st Tryz.func32 rfl Tryz.ntmps32 [(0, v), (1, v')] rfl ⟨rfl, rfl, trivial⟩ (Nat.le_of_ble_eq_true rfl) ?_; intro a0 XE0; obtain ⟨c0, hc0⟩ : ∃ c0 : Colr, c0 = fun _ => 0 := ⟨_, rfl⟩; have XG0 : GI w c0 := hc0 ▸ GI.zero w; have XN0 : Ext [21, 22] w c0 w c0 := Ext.refl rfl XG0; have XL0 : All [.s (Fact.val (ffC (x)) v), .s (Fact.val (rffC (x)) (v'))] b0 f0 w c0 := ⟨(hc0 ▸ h), (hc0 ▸ h'), trivial⟩; refine wp_seq ?_; refine region_st [[], [], []] [2, 3, 4] [21, 22] (tyvC [(2, PT), (3, PT), (4, (bE false))]) XE0 XG0 (All.cn 2 21 52 0 #[] (ffC (x)) (All.cn 3 22 57 1 #[] (rffC (x)) XL0)) (fun Q => ⟨sBox 2 21 (rO 0) (fun K h0 => bxs (ff_str _) (K.fac.val 2 rfl)), sBox 3 22 (rO 1) (fun K h0 => bxs (rff_str _) (K.fac.val 3 rfl)), sMv 4 (rK (Value.bool false)), trivial⟩) ?_; intro bX fX w1 c1 a1 XG1 yx yA yB yV yO yF; obtain ⟨g2_1, e2⟩ := kp (yV 2 rfl) rfl; obtain ⟨g3_1, e3⟩ := kp (yV 3 rfl) rfl; have XE1 := XE0.up yF yO (ck e2 (ck e3 (ck (kv (yV 4 rfl) rfl) kn))); have XL1 := (All.cb (yA.nb 0 rfl e2 (yB 0 (by decide))) (All.cb (yA.nb 1 rfl e3 (yB 1 (by decide))) (yA.pk yB rfl []))); have XN1 := XN0.trans yx rfl; clear yx yA yB yV yO yF; show Code.wp _ _ _ _ _; refine wp_seq ?_; refine region_st [[], [0], [1], [], [3], [4], [2, 5], [6], [7], [7, 8], [7, 9], [7], [7, 11], [7, 12], [7, 10, 13], [7, 14], [15]] [4, 5, 6, 7, 8, 9, 10, 11, 12, 13, 14, 15, 16, 17, 18, 19, 20] [] (tyvC [(4, (bE true)), (5, (ffC (x))), (6, (wfC (x.num))), (7, (TyC.eq (Value.string (St (Txt.text x.num))))), (8, (pE g3_1 0)), (9, (rfC ((x).num))), (10, (TyC.eq (Value.string (St (Txt.text ((x).num)))))), (11, (bE true)), (12, (bE true)), (13, (ffC (x))), (14, (wfC (dn x))), (15, (TyC.eq (Value.string (St (Txt.text (dn x)))))), (16, (pE g3_1 2)), (17, (rfC (dn (x)))), (18, (TyC.eq (Value.string (St (Txt.text (dn (x))))))), (19, (bE true)), (20, (bE true))]) XE1 XG1 XL1 (fun Q => ⟨sLb 5 (rO 2) 0 aggF (ff_str _), sC1 6 (rS 5 0) (fun K h0 => k_num h0) Tryz.func63, sC1 7 (rS 6 1) (fun K h0 => k_wstring h0 (env_at henv (XN1.trans K.ext rfl) hc0).1) Tryz.func23, sFa 8 (rO 3) (fld_r0 _), sLf 9 (rS 8 3) (fun K => lr_P (K.fac.box 1 rfl)), sC1 10 (rS 9 4) (fun K h0 => k_rtext h0) Tryz.func20, sBin 11 (rS 7 2) (rS 10 5) (fun h h' => ⟨h, h'⟩) (eqg_str _ _ _ _ _ _) (run_eqls_self _ _), sMv 12 (rS 11 6), sLb 13 (rO 2) 0 aggF (ff_str _), sC1 14 (rS 13 8) (fun K h0 => k_den h0) Tryz.func64, sC1 15 (rS 14 9) (fun K h0 => k_wstring h0 (env_at henv (XN1.trans K.ext rfl) hc0).1) Tryz.func23, sFa 16 (rO 3) (fld_r1 _), sLf 17 (rS 16 11) (fun K => lr_Q (K.fac.box 1 rfl)), sC1 18 (rS 17 12) (fun K h0 => k_rtext h0) Tryz.func20, sBin 19 (rS 15 10) (rS 18 13) (fun h h' => ⟨h, h'⟩) (eqg_str _ _ _ _ _ _) (run_eqls_self _ _), sPkt 20 (rS 12 7) (rS 19 14), sMv 4 (rS 20 15), trivial⟩) ?_; intro bX fX w2 c2 a2 XG2 yx yA yB yV yO yF; have XE2 := XE1.up yF yO (ck (kv (yV 4 rfl) rfl) kn); have XL2 := (yA.pk yB rfl []); have XN2 := XN1.trans yx rfl; clear yx yA yB yV yO yF; show Code.wp _ _ _ _ _; refine wp_ret ?_
 (repeat (first | (with_reducible refine then_ret ?_) | (with_reducible refine inBlock_ret ?_) | (with_reducible refine then_normal ?_) | (with_reducible refine inBlock_normal ?_))); show bodyPost Tryz.prog Tryz.f32 _ Exit.ret a2 w2; subst hc0; exact bodyPost_ret (res_t rfl _ (XE2.at 4 rfl)) XE2.2.1 ⟨_, rfl, rfl, XN2.new0⟩

theorem k_lsame {w : World} {c : Colr} {v v' : Value} {x y : Rat} (h : (ffC x).sat v w c) (h' : (rffC y).sat v' w c) (he : Env w) (e : x = y) : CV Tryz.prog 32 #[v, v'] w c (TyC.eq (.bool true)) := by
  subst e
  exact (t_lsame w v v' x h h' he).cv (plain_eq _)
set_option maxRecDepth 100000 in
set_option maxHeartbeats 4000000 in
theorem t_lwhole (w : World) (n : Int) (hn : I64 n) : CT0 Tryz.prog 34 #[Value.int .i64 n] w (ffC (((n : Int) : Rat))) := by
 rw [← mkV_int n]; refine enter_st Tryz.func34 rfl Tryz.ntmps34 [(0, Value.int .i64 n)] rfl ⟨rfl, trivial⟩ (Nat.le_of_ble_eq_true rfl) ?_; intro a0 XE0; obtain ⟨c0, hc0⟩ : ∃ c0 : Colr, c0 = fun _ => 0 := ⟨_, rfl⟩; have XG0 : GI w c0 := hc0 ▸ GI.zero w; have XN0 : Ext [21, 22] w c0 w c0 := Ext.refl rfl XG0; have XL0 : All [] b0 f0 w c0 := trivial; refine wp_seq ?_; refine region_st [[]] [2] [21] (tyvC [(2, PT)]) XE0 XG0 (All.cn 2 21 52 0 #[] (ffC (0)) XL0) (fun Q => ⟨sAlz 2 21 (zeroF _) (ff_zero), trivial⟩) ?_; intro bX fX w1 c1 a1 XG1 yx yA yB yV yO yF; obtain ⟨g2_1, e2⟩ := kp (yV 2 rfl) rfl; have XE1 := XE0.up yF yO (ck e2 kn); have XL1 := (All.cb (yA.nb 0 rfl e2 (yB 0 (by decide))) (yA.pk yB rfl [])); have XN1 := XN0.trans yx rfl; clear yx yA yB yV yO yF; show Code.wp _ _ _ _ _; refine wp_seq ?_; refine region_st [[], [0], [1], [2], [2], [], [3, 5], [4]] [3, 4, 5, 6, 7, 8, 9] [22] (tyvC [(3, PT), (4, (iE (mkE 1))), (5, (TyC.tup1 (ffC (mkV n 1)) (Value.int .i64 (mkE 1)))), (6, (iE n)), (7, (TyC.tup1 (ffC (mkV n 1)) (Value.int .i64 (mkE 1)))), (8, (ffC (mkV n 1))), (9, (iE (mkE 1)))]) XE1 XG1 (All.cn 3 22 52 6 #[.bool false, .slice none 0 0, .bool false, .slice none 0 0] (ffC (mkV n 1)) XL1) (fun Q => ⟨sMv 6 (rO 0), sC2 7 (rS 6 0) (rK (Value.int IntKind.i64 1)) (fun K h0 h1 => by cases h0; exact k_fof (n) (1) (by first | omega | assumption) (by first | omega | assumption)) Tryz.func33, sMv 5 (rS 7 1), sEx 8 (rS 5 2) ex10, sEx 9 (rS 5 2) ex11, sAl 3 22 (zeroF _), sStn 3 22 5 0 (rS 8 3) aggF (ff_str _), sMv 4 (rS 9 4), trivial⟩) ?_; intro bX fX w2 c2 a2 XG2 yx yA yB yV yO yF; obtain ⟨g3_2, e3⟩ := kp (yV 3 rfl) rfl; have XE2 := XE1.up yF yO (ck e3 kn); have XL2 := (All.cb (yA.nb 0 rfl e3 (yB 6 (by decide))) (yA.pk yB rfl [1])); have XN2 := XN1.trans yx rfl; clear yx yA yB yV yO yF; show Code.wp _ _ _ _ _; refine wp_seq ?_; refine region_st [[], [0]] [10] [21] (tyvC [(10, (ffC (mkV n 1)))]) XE2 XG2 (All.stg 1 1 (Fact.box g2_1 52 21 (ffC (mkV n 1))) XL2) (fun Q => ⟨sLb 10 (rO 3) 0 aggF (ff_str _), sSto 21 (rO 2) (rS 10 0) aggF (ff_str _) (fun K => BoxC.old (K.fac.sb0 1 rfl K.self) (ff_str _)) (fun K h0 => h0), trivial⟩) ?_; intro bX fX w3 c3 a3 XG3 yx yA yB yV yO yF; have XE3 := XE2.up yF yO kn; have XL3 := (yA.pk yB rfl [1]); have XN3 := XN2.trans yx rfl; clear yx yA yB yV yO yF; show Code.wp _ _ _ _ _; refine wp_ret ?_; (repeat (first | (with_reducible refine then_ret ?_) | (with_reducible refine inBlock_ret ?_) | (with_reducible refine then_normal ?_) | (with_reducible refine inBlock_normal ?_))); show bodyPost Tryz.prog Tryz.f34 _ Exit.ret a3 w3; obtain ⟨r0, hr0, hs0⟩ := BoxC.load (All.box XL3 0 rfl) aggF (ff_str _); subst hc0; exact bodyPost_ret (res_c rfl _ (XE3.at 2 rfl) hr0) XE3.2.1 ⟨_, rfl, hs0, XN3.new0⟩

theorem k_lwhole {w : World} {c : Colr} (n : Int) (hn : I64 n) : CV Tryz.prog 34 #[.int .i64 n] w c (ffC ((n : Int) : Rat)) := (t_lwhole w n hn).cv (pl_ff _)
set_option maxRecDepth 100000 in
set_option maxHeartbeats 4000000 in
theorem t_lequal (w : World) (v v' : Value) (x y : Rat) (h : (ffC x).sat v w (fun _ => 0)) (h' : (ffC y).sat v' w (fun _ => 0)) (henv : Env w) : CT0 Tryz.prog 53 #[v, v'] w (TyC.eq (Value.bool (ftx x == ftx y))) := by
 refine enter_st Tryz.func53 rfl Tryz.ntmps53 [(0, v), (1, v')] rfl ⟨rfl, rfl, trivial⟩ (Nat.le_of_ble_eq_true rfl) ?_; intro a0 XE0; obtain ⟨c0, hc0⟩ : ∃ c0 : Colr, c0 = fun _ => 0 := ⟨_, rfl⟩; have XG0 : GI w c0 := hc0 ▸ GI.zero w; have XN0 : Ext [21, 22] w c0 w c0 := Ext.refl rfl XG0; have XL0 : All [.s (Fact.val (ffC (x)) v), .s (Fact.val (ffC (y)) (v'))] b0 f0 w c0 := ⟨(hc0 ▸ h), (hc0 ▸ h'), trivial⟩; refine wp_seq ?_; refine region_st [[], [], []] [2, 3, 4] [21, 22] (tyvC [(2, PT), (3, PT), (4, (bE false))]) XE0 XG0 (All.cn 2 21 52 0 #[] (ffC (x)) (All.cn 3 22 52 1 #[] (ffC (y)) XL0)) (fun Q => ⟨sBox 2 21 (rO 0) (fun K h0 => bxs (ff_str _) (K.fac.val 2 rfl)), sBox 3 22 (rO 1) (fun K h0 => bxs (ff_str _) (K.fac.val 3 rfl)), sMv 4 (rK (Value.bool false)), trivial⟩) ?_; intro bX fX w1 c1 a1 XG1 yx yA yB yV yO yF; obtain ⟨g2_1, e2⟩ := kp (yV 2 rfl) rfl; obtain ⟨g3_1, e3⟩ := kp (yV 3 rfl) rfl; have XE1 := XE0.up yF yO (ck e2 (ck e3 (ck (kv (yV 4 rfl) rfl) kn))); have XL1 := (All.cb (yA.nb 0 rfl e2 (yB 0 (by decide))) (All.cb (yA.nb 1 rfl e3 (yB 1 (by decide))) (yA.pk yB rfl []))); have XN1 := XN0.trans yx rfl; clear yx yA yB yV yO yF; show Code.wp _ _ _ _ _; refine wp_seq ?_; refine region_st [[], [0], [], [2], [1, 3], [4]] [4, 5, 6, 7, 8, 9] [] (tyvC [(4, (TyC.eq (Value.bool (ftx x == ftx y)))), (5, (ffC (x))), (6, (TyC.eq (Value.string (St (ftx x))))), (7, (ffC (y))), (8, (TyC.eq (Value.string (St (ftx y))))), (9, (TyC.eq (Value.bool (ftx x == ftx y))))]) XE1 XG1 XL1 (fun Q => ⟨sLb 5 (rO 2) 0 aggF (ff_str _), sC1 6 (rS 5 0) (fun K h0 => k_fstring h0 (env_at henv (XN1.trans K.ext rfl) hc0).1) Tryz.func57, sLb 7 (rO 3) 1 aggF (ff_str _), sC1 8 (rS 7 2) (fun K h0 => k_fstring h0 (env_at henv (XN1.trans K.ext rfl) hc0).1) Tryz.func57, sBin 9 (rS 6 1) (rS 8 3) (fun h h' => ⟨h, h'⟩) (eqg_str _ _ _ _ _ _) (run_eqlS _ _ _), sMv 4 (rS 9 4), trivial⟩) ?_; intro bX fX w2 c2 a2 XG2 yx yA yB yV yO yF; have XE2 := XE1.up yF yO (ck (kv (yV 4 rfl) rfl) kn); have XL2 := (yA.pk yB rfl []); have XN2 := XN1.trans yx rfl; clear yx yA yB yV yO yF; show Code.wp _ _ _ _ _; refine wp_ret ?_; (repeat (first | (with_reducible refine then_ret ?_) | (with_reducible refine inBlock_ret ?_) | (with_reducible refine then_normal ?_) | (with_reducible refine inBlock_normal ?_))); show bodyPost Tryz.prog Tryz.f53 _ Exit.ret a2 w2; subst hc0; exact bodyPost_ret (res_t rfl _ (XE2.at 4 rfl)) XE2.2.1 ⟨_, rfl, rfl, XN2.new0⟩

theorem k_lequal {w : World} {c : Colr} {v v' : Value} {x y : Rat} (h : (ffC x).sat v w c) (h' : (ffC y).sat v' w c) (he : Env w) : CV Tryz.prog 53 #[v, v'] w c (TyC.eq (.bool (decide (x = y)))) := by
  rw [← ftx_beq]
  exact (t_lequal w v v' x y h h' he).cv (plain_eq _)
theorem tmod_emod (n : Int) {m : Int} (hm : 1 ≤ m) : (n.tmod m < 0 → n.tmod m + m = n % m) ∧ (¬ n.tmod m < 0 → n.tmod m = n % m) := by
  have h1 := Int.tmod_eq_emod (a := n) (b := m)
  have h2 := Int.emod_lt_of_pos n (show 0 < m by omega)
  have h3 := Int.emod_nonneg n (show m ≠ 0 by omega)
  rw [h1]
  split
  · omega
  · have : ((m.natAbs : Nat) : Int) = m := by omega
    rw [this]
    omega
set_option maxRecDepth 100000 in
set_option maxHeartbeats 4000000 in
theorem t_laround (w : World) (n m : Int) (hm : 1 ≤ m ∧ m ≤ 1000) (hn : I64 n) : CT0 Tryz.prog 49 #[Value.int .i64 n, Value.int .i64 m] w (iE (n % m)) := by
 obtain ⟨q1, q2⟩ := tmod_emod n hm.1; have q3 := Int.emod_lt_of_pos n (show 0 < m by omega); have q4 := Int.emod_nonneg n (show m ≠ 0 by omega); refine enter_st Tryz.func49 rfl Tryz.ntmps49 [(0, Value.int .i64 n), (1, Value.int .i64 m)] rfl ⟨rfl, rfl, trivial⟩ (Nat.le_of_ble_eq_true rfl) ?_; intro a0 XE0; obtain ⟨c0, hc0⟩ : ∃ c0 : Colr, c0 = fun _ => 0 := ⟨_, rfl⟩; have XG0 : GI w c0 := hc0 ▸ GI.zero w; have XN0 : Ext [] w c0 w c0 := Ext.refl rfl XG0; have XL0 : All [] b0 f0 w c0 := trivial; refine wp_seq ?_; refine region_st [[]] [4] [] (tyvC [(4, (iE 0))]) XE0 XG0 XL0 (fun Q => ⟨sMv 4 (rK (Value.int IntKind.i64 0)), trivial⟩) ?_; intro bX fX w1 c1 a1 XG1 yx yA yB yV yO yF; have XE1 := XE0.up yF yO (ck (kv (yV 4 rfl) rfl) kn); have XL1 := (yA.pk yB rfl []); have XN1 := XN0.trans yx rfl; clear yx yA yB yV yO yF; show Code.wp _ _ _ _ _; refine wp_seq ?_; refine region_st [[], [], [0, 1], [2]] [5, 6, 7, 8] [] (tyvC [(5, (iE (Int.tmod n m))), (6, (iE n)), (7, (iE m)), (8, (iE (Int.tmod n m)))]) XE1 XG1 XL1 (fun Q => ⟨sMv 6 (rO 0), sMv 7 (rO 1), sBin 8 (z := Value.int .i64 n) (z' := Value.int .i64 m) (u := Value.int .i64 (Int.tmod n m)) (rS 6 0) (rS 7 1) (fun h h' => ⟨h, h'⟩) (eqg_int _ _ _ _ _ _ _ _) (run_rem_i _ _ _ (by omega)), sMv 5 (rS 8 2), trivial⟩) ?_; intro bX fX w2 c2 a2 XG2 yx yA yB yV yO yF; have XE2 := XE1.up yF yO (ck (kv (yV 5 rfl) rfl) kn); have XL2 := (yA.pk yB rfl []); have XN2 := XN1.trans yx rfl; clear yx yA yB yV yO yF; show Code.wp _ _ _ _ _; refine wp_seq ?_; refine wp_seq ?_; by_cases hg : n.tmod m < 0
 · skip
   refine region_st [[], [0]] [9, 10] [] (tyvC [(9, (iE (Int.tmod n m))), (10, (bE true))]) XE2 XG2 XL2 (fun Q => ⟨sMv 9 (rO 5), sBin 10 (z := Value.int .i64 (Int.tmod n m)) (z' := Value.int IntKind.i64 0) (u := Value.bool true) (rS 9 0) (rK (Value.int IntKind.i64 0)) (fun h h' => ⟨h, rfl⟩) (eqg_int _ _ _ _ _ _ _ _) (run_as (run_lss _ _ _ _) (by simp [hg])), trivial⟩) ?_; intro bX fX w3 c3 a3 XG3 yx yA yB yV yO yF; have XE3 := XE2.up yF yO (ck (kv (yV 10 rfl) rfl) kn); have XL3 := (yA.pk yB rfl []); have XN3 := XN2.trans yx rfl; clear yx yA yB yV yO yF; show Code.wp _ _ _ _ _; refine wp_cond (t := true) (XE3.at 10 rfl) ?_; refine region_st [[], [], [0, 1], [0, 2]] [5, 11, 12, 13] [] (tyvC [(5, (iE (n % m))), (11, (iE (Int.tmod n m))), (12, (iE m)), (13, (iE (n % m)))]) XE3 XG3 XL3 (fun Q => ⟨sMv 11 (rP 5 3), sMv 12 (rO 1), sBin 13 (z := Value.int .i64 (Int.tmod n m)) (z' := Value.int .i64 m) (u := Value.int .i64 (n % m)) (rS 11 0) (rS 12 1) (fun h h' => ⟨h, h'⟩) (eqg_int _ _ _ _ _ _ _ _) (run_as (run_add' _ _ _) (by rw [q1 hg, IntWalk.i64_in _ (by omega)])), sMv 5 (rS 13 2), trivial⟩) ?_; intro bX fX w4 c4 a4 XG4 yx yA yB yV yO yF; have XE4 := XE3.up yF yO (ck (kv (yV 5 rfl) rfl) kn); have XL4 := (yA.pk yB rfl []); have XN4 := XN3.trans yx rfl; clear yx yA yB yV yO yF; show Code.wp _ _ _ _ _; refine wp_seq ?_; refine region_st [[], [0]] [4, 14] [] (tyvC [(4, (iE (n % m))), (14, (iE (n % m)))]) XE4 XG4 XL4 (fun Q => ⟨sMv 14 (rO 5), sMv 4 (rS 14 0), trivial⟩) ?_; intro bX fX w5 c5 a5 XG5 yx yA yB yV yO yF; have XE5 := XE4.up yF yO (ck (kv (yV 4 rfl) rfl) kn); have XL5 := (yA.pk yB rfl []); have XN5 := XN4.trans yx rfl; clear yx yA yB yV yO yF; show Code.wp _ _ _ _ _; refine wp_ret ?_; (repeat (first | (with_reducible refine then_ret ?_) | (with_reducible refine inBlock_ret ?_) | (with_reducible refine then_normal ?_) | (with_reducible refine inBlock_normal ?_))); show bodyPost Tryz.prog Tryz.f49 _ Exit.ret a5 w5; subst hc0; exact bodyPost_ret (res_t rfl _ (XE5.at 4 rfl)) XE5.2.1 ⟨_, rfl, rfl, XN5.new0⟩
 · rw [← q2 hg]
   refine region_st [[], [0]] [9, 10] [] (tyvC [(9, (iE (Int.tmod n m))), (10, (bE false))]) XE2 XG2 XL2 (fun Q => ⟨sMv 9 (rO 5), sBin 10 (z := Value.int .i64 (Int.tmod n m)) (z' := Value.int IntKind.i64 0) (u := Value.bool false) (rS 9 0) (rK (Value.int IntKind.i64 0)) (fun h h' => ⟨h, rfl⟩) (eqg_int _ _ _ _ _ _ _ _) (run_as (run_lss _ _ _ _) (by simp [hg])), trivial⟩) ?_; intro bX fX w6 c6 a6 XG6 yx yA yB yV yO yF; have XE6 := XE2.up yF yO (ck (kv (yV 10 rfl) rfl) kn); have XL6 := (yA.pk yB rfl []); have XN6 := XN2.trans yx rfl; clear yx yA yB yV yO yF; show Code.wp _ _ _ _ _; refine wp_cond (t := false) (XE6.at 10 rfl) ?_; refine wp_skip ?_; show Code.wp _ _ _ _ _; refine wp_seq ?_; refine region_st [[], [0]] [4, 14] [] (tyvC [(4, (iE (Int.tmod n m))), (14, (iE (Int.tmod n m)))]) XE6 XG6 XL6 (fun Q => ⟨sMv 14 (rO 5), sMv 4 (rS 14 0), trivial⟩) ?_; intro bX fX w7 c7 a7 XG7 yx yA yB yV yO yF; have XE7 := XE6.up yF yO (ck (kv (yV 4 rfl) rfl) kn); have XL7 := (yA.pk yB rfl []); have XN7 := XN6.trans yx rfl; clear yx yA yB yV yO yF; show Code.wp _ _ _ _ _; refine wp_ret ?_; (repeat (first | (with_reducible refine then_ret ?_) | (with_reducible refine inBlock_ret ?_) | (with_reducible refine then_normal ?_) | (with_reducible refine inBlock_normal ?_))); show bodyPost Tryz.prog Tryz.f49 _ Exit.ret a7 w7; subst hc0; exact bodyPost_ret (res_t rfl _ (XE7.at 4 rfl)) XE7.2.1 ⟨_, rfl, rfl, XN7.new0⟩

theorem k_laround {w : World} {c : Colr} {n m : Int} (hm : 1 ≤ m ∧ m ≤ 1000) (hn : I64 n) : CV Tryz.prog 49 #[.int .i64 n, .int .i64 m] w c (TyC.eq (.int .i64 (n % m))) := (t_laround w n m hm hn).cv (plain_eq _)
set_option maxRecDepth 100000 in
set_option maxHeartbeats 4000000 in
theorem t_llives (w : World) (henv : Env w) : CT0 Tryz.prog 36 #[] w (bE true) := by
 refine enter_st Tryz.func36 rfl Tryz.ntmps36 [] rfl trivial (Nat.le_of_ble_eq_true rfl) ?_; intro a0 XE0; obtain ⟨c0, hc0⟩ : ∃ c0 : Colr, c0 = fun _ => 0 := ⟨_, rfl⟩; have XG0 : GI w c0 := hc0 ▸ GI.zero w; have XN0 : Ext [21, 22, 23, 24, 25, 26, 27, 28, 29] w c0 w c0 := Ext.refl rfl XG0; have XL0 : All [] b0 f0 w c0 := trivial; refine wp_seq ?_; refine region_st [[]] [0] [] (tyvC [(0, (bE false))]) XE0 XG0 XL0 (fun Q => ⟨sMv 0 (rK (Value.bool false)), trivial⟩) ?_; intro bX fX w1 c1 a1 XG1 yx yA yB yV yO yF; have XE1 := XE0.up yF yO (ck (kv (yV 0 rfl) rfl) kn); have XL1 := (yA.pk yB rfl []); have XN1 := XN0.trans yx rfl; clear yx yA yB yV yO yF; show Code.wp _ _ _ _ _; refine wp_seq ?_; refine region_st [[], [0], [1], [1], [], [2, 4], [3]] [1, 2, 19, 20, 21, 22] [21] (tyvC [(1, PT), (2, (iE (mkE (-8)))), (19, (TyC.tup1 (ffC (mkV 6 (-8))) (Value.int .i64 (mkE (-8))))), (20, (TyC.tup1 (ffC (mkV 6 (-8))) (Value.int .i64 (mkE (-8))))), (21, (ffC (mkV 6 (-8)))), (22, (iE (mkE (-8))))]) XE1 XG1 (All.cn 1 21 52 5 #[.bool false, .slice none 0 0, .bool false, .slice none 0 0] (ffC (mkV 6 (-8))) XL1) (fun Q => ⟨sC2 20 (rK (Value.int IntKind.i64 6)) (rK (Value.int IntKind.i64 (-8))) (fun K h0 h1 => k_fof (6) (-8) (by first | omega | assumption) (by first | omega | assumption)) Tryz.func33, sMv 19 (rS 20 0), sEx 21 (rS 19 1) ex10, sEx 22 (rS 19 1) ex11, sAl 1 21 (zeroF _), sStn 1 21 4 0 (rS 21 2) aggF (ff_str _), sMv 2 (rS 22 3), trivial⟩) ?_; intro bX fX w2 c2 a2 XG2 yx yA yB yV yO yF; obtain ⟨g1_2, e1⟩ := kp (yV 1 rfl) rfl; have XE2 := XE1.up yF yO (ck e1 (ck (kv (yV 2 rfl) rfl) kn)); have XL2 := (All.cb (yA.nb 0 rfl e1 (yB 5 (by decide))) (yA.pk yB rfl [])); have XN2 := XN1.trans yx rfl; clear yx yA yB yV yO yF; show Code.wp _ _ _ _ _; refine wp_seq ?_; refine region_st [[], [0], [1], [1], [], [2, 4], [3]] [3, 4, 23, 24, 25, 26] [22] (tyvC [(3, PT), (4, (iE (mkE 2))), (23, (TyC.tup1 (ffC (mkV 1 2)) (Value.int .i64 (mkE 2)))), (24, (TyC.tup1 (ffC (mkV 1 2)) (Value.int .i64 (mkE 2)))), (25, (ffC (mkV 1 2))), (26, (iE (mkE 2)))]) XE2 XG2 (All.cn 3 22 52 5 #[.bool false, .slice none 0 0, .bool false, .slice none 0 0] (ffC (mkV 1 2)) XL2) (fun Q => ⟨sC2 24 (rK (Value.int IntKind.i64 1)) (rK (Value.int IntKind.i64 2)) (fun K h0 h1 => k_fof (1) (2) (by first | omega | assumption) (by first | omega | assumption)) Tryz.func33, sMv 23 (rS 24 0), sEx 25 (rS 23 1) ex10, sEx 26 (rS 23 1) ex11, sAl 3 22 (zeroF _), sStn 3 22 4 0 (rS 25 2) aggF (ff_str _), sMv 4 (rS 26 3), trivial⟩) ?_; intro bX fX w3 c3 a3 XG3 yx yA yB yV yO yF; obtain ⟨g3_3, e3⟩ := kp (yV 3 rfl) rfl; have XE3 := XE2.up yF yO (ck e3 kn); have XL3 := (All.cb (yA.nb 0 rfl e3 (yB 5 (by decide))) (yA.pk yB rfl [1])); have XN3 := XN2.trans yx rfl; clear yx yA yB yV yO yF; show Code.wp _ _ _ _ _; have hU1 := All.put (G := Fact.box g3_3 52 22 (ffC (qH))) 0 XL3 (BoxC.up (All.box XL3 0 rfl) (fun v hv => hv)); refine wp_seq ?_; refine region_st [[], [0], [1], [1], [], [2, 4], [3]] [5, 6, 27, 28, 29, 30] [23] (tyvC [(5, PT), (6, (iE (mkE 3))), (27, (TyC.tup1 (ffC (mkV 1 3)) (Value.int .i64 (mkE 3)))), (28, (TyC.tup1 (ffC (mkV 1 3)) (Value.int .i64 (mkE 3)))), (29, (ffC (mkV 1 3))), (30, (iE (mkE 3)))]) XE3 XG3 (All.cn 5 23 52 5 #[.bool false, .slice none 0 0, .bool false, .slice none 0 0] (ffC (mkV 1 3)) hU1) (fun Q => ⟨sC2 28 (rK (Value.int IntKind.i64 1)) (rK (Value.int IntKind.i64 3)) (fun K h0 h1 => k_fof (1) (3) (by first | omega | assumption) (by first | omega | assumption)) Tryz.func33, sMv 27 (rS 28 0), sEx 29 (rS 27 1) ex10, sEx 30 (rS 27 1) ex11, sAl 5 23 (zeroF _), sStn 5 23 4 0 (rS 29 2) aggF (ff_str _), sMv 6 (rS 30 3), trivial⟩) ?_
 intro bX fX w4 c4 a4 XG4 yx yA yB yV yO yF; obtain ⟨g5_4, e5⟩ := kp (yV 5 rfl) rfl; have XE4 := XE3.up yF yO (ck e5 kn); have XL4 := (All.cb (yA.nb 0 rfl e5 (yB 5 (by decide))) (yA.pk yB rfl [1, 2])); have XN4 := XN3.trans yx rfl; clear yx yA yB yV yO yF; show Code.wp _ _ _ _ _; have hU2 := All.put (G := Fact.box g5_4 52 23 (ffC (qT))) 0 XL4 (BoxC.up (All.box XL4 0 rfl) (fun v hv => hv)); refine wp_seq ?_; refine region_st [[], [], [0, 1], [2], [3], [3], [], [4, 6], [5]] [7, 8, 31, 32, 33, 34, 35, 36] [24] (tyvC [(7, PT), (8, (iE (addE qH qT))), (31, (TyC.tup1 (ffC (addV qH qT)) (Value.int .i64 (addE qH qT)))), (32, (ffC (qH))), (33, (ffC (qT))), (34, (TyC.tup1 (ffC (addV qH qT)) (Value.int .i64 (addE qH qT)))), (35, (ffC (addV qH qT))), (36, (iE (addE qH qT)))]) XE4 XG4 (All.cn 7 24 52 7 #[.bool false, .slice none 0 0, .bool false, .slice none 0 0] (ffC (addV qH qT)) hU2) (fun Q => ⟨sLb 32 (rO 3) 2 aggF (ff_str _), sLb 33 (rO 5) 1 aggF (ff_str _), sC2 34 (rS 32 0) (rS 33 1) (fun K h0 h1 => k_fadd h0 h1) Tryz.func40, sMv 31 (rS 34 2), sEx 35 (rS 31 3) ex10, sEx 36 (rS 31 3) ex11, sAl 7 24 (zeroF _), sStn 7 24 6 0 (rS 35 4) aggF (ff_str _), sMv 8 (rS 36 5), trivial⟩) ?_; intro bX fX w5 c5 a5 XG5 yx yA yB yV yO yF; obtain ⟨g7_5, e7⟩ := kp (yV 7 rfl) rfl; have XE5 := XE4.up yF yO (ck e7 (ck (kv (yV 8 rfl) rfl) kn)); have XL5 := (All.cb (yA.nb 0 rfl e7 (yB 7 (by decide))) (yA.pk yB rfl [1, 3])); have XN5 := XN4.trans yx rfl; clear yx yA yB yV yO yF; show Code.wp _ _ _ _ _; refine wp_seq ?_; refine region_st [[], [], [0, 1], [2], [3], [3], [], [4, 6], [5]] [9, 10, 37, 38, 39, 40, 41, 42] [25] (tyvC [(9, PT), (10, (iE (divE ((1 : Int) : Rat) ((0 : Int) : Rat)))), (37, (TyC.tup1 (ffC (divV ((1 : Int) : Rat) ((0 : Int) : Rat))) (Value.int .i64 (divE ((1 : Int) : Rat) ((0 : Int) : Rat))))), (38, (ffC (((1 : Int) : Rat)))), (39, (ffC (((0 : Int) : Rat)))), (40, (TyC.tup1 (ffC (divV ((1 : Int) : Rat) ((0 : Int) : Rat))) (Value.int .i64 (divE ((1 : Int) : Rat) ((0 : Int) : Rat))))), (41, (ffC (divV ((1 : Int) : Rat) ((0 : Int) : Rat)))), (42, (iE (divE ((1 : Int) : Rat) ((0 : Int) : Rat))))]) XE5 XG5 (All.cn 9 25 52 7 #[.bool false, .slice none 0 0, .bool false, .slice none 0 0] (ffC (divV ((1 : Int) : Rat) ((0 : Int) : Rat))) XL5) (fun Q => ⟨sC1 38 (rK (Value.int IntKind.i64 1)) (fun K h0 => k_lwhole 1 (by first | omega | assumption)) Tryz.func34, sC1 39 (rK (Value.int IntKind.i64 0)) (fun K h0 => k_lwhole 0 (by first | omega | assumption)) Tryz.func34, sC2 40 (rS 38 0) (rS 39 1) (fun K h0 h1 => k_fdiv h0 h1) Tryz.func46, sMv 37 (rS 40 2), sEx 41 (rS 37 3) ex10, sEx 42 (rS 37 3) ex11, sAl 9 25 (zeroF _), sStn 9 25 6 0 (rS 41 4) aggF (ff_str _), sMv 10 (rS 42 5), trivial⟩) ?_; intro bX fX w6 c6 a6 XG6 yx yA yB yV yO yF; have XE6 := XE5.up yF yO (ck (kv (yV 10 rfl) rfl) kn); have XL6 := (yA.pk yB rfl [1, 2, 3]); have XN6 := XN5.trans yx rfl; clear yx yA yB yV yO yF; show Code.wp _ _ _ _ _; refine wp_seq ?_; refine region_st [[], [], [0, 1], [2], [3], [3], [], [4, 6], [5]] [11, 12, 43, 44, 45, 46, 47, 48] [26] (tyvC [(11, PT), (12, (iE (addE ((1 : Int) : Rat) (-qT)))), (43, (TyC.tup1 (ffC (addV ((1 : Int) : Rat) (-qT))) (Value.int .i64 (addE ((1 : Int) : Rat) (-qT))))), (44, (ffC (((1 : Int) : Rat)))), (45, (ffC (qT))), (46, (TyC.tup1 (ffC (addV ((1 : Int) : Rat) (-qT))) (Value.int .i64 (addE ((1 : Int) : Rat) (-qT))))), (47, (ffC (addV ((1 : Int) : Rat) (-qT)))), (48, (iE (addE ((1 : Int) : Rat) (-qT))))]) XE6 XG6 (All.cn 11 26 52 7 #[.bool false, .slice none 0 0, .bool false, .slice none 0 0] (ffC (addV ((1 : Int) : Rat) (-qT))) XL6) (fun Q => ⟨sC1 44 (rK (Value.int IntKind.i64 1)) (fun K h0 => k_lwhole 1 (by first | omega | assumption)) Tryz.func34, sLb 45 (rO 5) 2 aggF (ff_str _), sC2 46 (rS 44 0) (rS 45 1) (fun K h0 h1 => k_fsub h0 h1) Tryz.func42, sMv 43 (rS 46 2), sEx 47 (rS 43 3) ex10, sEx 48 (rS 43 3) ex11, sAl 11 26 (zeroF _), sStn 11 26 6 0 (rS 47 4) aggF (ff_str _), sMv 12 (rS 48 5), trivial⟩) ?_
 intro bX fX w7 c7 a7 XG7 yx yA yB yV yO yF; obtain ⟨g11_7, e11⟩ := kp (yV 11 rfl) rfl; have XE7 := XE6.up yF yO (ck e11 kn); have XL7 := (All.cb (yA.nb 0 rfl e11 (yB 7 (by decide))) (yA.pk yB rfl [1, 3])); have XN7 := XN6.trans yx rfl; clear yx yA yB yV yO yF; show Code.wp _ _ _ _ _; refine wp_seq ?_; refine region_st [[], [0], [1], [2], [2], [], [3, 5], [4]] [13, 14, 49, 50, 51, 52, 53] [27] (tyvC [(13, PT), (14, (iE (powE (addV ((1 : Int) : Rat) (-qT)) 3))), (49, (TyC.tup1 (ffC (powV (addV ((1 : Int) : Rat) (-qT)) 3)) (Value.int .i64 (powE (addV ((1 : Int) : Rat) (-qT)) 3)))), (50, (ffC (addV ((1 : Int) : Rat) (-qT)))), (51, (TyC.tup1 (ffC (powV (addV ((1 : Int) : Rat) (-qT)) 3)) (Value.int .i64 (powE (addV ((1 : Int) : Rat) (-qT)) 3)))), (52, (ffC (powV (addV ((1 : Int) : Rat) (-qT)) 3))), (53, (iE (powE (addV ((1 : Int) : Rat) (-qT)) 3)))]) XE7 XG7 (All.cn 13 27 52 6 #[.bool false, .slice none 0 0, .bool false, .slice none 0 0] (ffC (powV (addV ((1 : Int) : Rat) (-qT)) 3)) XL7) (fun Q => ⟨sLb 50 (rO 11) 1 aggF (ff_str _), sC2 51 (rS 50 0) (rK (Value.int IntKind.i64 3)) (fun K h0 h1 => k_fpow (n := 3) (by first | omega | assumption) h0) Tryz.func51, sMv 49 (rS 51 1), sEx 52 (rS 49 2) ex10, sEx 53 (rS 49 2) ex11, sAl 13 27 (zeroF _), sStn 13 27 5 0 (rS 52 3) aggF (ff_str _), sMv 14 (rS 53 4), trivial⟩) ?_; intro bX fX w8 c8 a8 XG8 yx yA yB yV yO yF; obtain ⟨g13_8, e13⟩ := kp (yV 13 rfl) rfl; have XE8 := XE7.up yF yO (ck e13 (ck (kv (yV 14 rfl) rfl) kn)); have XL8 := (All.cb (yA.nb 0 rfl e13 (yB 6 (by decide))) (yA.pk yB rfl [2, 3])); have XN8 := XN7.trans yx rfl; clear yx yA yB yV yO yF; show Code.wp _ _ _ _ _; refine wp_seq ?_; refine region_st [[], [0], [1], [1], [], [2, 4], [3]] [15, 16, 54, 55, 56, 57] [28] (tyvC [(15, PT), (16, (iE (parE [50, 47, 52]))), (54, (TyC.tup1 (ffC (parV [50, 47, 52])) (Value.int .i64 (parE [50, 47, 52])))), (55, (TyC.tup1 (ffC (parV [50, 47, 52])) (Value.int .i64 (parE [50, 47, 52])))), (56, (ffC (parV [50, 47, 52]))), (57, (iE (parE [50, 47, 52])))]) XE8 XG8 (All.cn 15 28 52 5 #[.bool false, .slice none 0 0, .bool false, .slice none 0 0] (ffC (parV [50, 47, 52])) XL8) (fun Q => ⟨sC1 55 (rK (Value.string { data := #[50, 47, 52] })) (fun K h0 => k_fparse [50, 47, 52] (by decide) (env_at henv (XN8.trans K.ext rfl) hc0)) Tryz.func56, sMv 54 (rS 55 0), sEx 56 (rS 54 1) ex10, sEx 57 (rS 54 1) ex11, sAl 15 28 (zeroF _), sStn 15 28 4 0 (rS 56 2) aggF (ff_str _), sMv 16 (rS 57 3), trivial⟩) ?_; intro bX fX w9 c9 a9 XG9 yx yA yB yV yO yF; have XE9 := XE8.up yF yO (ck (kv (yV 16 rfl) rfl) kn); have XL9 := (yA.pk yB rfl [1, 2, 3]); have XN9 := XN8.trans yx rfl; clear yx yA yB yV yO yF; show Code.wp _ _ _ _ _; refine wp_seq ?_; refine region_st [[], [0], [1], [1], [], [2, 4], [3]] [17, 18, 58, 59, 60, 61] [29] (tyvC [(17, PT), (18, (iE (parE [51, 47, 49]))), (58, (TyC.tup1 (ffC (parV [51, 47, 49])) (Value.int .i64 (parE [51, 47, 49])))), (59, (TyC.tup1 (ffC (parV [51, 47, 49])) (Value.int .i64 (parE [51, 47, 49])))), (60, (ffC (parV [51, 47, 49]))), (61, (iE (parE [51, 47, 49])))]) XE9 XG9 (All.cn 17 29 52 5 #[.bool false, .slice none 0 0, .bool false, .slice none 0 0] (ffC (parV [51, 47, 49])) XL9) (fun Q => ⟨sC1 59 (rK (Value.string { data := #[51, 47, 49] })) (fun K h0 => k_fparse [51, 47, 49] (by decide) (env_at henv (XN9.trans K.ext rfl) hc0)) Tryz.func56, sMv 58 (rS 59 0), sEx 60 (rS 58 1) ex10, sEx 61 (rS 58 1) ex11, sAl 17 29 (zeroF _), sStn 17 29 4 0 (rS 60 2) aggF (ff_str _), sMv 18 (rS 61 3), trivial⟩) ?_
 intro bX fX w10 c10 a10 XG10 yx yA yB yV yO yF; have XE10 := XE9.up yF yO (ck (kv (yV 18 rfl) rfl) kn); have XL10 := (yA.pk yB rfl [1, 2, 3]); have XN10 := XN9.trans yx rfl; clear yx yA yB yV yO yF; show Code.wp _ _ _ _ _; refine wp_seq ?_; refine region_st [[], [0], [1], [2], [2, 3], [2, 4], [5], [6], [6, 7], [6, 8], [9], [10], [10, 11], [10, 12], [13], [14], [14, 15], [14, 16], [17], [18], [18, 19], [18, 20], [21], [22], [22, 23], [22, 24], [22, 25], [26], [27], [27, 28], [27, 29], [27, 30], [31], [32], [32, 33], [32, 34], [32, 35], [36]] [0, 62, 63, 64, 65, 66, 67, 68, 69, 70, 71, 72, 73, 74, 75, 76, 77, 78, 79, 80, 81, 82, 83, 84, 85, 86, 87, 88, 89, 90, 91, 92, 93, 94, 95, 96, 97, 98] [] (tyvC [(0, (bE true)), (62, (iE (mkE (-8)))), (63, (bE true)), (64, (bE true)), (65, (iE (addE qH qT))), (66, (bE true)), (67, (bE true)), (68, (bE true)), (69, (iE (divE ((1 : Int) : Rat) ((0 : Int) : Rat)))), (70, (bE true)), (71, (bE true)), (72, (bE true)), (73, (iE (powE (addV ((1 : Int) : Rat) (-qT)) 3))), (74, (bE true)), (75, (bE true)), (76, (bE true)), (77, (iE (parE [50, 47, 52]))), (78, (bE true)), (79, (bE true)), (80, (bE true)), (81, (iE (parE [51, 47, 49]))), (82, (bE true)), (83, (bE true)), (84, (bE true)), (85, (ffC (mkV 6 (-8)))), (86, (TyC.eq (Value.string (St (ftx (mkV 6 (-8))))))), (87, (bE true)), (88, (bE true)), (89, (bE true)), (90, (ffC (addV qH qT))), (91, (TyC.eq (Value.string (St (ftx (addV qH qT)))))), (92, (bE true)), (93, (bE true)), (94, (bE true)), (95, (ffC (powV (addV ((1 : Int) : Rat) (-qT)) 3))), (96, (TyC.eq (Value.string (St (ftx (powV (addV ((1 : Int) : Rat) (-qT)) 3)))))), (97, (bE true)), (98, (bE true))]) XE10 XG10 XL10 (fun Q => ⟨sMv 62 (rO 2), sBin 63 (z := Value.int .i64 (mkE (-8))) (z' := Value.int IntKind.i64 0) (u := Value.bool true) (rS 62 0) (rK (Value.int IntKind.i64 0)) (fun h h' => ⟨h, rfl⟩) (eqg_int _ _ _ _ _ _ _ _) (run_as (run_eql _ _ _ _) (by rw [show mkE (-8) = 0 from rfl]; rfl)), sMv 64 (rS 63 1), sMv 65 (rO 8), sBin 66 (z := Value.int .i64 (addE qH qT)) (z' := Value.int IntKind.i64 0) (u := Value.bool true) (rS 65 3) (rK (Value.int IntKind.i64 0)) (fun h h' => ⟨h, rfl⟩) (eqg_int _ _ _ _ _ _ _ _) (run_as (run_eql _ _ _ _) (by rw [sum_HT.2]; rfl)), sPkt 67 (rS 64 2) (rS 66 4), sMv 68 (rS 67 5), sMv 69 (rO 10), sBin 70 (z := Value.int .i64 (divE ((1 : Int) : Rat) ((0 : Int) : Rat))) (z' := Value.int IntKind.i64 1) (u := Value.bool true) (rS 69 7) (rK (Value.int IntKind.i64 1)) (fun h h' => ⟨h, rfl⟩) (eqg_int _ _ _ _ _ _ _ _) (run_as (run_eql _ _ _ _) (by rw [show divE ((1 : Int) : Rat) ((0 : Int) : Rat) = 1 from if_pos rfl]; rfl)), sPkt 71 (rS 68 6) (rS 70 8), sMv 72 (rS 71 9), sMv 73 (rO 14), sBin 74 (z := Value.int .i64 (powE (addV ((1 : Int) : Rat) (-qT)) 3)) (z' := Value.int IntKind.i64 0) (u := Value.bool true) (rS 73 11) (rK (Value.int IntKind.i64 0)) (fun h h' => ⟨h, rfl⟩) (eqg_int _ _ _ _ _ _ _ _) (run_as (run_eql _ _ _ _) (by rw [lv_h]; rfl)), sPkt 75 (rS 72 10) (rS 74 12), sMv 76 (rS 75 13), sMv 77 (rO 16), sBin 78 (z := Value.int .i64 (parE [50, 47, 52])) (z' := Value.int IntKind.i64 2) (u := Value.bool true) (rS 77 15) (rK (Value.int IntKind.i64 2)) (fun h h' => ⟨h, rfl⟩) (eqg_int _ _ _ _ _ _ _ _) (run_as (run_eql _ _ _ _) (by rw [lv_i]; rfl)), sPkt 79 (rS 76 14) (rS 78 16), sMv 80 (rS 79 17), sMv 81 (rO 18), sBin 82 (z := Value.int .i64 (parE [51, 47, 49])) (z' := Value.int IntKind.i64 2) (u := Value.bool true) (rS 81 19) (rK (Value.int IntKind.i64 2)) (fun h h' => ⟨h, rfl⟩) (eqg_int _ _ _ _ _ _ _ _) (run_as (run_eql _ _ _ _) (by rw [lv_j]; rfl)), sPkt 83 (rS 80 18) (rS 82 20), sMv 84 (rS 83 21), sLb 85 (rO 1) 2 aggF (ff_str _), sC1 86 (rS 85 23) (fun K h0 => k_fstring h0 (env_at henv (XN10.trans K.ext rfl) hc0).1) Tryz.func57, sBin 87 (z := Value.string (St (ftx (mkV 6 (-8))))) (z' := Value.string { data := #[45, 51, 47, 52] }) (u := Value.bool true) (rS 86 24) (rK (Value.string { data := #[45, 51, 47, 52] })) (fun h h' => ⟨h, rfl⟩) (eqg_str _ _ _ _ _ _) (run_as (run_eqlS _ _ [45, 51, 47, 52]) (by rw [lv_a]; rfl)), sPkt 88 (rS 84 22) (rS 87 25), sMv 89 (rS 88 26), sLb 90 (rO 7) 1 aggF (ff_str _), sC1 91 (rS 90 28) (fun K h0 => k_fstring h0 (env_at henv (XN10.trans K.ext rfl) hc0).1) Tryz.func57, sBin 92 (z := Value.string (St (ftx (addV qH qT)))) (z' := Value.string { data := #[53, 47, 54] }) (u := Value.bool true) (rS 91 29) (rK (Value.string { data := #[53, 47, 54] })) (fun h h' => ⟨h, rfl⟩) (eqg_str _ _ _ _ _ _) (run_as (run_eqlS _ _ [53, 47, 54]) (by rw [lv_b]; rfl)), sPkt 93 (rS 89 27) (rS 92 30), sMv 94 (rS 93 31), sLb 95 (rO 13) 0 aggF (ff_str _), sC1 96 (rS 95 33) (fun K h0 => k_fstring h0 (env_at henv (XN10.trans K.ext rfl) hc0).1) Tryz.func57, sBin 97 (z := Value.string (St (ftx (powV (addV ((1 : Int) : Rat) (-qT)) 3)))) (z' := Value.string { data := #[56, 47, 50, 55] }) (u := Value.bool true) (rS 96 34) (rK (Value.string { data := #[56, 47, 50, 55] })) (fun h h' => ⟨h, rfl⟩) (eqg_str _ _ _ _ _ _) (run_as (run_eqlS _ _ [56, 47, 50, 55]) (by rw [lv_c]; rfl)), sPkt 98 (rS 94 32) (rS 97 35), sMv 0 (rS 98 36), trivial⟩) ?_
 intro bX fX w11 c11 a11 XG11 yx yA yB yV yO yF; have XE11 := XE10.up yF yO (ck (kv (yV 0 rfl) rfl) kn); have XL11 := (yA.pk yB rfl []); have XN11 := XN10.trans yx rfl; clear yx yA yB yV yO yF; show Code.wp _ _ _ _ _; refine wp_ret ?_; (repeat (first | (with_reducible refine then_ret ?_) | (with_reducible refine inBlock_ret ?_) | (with_reducible refine then_normal ?_) | (with_reducible refine inBlock_normal ?_))); show bodyPost Tryz.prog Tryz.f36 _ Exit.ret a11 w11; subst hc0; exact bodyPost_ret (res_t rfl _ (XE11.at 0 rfl)) XE11.2.1 ⟨_, rfl, rfl, XN11.new0⟩

theorem k_llives {w : World} {c : Colr} (he : Env w) : CV Tryz.prog 36 #[] w c (TyC.eq (.bool true)) := (t_llives w he).cv (plain_eq _)
end Go.Proofs.YtbocpkjajocpiaaGreatDoor

namespace Go.Proofs.YtbocpkjajocpiaaGreatDoor
set_option linter.unusedVariables false
open Go.RowKit Go.Mem Go.Dig Go.Fr Go.Col

theorem num_lt {a b : Int} (hb : I64 b) {M : Nat} (hM : 1265 ≤ M) : (numV a b).natAbs < 2 ^ M := by
  have h0 : (2 : Nat) ^ 64 ≤ 2 ^ M := Nat.pow_le_pow_right (by omega) (by omega)
  have h64 : ∀ {z : Int}, z.natAbs < 18446744073709551616 → z.natAbs < 2 ^ M := fun h => Nat.lt_of_lt_of_le h h0
  unfold numV
  split
  · have h1 := Int.tmod_lt_of_pos b (show (0 : Int) < 60 by decide)
    have h2 : -60 < b.tmod 60 := Int.lt_tmod_of_pos b (show (0 : Int) < 60 by decide)
    exact h64 (by omega)
  · split
    · exact h64 (by omega)
    · have hi : ((a.tdiv 7).tmod 40).toNat ≤ 40 := by have := tmod40 (a.tdiv 7); omega
      have hb3 : (b + 3).natAbs < 2 ^ 64 := show (b + 3).natAbs < 18446744073709551616 by omega
      have hm : (mM ^ ((a.tdiv 7).tmod 40).toNat).natAbs < 2 ^ (30 * ((a.tdiv 7).tmod 40).toNat + 1) := by
        rw [Int.natAbs_pow, Nat.pow_succ, Nat.pow_mul]
        have h1 : mM.natAbs ^ ((a.tdiv 7).tmod 40).toNat ≤ (2 ^ 30) ^ ((a.tdiv 7).tmod 40).toNat := Nat.pow_le_pow_left (by decide) _
        have h2 : 0 < (2 ^ 30) ^ ((a.tdiv 7).tmod 40).toNat := Nat.pow_pos (by decide)
        omega
      exact Nat.lt_of_lt_of_le (nmul_lt hb3 hm) (Nat.pow_le_pow_right (by omega) (by omega))
/-- A fraction made from numbers is of at most 1265 bits. -/
theorem fracV_Fb {xs : List Int} (h : ∀ z ∈ xs, I64 z) (i : Int) {M : Nat} (hM : 1265 ≤ M) : Fb M (fracV xs i) := by
  have hn : ∀ j k, (numV (pk xs j) (pk xs k)).natAbs < 2 ^ M := fun j k => num_lt (pk_i64 h k) hM
  have h1 : (1 : Int).natAbs < 2 ^ M := Nat.lt_of_lt_of_le (show (1 : Nat) < 2 ^ 1 by decide) (Nat.pow_le_pow_right (by omega) (by omega))
  unfold fracV mkV
  have hq : (fracQ xs i).natAbs < 2 ^ M := by
    unfold fracQ
    split
    · exact h1
    · exact hn _ _
  split
  · rename_i h0
    exfalso
    unfold fracQ at h0
    split at h0 <;> omega
  · exact Fb.mk (hn _ _) hq (by omega)
section
variable {w : World} {c : Colr} {v v' : Value} {r r' s : Rat}
theorem k_faddin (h : (ffC r).sat v w c) (h' : (ffC r').sat v' w c) (ho : addOk r r') (e : r + r' = s) : CV Tryz.prog 40 #[v, v'] w c ((ffC s).tup1 (.int .i64 0)) := by
  have := k_fadd h h'
  rwa [show addV r r' = s from (if_pos ho).trans e, show addE r r' = 0 from if_pos ho] at this
theorem k_fmulin (h : (ffC r).sat v w c) (h' : (ffC r').sat v' w c) (ho : ft (r * r')) (e : r * r' = s) : CV Tryz.prog 44 #[v, v'] w c ((ffC s).tup1 (.int .i64 0)) := by
  have := k_fmul h h'
  rwa [show rgR (r * r') = s from (if_pos ho).trans e, show rgRE (r * r') = 0 from if_pos ho] at this
end
end Go.Proofs.YtbocpkjajocpiaaGreatDoor

namespace Go.Proofs.YtbocpkjajocpiaaGreatDoor
set_option linter.unusedVariables false
open Go.RowKit Go.Mem Go.Dig Go.Fr Go.Col

theorem cmpI_mul {k a b : Int} (hk : 0 < k) : cmpI (k * a) (k * b) = cmpI a b := by
  rcases Int.lt_trichotomy a b with h | h | h
  · rw [cmpI_lt h, cmpI_lt (Int.mul_lt_mul_of_pos_left h hk)]
  · rw [cmpI_eq h, cmpI_eq (by rw [h])]
  · rw [cmpI_gt h, cmpI_gt (Int.mul_lt_mul_of_pos_left h hk)]
theorem cmpR_le {x y : Rat} : cmpR x y ≤ 0 ↔ ¬ y < x := by
  rcases cmpR_cases x y with ⟨h, e⟩ | ⟨h, e⟩ | ⟨h, e⟩
  · rw [e]; exact ⟨fun _ h2 => Rat.not_lt.2 (Rat.le_of_lt h) h2, fun _ => by omega⟩
  · rw [e]; exact ⟨fun _ h2 => by rw [h] at h2; exact absurd h2 Rat.lt_irrefl, fun _ => by omega⟩
  · rw [e]; exact ⟨fun h2 => by omega, fun h2 => absurd h h2⟩
theorem cmpR_trans {a b c : Rat} (h1 : cmpR a b ≤ 0) (h2 : cmpR b c ≤ 0) : ¬ cmpR a c > 0 := by
  have h3 : cmpR a c ≤ 0 := cmpR_le.2 (fun h => by
    have q1 := Rat.not_lt.1 (cmpR_le.1 h1)
    have q2 := Rat.not_lt.1 (cmpR_le.1 h2)
    exact absurd (Rat.le_trans q1 q2) (Rat.not_le.2 h))
  omega
theorem cmpR_add (a b c : Rat) : cmpR (a + c) (b + c) = cmpR a b := by
  rcases cmpR_cases a b with ⟨h, e⟩ | ⟨h, e⟩ | ⟨h, e⟩
  · rw [e]; exact cmpR_lt.2 (Rat.add_lt_add_right.2 h)
  · rw [e, h]; exact cmpR_eq.2 rfl
  · rw [e]; exact cmpR_gt.2 (Rat.add_lt_add_right.2 h)
theorem num_sign (c : Rat) : (c < 0 ∧ cmpI c.num 0 = -1) ∨ (c = 0 ∧ cmpI c.num 0 = 0) ∨ (0 < c ∧ cmpI c.num 0 = 1) := by
  have e : cmpR c 0 = cmpI c.num 0 := by
    unfold cmpR
    rw [show dn 0 = 1 from rfl, show (0 : Rat).num = 0 from rfl, Int.mul_one, Int.zero_mul]
  rcases cmpR_cases c 0 with ⟨h, h2⟩ | ⟨h, h2⟩ | ⟨h, h2⟩
  · exact .inl ⟨h, e ▸ h2⟩
  · exact .inr (.inl ⟨h, e ▸ h2⟩)
  · exact .inr (.inr ⟨h, e ▸ h2⟩)
theorem cmpR_mul (a b c : Rat) : cmpR (a * c) (b * c) = cmpR a b * cmpI c.num 0 := by
  rcases num_sign c with ⟨hc, ec⟩ | ⟨hc, ec⟩ | ⟨hc, ec⟩
  · rw [ec]
    have hc' : 0 < -c := by have := Rat.neg_lt_neg hc; simpa using this
    have key : ∀ {x y : Rat}, x < y → y * c < x * c := fun {x y} h => by
      have := Rat.mul_lt_mul_of_pos_right h hc'
      rw [Rat.mul_neg, Rat.mul_neg] at this
      have := Rat.neg_lt_neg this
      simpa using this
    rcases cmpR_cases a b with ⟨h, e⟩ | ⟨h, e⟩ | ⟨h, e⟩
    · rw [e]; exact cmpR_gt.2 (key h)
    · rw [e, h]; exact cmpR_eq.2 rfl
    · rw [e]; exact cmpR_lt.2 (key h)
  · rw [ec, hc, Rat.mul_zero, Rat.mul_zero, Int.mul_zero]
    exact cmpR_eq.2 rfl
  · rw [ec, Int.mul_one]
    rcases cmpR_cases a b with ⟨h, e⟩ | ⟨h, e⟩ | ⟨h, e⟩
    · rw [e]; exact cmpR_lt.2 (Rat.mul_lt_mul_of_pos_right h hc)
    · rw [e, h]; exact cmpR_eq.2 rfl
    · rw [e]; exact cmpR_gt.2 (Rat.mul_lt_mul_of_pos_right h hc)
theorem divInt_cross {p q : Int} (hq : 0 < q) : (Rat.divInt p q).num * q = p * dn (Rat.divInt p q) := by
  have h1 := (make_pos (p := p) hq).1
  have h2 := (make_pos (p := p) hq).2
  rw [← h1, ← h2]
  have d1 : ((Int.gcd p q : Nat) : Int) * (p / ((Int.gcd p q : Nat) : Int)) = p := Int.mul_ediv_cancel' (Int.gcd_dvd_left _ _)
  have d2 : ((Int.gcd p q : Nat) : Int) * (q / ((Int.gcd p q : Nat) : Int)) = q := Int.mul_ediv_cancel' (Int.gcd_dvd_right _ _)
  generalize ((Int.gcd p q : Nat) : Int) = g at d1 d2 ⊢
  generalize p / g = s at d1 ⊢
  generalize q / g = t at d2 ⊢
  rw [← d1, ← d2]
  ac_rfl
theorem cmpR_div {x : Rat} {p q : Int} (hq : 0 < q) : cmpR x (Rat.divInt p q) = cmpI (x.num * q) (p * dn x) := by
  have h := divInt_cross (p := p) hq
  have hd := dn_pos (Rat.divInt p q)
  unfold cmpR
  rw [← cmpI_mul hq, ← cmpI_mul (a := x.num * q) hd]
  congr 1
  · ac_rfl
  · rw [show q * ((Rat.divInt p q).num * dn x) = ((Rat.divInt p q).num * q) * dn x by ac_rfl, h]
    ac_rfl
/-- The fraction between. -/
def midV (a b : Rat) : Rat := mkV (a.num + b.num) (dn a + dn b)
theorem mid_pos (a b : Rat) : 0 < dn a + dn b := by have := dn_pos a; have := dn_pos b; omega
theorem mid_eq (a b : Rat) : midV a b = Rat.divInt (a.num + b.num) (dn a + dn b) := if_neg (by have := mid_pos a b; omega)
theorem mid_left (a b : Rat) : cmpR a (midV a b) = cmpR a b := by
  rw [mid_eq, cmpR_div (mid_pos a b)]
  refine cmpI_of_sub ?_
  rw [Int.mul_add, Int.add_mul]
  omega
theorem mid_right (a b : Rat) : cmpR (midV a b) b = cmpR a b := by
  rw [cmpR_swap b, mid_eq, cmpR_div (mid_pos a b), ← cmpI_swap]
  refine cmpI_of_sub ?_
  rw [Int.mul_add, Int.add_mul]
  omega
theorem mid_E (a b : Rat) : mkE (dn a + dn b) = 0 := if_neg (by have := mid_pos a b; omega)
theorem cmpR_rng (a b : Rat) : -1 ≤ cmpR a b ∧ cmpR a b ≤ 1 := cmp_rng _ _
theorem cmpR_ne {a b : Rat} (h : ¬ a = b) : (cmpR a b == 0) = false := by
  rcases cmpR_cases a b with ⟨h1, e⟩ | ⟨h1, e⟩ | ⟨h1, e⟩
  · rw [e]; rfl
  · exact absurd h1 h
  · rw [e]; rfl
theorem cmpR_dec (a b : Rat) : (cmpR a b == 0) = decide (a = b) := by
  by_cases h : a = b
  · rw [cmpR_eq.2 h, decide_eq_true h]; rfl
  · rw [cmpR_ne h, decide_eq_false h]
theorem k_mid {w : World} {c : Colr} {v v' : Value} {x y : Rat} (h : (wfC (x.num + y.num)).sat v w c) (h' : (wfC (dn x + dn y)).sat v' w c) : CV Tryz.prog 29 #[v, v'] w c ((ffC (midV x y)).tup1 (.int .i64 0)) := by
  have := k_make h h'
  rwa [mid_E] at this
end Go.Proofs.YtbocpkjajocpiaaGreatDoor

namespace Go.Proofs.YtbocpkjajocpiaaGreatDoor
set_option linter.unusedVariables false
open Go.RowKit Go.Mem Go.Dig Go.Fr Go.Col

theorem text_bits {z : Int} {k : Nat} (h : z.natAbs < 2 ^ (3 * k)) (hk : 1 ≤ k) : (Txt.text z).length ≤ k + 1 := by
  refine text_short' (Nat.lt_of_lt_of_le h ?_) hk
  unfold tpow
  rw [Nat.pow_mul]
  exact Nat.pow_le_pow_left (by decide) k
theorem ftx_bits {x : Rat} {k : Nat} (h : Fb (3 * k) x) (hk : 1 ≤ k) : (ftx x).length ≤ 2 * k + 3 := by
  have h1 := text_bits h.1 hk
  have h2 := text_bits h.2 hk
  unfold ftx
  split
  · omega
  · rw [List.length_append, List.length_cons]
    omega
theorem ftx_frac {xs : List Int} (h : ∀ z ∈ xs, I64 z) (i : Int) : (ftx (fracV xs i)).length ≤ 860 := by
  obtain ⟨k, hk⟩ : ∃ k : Nat, k = 422 := ⟨_, rfl⟩
  have h1 := ftx_bits (fracV_Fb h i (M := 3 * k) (by omega)) (by omega)
  omega
theorem ftx_pos (x : Rat) : 1 ≤ (ftx x).length := by
  have := Txt.text_len_pos x.num
  unfold ftx
  split
  · exact this
  · rw [List.length_append]
    omega
end Go.Proofs.YtbocpkjajocpiaaGreatDoor

namespace Go.Col
set_option linter.unusedVariables false
open Go.RowKit Go.Mem

/-- A slice of so many elements (sz cells each) that owns its row, of a colour; its cells. Without elements it may be nil. -/
def OwnRow (n sz : Nat) (t : TypeId) (v : Value) (len : Nat) (xs : List Value) (w : World) (c : Colr) : Prop :=
  xs.length = len * sz ∧ ((v = .slice none 0 0 ∧ len = 0) ∨ ∃ g cp cs, v = .slice (some ⟨g, 0, none⟩) len cp ∧ len ≤ cp ∧ c g = n ∧ Blk w g t cs ∧ cs.size = cp * sz ∧ cs.toList.take (len * sz) = xs)
section
variable {P : Program} {w w' : World} {c c' : Colr} {n sz len m : Nat} {t e ty : TypeId} {v z : Value} {xs news : List Value} {S : List Nat}
theorem OwnRow.ext (h : OwnRow n sz t v len xs w c) (he : Ext S w c w' c') (hn : S.contains n = false) : OwnRow n sz t v len xs w' c' := by
  refine ⟨h.1, h.2.imp id ?_⟩
  rintro ⟨g, cp, cs, h1, h2, h3, h4, h5, h6⟩
  obtain ⟨q1, q2⟩ := blk_ext h4 h3 he hn
  exact ⟨g, cp, cs, h1, h2, q2, q1, h5, h6⟩
theorem OwnRow.nil : OwnRow n sz t (.slice none 0 0) 0 [] w c := ⟨by simp, .inl ⟨rfl, rfl⟩⟩
theorem OwnRow.open (h : OwnRow n sz t v len xs w c) (hl : 0 < len) : ∃ g cp, v = .slice (some ⟨g, 0, none⟩) len cp := by
  rcases h.2 with ⟨_, h0⟩ | ⟨g, cp, cs, h1, _⟩
  · omega
  · exact ⟨g, cp, h1⟩
theorem OwnRow.cell (h : OwnRow n sz t v len xs w c) {g cp : Nat} (hv : v = .slice (some ⟨g, 0, none⟩) len cp) {j : Nat} {u : Value} (hu : xs[j]? = some u) : w.cell? ⟨g, j, none⟩ = some u := by
  rcases h.2 with ⟨h1, _⟩ | ⟨g', cp', cs, h1, h2, h3, h4, h5, h6⟩
  · rw [h1] at hv; cases hv
  · rw [h1] at hv
    injection hv with hv
    injection hv with hv
    injection hv with hv
    subst hv
    refine h4.cell j ?_
    rw [← h6, List.getElem?_take] at hu
    split at hu
    · simpa using hu
    · cases hu
theorem all_nb {l : List Value} : (l.all (fun v => !NB v) = true) ↔ ∀ v ∈ l, NB v = false := by simp
theorem gi_blk (g : GI w c) {k : Nat} {cs : Array Value} (hb : Blk w k t cs) (h : c k ≠ 0) : cs.toList.all (fun v => !NB v) = true := all_nb.2 (g k cs t (0, 0) hb h)
theorem zero_nb {z : Array Value} (hz : z.toList.all (fun v => !NB v) = true) (k : Nat) : (Builtin.zeroCells z k).toList.all (fun v => !NB v) = true := by
  rw [all_nb] at *
  intro v hv
  unfold Builtin.zeroCells at hv
  simp only [Array.toList_map, Array.toList_range, List.mem_map, List.mem_range] at hv
  obtain ⟨i, hi, rfl⟩ := hv
  have hs : 0 < z.size := by
    rcases Nat.eq_zero_or_pos z.size with h0 | h0
    · rw [h0, Nat.mul_zero] at hi; omega
    · exact h0
  have hlt : i % z.size < z.size := Nat.mod_lt _ hs
  rw [getElem!_pos z (i % z.size) hlt]
  exact hz _ (by simp)
theorem zero_size (z : Array Value) (k : Nat) : (Builtin.zeroCells z k).size = k * z.size := by simp [Builtin.zeroCells]
theorem all_nb_app {a b : List Value} (ha : a.all (fun v => !NB v) = true) (hb : b.all (fun v => !NB v) = true) : (a ++ b).all (fun v => !NB v) = true := by rw [List.all_append, ha, hb]; rfl
theorem app_new {cs : Array Value} {cp : Nat} (g : GI w c) (hS : ([n].contains 0 || [n].contains 1) = false) (hnb : cs.toList.all (fun v => !NB v) = true) (hlen : len ≤ cp) (hsz : cs.size = cp * sz) (hx : xs.length = len * sz) (htk : cs.toList.take (len * sz) = xs) :
    Ext [n] w c (w.drew.alloc (.cells cs e)) (setC c w.heap.size n) ∧ OwnRow n sz e (.slice (some ⟨w.heap.size, 0, none⟩) len cp) len xs (w.drew.alloc (.cells cs e)) (setC c w.heap.size n) := by
  refine ⟨(Ext.drew hS g).trans (Ext.alloc (w := w.drew) (t := e) g.drew hS hnb) (by simp), hx, .inr ⟨w.heap.size, cp, cs, rfl, hlen, by simp [setC], Blk.new w.drew e cs, hsz, htk⟩⟩
/-- append to a slice that owns its row: in place or anew. -/
theorem app_run {inf : TypeInfo} (h : OwnRow n sz e v len xs w c) (g : GI w c) (hS : ([n].contains 0 || [n].contains 1) = false) (ht : P.underlying t = some (.slice e)) (hi : P.info? e = some inf) (hz : inf.zero = some z) (hisz : inf.size = sz) (hzs : z.cells.size = sz) (hzn : z.cells.toList.all (fun v => !NB v) = true)
    {ad : Addr} {m cp' : Nat} (hl : news.length = m * sz) (hc : ∀ j u, news[j]? = some u → w.cell? (ad.add j) = some u) (h1 : ∀ u ∈ news, u.oneCell' = true) (hnb : news.all (fun v => !NB v) = true) (hm : 0 < m) (h63 : len + m ≤ 4611686018427387904) (hfit : (len + m) * inf.bytes ≤ 140737488355328) :
    ∃ v2 w2 c2, (Builtin.append_ #[t, t] ty #[v, .slice (some ad) m cp']).run P w = .ok v2 w2 ∧ Ext [n] w c w2 c2 ∧ OwnRow n sz e v2 (len + m) (xs ++ news) w2 c2 := by
  obtain ⟨hx, h⟩ := h
  have hxl : (xs ++ news).length = (len + m) * sz := by rw [List.length_append, hx, hl, Nat.add_mul]
  rcases h with ⟨rfl, rfl⟩ | ⟨gg, cp, cs, rfl, h2, h3, h4, h5, h6⟩
  · have hx0 : xs = [] := List.eq_nil_of_length_eq_zero (by omega)
    subst hx0
    have hge := grownCap_ge w m 0 e
    have hrun := run_append_nil (P := P) w t ty e inf z ht hi hz ad m cp' news (by rw [hisz]; exact hl) hc hm (by omega) (by rw [Nat.zero_add] at hfit; omega)
    obtain ⟨q1, q2⟩ := app_new (n := n) (sz := sz) (len := m) (xs := news) (e := e) (cs := news.toArray ++ Builtin.zeroCells z.cells (grownCap w m 0 e - m)) (cp := grownCap w m 0 e) g hS (by rw [Array.toList_append]; exact all_nb_app hnb (zero_nb hzn _)) hge
      (by rw [Array.size_append, zero_size, hzs, List.size_toArray, hl, ← Nat.add_mul]; congr 1; omega) hl (by rw [Array.toList_append]; exact List.take_left' hl)
    exact ⟨_, _, _, hrun, q1, by rw [Nat.zero_add, List.nil_append]; exact q2⟩
  · by_cases hroom : len + m ≤ cp
    · have hsz : len * sz + news.length ≤ cs.size := by rw [h5, hl, ← Nat.add_mul]; exact Nat.mul_le_mul_right _ hroom
      have hrun := run_append_room (P := P) w t ty e inf ht hi gg len cp cs h4 ad m cp' news (by rw [hisz]; exact hl) hc h1 hroom (by rw [hisz]; exact hsz)
      rw [hisz, h6] at hrun
      obtain ⟨cs2, hcs2⟩ : ∃ cs2, cs2 = (xs ++ news ++ cs.toList.drop (len * sz + news.length)).toArray := ⟨_, rfl⟩
      rw [← hcs2] at hrun
      have hb2 : Blk (w.setRow gg cs2) gg e cs2 := setRow_heap w gg cs cs2 e (0, 0) h4
      have hold := gi_blk g h4 (by rw [h3]; intro h0; subst h0; simp at hS)
      have hn2 : cs2.toList.all (fun v => !NB v) = true := by
        rw [hcs2]
        refine all_nb_app (all_nb_app ?_ hnb) ?_
        · rw [← h6, all_nb] at *; exact fun u hu => hold u (List.mem_of_mem_take hu)
        · rw [all_nb] at *; exact fun u hu => hold u (List.mem_of_mem_drop hu)
      refine ⟨_, _, c, hrun, Ext.store g ⟨rfl, rfl, rfl, by simp [World.setRow], fun k hk hne => setRow_other w gg k cs2 hne⟩ (by simp [World.setRow]) h3 hS hb2 hn2, hxl, .inr ⟨gg, cp, cs2, rfl, hroom, h3, hb2, ?_, ?_⟩⟩
      · rw [hcs2, List.size_toArray, List.length_append, List.length_drop, hxl, Array.length_toList, h5, hl, ← Nat.add_mul]
        have := Nat.mul_le_mul_right sz hroom
        omega
      · rw [hcs2]
        exact List.take_left' hxl
    · have hge := grownCap_ge w (len + m) cp e
      have hrun := run_append_grow (P := P) w t ty e inf z ht hi hz ⟨gg, 0, none⟩ len cp xs (by rw [hisz]; exact hx) (fun j u hu => by
        rw [Addr.add_lit, Nat.zero_add]
        refine h4.cell j ?_
        rw [← h6, List.getElem?_take] at hu
        split at hu
        · simpa using hu
        · cases hu) ad m cp' news (by rw [hisz]; exact hl) hc (by omega) (by omega) (growslice_fits (by omega) hfit)
      have hxn : xs.all (fun v => !NB v) = true := by
        have hold := gi_blk g h4 (by rw [h3]; intro h0; subst h0; simp at hS)
        rw [← h6, all_nb] at *; exact fun u hu => hold u (List.mem_of_mem_take hu)
      obtain ⟨q1, q2⟩ := app_new (n := n) (sz := sz) (len := len + m) (xs := xs ++ news) (e := e) (cs := xs.toArray ++ news.toArray ++ Builtin.zeroCells z.cells (grownCap w (len + m) cp e - (len + m))) (cp := grownCap w (len + m) cp e) g hS
        (by rw [Array.toList_append, Array.toList_append]; exact all_nb_app (all_nb_app hxn hnb) (zero_nb hzn _)) hge
        (by rw [Array.size_append, Array.size_append, zero_size, hzs, List.size_toArray, List.size_toArray, hl, hx, ← Nat.add_mul, ← Nat.add_mul]; congr 1; omega) hxl (by rw [Array.toList_append, Array.toList_append]; exact List.take_left' hxl)
      exact ⟨_, _, _, hrun, q1, q2⟩
end
end Go.Col

namespace Go.Col
set_option linter.unusedVariables false
open Go.RowKit Go.Mem

/-- A slice of structs that owns its row. -/
def ownS (n sz : Nat) (t : TypeId) (L : List TyC) : TyO := ⟨[n], fun v w c => ∃ xs, OwnRow n sz t v L.length xs w c ∧ (catK sz L).sat xs.toArray w c, fun ⟨xs, h1, h2⟩ g e hn => ⟨xs, h1.ext e (by simpa using hn), (catK sz L).stab h2 g e⟩⟩
theorem ownS_nil {n sz : Nat} {t : TypeId} {w : World} {c : Colr} : (ownS n sz t []).sat (.slice none 0 0) w c := ⟨[], OwnRow.nil, fun k τ hk => by simp at hk⟩
theorem ownS_open {n sz : Nat} {t : TypeId} {L : List TyC} {v : Value} {w : World} {c : Colr} (h : (ownS n sz t L).sat v w c) {m : Nat} (hm : L.length = m) (hl : 0 < m) : ∃ g cp, v = .slice (some ⟨g, 0, none⟩) m cp := by
  obtain ⟨xs, h1, _⟩ := h
  subst hm
  exact h1.open hl
/-- The cells of an element. -/
theorem ownS_cells {n sz : Nat} {t : TypeId} {L : List TyC} {g cp m : Nat} {w : World} {c : Colr} (h : (ownS n sz t L).sat (.slice (some ⟨g, 0, none⟩) m cp) w c) (hm : L.length = m) {k : Nat} {τ : TyC} (hk : L[k]? = some τ) : ∃ u : Array Value, u.size = sz ∧ τ.sat (.agg u) w c ∧ ∀ j x, u[j]? = some x → w.cell? ⟨g, k * sz + j, none⟩ = some x := by
  obtain ⟨xs, h1, h2⟩ := h
  obtain ⟨u, q1, q2, q3⟩ := h2 k τ hk
  subst hm
  exact ⟨u, q1, q2, fun j x hx => h1.cell rfl (by have := q3 j x hx; simpa using this)⟩
theorem ownS_load {P : Program} {ty : TypeId} {n sz : Nat} {t : TypeId} {L : List TyC} {g cp m : Nat} {w : World} {c : Colr} (hA : Agg P ty sz) (h : (ownS n sz t L).sat (.slice (some ⟨g, 0, none⟩) m cp) w c) (hm : L.length = m) {k : Nat} {τ : TyC} (hk : L[k]? = some τ) : ∃ u, (loadVar ty ⟨g, k * sz, none⟩).run P w = .ok u w ∧ τ.sat u w c := by
  obtain ⟨u, q1, q2, q3⟩ := ownS_cells h hm hk
  refine ⟨_, load_cells hA u.toList (by simpa using q1) (fun j x hx => ?_), q2⟩
  rw [Addr.add_lit]
  exact q3 j x (by simpa using hx)
theorem own_now {d : Nat} {τ : TyO} {b : BB} {f : FF} {u : Value} {w : World} {c : Colr} (h : τ.sat u w c) : (RF.own d τ).P b (upF (some d) u f) w c := fun v hv => by
  rw [up_at] at hv
  injection hv with hv
  exact hv ▸ h
theorem own_nyet {d p : Nat} {τ : TyO} {b : BB} {f : FF} {u : Value} {w : World} {c : Colr} (hp : (p == d) = false) (h : f p = none) : (RF.own p τ).P b (upF (some d) u f) w c := fun v hv => by
  have : upF (some d) u f p = f p := by
    have : ¬ p = d := by simpa using hp
    have h2 : ¬ d = p := fun e => this e.symm
    unfold upF
    split
    · rename_i h3
      injection h3 with h3
      exact absurd h3 h2
    · rfl
  rw [this, h] at hv
  cases hv
theorem All.co {v : Value} {τ : TyO} {L : List RF} {b : BB} {f : FF} {w : World} {c : Colr} (h : τ.sat v w c) (hL : All L b f w c) : All (.s (Fact.own τ v) :: L) b f w c := ⟨h, hL⟩
theorem All.own {L : List RF} {b : BB} {f : FF} {w : World} {c : Colr} {τ : TyO} {v : Value} (h : All L b f w c) (k : Nat) (hk : nthR L k = .s (Fact.own τ v)) : τ.sat v w c := by
  have := All.nth k h
  rw [hk] at this
  exact this
theorem All.so0 {L : List RF} {b : BB} {f : FF} {w : World} {c : Colr} {i : Nat} {τ : TyO} {v : Value} {F1 : Fact} (h : All L b f w c) (k : Nat) (hk : nthR L k = .st i F1 (.s (Fact.own τ v))) (hb : b i = false) : τ.sat v w c := by
  have := All.nth k h
  rw [hk] at this
  exact this.2 hb
theorem All.no {L : List RF} {b : BB} {f : FF} {w : World} {c : Colr} {τ : TyO} {p : Nat} {v : Value} (h : All L b f w c) (k : Nat) (hk : nthR L k = .own p τ) (hf : f p = some v) : τ.sat v w c := by
  have := All.nth k h
  rw [hk] at this
  exact this v hf
theorem All.cown {L : List RF} {w : World} {c : Colr} (p : Nat) (τ : TyO) (h : All L b0 f0 w c) : All (.own p τ :: L) b0 f0 w c := ⟨RF.own_none, h⟩
section
variable {P : Program} {l : List Oper} {dt : List (List Nat)} {Q : Exit → Act → World → Prop} {n : Nat} {a : Act} {m : Nat → Option Value} {D CB : List Nat} {Fs : List RF} {V : Nat → TyC} {w0 : World} {c0 : Colr} {i : Nat}
theorem unset_of {b : BB} {f : FF} {w : World} {c : Colr} (hJ : J l.toArray w0 c0 CB Fs V b f w c) {j p : Nat} (hb : b j = false) (hp : dstOf l j = some p) : f p = none := by
  unfold dstOf at hp
  cases ho : nthL l j with
  | none => rw [ho] at hp; cases hp
  | some oj =>
    rw [ho] at hp
    rw [nthL_eq] at ho
    have := hJ.set j oj p (by simpa using ho) hp
    cases hf : f p with
    | none => rfl
    | some v =>
      have := this.2 (by rw [hf]; simp)
      rw [hb] at this
      cases this
/-- One element more, in place or anew; the old slice is gone; the slot p is written later. -/
theorem sApO (nc d p j : Nat) {o : Oper} {sz : Nat} {t e : TypeId} {inf : TypeInfo} {z : Value} {L : List TyC} {τ : TyC} {σ : TyO} {F0 : RF} (r0 r1 : XA n l dt m D i) (ht : P.underlying t = some (.slice e)) (hi2 : P.info? e = some inf) (hz : inf.zero = some z) (hsz : inf.size = sz) (hzc : z.cells.size = sz) (hzn : z.cells.toList.all (fun v => !NB v) = true) (hs : τ.str sz)
    (H0 : ∀ {b : BB} {f : FF} {w : World} {c : Colr} {v : Value}, Kx dt w0 c0 CB Fs i b f w c → r0.r.T V w c v → (ownS nc sz e L).sat (r0.r.W v) w c) (H1 : ∀ {b : BB} {f : FF} {w : World} {c : Colr} {v : Value}, Kx dt w0 c0 CB Fs i b f w c → r1.r.T V w c v → (litC sz e [τ]).sat (r1.r.W v) w c) (hL : L.length ≤ 1000000) (hfit : inf.bytes ≤ 100000)
    (hi : nthL l i = some o := by rfl) (hop : o.op = .call { callee := .builtin .append, args := #[r0.r.opd, r1.r.opd], argTypes := #[t, t] } := by rfl) (hd : o.dst = some d := by rfl) (hA : Fs.filter (aff [nc] i (some d)) = [.own d (ownS nc sz e (L ++ [τ])), .own p σ, .st i Fact.tru F0] := by rfl) (hj : dep dt j i = true ∧ dstOf l j = some p := by exact ⟨rfl, rfl⟩) (hpd : (p == d) = false := by rfl)
    (hCB : [nc].all (CB.contains ·) = true := by rfl) (hn : ([nc].contains 0 || [nc].contains 1) = false := by rfl) (hV : V d = TyC.any := by rfl) (hg : Gd l n dt V i o.guard := by first | exact trivial | exact ⟨rfl, _, ⟨rfl, rfl⟩, rfl⟩) : OpStep P l dt Q n a m D CB Fs V w0 c0 i := by
  intro b f w c x o' hJ hout hF hE ho K
  obtain rfl : o = o' := Option.some.inj (hi.symm.trans ho)
  obtain ⟨v0, ev0, sv0⟩ := r0.ev hJ hout hF hE K
  obtain ⟨v1, ev1, sv1⟩ := r1.ev hJ hout hF hE K
  obtain ⟨xs, h1, h2⟩ := H0 K sv0
  obtain ⟨g', ds, hlit, k2, k3, k4, k5⟩ := H1 K sv1
  obtain ⟨u, p1, p2, p3⟩ := k5 0 τ rfl
  obtain ⟨cs, hcs, q1, q2, q3⟩ := hs _ _ _ p2
  injection hcs with hcs
  subst hcs
  have hds : ds.size = sz := by simpa using k4
  have hdu : ds = u := by
    apply Array.ext (by rw [hds, p1])
    intro k hk1 hk2
    have := p3 k u[k] (Array.getElem?_eq_getElem hk2)
    rw [Nat.zero_mul, Nat.zero_add, Array.getElem?_eq_getElem hk1] at this
    injection this
  subst hdu
  have hlen : (L ++ [τ]).length = L.length + 1 := by simp
  obtain ⟨v2, w2, c2, r1', r2', r3'⟩ := app_run (P := P) (t := t) (ty := o.type) (m := 1) (cp' := 1) (news := ds.toList) (ad := ⟨g', 0, none⟩) h1 hJ.gi hn ht hi2 hz hsz hzc hzn (by simpa using hds) (fun j u hu => by rw [Addr.add_lit, Nat.zero_add]; exact k3.cell j (by simpa using hu)) (fun u hu => by have := Array.all_eq_true_iff_forall_mem.1 q2 u (by simpa using hu); exact this) q3 (by omega) (by omega) (by
    have : (L.length + 1) * inf.bytes ≤ 1000001 * 100000 := Nat.mul_le_mul (by omega) hfit
    omega)
  have hnew : (ownS nc sz e (L ++ [τ])).sat v2 w2 c2 := by
    refine ⟨_, by rw [hlen]; exact r3', ?_⟩
    have h2' := (catK sz L).stab h2 hJ.gi r2'
    have h3' : (catK sz [τ]).sat ds w2 c2 := (catK sz [τ]).stab k5 hJ.gi r2'
    have := cat_app (zs := #[]) h2' (by simpa using h1.1) h3' hds
    rw [Array.append_empty] at this
    have e : (xs ++ ds.toList).toArray = xs.toArray ++ ds := by simp
    rw [e]
    exact this
  have he : (execOp x.eval o).run P w = .ok (.value v2) w2 := by
    simp [execOp, hop, resolve, invoke, builtin, ev0, ev1, hlit, r1', Result.andThen]
  refine .run [nc] (some d) (hg.wanted hJ hF hE K) hd hCB (wp_val he ⟨_, c2, rfl, r2', fun d' _ => ?_, ?_⟩)
  · injection ‹some d = some d'› with hdd
    subst hdd
    rw [hV]
    trivial
  · rw [hA]
    exact ⟨own_now hnew, own_nyet hpd (unset_of hJ (K.nyet j hj.1) hj.2), ⟨fun _ => trivial, fun hb => by simp [bup] at hb⟩, trivial⟩
/-- A move of an owned value. -/
theorem sMvO (q p k : Nat) {o : Oper} {τ : TyO} (j : Nat) (hi : nthL l i = some o := by rfl) (hop : o.op = .move (.tmp q) ∨ o.op = .assign (.tmp q) := by first | exact .inl rfl | exact .inr rfl) (hd : o.dst = some p := by rfl) (hA : Fs.filter (aff [] i (some p)) = [.own p τ] := by rfl) (hk : nthR Fs k = .own q τ := by rfl) (hV : V p = TyC.any := by rfl) (hq : dep dt i j = true ∧ decide (q < n) = true ∧ dstOf l j = some q := by exact ⟨rfl, rfl, rfl⟩) (hg : Gd l n dt V i o.guard := by first | exact trivial | exact ⟨rfl, _, ⟨rfl, rfl⟩, rfl⟩) : OpStep P l dt Q n a m D CB Fs V w0 c0 i := by
  intro b f w c x o' hJ hout hF hE ho K
  obtain rfl : o = o' := Option.some.inj (hi.symm.trans ho)
  obtain ⟨v, ev, hfv⟩ : ∃ v, x.eval (.tmp q) = v ∧ f q = some v := by
    obtain ⟨h1, h2, h3⟩ := hq
    unfold dstOf at h3
    split at h3
    · rename_i oj hoj
      rw [nthL_eq] at hoj
      have h4 := (hJ.set j oj q (by simpa using hoj) h3).1 (K.done j h1)
      cases hf : f q with
      | none => exact absurd hf h4
      | some v => exact ⟨v, hF.in (by rw [hE.1]; exact of_decide_eq_true h2) hf, rfl⟩
    · cases h3
  exact .pure p (hg.wanted hJ hF hE K) hd (by rw [hA]; exact ⟨own_now (All.no K.fac k hk hfv), trivial⟩) hJ.gi (ex_move hop ev) (by rw [hV]; trivial)
/-- The address of an element of a known slice. -/
theorem sIxv (d : Nat) {o : Oper} {ty : TypeId} {u z z' : Value} (r0 : XA n l dt m D i) (r1 : XA n l dt m D i) (hz : ∀ {w : World} {c : Colr} {v v' : Value}, r0.r.T V w c v → r1.r.T V w c v' → r0.r.W v = z ∧ r1.r.W v' = z') (L : ∀ {w : World}, (Instr.indexAt ty z z').run P w = .ok u w) (hV : V d = TyC.eq u := by rfl) (hi : nthL l i = some o := by rfl) (hop : o.op = .indexAddr ty r0.r.opd r1.r.opd := by rfl) (hd : o.dst = some d := by rfl) (hA : Fs.filter (aff [] i (some d)) = [] := by rfl) (hg : Gd l n dt V i o.guard := by first | exact trivial | exact ⟨rfl, _, ⟨rfl, rfl⟩, rfl⟩) : OpStep P l dt Q n a m D CB Fs V w0 c0 i := by
  intro b f w c x o' hJ hout hF hE ho K
  obtain rfl : o = o' := Option.some.inj (hi.symm.trans ho)
  obtain ⟨v0, ev0, sv0⟩ := r0.ev hJ hout hF hE K
  obtain ⟨v1, ev1, sv1⟩ := r1.ev hJ hout hF hE K
  exact .pure d (hg.wanted hJ hF hE K) hd (by rw [hA]; trivial) hJ.gi (ex_index hop (ev0.trans (hz sv0 sv1).1) (ev1.trans (hz sv0 sv1).2) L) (by rw [hV]; rfl)
theorem own_cast {n sz : Nat} {t : TypeId} {L L' : List TyC} {v : Value} {w : World} {c : Colr} (e : L = L') (h : (ownS n sz t L).sat v w c) : (ownS n sz t L').sat v w c := e ▸ h
end
theorem map_take_succ {α : Type} {d : α} {f : α → TyC} {xs : List α} {k : Nat} (h : k < xs.length) : (xs.take k).map f ++ [f (xs.getD k d)] = (xs.take (k + 1)).map f := by
  rw [List.take_succ_eq_append_getElem h, List.map_append]
  simp [List.getD, List.getElem?_eq_getElem h]
theorem map_take_at {α : Type} {d : α} {f : α → TyC} {xs : List α} {k m : Nat} (h : k < m) (hm : m ≤ xs.length) : ((xs.take m).map f)[k]? = some (f (xs.getD k d)) := by
  rw [List.getElem?_map, List.getElem?_take_of_lt h, List.getElem?_eq_getElem (by omega)]
  simp [List.getD, List.getElem?_eq_getElem (show k < xs.length by omega)]
theorem run_neqb {P : Program} {w : World} {t : TypeId} (ht : P.underlying t = some .bool) (a b : Bool) : (binOp .neq t (.bool a) (.bool b)).run P w = .ok (.bool (!(a == b))) w := by
  obtain ⟨k, hk⟩ : ∃ k, Op.maxDepth = k + 1 := ⟨_, rfl⟩
  have h : (Op.equalIn Op.maxDepth t (.bool a) (.bool b)).run P w = .ok (a == b) w := by
    rw [hk]
    simp [Op.equalIn, run_underlying ht]
  simp [binOp, Op.equal, h, go_sem]
end Go.Col

namespace Go.Col
set_option linter.unusedVariables false
open Go.RowKit Go.Mem

/-- The string with these bytes. -/
abbrev Sb (l : List UInt8) : ByteArray := ⟨l.toArray⟩
/-- A byte slice that owns its row, of a colour. -/
def byO (n : Nat) (l : List UInt8) : TyO := ⟨[n], fun v w c => ∃ g cp cs t x, v = .slice (some ⟨g, 0, none⟩) l.length cp ∧ l.length ≤ cp ∧ c g = n ∧ w.heap[g]? = some (.cells cs t x) ∧ (∀ j, j < l.length → (decide (x.1 ≤ j) && decide (j < x.2)) = false) ∧ ∀ (j : Nat) (u : Value), (bs l)[j]? = some u → cs[j]? = some u,
  fun {S v w c w' c'} ⟨g, cp, cs, t, x, h1, h2, h3, h4, h5, h6⟩ gi e hn => by
    have hlt : g < w.heap.size := (Array.getElem?_eq_some_iff.1 h4).1
    exact ⟨g, cp, cs, t, x, h1, h2, (e.col g hlt).trans h3, e.chg.heap h4 (fun hs => by rw [h3] at hs; simp at hn; simp [hn] at hs), h5, h6⟩⟩
section
variable {P : Program} {w w' : World} {c c' : Colr} {n m : Nat} {v : Value} {l : List UInt8}
theorem byO_open (h : (byO n l).sat v w c) (hm : l.length = m) : ∃ g cp, v = .slice (some ⟨g, 0, none⟩) m cp ∧ m ≤ cp := by
  obtain ⟨g, cp, cs, t, x, h1, h2, _⟩ := h
  subst hm
  exact ⟨g, cp, h1, h2⟩
theorem byO_rd (h : (byO n l).sat v w c) : ∃ g cp, v = .slice (some ⟨g, 0, none⟩) l.length cp ∧ l.length ≤ cp ∧ Rd w (some ⟨g, 0, none⟩) l.length (bs l) := by
  obtain ⟨g, cp, cs, t, x, h1, h2, h3, h4, h5, h6⟩ := h
  refine ⟨g, cp, h1, h2, by simp [bs], fun _ => ⟨_, rfl, fun j u hu => ?_⟩⟩
  rw [Addr.add_lit, Nat.zero_add]
  exact (cell_of_row w g j cs t x h4).trans (h6 j u hu)
theorem bytes_nb (l : List UInt8) (k : Nat) : ((bs l).toArray ++ Array.replicate k (Value.int .u8 0)).toList.all (fun v => !NB v) = true := by
  rw [all_nb]
  intro v hv
  simp only [Array.toList_append, List.mem_append, Array.toList_replicate, List.mem_replicate, bs, List.mem_map] at hv
  rcases hv with ⟨x, _, rfl⟩ | ⟨_, rfl⟩
  · rfl
  · rfl
theorem bytesCells_eq (w : World) (e : TypeId) (l : List UInt8) : Lib.bytesCells w e (Sb l) = (bs l).toArray ++ Array.replicate (grownCap w (Sb l).size 0 e - (Sb l).size) (Value.int .u8 0) := by
  unfold Lib.bytesCells
  congr 1
  simp [Sb, bs, By]
/-- []byte(s). -/
theorem conv_own {e : TypeId} (l : List UInt8) (g : GI w c) (hS : ([n].contains 0 || [n].contains 1) = false) :
    Ext [n] w c (Lib.bytesWorld w e (Sb l)) (setC c w.heap.size n) ∧ (byO n l).sat (.slice (some ⟨w.heap.size, 0, none⟩) (Sb l).size (grownCap w (Sb l).size 0 e)) (Lib.bytesWorld w e (Sb l)) (setC c w.heap.size n) := by
  have hsz : (Sb l).size = l.length := by simp [Sb, ByteArray.size]
  have hnew := Lib.bytesWorld_at_new w e (Sb l)
  refine ⟨⟨hS, ⟨rfl, rfl, rfl, by rw [Lib.bytesWorld_size]; omega, fun k hk _ => Lib.bytesWorld_at_old w e _ k hk⟩, fun k hk => if_neg (show ¬ k = w.heap.size by omega), fun k h1 h2 => ?_, ?_⟩, ?_⟩
  · rw [Lib.bytesWorld_size] at h2
    obtain rfl : k = w.heap.size := by omega
    exact .inr (.inr (by simp [setC]))
  · intro k cs' t' x hb hc v hv
    by_cases hk : k = w.heap.size
    · subst hk
      rw [hnew] at hb
      injection hb with hb
      injection hb with hb
      subst hb
      rw [bytesCells_eq] at hv
      exact all_nb.1 (bytes_nb l _) v hv
    · have hlt : k < w.heap.size := by
        have := (Array.getElem?_eq_some_iff.1 hb).1
        rw [Lib.bytesWorld_size] at this; omega
      rw [Lib.bytesWorld_at_old w e _ k hlt] at hb
      simp only [setC, if_neg hk] at hc
      exact g k cs' t' x hb hc v hv
  · refine ⟨w.heap.size, _, _, e, _, by rw [hsz], by rw [← hsz]; exact grownCap_ge _ _ _ _, by simp [setC], hnew, fun j hj => ?_, fun j u hu => ?_⟩
    · have : (Lib.bytesCells w e (Sb l)).size ≥ l.length := by rw [bytesCells_eq]; simp [bs]
      simp
      omega
    · rw [bytesCells_eq, Array.getElem?_append_left]
      · simpa using hu
      · have := (List.getElem?_eq_some_iff.1 hu).1
        simpa using this
/-- A byte is stored. -/
theorem by_store {ty : TypeId} {g cp j : Nat} {b : UInt8} (gi : GI w c) (hS : ([n].contains 0 || [n].contains 1) = false) (hty : (P.info? ty).map (·.size) = some 1) (h : (byO n l).sat (.slice (some ⟨g, 0, none⟩) m cp) w c) (hm : l.length = m) (hj : j < m) :
    ∃ w', (storeVar ty ⟨g, j * 1, none⟩ (By b)).run P w = .ok () w' ∧ Ext [n] w c w' c ∧ (byO n (l.set j b)).sat (.slice (some ⟨g, 0, none⟩) m cp) w' c := by
  subst hm
  obtain ⟨g', cp', cs, t, x, h1, h2, h3, h4, h5, h6⟩ := h
  injection h1 with h1 h1' h1''
  injection h1 with h1
  injection h1 with h1
  subst h1 h1''
  have hlt : g < w.heap.size := (Array.getElem?_eq_some_iff.1 h4).1
  have hjc : j < cs.size := by
    have hu : (bs l)[j]? = some (By l[j]) := by simp [bs, hj]
    exact (Array.getElem?_eq_some_iff.1 (h6 j _ hu)).1
  obtain ⟨u, hu⟩ : ∃ u, cs[j]? = some u := ⟨cs[j], by simp [hjc]⟩
  have hcell : w.cell? ⟨g, j, none⟩ = some u := (cell_of_row w g j cs t x h4).trans hu
  have hfr : w.frozen? ⟨g, j, none⟩ = false := by
    unfold World.frozen?
    rw [h4]
    exact h5 j hj
  have hrun : (storeVar ty ⟨g, j * 1, none⟩ (By b)).run P w = .ok () (w.setCell ⟨g, j, none⟩ (By b)) := by
    rw [Nat.mul_one]
    cases hq : P.info? ty with
    | none => rw [hq] at hty; cases hty
    | some d =>
      rw [hq] at hty
      injection hty with hty
      simp [storeVar, sizeOf, typeInfo, hq, By, Value.cells, hty, storeCells, hcell, hfr, Addr.add_lit, Result.andThen, go_sem, Value.oneCell']
  have hblk : (w.setCell ⟨g, j, none⟩ (By b)).heap[g]? = some (.cells (cs.setIfInBounds j (By b)) t x) := by
    simp [World.setCell, Array.getElem?_modify, h4]
  refine ⟨_, hrun, ⟨hS, (Chg.refl _ w).setCell (p := ⟨g, j, none⟩) (fun _ => by simp [h3]) _, fun _ _ => rfl, fun k h1 h2 => ?_, ?_⟩, g, cp, _, t, x, by rw [List.length_set], by rw [List.length_set]; exact h2, h3, hblk, fun k hk => h5 k (by rwa [List.length_set] at hk), fun k u hk => ?_⟩
  · simp [World.setCell] at h2; omega
  · intro k cs' t' x' hb hc v hv
    by_cases hk : k = g
    · subst hk
      rw [hblk] at hb
      injection hb with hb
      injection hb with hb
      subst hb
      simp only [Array.toList_setIfInBounds] at hv
      rcases List.mem_or_eq_of_mem_set hv with hv | rfl
      · exact gi k cs t x h4 hc v hv
      · rfl
    · rw [Below.heap_setCell w ⟨g, j, none⟩ _ k (fun e => hk e)] at hb
      exact gi k cs' t' x' hb hc v hv
  · by_cases hkj : k = j
    · subst hkj
      simp [bs, hj] at hk
      subst hk
      simp [hjc, By]
    · have hk' : (bs l)[k]? = some u := by
        rw [← hk]
        simp [bs, List.getElem?_set_ne (fun e => hkj e.symm)]
      rw [Array.getElem?_setIfInBounds_ne (fun e => hkj e.symm)]
      exact h6 k u hk'
/-- string(b), of the first bytes. -/
theorem by_string {src dst e : TypeId} (hs : P.underlying src = some (.slice e)) (he : P.underlying e = some (.int .u8)) (hd : P.underlying dst = some .string) {g cp cp' k : Nat} (h : (byO n l).sat (.slice (some ⟨g, 0, none⟩) m cp) w c) (hm : l.length = m) (hk : k ≤ m) :
    (convert src dst (.slice (some ⟨g, 0, none⟩) k cp')).run P w = .ok (.string (Sb (l.take k))) w := by
  subst hm
  obtain ⟨g', cp2, q1, q2, q3⟩ := byO_rd h
  injection q1 with q1 q1' q1''
  injection q1 with q1
  injection q1 with q1
  subst q1
  have := q3.take hk
  rw [bs_take] at this
  exact run_tostr hs he hd this
end
theorem RF.in0 {i : Nat} {F1 : Fact} {F0 : RF} {b : BB} {f : FF} {w : World} {c : Colr} (h : (RF.st i F1 F0).P b f w c) (hb : b i = false) : F0.P b f w c := h.2 hb
theorem RF.inS {F : Fact} {b : BB} {f : FF} {w : World} {c : Colr} (h : (RF.s F).P b f w c) : F.P w c := h
theorem st_now' {i : Nat} {F1 : Fact} {F0 : RF} {b : BB} {f : FF} {w : World} {c : Colr} (h : F1.P w c) : (RF.st i F1 F0).P (bup b i) f w c := ⟨fun _ => h, fun hbb => (by rw [bup_at] at hbb; cases hbb)⟩
section
variable {P : Program} {l : List Oper} {dt : List (List Nat)} {Q : Exit → Act → World → Prop} {n : Nat} {a : Act} {m : Nat → Option Value} {D CB : List Nat} {Fs : List RF} {V : Nat → TyC} {w0 : World} {c0 : Colr} {i : Nat}
/-- []byte(s). -/
theorem sCvb (nc d p j : Nat) {o : Oper} {σ : TyO} {src dst e : TypeId} {u : TypeDesc} {x0 : List UInt8} (r0 : XA n l dt m D i) (hs : P.underlying src = some u) (hds : P.underlying dst = some (.slice e)) (he : P.underlying e = some (.int .u8)) (hz : ∀ {b : BB} {f : FF} {w : World} {c : Colr} {v : Value}, Kx dt w0 c0 CB Fs i b f w c → r0.r.T V w c v → r0.r.W v = .string (Sb x0))
    (hi : nthL l i = some o := by rfl) (hop : o.op = .convert src dst r0.r.opd := by rfl) (hd : o.dst = some d := by rfl) (hA : Fs.filter (aff [nc] i (some d)) = [.own d (byO nc x0), .own p σ] := by rfl) (hj : dep dt j i = true ∧ dstOf l j = some p := by exact ⟨rfl, rfl⟩) (hpd : (p == d) = false := by rfl) (hCB : [nc].all (CB.contains ·) = true := by rfl) (hn : ([nc].contains 0 || [nc].contains 1) = false := by rfl) (hV : V d = TyC.any := by rfl) (hg : Gd l n dt V i o.guard := by first | exact trivial | exact ⟨rfl, _, ⟨rfl, rfl⟩, rfl⟩) : OpStep P l dt Q n a m D CB Fs V w0 c0 i := by
  intro b f w c x o' hJ hout hF hE ho K
  obtain rfl : o = o' := Option.some.inj (hi.symm.trans ho)
  obtain ⟨v0, ev0, sv0⟩ := r0.ev hJ hout hF hE K
  have hrun := Lib.run_convert_string_bytes (P := P) w src dst e (Sb x0) hs hds he
  have he' : (execOp x.eval o).run P w = .ok (.value (.slice (some ⟨w.heap.size, 0, none⟩) (Sb x0).size (grownCap w (Sb x0).size 0 e))) (Lib.bytesWorld w e (Sb x0)) := by
    simp [execOp, hop, ev0, hz K sv0, hrun, Result.andThen]
  obtain ⟨q1, q2⟩ := conv_own (n := nc) (w := w) (c := c) (e := e) x0 hJ.gi hn
  refine .run [nc] (some d) (hg.wanted hJ hF hE K) hd hCB (wp_val he' ⟨_, _, rfl, q1, fun d' _ => ?_, ?_⟩)
  · injection ‹some d = some d'› with hdd
    subst hdd
    rw [hV]
    trivial
  · rw [hA]
    exact ⟨own_now q2, own_nyet hpd (unset_of hJ (K.nyet j hj.1) hj.2), trivial⟩
/-- b[j] = x. -/
theorem sStb (nc : Nat) {o : Oper} {ty : TypeId} {g cp k j : Nat} {x0 : List UInt8} {y : UInt8} {F0 : RF} (r0 r1 : XA n l dt m D i) (hty : (P.info? ty).map (·.size) = some 1) (ha : ∀ {b : BB} {f : FF} {w : World} {c : Colr} {v : Value}, Kx dt w0 c0 CB Fs i b f w c → r0.r.T V w c v → r0.r.W v = .pointer (some ⟨g, j * 1, none⟩)) (hb : ∀ {b : BB} {f : FF} {w : World} {c : Colr} {v : Value}, Kx dt w0 c0 CB Fs i b f w c → r1.r.T V w c v → r1.r.W v = By y) (O : ∀ {b : BB} {f : FF} {w : World} {c : Colr}, Kx dt w0 c0 CB Fs i b f w c → (byO nc x0).sat (.slice (some ⟨g, 0, none⟩) k cp) w c) (hm : x0.length = k) (hj : j < k)
    (hi : nthL l i = some o := by rfl) (hop : o.op = .store ty r0.r.opd r1.r.opd := by rfl) (hd : o.dst = none := by rfl) (hA : Fs.filter (aff [nc] i none) = [.st i (Fact.own (byO nc (x0.set j y)) (.slice (some ⟨g, 0, none⟩) k cp)) F0] := by rfl) (hCB : [nc].all (CB.contains ·) = true := by rfl) (hn : ([nc].contains 0 || [nc].contains 1) = false := by rfl) (hg : Gd l n dt V i o.guard := by first | exact trivial | exact ⟨rfl, _, ⟨rfl, rfl⟩, rfl⟩) : OpStep P l dt Q n a m D CB Fs V w0 c0 i := by
  intro b f w c x o' hJ hout hF hE ho K
  obtain rfl : o = o' := Option.some.inj (hi.symm.trans ho)
  obtain ⟨v0, ev0, sv0⟩ := r0.ev hJ hout hF hE K
  obtain ⟨v1, ev1, sv1⟩ := r1.ev hJ hout hF hE K
  obtain ⟨w2, q1, q2, q3⟩ := by_store (P := P) (b := y) hJ.gi hn hty (O K) hm hj
  refine .store nc [nc] rfl (hg.wanted hJ hF hE K) hd hCB hop (ev0.trans (ha K sv0)) (ev1.trans (hb K sv1)) ⟨w2, q1, q2, ?_⟩
  rw [hA]
  exact ⟨st_now' q3, trivial⟩
/-- min of two ints. -/
theorem sMin (d : Nat) {o : Oper} {ts : Array TypeId} {x y z : Int} (r0 r1 : XA n l dt m D i) (hz : ∀ {w : World} {c : Colr} {v v' : Value}, r0.r.T V w c v → r1.r.T V w c v' → r0.r.W v = .int .i64 x ∧ r1.r.W v' = .int .i64 y) (hm : (x ≤ y ∧ z = x) ∨ (y ≤ x ∧ z = y)) (hi : nthL l i = some o := by rfl) (hop : o.op = .call { callee := .builtin .min, args := #[r0.r.opd, r1.r.opd], argTypes := ts } := by rfl) (hd : o.dst = some d := by rfl) (hA : Fs.filter (aff [] i (some d)) = [] := by rfl) (hV : V d = TyC.eq (.int .i64 z) := by rfl) (hg : Gd l n dt V i o.guard := by first | exact trivial | exact ⟨rfl, _, ⟨rfl, rfl⟩, rfl⟩) : OpStep P l dt Q n a m D CB Fs V w0 c0 i := by
  intro b f w c x o' hJ hout hF hE ho K
  obtain rfl : o = o' := Option.some.inj (hi.symm.trans ho)
  obtain ⟨v0, ev0, sv0⟩ := r0.ev hJ hout hF hE K
  obtain ⟨v1, ev1, sv1⟩ := r1.ev hJ hout hF hE K
  obtain ⟨h1, h2⟩ := hz sv0 sv1
  exact .pure (v := .int .i64 z) d (hg.wanted hJ hF hE K) hd (by rw [hA]; trivial) hJ.gi (by simp [execOp, hop, resolve, invoke, builtin, ev0.trans h1, ev1.trans h2, run_min2 _ _ _ hm, Result.andThen]) (by rw [hV]; rfl)
/-- s[:k] of a known slice. -/
theorem sSlb (d : Nat) {o : Oper} {t e : TypeId} {z : Value} {bytes : Nat} {A : Option Addr} {q cp k : Nat} (r0 r1 : XA n l dt m D i) (hE_ : Elem P t e z bytes) (hz : ∀ {w : World} {c : Colr} {v v' : Value}, r0.r.T V w c v → r1.r.T V w c v' → r0.r.W v = .slice A q cp ∧ r1.r.W v' = .int .i64 (k : Int)) (hk : k ≤ cp) (hi : nthL l i = some o := by rfl) (hop : o.op = .slice t r0.r.opd none (some r1.r.opd) none := by rfl) (hd : o.dst = some d := by rfl) (hA : Fs.filter (aff [] i (some d)) = [] := by rfl) (hV : V d = TyC.eq (.slice A k cp) := by rfl) (hg : Gd l n dt V i o.guard := by first | exact trivial | exact ⟨rfl, _, ⟨rfl, rfl⟩, rfl⟩) : OpStep P l dt Q n a m D CB Fs V w0 c0 i := by
  intro b f w c x o' hJ hout hF hE ho K
  obtain rfl : o = o' := Option.some.inj (hi.symm.trans ho)
  obtain ⟨v0, ev0, sv0⟩ := r0.ev hJ hout hF hE K
  obtain ⟨v1, ev1, sv1⟩ := r1.ev hJ hout hF hE K
  obtain ⟨h1, h2⟩ := hz sv0 sv1
  have hrun := run_upto (P := P) hE_ .i64 A q cp k k rfl hk w
  exact .pure (v := .slice A k cp) d (hg.wanted hJ hF hE K) hd (by rw [hA]; trivial) hJ.gi (by simp [execOp, hop, ev0.trans h1, ev1.trans h2, Instr.sliceAt, run_underlying hE_.1, hrun, Result.andThen]) (by rw [hV]; rfl)
/-- string(b) of the first bytes of an owned row. -/
theorem sCvs (d nc : Nat) {o : Oper} {src dst e : TypeId} {g q cp cp' k : Nat} {x0 y0 : List UInt8} (r0 : XA n l dt m D i) (hs : P.underlying src = some (.slice e)) (he : P.underlying e = some (.int .u8)) (hds : P.underlying dst = some .string) (hz : ∀ {w : World} {c : Colr} {v : Value}, r0.r.T V w c v → r0.r.W v = .slice (some ⟨g, 0, none⟩) k cp') (O : ∀ {b : BB} {f : FF} {w : World} {c : Colr}, Kx dt w0 c0 CB Fs i b f w c → (byO nc x0).sat (.slice (some ⟨g, 0, none⟩) q cp) w c) (hm : x0.length = q) (hk : k ≤ q) (hy : x0.take k = y0) (hi : nthL l i = some o := by rfl) (hop : o.op = .convert src dst r0.r.opd := by rfl) (hd : o.dst = some d := by rfl) (hA : Fs.filter (aff [] i (some d)) = [] := by rfl) (hV : V d = TyC.eq (.string (Sb y0)) := by rfl) (hg : Gd l n dt V i o.guard := by first | exact trivial | exact ⟨rfl, _, ⟨rfl, rfl⟩, rfl⟩) : OpStep P l dt Q n a m D CB Fs V w0 c0 i := by
  intro b f w c x o' hJ hout hF hE ho K
  obtain rfl : o = o' := Option.some.inj (hi.symm.trans ho)
  obtain ⟨v0, ev0, sv0⟩ := r0.ev hJ hout hF hE K
  have hrun := by_string (P := P) (cp' := cp') hs he hds (O K) hm hk
  subst hy
  exact .pure (v := .string (Sb (x0.take k))) d (hg.wanted hJ hF hE K) hd (by rw [hA]; trivial) hJ.gi (by simp [execOp, hop, ev0.trans (hz sv0), hrun, Result.andThen]) (by rw [hV]; rfl)
theorem sLsq (d : Nat) {o : Oper} {sz k : Nat} {t e : TypeId} {L : List TyC} (r0 : XA n l dt m D i) (hlen : L.length = k) (ht : P.underlying t = some (.slice e)) (hz : ∀ {b : BB} {f : FF} {w : World} {c : Colr} {v : Value}, Kx dt w0 c0 CB Fs i b f w c → r0.r.T V w c v → (seqC sz L).sat (r0.r.W v) w c) (hi : nthL l i = some o := by rfl) (hop : o.op = .call { callee := .builtin .len, args := #[r0.r.opd], argTypes := #[t] } := by rfl) (hd : o.dst = some d := by rfl) (hA : Fs.filter (aff [] i (some d)) = [] := by rfl) (hV : V d = TyC.eq (.int .i64 (k : Int)) := by rfl) (hg : Gd l n dt V i o.guard := by first | exact trivial | exact ⟨rfl, _, ⟨rfl, rfl⟩, rfl⟩) : OpStep P l dt Q n a m D CB Fs V w0 c0 i := by
  intro b f w c x o' hJ hout hF hE ho K
  obtain rfl : o = o' := Option.some.inj (hi.symm.trans ho)
  obtain ⟨v0, ev0, sv0⟩ := r0.ev hJ hout hF hE K
  subst hlen
  exact .pure d (hg.wanted hJ hF hE K) hd (by rw [hA]; trivial) hJ.gi (seq_len hop ht ev0 (hz K sv0)) (by rw [hV]; rfl)
end
/-- A cell. -/
def TyC.sc (τ : TyC) : TyC := ⟨fun v w c => ∃ x, v = .agg #[x] ∧ τ.sat x w c, fun ⟨x, h1, h2⟩ g e => ⟨x, h1, τ.stab h2 g e⟩⟩
theorem ref_load_s {P : Program} {w : World} {c : Colr} {v : Value} {ty : TypeId} {τ : TyC} (hu : P.underlying ty = some .string) (h : (refC 1 (TyC.sc τ)).sat v w c) : ∃ ad u, v = .pointer (some ad) ∧ (loadVar ty ad).run P w = .ok u w ∧ τ.sat u w c := by
  obtain ⟨ad, cs, rfl, h2, h3, ⟨x, h4, h5⟩, h6⟩ := h
  injection h4 with h4
  subst h4
  have hc := h6 0 x rfl
  have e : ad.add 0 = ad := by simp [Addr.add]
  rw [e] at hc
  refine ⟨ad, x, rfl, ?_, h5⟩
  simp [loadVar, isAgg, run_underlying hu, hc, Result.andThen, go_sem]
theorem run_add_sb {P : Program} {w : World} (t : TypeId) (a b : List UInt8) (h : a.length + b.length ≤ 1000000) : (binOp .add t (.string (Sb a)) (.string (Sb b))).run P w = .ok (.string (Sb (a ++ b))) w := by
  have e : (Sb a ++ Sb b) = Sb (a ++ b) := by apply ByteArray.ext; simp
  have h1 : (Sb a).size = a.length := by simp [ByteArray.size]
  have h2 : (Sb b).size = b.length := by simp [ByteArray.size]
  have h3 : ¬ 9223372036854775807 < (Sb a).size + (Sb b).size := by omega
  simp [binOp, go_sem, e]
  omega
end Go.Col

namespace Go
section
variable {H : Type} {enc : TypeId × Value → H}
theorem lift_and_shaped {a : Assume} {C : Checked} {os : Os} {f : FuncId} {fn : Func} {s : ChangeSpec} {conds : List PathCond} {apart fresh handsOn again : Bool} {X : World → Array Value → Prop}
    (hX : ∀ (w w' : World) (args : Array Value), w.heap = w'.heap → X w args → X w' args)
    (own : ownKnob C.prog.godebug = none) (started : os.Started) (noInit : C.prog.inits.idxOf? f = none) (hfn : C.prog.funcs[f]? = some fn)
    (witness : ∃ (w : World) (tape : Tape) (i : Input), w.os = os ∧ (w.forCall tape i).Shaped C.prog ∧ i.vars = [] ∧ Input.okWide C.prog (w.forCall tape i) .any w.heap.size f i ∧
      ((s.pre enc C.prog fn conds apart (w.forCall tape i).memory i.args ∧ X (w.forCall tape i).memory i.args) ∧ sizedMet enc C.prog fn (OpenSpec.ofChange s) apart (w.forCall tape i).memory i.args) ∧ a.holds C.prog (lone (Frame.enter C.prog f i.args .normal) [] (w.forCall tape i)))
    (contract : ∀ (W : World) (base : Nat) (args : Array Value) (ds gs : List (DataW H)) (before : List MemPlace), W.ShapedOpen C.prog →
      (∀ (j : Nat) t v, fn.params[j]? = some t → args[j]? = some v → Value.okWide C.prog W .any base t v) →
      DataW.Whole enc C.prog fn.params.toList s.vars apart W args.toList ds gs before →
      conds.all (PathCond.test C.prog ⟨fn.params.toList, ds, s.plain.varTypes C.prog, gs⟩) = true →
      (DataW.weightsEach C.prog (fn.params.toList ++ s.plain.varTypes C.prog) (ds ++ gs)).all (· ≤ reachBytes) = true → X W args →
      a.holds C.prog (lone (Frame.enter C.prog f args .normal) [] W) →
      Calls C.prog f args W fun e W' => ∃ v, e = .returned v ∧ s.post enc C.prog fn apart fresh handsOn again W args v W') :
    ReturnsInHanded a C os f .any (fun w args => (s.pre enc C.prog fn conds apart w args ∧ X w args) ∧ sizedMet enc C.prog fn (OpenSpec.ofChange s) apart w args) (s.post enc C.prog fn apart fresh handsOn again) := by
  refine returnsInHanded_of_calls own started noInit witness ?_
  intro w tape i _ hsh _ hok hpre hholds
  obtain ⟨_, _, _, fn', hfn', _, _, _, _, hval⟩ := hok
  have e : fn' = fn := Option.some.inj (hfn'.symm.trans hfn)
  subst e
  obtain ⟨⟨⟨ds, gs, before, hw, hc⟩, hx⟩, hz⟩ := hpre
  have hw' := DataW.Whole.of_heap (w' := w.forCall tape i) (by rfl) hw
  refine (contract (w.forCall tape i) w.heap.size i.args ds gs before hsh hval hw' hc (hz.weights hw) (hX _ _ _ (by rfl) hx) hholds).mono fun e W' ⟨v, he, hp⟩ => ?_
  subst he
  exact ChangeSpec.post_blind hp
end
end Go

namespace Go.Mem
open Go.RowKit

theorem row_rd {k : IntKind} {w : World} {a : Option Addr} {len cap : Nat} {zs : List Int}
    (h : (a = none ∧ len = 0 ∧ cap = 0 ∧ zs = []) ∨ ∃ x, a = some x ∧ len ≤ cap ∧ cap ≤ maxLen ∧ zs.length = cap ∧ (∀ i, i < zs.length → w.cell? (x.add i) = some (.int k (zs.getD i 0))) ∧ ∀ n ∈ zs, (Lit.int k n).wf = true) :
    Rd w a len ((zs.take len).map (Value.int k)) ∧ len ≤ cap ∧ cap ≤ maxLen ∧ ∀ n ∈ zs.take len, (Lit.int k n).wf = true := by
  rcases h with ⟨rfl, rfl, rfl, rfl⟩ | ⟨x, rfl, h1, h2, h3, h4, h5⟩
  · exact ⟨Rd.nil _ _, Nat.le_refl _, Nat.zero_le _, by simp⟩
  · refine ⟨⟨by simp; omega, fun hn => ⟨x, rfl, fun j u hu => ?_⟩⟩, h1, h2, fun n hn => h5 n (List.mem_of_mem_take hn)⟩
    rw [List.getElem?_map, List.getElem?_take] at hu
    split at hu
    · rename_i hj
      have hj' : j < zs.length := by omega
      rw [h4 j hj']
      rw [List.getElem?_eq_getElem hj'] at hu
      simp at hu
      subst hu
      simp [List.getD, List.getElem?_eq_getElem hj']
    · cases hu
theorem row_ints {w : World} {a : Option Addr} {len cap : Nat} {zs : List Int}
    (h : (a = none ∧ len = 0 ∧ cap = 0 ∧ zs = []) ∨ ∃ x, a = some x ∧ len ≤ cap ∧ cap ≤ maxLen ∧ zs.length = cap ∧ (∀ i, i < zs.length → w.cell? (x.add i) = some (.int .i64 (zs.getD i 0))) ∧ ∀ n ∈ zs, (Lit.int .i64 n).wf = true) :
    ∃ l : List Int, Rd w a len (is l) ∧ len ≤ cap ∧ cap ≤ maxLen ∧ ∀ z ∈ l, -9223372036854775808 ≤ z ∧ z ≤ 9223372036854775807 := by
  obtain ⟨h1, h2, h3, h4⟩ := row_rd h
  refine ⟨zs.take len, h1, h2, h3, fun z hz => ?_⟩
  have := h4 z hz
  simp [Lit.wf, IntKind.min, IntKind.max, IntKind.signed, IntKind.bits] at this
  omega
theorem int_fits {a : Int} (h : (Lit.int .i64 a).wf = true) : -9223372036854775808 ≤ a ∧ a ≤ 9223372036854775807 := by
  simp [Lit.wf, IntKind.min, IntKind.max, IntKind.signed, IntKind.bits] at h
  omega
theorem byte_fits {a : Int} (h : (Lit.int .u8 a).wf = true) : ∃ c : UInt8, a = (c.toNat : Int) := by
  simp [Lit.wf, IntKind.min, IntKind.max, IntKind.signed, IntKind.bits] at h
  exact ⟨UInt8.ofNat a.toNat, by simp; omega⟩
end Go.Mem
