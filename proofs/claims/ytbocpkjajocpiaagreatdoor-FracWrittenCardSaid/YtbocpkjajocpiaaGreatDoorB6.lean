/- The parts Rl1, FrZ, FrO, FrW, PureFrame, PureFirst, PureScan, PureEq, Own, Ow, By, Obj, Wro, Lift, Args of the proof, in one text. -/
import Derived.Lib.ConvBytes
import Derived.Handed
import Derived.Test.YtbocpkjajocpiaaGreatDoorB5
set_option linter.unusedSimpArgs false
set_option linter.unusedVariables false

namespace Go.Proofs.YtbocpkjajocpiaaGreatDoor
set_option linter.unusedVariables false
open Go.RowKit Go.Mem Go.Dig Go.Fr Go.Col

set_option maxRecDepth 100000 in
set_option maxHeartbeats 4000000 in
theorem t_lnumber (w : World) (v : Value) (z : Int) (h : (rfC z).sat v w (fun _ => 0)) : CT0 Tryz.prog 30 #[v] w (wfC (z)) := by
 have hz := h.2; refine enter_st Tryz.func30 rfl Tryz.ntmps30 [(0, v)] rfl ⟨rfl, trivial⟩ (Nat.le_of_ble_eq_true rfl) ?_; intro a0 XE0; obtain ⟨c0, hc0⟩ : ∃ c0 : Colr, c0 = fun _ => 0 := ⟨_, rfl⟩; have XG0 : GI w c0 := hc0 ▸ GI.zero w; have XN0 : Ext [21, 22, 23] w c0 w c0 := Ext.refl rfl XG0; have XL0 : All [.s (Fact.val (rfC (z)) v)] b0 f0 w c0 := ⟨(hc0 ▸ h), trivial⟩; refine wp_seq ?_; refine region_st [[], []] [1, 2] [21, 22] (tyvC [(1, PT), (2, PT)]) XE0 XG0 (All.cn 1 21 26 0 #[] (rfC (z)) (All.cn 2 22 35 1 #[] (wfC (0)) XL0)) (fun Q => ⟨sBox 1 21 (rO 0) (fun K h0 => bxs (rf_str' _) (K.fac.val 2 rfl)), sAlz 2 22 (zeroI _) (wf_zero), trivial⟩) ?_; intro bX fX w1 c1 a1 XG1 yx yA yB yV yO yF; obtain ⟨g1_1, e1⟩ := kp (yV 1 rfl) rfl; obtain ⟨g2_1, e2⟩ := kp (yV 2 rfl) rfl; have XE1 := XE0.up yF yO (ck e1 (ck e2 kn)); have XL1 := (All.cb (yA.nb 0 rfl e1 (yB 0 (by decide))) (All.cb (yA.nb 1 rfl e2 (yB 1 (by decide))) (yA.pk yB rfl []))); have XN1 := XN0.trans yx rfl; clear yx yA yB yV yO yF; show Code.wp _ _ _ _ _; refine wp_seq ?_; refine region_st [[], [0], [1], [2], [3], [3], [], [4, 6], [5]] [3, 4, 5, 6, 7, 8, 9, 10] [23] (tyvC [(3, PT), (4, (iE 0)), (5, (TyC.tup1 (wfC (z)) (Value.int .i64 0))), (6, (rfC (z))), (7, (TyC.eq (Value.string (St (Txt.text z))))), (8, (TyC.tup1 (wfC (z)) (Value.int .i64 0))), (9, (wfC (z))), (10, (iE 0))]) XE1 XG1 (All.cn 3 23 35 7 #[.bool false, .slice none 0 0] (wfC (z)) XL1) (fun Q => ⟨sLb 6 (rO 1) 1 aggN (rf_str' _), sC1 7 (rS 6 0) (fun K h0 => k_rtext h0) Tryz.func20, sC1 8 (rS 7 1) (fun K h0 => by cases h0; exact k_wparse _ (Txt.text z) rfl (ft_short hz) z 0 (parsR_self hz)) Tryz.func19, sMv 5 (rS 8 2), sEx 9 (rS 5 3) ex10, sEx 10 (rS 5 3) ex11, sAl 3 23 (zeroI _), sStn 3 23 6 0 (rS 9 4) aggInt (wf_str _), sMv 4 (rS 10 5), trivial⟩) ?_; intro bX fX w2 c2 a2 XG2 yx yA yB yV yO yF; obtain ⟨g3_2, e3⟩ := kp (yV 3 rfl) rfl; have XE2 := XE1.up yF yO (ck e3 kn); have XL2 := (All.cb (yA.nb 0 rfl e3 (yB 7 (by decide))) (yA.pk yB rfl [2])); have XN2 := XN1.trans yx rfl; clear yx yA yB yV yO yF; show Code.wp _ _ _ _ _; refine wp_seq ?_; refine region_st [[], [0]] [11] [22] (tyvC [(11, (wfC (z)))]) XE2 XG2 (All.stg 1 1 (Fact.box g2_1 35 22 (wfC (z))) XL2) (fun Q => ⟨sLb 11 (rO 3) 0 aggInt (wf_str _), sSto 22 (rO 2) (rS 11 0) aggInt (wf_str _) (fun K => BoxC.old (K.fac.sb0 1 rfl K.self) (wf_str _)) (fun K h0 => h0), trivial⟩) ?_; intro bX fX w3 c3 a3 XG3 yx yA yB yV yO yF; have XE3 := XE2.up yF yO kn; have XL3 := (yA.pk yB rfl [1]); have XN3 := XN2.trans yx rfl; clear yx yA yB yV yO yF; show Code.wp _ _ _ _ _; refine wp_ret ?_; (repeat (first | (with_reducible refine then_ret ?_) | (with_reducible refine inBlock_ret ?_) | (with_reducible refine then_normal ?_) | (with_reducible refine inBlock_normal ?_))); show bodyPost Tryz.prog Tryz.f30 _ Exit.ret a3 w3; obtain ⟨r0, hr0, hs0⟩ := BoxC.load (All.box XL3 0 rfl) aggInt (wf_str _); subst hc0; exact bodyPost_ret (res_c rfl _ (XE3.at 2 rfl) hr0) XE3.2.1 ⟨_, rfl, hs0, XN3.new0⟩

theorem k_lnumber {w : World} {c : Colr} {v : Value} {z : Int} (h : (rfC z).sat v w c) (he : Env w) : CV Tryz.prog 30 #[v] w c (wfC z) := (t_lnumber w v z h).cv (pl_wf _)
theorem k_make_self {w : World} {c : Colr} {v v' : Value} {x : Rat} (h : (wfC x.num).sat v w c) (h' : (wfC (dn x)).sat v' w c) : CV Tryz.prog 29 #[v, v'] w c ((ffC x).tup1 (.int .i64 0)) := by
  have := k_make h h'
  rwa [(mkV_self x).1, (mkV_self x).2] at this
set_option maxRecDepth 100000 in
set_option maxHeartbeats 4000000 in
theorem t_lof (w : World) (v : Value) (x : Rat) (h : (rffC x).sat v w (fun _ => 0)) (henv : Env w) : CT0 Tryz.prog 39 #[v] w (ffC (x)) := by
 refine enter_st Tryz.func39 rfl Tryz.ntmps39 [(0, v)] rfl ⟨rfl, trivial⟩ (Nat.le_of_ble_eq_true rfl) ?_; intro a0 XE0; obtain ⟨c0, hc0⟩ : ∃ c0 : Colr, c0 = fun _ => 0 := ⟨_, rfl⟩; have XG0 : GI w c0 := hc0 ▸ GI.zero w; have XN0 : Ext [21, 22, 23] w c0 w c0 := Ext.refl rfl XG0; have XL0 : All [.s (Fact.val (rffC (x)) v)] b0 f0 w c0 := ⟨(hc0 ▸ h), trivial⟩; refine wp_seq ?_; refine region_st [[], []] [1, 2] [21, 22] (tyvC [(1, PT), (2, PT)]) XE0 XG0 (All.cn 1 21 57 0 #[] (rffC (x)) (All.cn 2 22 52 1 #[] (ffC (0)) XL0)) (fun Q => ⟨sBox 1 21 (rO 0) (fun K h0 => bxs (rff_str _) (K.fac.val 2 rfl)), sAlz 2 22 (zeroF _) (ff_zero), trivial⟩) ?_; intro bX fX w1 c1 a1 XG1 yx yA yB yV yO yF; obtain ⟨g1_1, e1⟩ := kp (yV 1 rfl) rfl; obtain ⟨g2_1, e2⟩ := kp (yV 2 rfl) rfl; have XE1 := XE0.up yF yO (ck e1 (ck e2 kn)); have XL1 := (All.cb (yA.nb 0 rfl e1 (yB 0 (by decide))) (All.cb (yA.nb 1 rfl e2 (yB 1 (by decide))) (yA.pk yB rfl []))); have XN1 := XN0.trans yx rfl; clear yx yA yB yV yO yF; show Code.wp _ _ _ _ _; refine wp_seq ?_; refine region_st [[], [0], [1], [], [3], [4], [2, 5], [6], [7], [7], [], [8, 10], [9]] [3, 4, 5, 6, 7, 8, 9, 10, 11, 12, 13, 14] [23] (tyvC [(3, PT), (4, (iE 0)), (5, (TyC.tup1 (ffC (x)) (Value.int .i64 0))), (6, (pE g1_1 0)), (7, (rfC ((x).num))), (8, (wfC ((x).num))), (9, (pE g1_1 2)), (10, (rfC (dn (x)))), (11, (wfC (dn (x)))), (12, (TyC.tup1 (ffC (x)) (Value.int .i64 0))), (13, (ffC (x))), (14, (iE 0))]) XE1 XG1 (All.cn 3 23 52 11 #[.bool false, .slice none 0 0, .bool false, .slice none 0 0] (ffC (x)) XL1) (fun Q => ⟨sFa 6 (rO 1) (fld_r0 _), sLf 7 (rS 6 0) (fun K => lr_P (K.fac.box 1 rfl)), sC1 8 (rS 7 1) (fun K h0 => k_lnumber h0 (env_at henv (XN1.trans K.ext rfl) hc0)) Tryz.func30, sFa 9 (rO 1) (fld_r1 _), sLf 10 (rS 9 3) (fun K => lr_Q (K.fac.box 1 rfl)), sC1 11 (rS 10 4) (fun K h0 => k_lnumber h0 (env_at henv (XN1.trans K.ext rfl) hc0)) Tryz.func30, sC2 12 (rS 8 2) (rS 11 5) (fun K h0 h1 => k_make_self h0 h1) Tryz.func29, sMv 5 (rS 12 6), sEx 13 (rS 5 7) ex10, sEx 14 (rS 5 7) ex11, sAl 3 23 (zeroF _), sStn 3 23 10 0 (rS 13 8) aggF (ff_str _), sMv 4 (rS 14 9), trivial⟩) ?_; intro bX fX w2 c2 a2 XG2 yx yA yB yV yO yF; obtain ⟨g3_2, e3⟩ := kp (yV 3 rfl) rfl; have XE2 := XE1.up yF yO (ck e3 kn); have XL2 := (All.cb (yA.nb 0 rfl e3 (yB 11 (by decide))) (yA.pk yB rfl [2])); have XN2 := XN1.trans yx rfl; clear yx yA yB yV yO yF; show Code.wp _ _ _ _ _; refine wp_seq ?_; refine region_st [[], [0]] [15] [22] (tyvC [(15, (ffC (x)))]) XE2 XG2 (All.stg 1 1 (Fact.box g2_1 52 22 (ffC (x))) XL2) (fun Q => ⟨sLb 15 (rO 3) 0 aggF (ff_str _), sSto 22 (rO 2) (rS 15 0) aggF (ff_str _) (fun K => BoxC.old (K.fac.sb0 1 rfl K.self) (ff_str _)) (fun K h0 => h0), trivial⟩) ?_; intro bX fX w3 c3 a3 XG3 yx yA yB yV yO yF; have XE3 := XE2.up yF yO kn; have XL3 := (yA.pk yB rfl [1]); have XN3 := XN2.trans yx rfl; clear yx yA yB yV yO yF; show Code.wp _ _ _ _ _; refine wp_ret ?_; (repeat (first | (with_reducible refine then_ret ?_) | (with_reducible refine inBlock_ret ?_) | (with_reducible refine then_normal ?_) | (with_reducible refine inBlock_normal ?_)))
 show bodyPost Tryz.prog Tryz.f39 _ Exit.ret a3 w3; obtain ⟨r0, hr0, hs0⟩ := BoxC.load (All.box XL3 0 rfl) aggF (ff_str _); subst hc0; exact bodyPost_ret (res_c rfl _ (XE3.at 2 rfl) hr0) XE3.2.1 ⟨_, rfl, hs0, XN3.new0⟩

theorem k_lof {w : World} {c : Colr} {v : Value} {x : Rat} (h : (rffC x).sat v w c) (he : Env w) : CV Tryz.prog 39 #[v] w c (ffC x) := (t_lof w v x h he).cv (pl_ff _)
set_option maxRecDepth 100000 in
set_option maxHeartbeats 4000000 in
theorem t_lwhole (w : World) (n : Int) (hn : I64 n) : CT0 Tryz.prog 34 #[Value.int .i64 n] w (ffC (((n : Int) : Rat))) := by
 rw [← mkV_int n]; refine enter_st Tryz.func34 rfl Tryz.ntmps34 [(0, Value.int .i64 n)] rfl ⟨rfl, trivial⟩ (Nat.le_of_ble_eq_true rfl) ?_; intro a0 XE0; obtain ⟨c0, hc0⟩ : ∃ c0 : Colr, c0 = fun _ => 0 := ⟨_, rfl⟩; have XG0 : GI w c0 := hc0 ▸ GI.zero w; have XN0 : Ext [21, 22] w c0 w c0 := Ext.refl rfl XG0; have XL0 : All [] b0 f0 w c0 := trivial; refine wp_seq ?_; refine region_st [[]] [2] [21] (tyvC [(2, PT)]) XE0 XG0 (All.cn 2 21 52 0 #[] (ffC (0)) XL0) (fun Q => ⟨sAlz 2 21 (zeroF _) (ff_zero), trivial⟩) ?_; intro bX fX w1 c1 a1 XG1 yx yA yB yV yO yF; obtain ⟨g2_1, e2⟩ := kp (yV 2 rfl) rfl; have XE1 := XE0.up yF yO (ck e2 kn); have XL1 := (All.cb (yA.nb 0 rfl e2 (yB 0 (by decide))) (yA.pk yB rfl [])); have XN1 := XN0.trans yx rfl; clear yx yA yB yV yO yF; show Code.wp _ _ _ _ _; refine wp_seq ?_; refine region_st [[], [0], [1], [2], [2], [], [3, 5], [4]] [3, 4, 5, 6, 7, 8, 9] [22] (tyvC [(3, PT), (4, (iE (mkE 1))), (5, (TyC.tup1 (ffC (mkV n 1)) (Value.int .i64 (mkE 1)))), (6, (iE n)), (7, (TyC.tup1 (ffC (mkV n 1)) (Value.int .i64 (mkE 1)))), (8, (ffC (mkV n 1))), (9, (iE (mkE 1)))]) XE1 XG1 (All.cn 3 22 52 6 #[.bool false, .slice none 0 0, .bool false, .slice none 0 0] (ffC (mkV n 1)) XL1) (fun Q => ⟨sMv 6 (rO 0), sC2 7 (rS 6 0) (rK (Value.int IntKind.i64 1)) (fun K h0 h1 => by cases h0; exact k_fof (n) (1) (by first | omega | assumption) (by first | omega | assumption)) Tryz.func33, sMv 5 (rS 7 1), sEx 8 (rS 5 2) ex10, sEx 9 (rS 5 2) ex11, sAl 3 22 (zeroF _), sStn 3 22 5 0 (rS 8 3) aggF (ff_str _), sMv 4 (rS 9 4), trivial⟩) ?_; intro bX fX w2 c2 a2 XG2 yx yA yB yV yO yF; obtain ⟨g3_2, e3⟩ := kp (yV 3 rfl) rfl; have XE2 := XE1.up yF yO (ck e3 kn); have XL2 := (All.cb (yA.nb 0 rfl e3 (yB 6 (by decide))) (yA.pk yB rfl [1])); have XN2 := XN1.trans yx rfl; clear yx yA yB yV yO yF; show Code.wp _ _ _ _ _; refine wp_seq ?_; refine region_st [[], [0]] [10] [21] (tyvC [(10, (ffC (mkV n 1)))]) XE2 XG2 (All.stg 1 1 (Fact.box g2_1 52 21 (ffC (mkV n 1))) XL2) (fun Q => ⟨sLb 10 (rO 3) 0 aggF (ff_str _), sSto 21 (rO 2) (rS 10 0) aggF (ff_str _) (fun K => BoxC.old (K.fac.sb0 1 rfl K.self) (ff_str _)) (fun K h0 => h0), trivial⟩) ?_; intro bX fX w3 c3 a3 XG3 yx yA yB yV yO yF; have XE3 := XE2.up yF yO kn; have XL3 := (yA.pk yB rfl [1]); have XN3 := XN2.trans yx rfl; clear yx yA yB yV yO yF; show Code.wp _ _ _ _ _; refine wp_ret ?_; (repeat (first | (with_reducible refine then_ret ?_) | (with_reducible refine inBlock_ret ?_) | (with_reducible refine then_normal ?_) | (with_reducible refine inBlock_normal ?_))); show bodyPost Tryz.prog Tryz.f34 _ Exit.ret a3 w3; obtain ⟨r0, hr0, hs0⟩ := BoxC.load (All.box XL3 0 rfl) aggF (ff_str _); subst hc0; exact bodyPost_ret (res_c rfl _ (XE3.at 2 rfl) hr0) XE3.2.1 ⟨_, rfl, hs0, XN3.new0⟩

theorem k_lwhole {w : World} {c : Colr} (n : Int) (hn : I64 n) : CV Tryz.prog 34 #[.int .i64 n] w c (ffC ((n : Int) : Rat)) := (t_lwhole w n hn).cv (pl_ff _)
set_option maxRecDepth 100000 in
set_option maxHeartbeats 4000000 in
theorem t_lequal (w : World) (v v' : Value) (x y : Rat) (h : (ffC x).sat v w (fun _ => 0)) (h' : (ffC y).sat v' w (fun _ => 0)) (henv : Env w) : CT0 Tryz.prog 53 #[v, v'] w (TyC.eq (Value.bool (ftx x == ftx y))) := by
 refine enter_st Tryz.func53 rfl Tryz.ntmps53 [(0, v), (1, v')] rfl ⟨rfl, rfl, trivial⟩ (Nat.le_of_ble_eq_true rfl) ?_; intro a0 XE0; obtain ⟨c0, hc0⟩ : ∃ c0 : Colr, c0 = fun _ => 0 := ⟨_, rfl⟩; have XG0 : GI w c0 := hc0 ▸ GI.zero w; have XN0 : Ext [21, 22] w c0 w c0 := Ext.refl rfl XG0; have XL0 : All [.s (Fact.val (ffC (x)) v), .s (Fact.val (ffC (y)) (v'))] b0 f0 w c0 := ⟨(hc0 ▸ h), (hc0 ▸ h'), trivial⟩; refine wp_seq ?_; refine region_st [[], [], []] [2, 3, 4] [21, 22] (tyvC [(2, PT), (3, PT), (4, (bE false))]) XE0 XG0 (All.cn 2 21 52 0 #[] (ffC (x)) (All.cn 3 22 52 1 #[] (ffC (y)) XL0)) (fun Q => ⟨sBox 2 21 (rO 0) (fun K h0 => bxs (ff_str _) (K.fac.val 2 rfl)), sBox 3 22 (rO 1) (fun K h0 => bxs (ff_str _) (K.fac.val 3 rfl)), sMv 4 (rK (Value.bool false)), trivial⟩) ?_; intro bX fX w1 c1 a1 XG1 yx yA yB yV yO yF; obtain ⟨g2_1, e2⟩ := kp (yV 2 rfl) rfl; obtain ⟨g3_1, e3⟩ := kp (yV 3 rfl) rfl; have XE1 := XE0.up yF yO (ck e2 (ck e3 (ck (kv (yV 4 rfl) rfl) kn))); have XL1 := (All.cb (yA.nb 0 rfl e2 (yB 0 (by decide))) (All.cb (yA.nb 1 rfl e3 (yB 1 (by decide))) (yA.pk yB rfl []))); have XN1 := XN0.trans yx rfl; clear yx yA yB yV yO yF; show Code.wp _ _ _ _ _; refine wp_seq ?_; refine region_st [[], [0], [], [2], [1, 3], [4]] [4, 5, 6, 7, 8, 9] [] (tyvC [(4, (TyC.eq (Value.bool (ftx x == ftx y)))), (5, (ffC (x))), (6, (TyC.eq (Value.string (St (ftx x))))), (7, (ffC (y))), (8, (TyC.eq (Value.string (St (ftx y))))), (9, (TyC.eq (Value.bool (ftx x == ftx y))))]) XE1 XG1 XL1 (fun Q => ⟨sLb 5 (rO 2) 0 aggF (ff_str _), sC1 6 (rS 5 0) (fun K h0 => k_fstring h0 (env_at henv (XN1.trans K.ext rfl) hc0).1) Tryz.func57, sLb 7 (rO 3) 1 aggF (ff_str _), sC1 8 (rS 7 2) (fun K h0 => k_fstring h0 (env_at henv (XN1.trans K.ext rfl) hc0).1) Tryz.func57, sBin 9 (rS 6 1) (rS 8 3) (fun h h' => ⟨h, h'⟩) (eqg_str _ _ _ _ _ _) (run_eqlS _ _ _), sMv 4 (rS 9 4), trivial⟩) ?_; intro bX fX w2 c2 a2 XG2 yx yA yB yV yO yF; have XE2 := XE1.up yF yO (ck (kv (yV 4 rfl) rfl) kn); have XL2 := (yA.pk yB rfl []); have XN2 := XN1.trans yx rfl; clear yx yA yB yV yO yF; show Code.wp _ _ _ _ _; refine wp_ret ?_; (repeat (first | (with_reducible refine then_ret ?_) | (with_reducible refine inBlock_ret ?_) | (with_reducible refine then_normal ?_) | (with_reducible refine inBlock_normal ?_))); show bodyPost Tryz.prog Tryz.f53 _ Exit.ret a2 w2; subst hc0; exact bodyPost_ret (res_t rfl _ (XE2.at 4 rfl)) XE2.2.1 ⟨_, rfl, rfl, XN2.new0⟩

theorem k_lequal {w : World} {c : Colr} {v v' : Value} {x y : Rat} (h : (ffC x).sat v w c) (h' : (ffC y).sat v' w c) (he : Env w) : CV Tryz.prog 53 #[v, v'] w c (TyC.eq (.bool (decide (x = y)))) := by
  rw [← ftx_beq]
  exact (t_lequal w v v' x y h h' he).cv (plain_eq _)
theorem k_leq {w : World} {c : Colr} {v v' : Value} {x y : Rat} (h : (ffC x).sat v w c) (h' : (ffC y).sat v' w c) (he : Env w) (e : x = y) : CV Tryz.prog 53 #[v, v'] w c (TyC.eq (.bool true)) := by
  have := k_lequal h h' he
  rwa [decide_eq_true e] at this
set_option maxRecDepth 100000 in
set_option maxHeartbeats 4000000 in
theorem t_llives (w : World) (henv : Env w) : CT0 Tryz.prog 36 #[] w (bE true) := by
 refine enter_st Tryz.func36 rfl Tryz.ntmps36 [] rfl trivial (Nat.le_of_ble_eq_true rfl) ?_; intro a0 XE0; obtain ⟨c0, hc0⟩ : ∃ c0 : Colr, c0 = fun _ => 0 := ⟨_, rfl⟩; have XG0 : GI w c0 := hc0 ▸ GI.zero w; have XN0 : Ext [21, 22, 23, 24, 25, 26, 27, 28, 29] w c0 w c0 := Ext.refl rfl XG0; have XL0 : All [] b0 f0 w c0 := trivial; refine wp_seq ?_; refine region_st [[]] [0] [] (tyvC [(0, (bE false))]) XE0 XG0 XL0 (fun Q => ⟨sMv 0 (rK (Value.bool false)), trivial⟩) ?_; intro bX fX w1 c1 a1 XG1 yx yA yB yV yO yF; have XE1 := XE0.up yF yO (ck (kv (yV 0 rfl) rfl) kn); have XL1 := (yA.pk yB rfl []); have XN1 := XN0.trans yx rfl; clear yx yA yB yV yO yF; show Code.wp _ _ _ _ _; refine wp_seq ?_; refine region_st [[], [0], [1], [1], [], [2, 4], [3]] [1, 2, 19, 20, 21, 22] [21] (tyvC [(1, PT), (2, (iE (mkE (-8)))), (19, (TyC.tup1 (ffC (mkV 6 (-8))) (Value.int .i64 (mkE (-8))))), (20, (TyC.tup1 (ffC (mkV 6 (-8))) (Value.int .i64 (mkE (-8))))), (21, (ffC (mkV 6 (-8)))), (22, (iE (mkE (-8))))]) XE1 XG1 (All.cn 1 21 52 5 #[.bool false, .slice none 0 0, .bool false, .slice none 0 0] (ffC (mkV 6 (-8))) XL1) (fun Q => ⟨sC2 20 (rK (Value.int IntKind.i64 6)) (rK (Value.int IntKind.i64 (-8))) (fun K h0 h1 => k_fof (6) (-8) (by first | omega | assumption) (by first | omega | assumption)) Tryz.func33, sMv 19 (rS 20 0), sEx 21 (rS 19 1) ex10, sEx 22 (rS 19 1) ex11, sAl 1 21 (zeroF _), sStn 1 21 4 0 (rS 21 2) aggF (ff_str _), sMv 2 (rS 22 3), trivial⟩) ?_; intro bX fX w2 c2 a2 XG2 yx yA yB yV yO yF; obtain ⟨g1_2, e1⟩ := kp (yV 1 rfl) rfl; have XE2 := XE1.up yF yO (ck e1 (ck (kv (yV 2 rfl) rfl) kn)); have XL2 := (All.cb (yA.nb 0 rfl e1 (yB 5 (by decide))) (yA.pk yB rfl [])); have XN2 := XN1.trans yx rfl; clear yx yA yB yV yO yF; show Code.wp _ _ _ _ _; refine wp_seq ?_; refine region_st [[], [0], [1], [1], [], [2, 4], [3]] [3, 4, 23, 24, 25, 26] [22] (tyvC [(3, PT), (4, (iE (mkE 2))), (23, (TyC.tup1 (ffC (mkV 1 2)) (Value.int .i64 (mkE 2)))), (24, (TyC.tup1 (ffC (mkV 1 2)) (Value.int .i64 (mkE 2)))), (25, (ffC (mkV 1 2))), (26, (iE (mkE 2)))]) XE2 XG2 (All.cn 3 22 52 5 #[.bool false, .slice none 0 0, .bool false, .slice none 0 0] (ffC (mkV 1 2)) XL2) (fun Q => ⟨sC2 24 (rK (Value.int IntKind.i64 1)) (rK (Value.int IntKind.i64 2)) (fun K h0 h1 => k_fof (1) (2) (by first | omega | assumption) (by first | omega | assumption)) Tryz.func33, sMv 23 (rS 24 0), sEx 25 (rS 23 1) ex10, sEx 26 (rS 23 1) ex11, sAl 3 22 (zeroF _), sStn 3 22 4 0 (rS 25 2) aggF (ff_str _), sMv 4 (rS 26 3), trivial⟩) ?_; intro bX fX w3 c3 a3 XG3 yx yA yB yV yO yF; obtain ⟨g3_3, e3⟩ := kp (yV 3 rfl) rfl; have XE3 := XE2.up yF yO (ck e3 kn); have XL3 := (All.cb (yA.nb 0 rfl e3 (yB 5 (by decide))) (yA.pk yB rfl [1])); have XN3 := XN2.trans yx rfl; clear yx yA yB yV yO yF; show Code.wp _ _ _ _ _; have hU1 := All.put (G := Fact.box g3_3 52 22 (ffC (qH))) 0 XL3 (BoxC.up (All.box XL3 0 rfl) (fun v hv => hv)); refine wp_seq ?_; refine region_st [[], [0], [1], [1], [], [2, 4], [3]] [5, 6, 27, 28, 29, 30] [23] (tyvC [(5, PT), (6, (iE (mkE 3))), (27, (TyC.tup1 (ffC (mkV 1 3)) (Value.int .i64 (mkE 3)))), (28, (TyC.tup1 (ffC (mkV 1 3)) (Value.int .i64 (mkE 3)))), (29, (ffC (mkV 1 3))), (30, (iE (mkE 3)))]) XE3 XG3 (All.cn 5 23 52 5 #[.bool false, .slice none 0 0, .bool false, .slice none 0 0] (ffC (mkV 1 3)) hU1) (fun Q => ⟨sC2 28 (rK (Value.int IntKind.i64 1)) (rK (Value.int IntKind.i64 3)) (fun K h0 h1 => k_fof (1) (3) (by first | omega | assumption) (by first | omega | assumption)) Tryz.func33, sMv 27 (rS 28 0), sEx 29 (rS 27 1) ex10, sEx 30 (rS 27 1) ex11, sAl 5 23 (zeroF _), sStn 5 23 4 0 (rS 29 2) aggF (ff_str _), sMv 6 (rS 30 3), trivial⟩) ?_
 intro bX fX w4 c4 a4 XG4 yx yA yB yV yO yF; obtain ⟨g5_4, e5⟩ := kp (yV 5 rfl) rfl; have XE4 := XE3.up yF yO (ck e5 kn); have XL4 := (All.cb (yA.nb 0 rfl e5 (yB 5 (by decide))) (yA.pk yB rfl [1, 2])); have XN4 := XN3.trans yx rfl; clear yx yA yB yV yO yF; show Code.wp _ _ _ _ _; have hU2 := All.put (G := Fact.box g5_4 52 23 (ffC (qT))) 0 XL4 (BoxC.up (All.box XL4 0 rfl) (fun v hv => hv)); refine wp_seq ?_; refine region_st [[], [], [0, 1], [2], [3], [3], [], [4, 6], [5]] [7, 8, 31, 32, 33, 34, 35, 36] [24] (tyvC [(7, PT), (8, (iE (addE qH qT))), (31, (TyC.tup1 (ffC (addV qH qT)) (Value.int .i64 (addE qH qT)))), (32, (ffC (qH))), (33, (ffC (qT))), (34, (TyC.tup1 (ffC (addV qH qT)) (Value.int .i64 (addE qH qT)))), (35, (ffC (addV qH qT))), (36, (iE (addE qH qT)))]) XE4 XG4 (All.cn 7 24 52 7 #[.bool false, .slice none 0 0, .bool false, .slice none 0 0] (ffC (addV qH qT)) hU2) (fun Q => ⟨sLb 32 (rO 3) 2 aggF (ff_str _), sLb 33 (rO 5) 1 aggF (ff_str _), sC2 34 (rS 32 0) (rS 33 1) (fun K h0 h1 => k_fadd h0 h1) Tryz.func40, sMv 31 (rS 34 2), sEx 35 (rS 31 3) ex10, sEx 36 (rS 31 3) ex11, sAl 7 24 (zeroF _), sStn 7 24 6 0 (rS 35 4) aggF (ff_str _), sMv 8 (rS 36 5), trivial⟩) ?_; intro bX fX w5 c5 a5 XG5 yx yA yB yV yO yF; obtain ⟨g7_5, e7⟩ := kp (yV 7 rfl) rfl; have XE5 := XE4.up yF yO (ck e7 (ck (kv (yV 8 rfl) rfl) kn)); have XL5 := (All.cb (yA.nb 0 rfl e7 (yB 7 (by decide))) (yA.pk yB rfl [1, 3])); have XN5 := XN4.trans yx rfl; clear yx yA yB yV yO yF; show Code.wp _ _ _ _ _; refine wp_seq ?_; refine region_st [[], [], [0, 1], [2], [3], [3], [], [4, 6], [5]] [9, 10, 37, 38, 39, 40, 41, 42] [25] (tyvC [(9, PT), (10, (iE (divE ((1 : Int) : Rat) ((0 : Int) : Rat)))), (37, (TyC.tup1 (ffC (divV ((1 : Int) : Rat) ((0 : Int) : Rat))) (Value.int .i64 (divE ((1 : Int) : Rat) ((0 : Int) : Rat))))), (38, (ffC (((1 : Int) : Rat)))), (39, (ffC (((0 : Int) : Rat)))), (40, (TyC.tup1 (ffC (divV ((1 : Int) : Rat) ((0 : Int) : Rat))) (Value.int .i64 (divE ((1 : Int) : Rat) ((0 : Int) : Rat))))), (41, (ffC (divV ((1 : Int) : Rat) ((0 : Int) : Rat)))), (42, (iE (divE ((1 : Int) : Rat) ((0 : Int) : Rat))))]) XE5 XG5 (All.cn 9 25 52 7 #[.bool false, .slice none 0 0, .bool false, .slice none 0 0] (ffC (divV ((1 : Int) : Rat) ((0 : Int) : Rat))) XL5) (fun Q => ⟨sC1 38 (rK (Value.int IntKind.i64 1)) (fun K h0 => k_lwhole 1 (by first | omega | assumption)) Tryz.func34, sC1 39 (rK (Value.int IntKind.i64 0)) (fun K h0 => k_lwhole 0 (by first | omega | assumption)) Tryz.func34, sC2 40 (rS 38 0) (rS 39 1) (fun K h0 h1 => k_fdiv h0 h1) Tryz.func46, sMv 37 (rS 40 2), sEx 41 (rS 37 3) ex10, sEx 42 (rS 37 3) ex11, sAl 9 25 (zeroF _), sStn 9 25 6 0 (rS 41 4) aggF (ff_str _), sMv 10 (rS 42 5), trivial⟩) ?_; intro bX fX w6 c6 a6 XG6 yx yA yB yV yO yF; have XE6 := XE5.up yF yO (ck (kv (yV 10 rfl) rfl) kn); have XL6 := (yA.pk yB rfl [1, 2, 3]); have XN6 := XN5.trans yx rfl; clear yx yA yB yV yO yF; show Code.wp _ _ _ _ _; refine wp_seq ?_; refine region_st [[], [], [0, 1], [2], [3], [3], [], [4, 6], [5]] [11, 12, 43, 44, 45, 46, 47, 48] [26] (tyvC [(11, PT), (12, (iE (addE ((1 : Int) : Rat) (-qT)))), (43, (TyC.tup1 (ffC (addV ((1 : Int) : Rat) (-qT))) (Value.int .i64 (addE ((1 : Int) : Rat) (-qT))))), (44, (ffC (((1 : Int) : Rat)))), (45, (ffC (qT))), (46, (TyC.tup1 (ffC (addV ((1 : Int) : Rat) (-qT))) (Value.int .i64 (addE ((1 : Int) : Rat) (-qT))))), (47, (ffC (addV ((1 : Int) : Rat) (-qT)))), (48, (iE (addE ((1 : Int) : Rat) (-qT))))]) XE6 XG6 (All.cn 11 26 52 7 #[.bool false, .slice none 0 0, .bool false, .slice none 0 0] (ffC (addV ((1 : Int) : Rat) (-qT))) XL6) (fun Q => ⟨sC1 44 (rK (Value.int IntKind.i64 1)) (fun K h0 => k_lwhole 1 (by first | omega | assumption)) Tryz.func34, sLb 45 (rO 5) 2 aggF (ff_str _), sC2 46 (rS 44 0) (rS 45 1) (fun K h0 h1 => k_fsub h0 h1) Tryz.func42, sMv 43 (rS 46 2), sEx 47 (rS 43 3) ex10, sEx 48 (rS 43 3) ex11, sAl 11 26 (zeroF _), sStn 11 26 6 0 (rS 47 4) aggF (ff_str _), sMv 12 (rS 48 5), trivial⟩) ?_
 intro bX fX w7 c7 a7 XG7 yx yA yB yV yO yF; obtain ⟨g11_7, e11⟩ := kp (yV 11 rfl) rfl; have XE7 := XE6.up yF yO (ck e11 kn); have XL7 := (All.cb (yA.nb 0 rfl e11 (yB 7 (by decide))) (yA.pk yB rfl [1, 3])); have XN7 := XN6.trans yx rfl; clear yx yA yB yV yO yF; show Code.wp _ _ _ _ _; refine wp_seq ?_; refine region_st [[], [0], [1], [2], [2], [], [3, 5], [4]] [13, 14, 49, 50, 51, 52, 53] [27] (tyvC [(13, PT), (14, (iE (powE (addV ((1 : Int) : Rat) (-qT)) 3))), (49, (TyC.tup1 (ffC (powV (addV ((1 : Int) : Rat) (-qT)) 3)) (Value.int .i64 (powE (addV ((1 : Int) : Rat) (-qT)) 3)))), (50, (ffC (addV ((1 : Int) : Rat) (-qT)))), (51, (TyC.tup1 (ffC (powV (addV ((1 : Int) : Rat) (-qT)) 3)) (Value.int .i64 (powE (addV ((1 : Int) : Rat) (-qT)) 3)))), (52, (ffC (powV (addV ((1 : Int) : Rat) (-qT)) 3))), (53, (iE (powE (addV ((1 : Int) : Rat) (-qT)) 3)))]) XE7 XG7 (All.cn 13 27 52 6 #[.bool false, .slice none 0 0, .bool false, .slice none 0 0] (ffC (powV (addV ((1 : Int) : Rat) (-qT)) 3)) XL7) (fun Q => ⟨sLb 50 (rO 11) 1 aggF (ff_str _), sC2 51 (rS 50 0) (rK (Value.int IntKind.i64 3)) (fun K h0 h1 => k_fpow (n := 3) (by first | omega | assumption) h0) Tryz.func51, sMv 49 (rS 51 1), sEx 52 (rS 49 2) ex10, sEx 53 (rS 49 2) ex11, sAl 13 27 (zeroF _), sStn 13 27 5 0 (rS 52 3) aggF (ff_str _), sMv 14 (rS 53 4), trivial⟩) ?_; intro bX fX w8 c8 a8 XG8 yx yA yB yV yO yF; obtain ⟨g13_8, e13⟩ := kp (yV 13 rfl) rfl; have XE8 := XE7.up yF yO (ck e13 (ck (kv (yV 14 rfl) rfl) kn)); have XL8 := (All.cb (yA.nb 0 rfl e13 (yB 6 (by decide))) (yA.pk yB rfl [2, 3])); have XN8 := XN7.trans yx rfl; clear yx yA yB yV yO yF; show Code.wp _ _ _ _ _; refine wp_seq ?_; refine region_st [[], [0], [1], [1], [], [2, 4], [3]] [15, 16, 54, 55, 56, 57] [28] (tyvC [(15, PT), (16, (iE (parE [50, 47, 52]))), (54, (TyC.tup1 (ffC (parV [50, 47, 52])) (Value.int .i64 (parE [50, 47, 52])))), (55, (TyC.tup1 (ffC (parV [50, 47, 52])) (Value.int .i64 (parE [50, 47, 52])))), (56, (ffC (parV [50, 47, 52]))), (57, (iE (parE [50, 47, 52])))]) XE8 XG8 (All.cn 15 28 52 5 #[.bool false, .slice none 0 0, .bool false, .slice none 0 0] (ffC (parV [50, 47, 52])) XL8) (fun Q => ⟨sC1 55 (rK (Value.string { data := #[50, 47, 52] })) (fun K h0 => k_fparse [50, 47, 52] (by decide) (env_at henv (XN8.trans K.ext rfl) hc0)) Tryz.func56, sMv 54 (rS 55 0), sEx 56 (rS 54 1) ex10, sEx 57 (rS 54 1) ex11, sAl 15 28 (zeroF _), sStn 15 28 4 0 (rS 56 2) aggF (ff_str _), sMv 16 (rS 57 3), trivial⟩) ?_; intro bX fX w9 c9 a9 XG9 yx yA yB yV yO yF; have XE9 := XE8.up yF yO (ck (kv (yV 16 rfl) rfl) kn); have XL9 := (yA.pk yB rfl [1, 2, 3]); have XN9 := XN8.trans yx rfl; clear yx yA yB yV yO yF; show Code.wp _ _ _ _ _; refine wp_seq ?_; refine region_st [[], [0], [1], [1], [], [2, 4], [3]] [17, 18, 58, 59, 60, 61] [29] (tyvC [(17, PT), (18, (iE (parE [51, 47, 49]))), (58, (TyC.tup1 (ffC (parV [51, 47, 49])) (Value.int .i64 (parE [51, 47, 49])))), (59, (TyC.tup1 (ffC (parV [51, 47, 49])) (Value.int .i64 (parE [51, 47, 49])))), (60, (ffC (parV [51, 47, 49]))), (61, (iE (parE [51, 47, 49])))]) XE9 XG9 (All.cn 17 29 52 5 #[.bool false, .slice none 0 0, .bool false, .slice none 0 0] (ffC (parV [51, 47, 49])) XL9) (fun Q => ⟨sC1 59 (rK (Value.string { data := #[51, 47, 49] })) (fun K h0 => k_fparse [51, 47, 49] (by decide) (env_at henv (XN9.trans K.ext rfl) hc0)) Tryz.func56, sMv 58 (rS 59 0), sEx 60 (rS 58 1) ex10, sEx 61 (rS 58 1) ex11, sAl 17 29 (zeroF _), sStn 17 29 4 0 (rS 60 2) aggF (ff_str _), sMv 18 (rS 61 3), trivial⟩) ?_
 intro bX fX w10 c10 a10 XG10 yx yA yB yV yO yF; have XE10 := XE9.up yF yO (ck (kv (yV 18 rfl) rfl) kn); have XL10 := (yA.pk yB rfl [1, 2, 3]); have XN10 := XN9.trans yx rfl; clear yx yA yB yV yO yF; show Code.wp _ _ _ _ _; refine wp_seq ?_; refine region_st [[], [0], [1], [2], [2, 3], [2, 4], [5], [6], [6, 7], [6, 8], [9], [10], [10, 11], [10, 12], [13], [14], [14, 15], [14, 16], [17], [18], [18, 19], [18, 20], [21], [22], [22, 23], [22, 24], [22, 25], [26], [27], [27, 28], [27, 29], [27, 30], [31], [32], [32, 33], [32, 34], [32, 35], [36]] [0, 62, 63, 64, 65, 66, 67, 68, 69, 70, 71, 72, 73, 74, 75, 76, 77, 78, 79, 80, 81, 82, 83, 84, 85, 86, 87, 88, 89, 90, 91, 92, 93, 94, 95, 96, 97, 98] [] (tyvC [(0, (bE true)), (62, (iE (mkE (-8)))), (63, (bE true)), (64, (bE true)), (65, (iE (addE qH qT))), (66, (bE true)), (67, (bE true)), (68, (bE true)), (69, (iE (divE ((1 : Int) : Rat) ((0 : Int) : Rat)))), (70, (bE true)), (71, (bE true)), (72, (bE true)), (73, (iE (powE (addV ((1 : Int) : Rat) (-qT)) 3))), (74, (bE true)), (75, (bE true)), (76, (bE true)), (77, (iE (parE [50, 47, 52]))), (78, (bE true)), (79, (bE true)), (80, (bE true)), (81, (iE (parE [51, 47, 49]))), (82, (bE true)), (83, (bE true)), (84, (bE true)), (85, (ffC (mkV 6 (-8)))), (86, (TyC.eq (Value.string (St (ftx (mkV 6 (-8))))))), (87, (bE true)), (88, (bE true)), (89, (bE true)), (90, (ffC (addV qH qT))), (91, (TyC.eq (Value.string (St (ftx (addV qH qT)))))), (92, (bE true)), (93, (bE true)), (94, (bE true)), (95, (ffC (powV (addV ((1 : Int) : Rat) (-qT)) 3))), (96, (TyC.eq (Value.string (St (ftx (powV (addV ((1 : Int) : Rat) (-qT)) 3)))))), (97, (bE true)), (98, (bE true))]) XE10 XG10 XL10 (fun Q => ⟨sMv 62 (rO 2), sBin 63 (z := Value.int .i64 (mkE (-8))) (z' := Value.int IntKind.i64 0) (u := Value.bool true) (rS 62 0) (rK (Value.int IntKind.i64 0)) (fun h h' => ⟨h, rfl⟩) (eqg_int _ _ _ _ _ _ _ _) (run_as (run_eql _ _ _ _) (by rw [show mkE (-8) = 0 from rfl]; rfl)), sMv 64 (rS 63 1), sMv 65 (rO 8), sBin 66 (z := Value.int .i64 (addE qH qT)) (z' := Value.int IntKind.i64 0) (u := Value.bool true) (rS 65 3) (rK (Value.int IntKind.i64 0)) (fun h h' => ⟨h, rfl⟩) (eqg_int _ _ _ _ _ _ _ _) (run_as (run_eql _ _ _ _) (by rw [sum_HT.2]; rfl)), sPkt 67 (rS 64 2) (rS 66 4), sMv 68 (rS 67 5), sMv 69 (rO 10), sBin 70 (z := Value.int .i64 (divE ((1 : Int) : Rat) ((0 : Int) : Rat))) (z' := Value.int IntKind.i64 1) (u := Value.bool true) (rS 69 7) (rK (Value.int IntKind.i64 1)) (fun h h' => ⟨h, rfl⟩) (eqg_int _ _ _ _ _ _ _ _) (run_as (run_eql _ _ _ _) (by rw [show divE ((1 : Int) : Rat) ((0 : Int) : Rat) = 1 from if_pos rfl]; rfl)), sPkt 71 (rS 68 6) (rS 70 8), sMv 72 (rS 71 9), sMv 73 (rO 14), sBin 74 (z := Value.int .i64 (powE (addV ((1 : Int) : Rat) (-qT)) 3)) (z' := Value.int IntKind.i64 0) (u := Value.bool true) (rS 73 11) (rK (Value.int IntKind.i64 0)) (fun h h' => ⟨h, rfl⟩) (eqg_int _ _ _ _ _ _ _ _) (run_as (run_eql _ _ _ _) (by rw [lv_h]; rfl)), sPkt 75 (rS 72 10) (rS 74 12), sMv 76 (rS 75 13), sMv 77 (rO 16), sBin 78 (z := Value.int .i64 (parE [50, 47, 52])) (z' := Value.int IntKind.i64 2) (u := Value.bool true) (rS 77 15) (rK (Value.int IntKind.i64 2)) (fun h h' => ⟨h, rfl⟩) (eqg_int _ _ _ _ _ _ _ _) (run_as (run_eql _ _ _ _) (by rw [lv_i]; rfl)), sPkt 79 (rS 76 14) (rS 78 16), sMv 80 (rS 79 17), sMv 81 (rO 18), sBin 82 (z := Value.int .i64 (parE [51, 47, 49])) (z' := Value.int IntKind.i64 2) (u := Value.bool true) (rS 81 19) (rK (Value.int IntKind.i64 2)) (fun h h' => ⟨h, rfl⟩) (eqg_int _ _ _ _ _ _ _ _) (run_as (run_eql _ _ _ _) (by rw [lv_j]; rfl)), sPkt 83 (rS 80 18) (rS 82 20), sMv 84 (rS 83 21), sLb 85 (rO 1) 2 aggF (ff_str _), sC1 86 (rS 85 23) (fun K h0 => k_fstring h0 (env_at henv (XN10.trans K.ext rfl) hc0).1) Tryz.func57, sBin 87 (z := Value.string (St (ftx (mkV 6 (-8))))) (z' := Value.string { data := #[45, 51, 47, 52] }) (u := Value.bool true) (rS 86 24) (rK (Value.string { data := #[45, 51, 47, 52] })) (fun h h' => ⟨h, rfl⟩) (eqg_str _ _ _ _ _ _) (run_as (run_eqlS _ _ [45, 51, 47, 52]) (by rw [lv_a]; rfl)), sPkt 88 (rS 84 22) (rS 87 25), sMv 89 (rS 88 26), sLb 90 (rO 7) 1 aggF (ff_str _), sC1 91 (rS 90 28) (fun K h0 => k_fstring h0 (env_at henv (XN10.trans K.ext rfl) hc0).1) Tryz.func57, sBin 92 (z := Value.string (St (ftx (addV qH qT)))) (z' := Value.string { data := #[53, 47, 54] }) (u := Value.bool true) (rS 91 29) (rK (Value.string { data := #[53, 47, 54] })) (fun h h' => ⟨h, rfl⟩) (eqg_str _ _ _ _ _ _) (run_as (run_eqlS _ _ [53, 47, 54]) (by rw [lv_b]; rfl)), sPkt 93 (rS 89 27) (rS 92 30), sMv 94 (rS 93 31), sLb 95 (rO 13) 0 aggF (ff_str _), sC1 96 (rS 95 33) (fun K h0 => k_fstring h0 (env_at henv (XN10.trans K.ext rfl) hc0).1) Tryz.func57, sBin 97 (z := Value.string (St (ftx (powV (addV ((1 : Int) : Rat) (-qT)) 3)))) (z' := Value.string { data := #[56, 47, 50, 55] }) (u := Value.bool true) (rS 96 34) (rK (Value.string { data := #[56, 47, 50, 55] })) (fun h h' => ⟨h, rfl⟩) (eqg_str _ _ _ _ _ _) (run_as (run_eqlS _ _ [56, 47, 50, 55]) (by rw [lv_c]; rfl)), sPkt 98 (rS 94 32) (rS 97 35), sMv 0 (rS 98 36), trivial⟩) ?_
 intro bX fX w11 c11 a11 XG11 yx yA yB yV yO yF; have XE11 := XE10.up yF yO (ck (kv (yV 0 rfl) rfl) kn); have XL11 := (yA.pk yB rfl []); have XN11 := XN10.trans yx rfl; clear yx yA yB yV yO yF; show Code.wp _ _ _ _ _; refine wp_ret ?_; (repeat (first | (with_reducible refine then_ret ?_) | (with_reducible refine inBlock_ret ?_) | (with_reducible refine then_normal ?_) | (with_reducible refine inBlock_normal ?_))); show bodyPost Tryz.prog Tryz.f36 _ Exit.ret a11 w11; subst hc0; exact bodyPost_ret (res_t rfl _ (XE11.at 0 rfl)) XE11.2.1 ⟨_, rfl, rfl, XN11.new0⟩

theorem k_llives {w : World} {c : Colr} (he : Env w) : CV Tryz.prog 36 #[] w c (TyC.eq (.bool true)) := (t_llives w he).cv (plain_eq _)
end Go.Proofs.YtbocpkjajocpiaaGreatDoor

namespace Go.Proofs.YtbocpkjajocpiaaGreatDoor
set_option linter.unusedVariables false
open Go.RowKit Go.Mem Go.Dig Go.Fr Go.Col

theorem num_lt {a b : Int} (hb : I64 b) {M : Nat} (hM : 1265 ≤ M) : (numV a b).natAbs < 2 ^ M := by
  have h0 : (2 : Nat) ^ 64 ≤ 2 ^ M := Nat.pow_le_pow_right (by omega) (by omega)
  have h64 : ∀ {z : Int}, z.natAbs < 18446744073709551616 → z.natAbs < 2 ^ M := fun h => Nat.lt_of_lt_of_le h h0
  unfold numV
  split
  · have h1 := Int.tmod_lt_of_pos b (show (0 : Int) < 60 by decide)
    have h2 : -60 < b.tmod 60 := Int.lt_tmod_of_pos b (show (0 : Int) < 60 by decide)
    exact h64 (by omega)
  · split
    · exact h64 (by omega)
    · have hi : ((a.tdiv 7).tmod 40).toNat ≤ 40 := by have := tmod40 (a.tdiv 7); omega
      have hb3 : (b + 3).natAbs < 2 ^ 64 := show (b + 3).natAbs < 18446744073709551616 by omega
      have hm : (mM ^ ((a.tdiv 7).tmod 40).toNat).natAbs < 2 ^ (30 * ((a.tdiv 7).tmod 40).toNat + 1) := by
        rw [Int.natAbs_pow, Nat.pow_succ, Nat.pow_mul]
        have h1 : mM.natAbs ^ ((a.tdiv 7).tmod 40).toNat ≤ (2 ^ 30) ^ ((a.tdiv 7).tmod 40).toNat := Nat.pow_le_pow_left (by decide) _
        have h2 : 0 < (2 ^ 30) ^ ((a.tdiv 7).tmod 40).toNat := Nat.pow_pos (by decide)
        omega
      exact Nat.lt_of_lt_of_le (nmul_lt hb3 hm) (Nat.pow_le_pow_right (by omega) (by omega))
/-- A fraction made from numbers is of at most 1265 bits. -/
theorem fracV_Fb {xs : List Int} (h : ∀ z ∈ xs, I64 z) (i : Int) {M : Nat} (hM : 1265 ≤ M) : Fb M (fracV xs i) := by
  have hn : ∀ j k, (numV (pk xs j) (pk xs k)).natAbs < 2 ^ M := fun j k => num_lt (pk_i64 h k) hM
  have h1 : (1 : Int).natAbs < 2 ^ M := Nat.lt_of_lt_of_le (show (1 : Nat) < 2 ^ 1 by decide) (Nat.pow_le_pow_right (by omega) (by omega))
  unfold fracV mkV
  have hq : (fracQ xs i).natAbs < 2 ^ M := by
    unfold fracQ
    split
    · exact h1
    · exact hn _ _
  split
  · rename_i h0
    exfalso
    unfold fracQ at h0
    split at h0 <;> omega
  · exact Fb.mk (hn _ _) hq (by omega)
section
variable {w : World} {c : Colr} {v v' : Value} {r r' s : Rat}
theorem k_fsubin (h : (ffC r).sat v w c) (h' : (ffC r').sat v' w c) (ho : addOk r (-r')) (e : r + -r' = s) : CV Tryz.prog 42 #[v, v'] w c ((ffC s).tup1 (.int .i64 0)) := by
  have := k_fsub h h'
  rwa [show addV r (-r') = s from (if_pos ho).trans e, show addE r (-r') = 0 from if_pos ho] at this
end
end Go.Proofs.YtbocpkjajocpiaaGreatDoor

namespace Go.Proofs.YtbocpkjajocpiaaGreatDoor
set_option linter.unusedVariables false
open Go.RowKit Go.Mem Go.Dig Go.Fr Go.Col

theorem cmpR_ne {a b : Rat} (h : ¬ a = b) : (cmpR a b == 0) = false := by
  rcases cmpR_cases a b with ⟨h1, e⟩ | ⟨h1, e⟩ | ⟨h1, e⟩
  · rw [e]; rfl
  · exact absurd h1 h
  · rw [e]; rfl
end Go.Proofs.YtbocpkjajocpiaaGreatDoor

namespace Go.Proofs.YtbocpkjajocpiaaGreatDoor
set_option linter.unusedVariables false
open Go.RowKit Go.Mem Go.Dig Go.Fr Go.Col

theorem text_bits {z : Int} {k : Nat} (h : z.natAbs < 2 ^ (3 * k)) (hk : 1 ≤ k) : (Txt.text z).length ≤ k + 1 := by
  refine text_short' (Nat.lt_of_lt_of_le h ?_) hk
  unfold tpow
  rw [Nat.pow_mul]
  exact Nat.pow_le_pow_left (by decide) k
theorem ftx_bits {x : Rat} {k : Nat} (h : Fb (3 * k) x) (hk : 1 ≤ k) : (ftx x).length ≤ 2 * k + 3 := by
  have h1 := text_bits h.1 hk
  have h2 := text_bits h.2 hk
  unfold ftx
  split
  · omega
  · rw [List.length_append, List.length_cons]
    omega
theorem ftx_frac {xs : List Int} (h : ∀ z ∈ xs, I64 z) (i : Int) : (ftx (fracV xs i)).length ≤ 860 := by
  obtain ⟨k, hk⟩ : ∃ k : Nat, k = 422 := ⟨_, rfl⟩
  have h1 := ftx_bits (fracV_Fb h i (M := 3 * k) (by omega)) (by omega)
  omega
end Go.Proofs.YtbocpkjajocpiaaGreatDoor

namespace Go.Pure

end Go.Pure

namespace Go.Pure

end Go.Pure

namespace Go.Pure
set_option linter.unusedVariables false

end Go.Pure

namespace Go.Pure
set_option linter.unusedVariables false

theorem scanU_uvar (n : Nat) : ∀ (i acc : Nat) (t : List UInt8), n * 128 ^ i < 18446744073709551616 → (0 < i → 0 < n) → scanU i acc (uvar n ++ t) = .ok (acc + n * 128 ^ i, t) := by
  induction n using Nat.strongRecOn with
  | _ n ih =>
    intro i acc t hlt hpos
    have hp9 : (128 : Nat) ^ 9 = 9223372036854775808 := by decide
    by_cases hn : n < 128
    · rw [uvar_lt hn, List.singleton_append]
      have hc : (UInt8.ofNat n).toNat = n := by simp; omega
      rw [scanU_end, hc]
      · rw [hc]
        rintro (⟨rfl, h⟩ | ⟨h1, h2⟩)
        · rw [hp9] at hlt; omega
        · have := hpos h1; omega
      · rw [hc]; exact hn
    · rw [uvar_ge (by omega), List.cons_append]
      have hc : (UInt8.ofNat (128 + n % 128)).toNat = 128 + n % 128 := by simp; omega
      have hi : i ≤ 8 := by
        rcases Nat.lt_or_ge i 9 with h | h
        · omega
        · have h1 : 128 ^ 9 ≤ 128 ^ i := Nat.pow_le_pow_right (by omega) h
          have h2 : 128 * 128 ^ 9 ≤ n * 128 ^ i := Nat.mul_le_mul (by omega) h1
          rw [hp9] at h2
          omega
      rw [scanU_on, hc]
      · have e : n * 128 ^ i = n % 128 * 128 ^ i + n / 128 * 128 ^ (i + 1) := by
          rw [Nat.pow_succ, ← Nat.mul_assoc, Nat.mul_right_comm, ← Nat.add_mul, Nat.add_comm, Nat.div_add_mod' n 128]
        rw [ih (n / 128) (by omega) (i + 1) _ t (by omega) (fun _ => by omega)]
        rw [show (128 + n % 128) % 128 = n % 128 by omega, e, Nat.add_assoc]
      · rw [hc]; omega
      · rw [hc]; omega
theorem getU_uvar {n : Nat} (h : n < 18446744073709551616) (t : List UInt8) : getU (uvar n ++ t) = .ok (n, t) := by
  unfold getU
  rw [scanU_uvar n 0 0 t (by simpa using h) (fun h => by omega)]
  simp
theorem uintR_uvar {n : Nat} (h : n < 18446744073709551616) (t : List UInt8) : uintR (uvar n ++ t) 0 = (n, t, 0) := uintR_ok (getU_uvar h t)
end Go.Pure

namespace Go.Col
set_option linter.unusedVariables false
open Go.RowKit Go.Mem

/-- A slice of so many elements (sz cells each) that owns its row, of a colour; its cells. Without elements it may be nil. -/
def OwnRow (n sz : Nat) (t : TypeId) (v : Value) (len : Nat) (xs : List Value) (w : World) (c : Colr) : Prop :=
  xs.length = len * sz ∧ ((v = .slice none 0 0 ∧ len = 0) ∨ ∃ g cp cs, v = .slice (some ⟨g, 0, none⟩) len cp ∧ len ≤ cp ∧ c g = n ∧ Blk w g t cs ∧ cs.size = cp * sz ∧ cs.toList.take (len * sz) = xs)
section
variable {P : Program} {w w' : World} {c c' : Colr} {n sz len m : Nat} {t e ty : TypeId} {v z : Value} {xs news : List Value} {S : List Nat}
theorem OwnRow.ext (h : OwnRow n sz t v len xs w c) (he : Ext S w c w' c') (hn : S.contains n = false) : OwnRow n sz t v len xs w' c' := by
  refine ⟨h.1, h.2.imp id ?_⟩
  rintro ⟨g, cp, cs, h1, h2, h3, h4, h5, h6⟩
  obtain ⟨q1, q2⟩ := blk_ext h4 h3 he hn
  exact ⟨g, cp, cs, h1, h2, q2, q1, h5, h6⟩
theorem OwnRow.nil : OwnRow n sz t (.slice none 0 0) 0 [] w c := ⟨by simp, .inl ⟨rfl, rfl⟩⟩
theorem OwnRow.open (h : OwnRow n sz t v len xs w c) (hl : 0 < len) : ∃ g cp, v = .slice (some ⟨g, 0, none⟩) len cp := by
  rcases h.2 with ⟨_, h0⟩ | ⟨g, cp, cs, h1, _⟩
  · omega
  · exact ⟨g, cp, h1⟩
theorem OwnRow.cell (h : OwnRow n sz t v len xs w c) {g cp : Nat} (hv : v = .slice (some ⟨g, 0, none⟩) len cp) {j : Nat} {u : Value} (hu : xs[j]? = some u) : w.cell? ⟨g, j, none⟩ = some u := by
  rcases h.2 with ⟨h1, _⟩ | ⟨g', cp', cs, h1, h2, h3, h4, h5, h6⟩
  · rw [h1] at hv; cases hv
  · rw [h1] at hv
    injection hv with hv
    injection hv with hv
    injection hv with hv
    subst hv
    refine h4.cell j ?_
    rw [← h6, List.getElem?_take] at hu
    split at hu
    · simpa using hu
    · cases hu
theorem all_nb {l : List Value} : (l.all (fun v => !NB v) = true) ↔ ∀ v ∈ l, NB v = false := by simp
end
end Go.Col

namespace Go.Col
set_option linter.unusedVariables false
open Go.RowKit Go.Mem

theorem own_now {d : Nat} {τ : TyO} {b : BB} {f : FF} {u : Value} {w : World} {c : Colr} (h : τ.sat u w c) : (RF.own d τ).P b (upF (some d) u f) w c := fun v hv => by
  rw [up_at] at hv
  injection hv with hv
  exact hv ▸ h
theorem own_nyet {d p : Nat} {τ : TyO} {b : BB} {f : FF} {u : Value} {w : World} {c : Colr} (hp : (p == d) = false) (h : f p = none) : (RF.own p τ).P b (upF (some d) u f) w c := fun v hv => by
  have : upF (some d) u f p = f p := by
    have : ¬ p = d := by simpa using hp
    have h2 : ¬ d = p := fun e => this e.symm
    unfold upF
    split
    · rename_i h3
      injection h3 with h3
      exact absurd h3 h2
    · rfl
  rw [this, h] at hv
  cases hv
theorem All.co {v : Value} {τ : TyO} {L : List RF} {b : BB} {f : FF} {w : World} {c : Colr} (h : τ.sat v w c) (hL : All L b f w c) : All (.s (Fact.own τ v) :: L) b f w c := ⟨h, hL⟩
theorem All.own {L : List RF} {b : BB} {f : FF} {w : World} {c : Colr} {τ : TyO} {v : Value} (h : All L b f w c) (k : Nat) (hk : nthR L k = .s (Fact.own τ v)) : τ.sat v w c := by
  have := All.nth k h
  rw [hk] at this
  exact this
theorem All.no {L : List RF} {b : BB} {f : FF} {w : World} {c : Colr} {τ : TyO} {p : Nat} {v : Value} (h : All L b f w c) (k : Nat) (hk : nthR L k = .own p τ) (hf : f p = some v) : τ.sat v w c := by
  have := All.nth k h
  rw [hk] at this
  exact this v hf
theorem All.cown {L : List RF} {w : World} {c : Colr} (p : Nat) (τ : TyO) (h : All L b0 f0 w c) : All (.own p τ :: L) b0 f0 w c := ⟨RF.own_none, h⟩
section
variable {P : Program} {l : List Oper} {dt : List (List Nat)} {Q : Exit → Act → World → Prop} {n : Nat} {a : Act} {m : Nat → Option Value} {D CB : List Nat} {Fs : List RF} {V : Nat → TyC} {w0 : World} {c0 : Colr} {i : Nat}
theorem unset_of {b : BB} {f : FF} {w : World} {c : Colr} (hJ : J l.toArray w0 c0 CB Fs V b f w c) {j p : Nat} (hb : b j = false) (hp : dstOf l j = some p) : f p = none := by
  unfold dstOf at hp
  cases ho : nthL l j with
  | none => rw [ho] at hp; cases hp
  | some oj =>
    rw [ho] at hp
    rw [nthL_eq] at ho
    have := hJ.set j oj p (by simpa using ho) hp
    cases hf : f p with
    | none => rfl
    | some v =>
      have := this.2 (by rw [hf]; simp)
      rw [hb] at this
      cases this
/-- A move of an owned value. -/
theorem sMvO (q p k : Nat) {o : Oper} {τ : TyO} (j : Nat) (hi : nthL l i = some o := by rfl) (hop : o.op = .move (.tmp q) ∨ o.op = .assign (.tmp q) := by first | exact .inl rfl | exact .inr rfl) (hd : o.dst = some p := by rfl) (hA : Fs.filter (aff [] i (some p)) = [.own p τ] := by rfl) (hk : nthR Fs k = .own q τ := by rfl) (hV : V p = TyC.any := by rfl) (hq : dep dt i j = true ∧ decide (q < n) = true ∧ dstOf l j = some q := by exact ⟨rfl, rfl, rfl⟩) (hg : Gd l n dt V i o.guard := by first | exact trivial | exact ⟨rfl, _, ⟨rfl, rfl⟩, rfl⟩) : OpStep P l dt Q n a m D CB Fs V w0 c0 i := by
  intro b f w c x o' hJ hout hF hE ho K
  obtain rfl : o = o' := Option.some.inj (hi.symm.trans ho)
  obtain ⟨v, ev, hfv⟩ : ∃ v, x.eval (.tmp q) = v ∧ f q = some v := by
    obtain ⟨h1, h2, h3⟩ := hq
    unfold dstOf at h3
    split at h3
    · rename_i oj hoj
      rw [nthL_eq] at hoj
      have h4 := (hJ.set j oj q (by simpa using hoj) h3).1 (K.done j h1)
      cases hf : f q with
      | none => exact absurd hf h4
      | some v => exact ⟨v, hF.in (by rw [hE.1]; exact of_decide_eq_true h2) hf, rfl⟩
    · cases h3
  exact .pure p (hg.wanted hJ hF hE K) hd (by rw [hA]; exact ⟨own_now (All.no K.fac k hk hfv), trivial⟩) hJ.gi (ex_move hop ev) (by rw [hV]; trivial)
end
end Go.Col

namespace Go.Col
set_option linter.unusedVariables false
open Go.RowKit Go.Mem

/-- The string with these bytes. -/
abbrev Sb (l : List UInt8) : ByteArray := ⟨l.toArray⟩
/-- A byte slice that owns its row, of a colour. -/
def byO (n : Nat) (l : List UInt8) : TyO := ⟨[n], fun v w c => ∃ g cp cs t x, v = .slice (some ⟨g, 0, none⟩) l.length cp ∧ l.length ≤ cp ∧ c g = n ∧ w.heap[g]? = some (.cells cs t x) ∧ (∀ j, j < l.length → (decide (x.1 ≤ j) && decide (j < x.2)) = false) ∧ ∀ (j : Nat) (u : Value), (bs l)[j]? = some u → cs[j]? = some u,
  fun {S v w c w' c'} ⟨g, cp, cs, t, x, h1, h2, h3, h4, h5, h6⟩ gi e hn => by
    have hlt : g < w.heap.size := (Array.getElem?_eq_some_iff.1 h4).1
    exact ⟨g, cp, cs, t, x, h1, h2, (e.col g hlt).trans h3, e.chg.heap h4 (fun hs => by rw [h3] at hs; simp at hn; simp [hn] at hs), h5, h6⟩⟩
section
variable {P : Program} {w w' : World} {c c' : Colr} {n m : Nat} {v : Value} {l : List UInt8}
theorem byO_rd (h : (byO n l).sat v w c) : ∃ g cp, v = .slice (some ⟨g, 0, none⟩) l.length cp ∧ l.length ≤ cp ∧ Rd w (some ⟨g, 0, none⟩) l.length (bs l) := by
  obtain ⟨g, cp, cs, t, x, h1, h2, h3, h4, h5, h6⟩ := h
  refine ⟨g, cp, h1, h2, by simp [bs], fun _ => ⟨_, rfl, fun j u hu => ?_⟩⟩
  rw [Addr.add_lit, Nat.zero_add]
  exact (cell_of_row w g j cs t x h4).trans (h6 j u hu)
theorem bytes_nb (l : List UInt8) (k : Nat) : ((bs l).toArray ++ Array.replicate k (Value.int .u8 0)).toList.all (fun v => !NB v) = true := by
  rw [all_nb]
  intro v hv
  simp only [Array.toList_append, List.mem_append, Array.toList_replicate, List.mem_replicate, bs, List.mem_map] at hv
  rcases hv with ⟨x, _, rfl⟩ | ⟨_, rfl⟩
  · rfl
  · rfl
theorem bytesCells_eq (w : World) (e : TypeId) (l : List UInt8) : Lib.bytesCells w e (Sb l) = (bs l).toArray ++ Array.replicate (grownCap w (Sb l).size 0 e - (Sb l).size) (Value.int .u8 0) := by
  unfold Lib.bytesCells
  congr 1
  simp [Sb, bs, By]
/-- []byte(s). -/
theorem conv_own {e : TypeId} (l : List UInt8) (g : GI w c) (hS : ([n].contains 0 || [n].contains 1) = false) :
    Ext [n] w c (Lib.bytesWorld w e (Sb l)) (setC c w.heap.size n) ∧ (byO n l).sat (.slice (some ⟨w.heap.size, 0, none⟩) (Sb l).size (grownCap w (Sb l).size 0 e)) (Lib.bytesWorld w e (Sb l)) (setC c w.heap.size n) := by
  have hsz : (Sb l).size = l.length := by simp [Sb, ByteArray.size]
  have hnew := Lib.bytesWorld_at_new w e (Sb l)
  refine ⟨⟨hS, ⟨rfl, rfl, rfl, by rw [Lib.bytesWorld_size]; omega, fun k hk _ => Lib.bytesWorld_at_old w e _ k hk⟩, fun k hk => if_neg (show ¬ k = w.heap.size by omega), fun k h1 h2 => ?_, ?_⟩, ?_⟩
  · rw [Lib.bytesWorld_size] at h2
    obtain rfl : k = w.heap.size := by omega
    exact .inr (.inr (by simp [setC]))
  · intro k cs' t' x hb hc v hv
    by_cases hk : k = w.heap.size
    · subst hk
      rw [hnew] at hb
      injection hb with hb
      injection hb with hb
      subst hb
      rw [bytesCells_eq] at hv
      exact all_nb.1 (bytes_nb l _) v hv
    · have hlt : k < w.heap.size := by
        have := (Array.getElem?_eq_some_iff.1 hb).1
        rw [Lib.bytesWorld_size] at this; omega
      rw [Lib.bytesWorld_at_old w e _ k hlt] at hb
      simp only [setC, if_neg hk] at hc
      exact g k cs' t' x hb hc v hv
  · refine ⟨w.heap.size, _, _, e, _, by rw [hsz], by rw [← hsz]; exact grownCap_ge _ _ _ _, by simp [setC], hnew, fun j hj => ?_, fun j u hu => ?_⟩
    · have : (Lib.bytesCells w e (Sb l)).size ≥ l.length := by rw [bytesCells_eq]; simp [bs]
      simp
      omega
    · rw [bytesCells_eq, Array.getElem?_append_left]
      · simpa using hu
      · have := (List.getElem?_eq_some_iff.1 hu).1
        simpa using this
end
theorem RF.in0 {i : Nat} {F1 : Fact} {F0 : RF} {b : BB} {f : FF} {w : World} {c : Colr} (h : (RF.st i F1 F0).P b f w c) (hb : b i = false) : F0.P b f w c := h.2 hb
theorem RF.inS {F : Fact} {b : BB} {f : FF} {w : World} {c : Colr} (h : (RF.s F).P b f w c) : F.P w c := h
theorem st_now' {i : Nat} {F1 : Fact} {F0 : RF} {b : BB} {f : FF} {w : World} {c : Colr} (h : F1.P w c) : (RF.st i F1 F0).P (bup b i) f w c := ⟨fun _ => h, fun hbb => (by rw [bup_at] at hbb; cases hbb)⟩
section
variable {P : Program} {l : List Oper} {dt : List (List Nat)} {Q : Exit → Act → World → Prop} {n : Nat} {a : Act} {m : Nat → Option Value} {D CB : List Nat} {Fs : List RF} {V : Nat → TyC} {w0 : World} {c0 : Colr} {i : Nat}
/-- A call that changes an owned object. -/
theorem sM1 (nc d : Nat) {o : Oper} {fn : Nat} {tys : Array TypeId} {fd : Func} {F1 : Fact} {F0 : RF} (r0 : XA n l dt m D i) (L : ∀ {b : BB} {f : FF} {w : World} {c : Colr} {v0 : Value}, Kx dt w0 c0 CB Fs i b f w c → r0.r.T V w c v0 → CE P fn #[r0.r.W v0] w c [nc] (fun v w' c' => (V d).sat v w' c' ∧ F1.P w' c')) (hfn : P.funcs[fn]? = some fd) (hi : nthL l i = some o := by rfl) (hop : o.op = .call { callee := .value (.func fn), args := #[r0.r.opd], argTypes := tys } := by rfl) (hd : o.dst = some d := by rfl) (hA : Fs.filter (aff [nc] i (some d)) = [.st i F1 F0] := by rfl) (hCB : [nc].all (CB.contains ·) = true := by rfl) (hnb : (fd.name == "runtime.NumGoroutine" || fd.body.isNone) = false := by rfl) (hg : Gd l n dt V i o.guard := by first | exact trivial | exact ⟨rfl, _, ⟨rfl, rfl⟩, rfl⟩) : OpStep P l dt Q n a m D CB Fs V w0 c0 i := by
  intro b f w c x o' hJ hout hF hE ho K
  obtain rfl : o = o' := Option.some.inj (hi.symm.trans ho)
  obtain ⟨v0, ev0, sv0⟩ := r0.ev hJ hout hF hE K
  exact .callE d [nc] (hg.wanted hJ hF hE K) hd hCB hJ.gi hop (vs := #[r0.r.W v0]) (by simp [ev0]) (enter_of hfn hnb _) (L K sv0) (fun v w' c' h _ => ⟨h.1, by rw [hA]; exact ⟨st_now' h.2, trivial⟩⟩)
theorem sM2 (nc d : Nat) {o : Oper} {fn : Nat} {tys : Array TypeId} {fd : Func} {F1 : Fact} {F0 : RF} (r0 : XA n l dt m D i) (r1 : XA n l dt m D i) (L : ∀ {b : BB} {f : FF} {w : World} {c : Colr} {v0 v1 : Value}, Kx dt w0 c0 CB Fs i b f w c → r0.r.T V w c v0 → r1.r.T V w c v1 → CE P fn #[r0.r.W v0, r1.r.W v1] w c [nc] (fun v w' c' => (V d).sat v w' c' ∧ F1.P w' c')) (hfn : P.funcs[fn]? = some fd) (hi : nthL l i = some o := by rfl) (hop : o.op = .call { callee := .value (.func fn), args := #[r0.r.opd, r1.r.opd], argTypes := tys } := by rfl) (hd : o.dst = some d := by rfl) (hA : Fs.filter (aff [nc] i (some d)) = [.st i F1 F0] := by rfl) (hCB : [nc].all (CB.contains ·) = true := by rfl) (hnb : (fd.name == "runtime.NumGoroutine" || fd.body.isNone) = false := by rfl) (hg : Gd l n dt V i o.guard := by first | exact trivial | exact ⟨rfl, _, ⟨rfl, rfl⟩, rfl⟩) : OpStep P l dt Q n a m D CB Fs V w0 c0 i := by
  intro b f w c x o' hJ hout hF hE ho K
  obtain rfl : o = o' := Option.some.inj (hi.symm.trans ho)
  obtain ⟨v0, ev0, sv0⟩ := r0.ev hJ hout hF hE K
  obtain ⟨v1, ev1, sv1⟩ := r1.ev hJ hout hF hE K
  exact .callE d [nc] (hg.wanted hJ hF hE K) hd hCB hJ.gi hop (vs := #[r0.r.W v0, r1.r.W v1]) (by simp [ev0, ev1]) (enter_of hfn hnb _) (L K sv0 sv1) (fun v w' c' h _ => ⟨h.1, by rw [hA]; exact ⟨st_now' h.2, trivial⟩⟩)
end
end Go.Col

namespace Go.Col
set_option linter.unusedVariables false
open Go.RowKit Go.Mem

/-- A value that owns nothing. -/
def TyO.of (τ : TyC) : TyO := ⟨[], τ.sat, fun h g e _ => τ.stab h g e⟩
/-- The colours behind a call that changes an object of the colour n: own tells its new blocks. -/
def extO (c : Colr) (m n : Nat) (own : Nat → Bool) : Colr := fun k => if k < m then c k else if own k then n else 0
theorem extO_old {c : Colr} {m n k : Nat} {own : Nat → Bool} (h : k < m) : extO c m n own k = c k := if_pos h
theorem extO_own {c : Colr} {m n k : Nat} {own : Nat → Bool} (h : m ≤ k) (ho : own k = true) : extO c m n own k = n := by
  unfold extO
  rw [if_neg (by omega), if_pos ho]
theorem extO_plain {c : Colr} {m n k : Nat} {own : Nat → Bool} (h : m ≤ k) (ho : own k = false) : extO c m n own k = 0 := by
  unfold extO
  rw [if_neg (by omega), if_neg (by rw [ho]; simp)]
/-- A call that changes blocks of the colour n alone. -/
theorem Ext.of_obj {n : Nat} {S : Nat → Prop} {own : Nat → Bool} {w w' : World} {c : Colr} (g : GI w c) (hn : ([n].contains 0 || [n].contains 1) = false) (h : Chg S w w') (hc : ∀ k, S k → k < w.heap.size → c k = n)
    (hb : ∀ k, (k < w.heap.size ∧ S k) ∨ (w.heap.size ≤ k ∧ own k = true) → ∀ cs t x, w'.heap[k]? = some (.cells cs t x) → ∀ v ∈ cs.toList, NB v = false) : Ext [n] w c w' (extO c w.heap.size n own) := by
  refine ⟨hn, ⟨h.os, h.tape, h.output, h.size, fun k hk hs => h.block k hk (fun hS => hs (by rw [hc k hS hk]; simp))⟩, fun k hk => extO_old hk, fun k h1 h2 => ?_, ?_⟩
  · cases ho : own k with
    | true => rw [extO_own h1 ho]; exact .inr (.inr (by simp))
    | false => rw [extO_plain h1 ho]; exact .inl rfl
  · intro k cs t x hk hck v hv
    by_cases hlt : k < w.heap.size
    · by_cases hS : S k
      · exact hb k (.inl ⟨hlt, hS⟩) cs t x hk v hv
      · rw [h.block k hlt hS] at hk
        rw [extO_old hlt] at hck
        exact g k cs t x hk hck v hv
    · cases ho : own k with
      | true => exact hb k (.inr ⟨by omega, ho⟩) cs t x hk v hv
      | false => rw [extO_plain (by omega) ho] at hck; exact absurd rfl hck
theorem kind_nb {w : World} {t : TypeId} {k : Nat} (h : KindB w t IsU8 k) : ∀ cs t' x, w.heap[k]? = some (.cells cs t' x) → ∀ v ∈ cs.toList, NB v = false := by
  obtain ⟨cs', h1, h2⟩ := h
  intro cs t' x hk v hv
  unfold Blk at h1
  rw [h1] at hk
  injection hk with hk
  injection hk with hk
  subst hk
  obtain ⟨y, rfl⟩ := h2 v (by simpa using hv)
  rfl
theorem blk_nb {w : World} {t : TypeId} {k : Nat} {cs : Array Value} (h : Blk w k t cs) (hcs : ∀ v ∈ cs.toList, NB v = false) : ∀ cs t' x, w.heap[k]? = some (.cells cs t' x) → ∀ v ∈ cs.toList, NB v = false := by
  intro cs' t' x hk v hv
  unfold Blk at h
  rw [h] at hk
  injection hk with hk
  injection hk with hk
  subst hk
  exact hcs v hv
/-- Bytes in a plain block. -/
def byC (l : List UInt8) : TyC := ⟨fun v w c => ∃ A cp, v = .slice A l.length cp ∧ Rd w A l.length (bs l) ∧ ∀ ad, A = some ad → ad.block < w.heap.size ∧ c ad.block = 0, fun {S v w c w' c'} ⟨A, cp, h1, h2, h5⟩ g e => ⟨A, cp, h1, rd_ext0 h2 (fun ad h _ => (h5 ad h).2) e, fun ad h6 => ⟨Nat.lt_of_lt_of_le (h5 ad h6).1 e.chg.size, by rw [e.col _ (h5 ad h6).1, (h5 ad h6).2]⟩⟩⟩
theorem CV.of_newc {P : Program} {w : World} {c : Colr} {f : Nat} {vs : Array Value} {τ : TyC} {R : Value → World → Prop} (h : Calls P f vs w fun e w' => ∃ v, e = .returned v ∧ R v w' ∧ New w w') (hR : ∀ v w', New w w' → R v w' → τ.sat v w' (ext0 c w.heap.size)) : CV P f vs w c τ := fun hg =>
  h.mono fun e w' ⟨v, h1, h2, h3⟩ => ⟨v, _, h1, hR v w' h3 h2, Ext.of_new h3 hg⟩

/-- Facts about slots that are not written yet. -/
def unO (l : List Oper) (dt : List (List Nat)) (i d : Nat) : List RF → List Nat → Bool
  | [], [] => true
  | .own p σ :: r, j :: u => !(p == d) && (dep dt j i && (dstOf l j == some p && unO l dt i d r u))
  | _, _ => false
section
variable {P : Program} {l : List Oper} {dt : List (List Nat)} {Q : Exit → Act → World → Prop} {n : Nat} {a : Act} {m : Nat → Option Value} {D CB : List Nat} {Fs : List RF} {V : Nat → TyC} {w0 : World} {c0 : Colr} {i : Nat}
theorem unO_all {b : BB} {f : FF} {w w' : World} {c c' : Colr} {d : Nat} {v : Value} (hJ : J l.toArray w0 c0 CB Fs V b f w c) (K : Kx dt w0 c0 CB Fs i b f w c) : ∀ (r : List RF) (u : List Nat), unO l dt i d r u = true → All r (bup b i) (upF (some d) v f) w' c'
  | [], [], _ => trivial
  | .own p σ :: r, j :: u, h => by
    simp only [unO, Bool.and_eq_true, Bool.not_eq_true', beq_iff_eq] at h
    exact ⟨own_nyet h.1 (unset_of hJ (K.nyet j h.2.1) h.2.2.1), unO_all hJ K r u h.2.2.2⟩
  | .own _ _ :: _, [], h => by cases h
  | [], _ :: _, h => by cases h
  | .s _ :: _, _, h => by cases h
  | .st _ _ _ :: _, _, h => by cases h
  | .new _ _ _ _ _ _ :: _, _, h => by cases h
/-- A call that makes an object. -/
theorem sO1 (nc d : Nat) (un : List Nat) {o : Oper} {fn : Nat} {tys : Array TypeId} {fd : Func} {σ : TyO} {rest : List RF} (r0 : XA n l dt m D i) (L : ∀ {b : BB} {f : FF} {w : World} {c : Colr} {v0 : Value}, Kx dt w0 c0 CB Fs i b f w c → r0.r.T V w c v0 → CE P fn #[r0.r.W v0] w c [nc] (fun v w' c' => σ.sat v w' c')) (hfn : P.funcs[fn]? = some fd) (hi : nthL l i = some o := by rfl) (hop : o.op = .call { callee := .value (.func fn), args := #[r0.r.opd], argTypes := tys } := by rfl) (hd : o.dst = some d := by rfl) (hA : Fs.filter (aff [nc] i (some d)) = .own d σ :: rest := by rfl) (hun : unO l dt i d rest un = true := by rfl) (hV : V d = TyC.any := by rfl) (hCB : [nc].all (CB.contains ·) = true := by rfl) (hnb : (fd.name == "runtime.NumGoroutine" || fd.body.isNone) = false := by rfl) (hg : Gd l n dt V i o.guard := by first | exact trivial | exact ⟨rfl, _, ⟨rfl, rfl⟩, rfl⟩) : OpStep P l dt Q n a m D CB Fs V w0 c0 i := by
  intro b f w c x o' hJ hout hF hE ho K
  obtain rfl : o = o' := Option.some.inj (hi.symm.trans ho)
  obtain ⟨v0, ev0, sv0⟩ := r0.ev hJ hout hF hE K
  exact .callE d [nc] (hg.wanted hJ hF hE K) hd hCB hJ.gi hop (vs := #[r0.r.W v0]) (by simp [ev0]) (enter_of hfn hnb _) (L K sv0) (fun v w' c' h _ => ⟨by rw [hV]; trivial, by rw [hA]; exact ⟨own_now h, unO_all hJ K rest un hun⟩⟩)
end
theorem eqg_ptr {P : Program} {w : World} (op : BinOp) (t : TypeId) (x y : Operand) (i j : Option Addr) : (eqGuard op t x y (.pointer i) (.pointer j)).run P w = .ok () w := by
  unfold eqGuard
  split <;> simp [go_sem]
theorem run_eqp {P : Program} {w : World} {t te : TypeId} (hp : P.underlying t = some (.pointer te)) (g : Nat) : (binOp .eql t (.pointer (some ⟨g, 0, none⟩)) (.pointer none)).run P w = .ok (.bool false) w := by
  have h : ∀ d : Nat, (Op.equalIn (d + 1) t (.pointer (some ⟨g, 0, none⟩)) (.pointer none)).run P w = .ok false w := fun d => by
    simp [Op.equalIn, run_underlying hp]
  simp only [binOp]
  simp [Op.equal, Op.maxDepth, h 9999]
theorem run_eqK {P : Program} {w : World} (t : TypeId) (k : IntKind) {x y : Int} (h : x = y) : (binOp .eql t (.int k x) (.int k y)).run P w = .ok (.bool true) w := by
  subst h
  simp [binOp, go_sem]
theorem own_cast' {τ σ : TyO} {v : Value} {w : World} {c : Colr} (e : τ = σ) (h : τ.sat v w c) : σ.sat v w c := e ▸ h
end Go.Col

namespace Go.Col
set_option linter.unusedVariables false
open Go.RowKit Go.Mem

section
variable {P : Program} {l : List Oper} {dt : List (List Nat)} {Q : Exit → Act → World → Prop} {n : Nat} {a : Act} {m : Nat → Option Value} {D CB : List Nat} {Fs : List RF} {V : Nat → TyC} {w0 : World} {c0 : Colr} {i : Nat}
/-- []byte(s), in a plain block. -/
theorem sCvp (d : Nat) {o : Oper} {src dst e : TypeId} {u : TypeDesc} {x0 : List UInt8} (r0 : XA n l dt m D i) (hs : P.underlying src = some u) (hds : P.underlying dst = some (.slice e)) (he : P.underlying e = some (.int .u8)) (hz : ∀ {b : BB} {f : FF} {w : World} {c : Colr} {v : Value}, Kx dt w0 c0 CB Fs i b f w c → r0.r.T V w c v → r0.r.W v = .string (Sb x0))
    (hi : nthL l i = some o := by rfl) (hop : o.op = .convert src dst r0.r.opd := by rfl) (hd : o.dst = some d := by rfl) (hA : Fs.filter (aff [] i (some d)) = [] := by rfl) (hV : V d = byC x0 := by rfl) (hg : Gd l n dt V i o.guard := by first | exact trivial | exact ⟨rfl, _, ⟨rfl, rfl⟩, rfl⟩) : OpStep P l dt Q n a m D CB Fs V w0 c0 i := by
  intro b f w c x o' hJ hout hF hE ho K
  obtain rfl : o = o' := Option.some.inj (hi.symm.trans ho)
  obtain ⟨v0, ev0, sv0⟩ := r0.ev hJ hout hF hE K
  have hrun := Lib.run_convert_string_bytes (P := P) w src dst e (Sb x0) hs hds he
  have he' : (execOp x.eval o).run P w = .ok (.value (.slice (some ⟨w.heap.size, 0, none⟩) (Sb x0).size (grownCap w (Sb x0).size 0 e))) (Lib.bytesWorld w e (Sb x0)) := by
    simp [execOp, hop, ev0, hz K sv0, hrun, Result.andThen]
  have hnew : New w (Lib.bytesWorld w e (Sb x0)) := ⟨rfl, rfl, rfl, by rw [Lib.bytesWorld_size]; omega, fun k hk _ => Lib.bytesWorld_at_old w e _ k hk⟩
  obtain ⟨q1, q2⟩ := conv_own (n := 2) (w := w) (c := c) (e := e) x0 hJ.gi rfl
  obtain ⟨g, cp, q3, q4, q5⟩ := byO_rd q2
  refine .run [] (some d) (hg.wanted hJ hF hE K) hd rfl (wp_val he' ⟨_, _, rfl, Ext.of_new hnew hJ.gi, fun d' _ => ?_, ?_⟩)
  · injection ‹some d = some d'› with hdd
    subst hdd
    rw [hV]
    refine ⟨_, cp, q3, q5, fun ad hA => ?_⟩
    injection hA with hA
    injection q3 with q3
    injection q3 with q3
    injection q3 with q3
    subst q3
    subst hA
    refine ⟨?_, ?_⟩
    · rw [Lib.bytesWorld_size]; exact Nat.lt_succ_self _
    · simp [ext0]
  · rw [hA]
    trivial
end
end Go.Col
namespace Go.Proofs.YtbocpkjajocpiaaGreatDoor
set_option linter.unusedVariables false
open Go.RowKit Go.Mem Go.Pure Go.Dig Go.Fr Go.Col

/-- A Writer with these bytes, of a colour. -/
def wrO (n : Nat) (l : List UInt8) : TyO := ⟨[n], fun v w c => ∃ g bo, v = .pointer (some ⟨g, 0, none⟩) ∧ WrV w g bo l ∧ c g = n ∧ ∀ k, bo = some k → c k = n, fun {S v w c w' c'} ⟨g, bo, h1, h2, h3, h4⟩ gi e hn => by
  have hS : S.contains n = false := by simpa using hn
  have hlt := h2.blt.1
  obtain ⟨A, m, cp, h5, h6, h7⟩ := h2
  refine ⟨g, bo, h1, ⟨A, m, cp, h5.chg e.chg (fun h => by rw [h3, hS] at h; cases h), h6.chg e.chg (fun k hk h => ?_), h7⟩, (e.col g h5.lt).trans h3, fun k hk => (e.col k (hlt k hk)).trans (h4 k hk)⟩
  rw [h4 k (by rw [← hk, ← h7]; rfl), hS] at h; cases h⟩
/-- A Reader with these bytes left and no error, of a colour. -/
def rdO (n : Nat) (l : List UInt8) : TyO := ⟨[n], fun v w c => ∃ g bo, v = .pointer (some ⟨g, 0, none⟩) ∧ RdrAt w g bo l 0 ∧ c g = n ∧ ∀ k, bo = some k → c k = 0, fun {S v w c w' c'} ⟨g, bo, h1, h2, h3, h4⟩ gi e hn => by
  have hS : S.contains n = false := by simpa using hn
  exact ⟨g, bo, h1, h2.chg e.chg (fun h => by rw [h3, hS] at h; cases h) (fun k hk h => by rw [h4 k hk, e.z] at h; cases h), (e.col g h2.lt).trans h3, fun k hk => (e.col k (h2.blt hk)).trans (h4 k hk)⟩⟩
section
variable {w : World} {c : Colr} {v : Value} {n : Nat} {l : List UInt8}
theorem wr_of_box {g : Nat} {τ : TyC} (hb : BoxC w c g 92 n τ) (hτ : ∀ v w c, τ.sat v w c → v = .agg #[.slice none 0 0]) : (wrO n []).sat (.pointer (some ⟨g, 0, none⟩)) w c := by
  obtain ⟨h1, u, h2, h3⟩ := hb
  obtain rfl := hτ u w c h2
  exact ⟨g, none, rfl, ⟨none, 0, 0, h3, RowV.nil _ _ _, rfl⟩, h1, fun k hk => by cases hk⟩
theorem k_wtext {s : ByteArray} (hn : ([n].contains 0 || [n].contains 1) = false) (h : (wrO n l).sat v w c) (hs : s.size ≤ 1000000) (hl : l.length ≤ 900000000) : CE Tryz.prog 65 #[v, .string s] w c [n] (fun u w' c' => u = .tuple #[] ∧ (wrO n (l ++ (uvar s.size ++ s.data.toList))).sat v w' c') := by
  intro hg
  obtain ⟨g, bo, rfl, h2, h3, h4⟩ := h
  have hlt := h2.blt.1
  have hgl : g < w.heap.size := by obtain ⟨_, _, _, h5, _⟩ := h2; exact h5.lt
  refine (wvText_any g bo l s w hs h2 hl).mono ?_
  rintro e w' ⟨rfl, bo', hw, hc, ha, ho⟩
  have hE : Ext [n] w c w' (extO c w.heap.size n (fun k => decide (bo' = some k))) := by
    refine Ext.of_obj hg hn hc (fun k hk _ => ?_) (fun k hk => ?_)
    · rcases hk with rfl | hk
      · exact h3
      · exact h4 k hk
    · rcases hk with ⟨hk1, rfl | hk⟩ | ⟨hk1, hk⟩
      · obtain ⟨A, m, cp, h5, _⟩ := hw
        exact blk_nb h5 (by intro u hu; simp at hu; subst hu; rfl)
      · exact kind_nb (ho k hk)
      · exact kind_nb (hw.old k (by simpa using hk))
  refine ⟨_, _, rfl, ⟨rfl, g, bo', rfl, hw, (extO_old hgl).trans h3, fun k hk => ?_⟩, hE⟩
  by_cases hkl : k < w.heap.size
  · rw [extO_old hkl]
    rcases ha with rfl | ⟨k', hk', hle⟩
    · exact h4 k hk
    · rw [hk] at hk'; injection hk' with hk'; omega
  · exact extO_own (by omega) (by simpa using hk)
theorem k_wdone (h : (wrO n l).sat v w c) (hl : l.length ≤ 1000000000) : CV Tryz.prog 67 #[v] w c (byC l) := by
  obtain ⟨g, bo, rfl, h2, h3, h4⟩ := h
  refine CV.of_newc (R := fun u w' => ∃ A cp, u = .slice A l.length cp ∧ w'.ownsRow w.heap.size 5 1 (.slice A l.length cp) l.length (bs l)) ((wvDone_any g bo l w h2 hl).mono ?_) ?_
  · rintro e w' ⟨A, cp, rfl, h5, h6⟩
    exact ⟨_, rfl, ⟨A, cp, rfl, h5⟩, h6⟩
  · rintro u w' hN ⟨A, cp, rfl, h5⟩
    refine ⟨A, cp, rfl, Rd.of_own h5, fun ad hA => ?_⟩
    subst hA
    have := own_blk_le h5 (k := ad.block) rfl
    exact ⟨this.2, by simp [ext0]; intro h; omega⟩
theorem k_rdread (hn : ([n].contains 0 || [n].contains 1) = false) (h : (byC l).sat v w c) (hl : l.length ≤ 1000000000) : CE Tryz.prog 66 #[v] w c [n] (fun u w' c' => (rdO n l).sat u w' c') := by
  intro hg
  obtain ⟨A, cp, rfl, h2, h3⟩ := h
  refine (read_any A l.length cp l w h2 hl).mono ?_
  rintro e w' ⟨g, bo, rfl, hr, hN, hgl, hbo⟩
  have hE : Ext [n] w c w' (extO c w.heap.size n (fun k => decide (k = g))) := by
    refine Ext.of_obj hg hn hN (fun k hk _ => hk.elim) (fun k hk => ?_)
    rcases hk with ⟨_, hk⟩ | ⟨_, hk⟩
    · exact hk.elim
    · obtain rfl : k = g := by simpa using hk
      obtain ⟨A', m, cp', h5, _⟩ := hr
      refine blk_nb h5 ?_
      intro u hu
      simp at hu
      rcases hu with rfl | rfl <;> rfl
  have hbg : bo ≠ some g := by obtain ⟨_, _, _, _, _, _, _, _, h6, _⟩ := hr; exact h6
  refine ⟨_, _, rfl, ⟨g, bo, rfl, hr, extO_own hgl (by simp), fun k hk => extO_plain (hbo k hk) ?_⟩, hE⟩
  have : k ≠ g := fun e => hbg (by rw [hk, e])
  simp [this]
theorem rawR_text (a t : List UInt8) (ha : a.length ≤ 1000000000) : rawR (uvar a.length ++ (a ++ t)) 0 = (a, t, 0) := by
  have h := lengthR_ok (uintR_uvar (n := a.length) (by omega) (a ++ t)) (by simp)
  unfold rawR
  rw [h]
  simp
theorem k_rdtext {a t : List UInt8} (hn : ([n].contains 0 || [n].contains 1) = false) (h : (rdO n (uvar a.length ++ (a ++ t))).sat v w c) (hl : a.length + t.length ≤ 100000000) : CE Tryz.prog 68 #[v] w c [n] (fun u w' c' => u = .string (Sb a) ∧ (rdO n t).sat v w' c') := by
  intro hg
  obtain ⟨g, bo, rfl, h2, h3, h4⟩ := h
  have hu := uvar_len (n := a.length) (by omega)
  have hgl := h2.lt
  refine (rText_any g bo _ 0 w h2 (by simp only [List.length_append]; omega)).mono ?_
  rw [rawR_text a t (by omega)]
  rintro e w' ⟨rfl, hr, hc⟩
  have hE : Ext [n] w c w' (extO c w.heap.size n (fun _ => false)) := by
    refine Ext.of_obj hg hn hc (fun k hk _ => by rw [hk]; exact h3) (fun k hk => ?_)
    rcases hk with ⟨_, rfl⟩ | ⟨_, hk⟩
    · obtain ⟨A', m, cp', h5, _⟩ := hr
      refine blk_nb h5 ?_
      intro u hu
      simp at hu
      rcases hu with rfl | rfl <;> rfl
    · cases hk
  exact ⟨_, _, rfl, ⟨rfl, g, bo, rfl, hr, (extO_old hgl).trans h3, fun k hk => (extO_old (h2.blt hk)).trans (h4 k hk)⟩, hE⟩
theorem k_rdend (h : (rdO n []).sat v w c) : CV Tryz.prog 69 #[v] w c (TyC.eq (.int .i64 0)) := by
  obtain ⟨g, bo, rfl, h2, h3, h4⟩ := h
  refine CV.of_newc (R := fun u _ => u = .int .i64 0) ((rEnd_any g bo [] 0 w h2).mono ?_) (fun u w' _ h => h)
  rintro e w' ⟨rfl, rfl⟩
  exact ⟨_, rfl, by simp [endR], Chg.refl _ _⟩
theorem k_hbytes {s : ByteArray} (hs : s.size ≤ 1000000) (h : (byC l).sat v w c) (hl : l.length ≤ 1000000000) : CV Tryz.prog 70 #[.string s, v] w c (TyC.eq (.int .u64 (bytesI s.data.toList l))) := by
  obtain ⟨A, cp, rfl, h2, h3⟩ := h
  refine CV.of_newc (R := fun u _ => u = .int .u64 (bytesI s.data.toList l)) ((hbytes_any s hs A l.length cp l w h2 hl (fun k hk => ?_)).mono ?_) (fun u w' _ h => h)
  · cases A with
    | none => cases hk
    | some ad =>
      have : ad.block = k := by simpa [blk] using hk
      subst this
      exact (h3 ad rfl).1
  · rintro e w' ⟨rfl, hN⟩
    exact ⟨_, rfl, rfl, hN⟩
theorem k_wtextS {t : List UInt8} (hn : ([n].contains 0 || [n].contains 1) = false) (h : (wrO n l).sat v w c) (hs : t.length ≤ 1000000) (hl : l.length ≤ 900000000) : CE Tryz.prog 65 #[v, .string (St t)] w c [n] (fun u w' c' => u = .tuple #[] ∧ (wrO n (l ++ (uvar t.length ++ t))).sat v w' c') := by
  have := k_wtext (s := St t) hn h (by rw [St_size]; exact hs) hl
  rwa [St_size, show (St t).data.toList = t by simp [St]] at this
theorem rd_ptr (h : (rdO n l).sat v w c) : ∃ g, v = .pointer (some ⟨g, 0, none⟩) := by
  obtain ⟨g, bo, rfl, _⟩ := h
  exact ⟨g, rfl⟩
theorem zeroW (w : World) : (zeroValue 92).run Tryz.prog w = .ok (.agg #[.slice none 0 0]) w := by kernel_rfl
theorem k_fparse_w {x : Rat} (hf : ft x) (hl : (ftx x).length ≤ 4000) (he : Env w) : CV Tryz.prog 56 #[.string (St (ftx x))] w c ((ffC x).tup1 (.int .i64 0)) := by
  have h := k_fparse (w := w) (c := c) (ftx x) hl he
  rwa [(par_yes hf rfl).1, (par_yes hf rfl).2] at h
end
end Go.Proofs.YtbocpkjajocpiaaGreatDoor

namespace Go
section
variable {H : Type} {enc : TypeId × Value → H}
theorem lift_and_shaped {a : Assume} {C : Checked} {os : Os} {f : FuncId} {fn : Func} {s : ChangeSpec} {conds : List PathCond} {apart fresh handsOn again : Bool} {X : World → Array Value → Prop}
    (hX : ∀ (w w' : World) (args : Array Value), w.heap = w'.heap → X w args → X w' args)
    (own : ownKnob C.prog.godebug = none) (started : os.Started) (noInit : C.prog.inits.idxOf? f = none) (hfn : C.prog.funcs[f]? = some fn)
    (witness : ∃ (w : World) (tape : Tape) (i : Input), w.os = os ∧ (w.forCall tape i).Shaped C.prog ∧ i.vars = [] ∧ Input.okWide C.prog (w.forCall tape i) .any w.heap.size f i ∧
      ((s.pre enc C.prog fn conds apart (w.forCall tape i).memory i.args ∧ X (w.forCall tape i).memory i.args) ∧ sizedMet enc C.prog fn (OpenSpec.ofChange s) apart (w.forCall tape i).memory i.args) ∧ a.holds C.prog (lone (Frame.enter C.prog f i.args .normal) [] (w.forCall tape i)))
    (contract : ∀ (W : World) (base : Nat) (args : Array Value) (ds gs : List (DataW H)) (before : List MemPlace), W.ShapedOpen C.prog →
      (∀ (j : Nat) t v, fn.params[j]? = some t → args[j]? = some v → Value.okWide C.prog W .any base t v) →
      DataW.Whole enc C.prog fn.params.toList s.vars apart W args.toList ds gs before →
      conds.all (PathCond.test C.prog ⟨fn.params.toList, ds, s.plain.varTypes C.prog, gs⟩) = true →
      (DataW.weightsEach C.prog (fn.params.toList ++ s.plain.varTypes C.prog) (ds ++ gs)).all (· ≤ reachBytes) = true → X W args →
      a.holds C.prog (lone (Frame.enter C.prog f args .normal) [] W) →
      Calls C.prog f args W fun e W' => ∃ v, e = .returned v ∧ s.post enc C.prog fn apart fresh handsOn again W args v W') :
    ReturnsInHanded a C os f .any (fun w args => (s.pre enc C.prog fn conds apart w args ∧ X w args) ∧ sizedMet enc C.prog fn (OpenSpec.ofChange s) apart w args) (s.post enc C.prog fn apart fresh handsOn again) := by
  refine returnsInHanded_of_calls own started noInit witness ?_
  intro w tape i _ hsh _ hok hpre hholds
  obtain ⟨_, _, _, fn', hfn', _, _, _, _, hval⟩ := hok
  have e : fn' = fn := Option.some.inj (hfn'.symm.trans hfn)
  subst e
  obtain ⟨⟨⟨ds, gs, before, hw, hc⟩, hx⟩, hz⟩ := hpre
  have hw' := DataW.Whole.of_heap (w' := w.forCall tape i) (by rfl) hw
  refine (contract (w.forCall tape i) w.heap.size i.args ds gs before hsh hval hw' hc (hz.weights hw) (hX _ _ _ (by rfl) hx) hholds).mono fun e W' ⟨v, he, hp⟩ => ?_
  subst he
  exact ChangeSpec.post_blind hp
end
end Go

namespace Go.Mem
open Go.RowKit

theorem row_rd {k : IntKind} {w : World} {a : Option Addr} {len cap : Nat} {zs : List Int}
    (h : (a = none ∧ len = 0 ∧ cap = 0 ∧ zs = []) ∨ ∃ x, a = some x ∧ len ≤ cap ∧ cap ≤ maxLen ∧ zs.length = cap ∧ (∀ i, i < zs.length → w.cell? (x.add i) = some (.int k (zs.getD i 0))) ∧ ∀ n ∈ zs, (Lit.int k n).wf = true) :
    Rd w a len ((zs.take len).map (Value.int k)) ∧ len ≤ cap ∧ cap ≤ maxLen ∧ ∀ n ∈ zs.take len, (Lit.int k n).wf = true := by
  rcases h with ⟨rfl, rfl, rfl, rfl⟩ | ⟨x, rfl, h1, h2, h3, h4, h5⟩
  · exact ⟨Rd.nil _ _, Nat.le_refl _, Nat.zero_le _, by simp⟩
  · refine ⟨⟨by simp; omega, fun hn => ⟨x, rfl, fun j u hu => ?_⟩⟩, h1, h2, fun n hn => h5 n (List.mem_of_mem_take hn)⟩
    rw [List.getElem?_map, List.getElem?_take] at hu
    split at hu
    · rename_i hj
      have hj' : j < zs.length := by omega
      rw [h4 j hj']
      rw [List.getElem?_eq_getElem hj'] at hu
      simp at hu
      subst hu
      simp [List.getD, List.getElem?_eq_getElem hj']
    · cases hu
theorem row_ints {w : World} {a : Option Addr} {len cap : Nat} {zs : List Int}
    (h : (a = none ∧ len = 0 ∧ cap = 0 ∧ zs = []) ∨ ∃ x, a = some x ∧ len ≤ cap ∧ cap ≤ maxLen ∧ zs.length = cap ∧ (∀ i, i < zs.length → w.cell? (x.add i) = some (.int .i64 (zs.getD i 0))) ∧ ∀ n ∈ zs, (Lit.int .i64 n).wf = true) :
    ∃ l : List Int, Rd w a len (is l) ∧ len ≤ cap ∧ cap ≤ maxLen ∧ ∀ z ∈ l, -9223372036854775808 ≤ z ∧ z ≤ 9223372036854775807 := by
  obtain ⟨h1, h2, h3, h4⟩ := row_rd h
  refine ⟨zs.take len, h1, h2, h3, fun z hz => ?_⟩
  have := h4 z hz
  simp [Lit.wf, IntKind.min, IntKind.max, IntKind.signed, IntKind.bits] at this
  omega
end Go.Mem
