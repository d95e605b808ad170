/- The parts FrL, Rl1, FrZ, Lift, Args of the proof, in one text. -/
import Derived.Handed
import Derived.Test.YtmghfhkdfkdgkaaGreatDoorB5
set_option linter.unusedSimpArgs false
set_option linter.unusedVariables false

namespace Go.Proofs.YtmghfhkdfkdgkaaGreatDoor
set_option linter.unusedVariables false
open Go.RowKit Go.Mem Go.Dig Go.Fr Go.Col
open Go.Lib (decDigits)

theorem low_of {p q : Int} (hq : 0 < q) (hg : Int.gcd p q = 1) : (Rat.divInt p q).num = p ∧ dn (Rat.divInt p q) = q := by
  obtain ⟨h1, h2⟩ := make_pos (p := p) hq
  rw [hg] at h1 h2
  exact ⟨by rw [← h1]; simp, by rw [← h2]; simp⟩
theorem divInt_one' (n : Int) : Rat.divInt n 1 = (n : Rat) := by
  obtain ⟨h1, h2⟩ := low_of (p := n) (q := 1) (by decide) (by simp)
  exact Fr.ext h1 h2
theorem mkV_int (n : Int) : mkV n 1 = (n : Rat) := (if_neg (by omega)).trans (divInt_one' n)
theorem dec_two {a b : Nat} (ha : a < 10) (hb : b < 10) (h0 : 0 < a) : decDigits (a * 10 + b) = [UInt8.ofNat (48 + a), UInt8.ofNat (48 + b)] := by
  rw [Txt.dec_big (by omega), show (a * 10 + b) / 10 = a by omega, show (a * 10 + b) % 10 = b by omega, Txt.dec_small ha]
  rfl
theorem text_nat (n : Nat) : Txt.text (n : Int) = decDigits n := by
  unfold Txt.text
  rw [if_neg (by omega)]
  rfl
theorem text_neg {n : Nat} (h : 0 < n) : Txt.text (-(n : Int)) = 45 :: decDigits n := by
  unfold Txt.text
  rw [if_pos (by omega)]
  simp
theorem ftx_of {x : Rat} {p q : Int} (h1 : x.num = p) (h2 : dn x = q) (hq : q ≠ 1) : ftx x = Txt.text p ++ 47 :: Txt.text q := by
  unfold ftx
  rw [h1, h2, if_neg hq]
def qH : Rat := mkV 1 2
def qT : Rat := mkV 1 3
theorem qH_eq : qH = Rat.divInt 1 2 := show mkV 1 2 = _ from if_neg (by decide)
theorem qT_eq : qT = Rat.divInt 1 3 := show mkV 1 3 = _ from if_neg (by decide)
theorem fb_of {x : Rat} {p q : Int} (h1 : x.num = p) (h2 : dn x = q) (hp : p.natAbs < 4096) (hq : q.natAbs < 4096) : Fb 12 x := ⟨by rw [h1]; exact hp, by rw [h2]; exact hq⟩
theorem fbH : Fb 12 qH := by
  obtain ⟨h1, h2⟩ := low_of (p := 1) (q := 2) (by decide) (by decide)
  rw [qH_eq]
  exact fb_of h1 h2 (by decide) (by decide)
theorem fbT : Fb 12 qT := by
  obtain ⟨h1, h2⟩ := low_of (p := 1) (q := 3) (by decide) (by decide)
  rw [qT_eq]
  exact fb_of h1 h2 (by decide) (by decide)
theorem fb1 : Fb 12 ((1 : Int) : Rat) := fb_of (p := 1) (q := 1) rfl rfl (by decide) (by decide)
theorem sum_HT : addV qH qT = Rat.divInt 5 6 ∧ addE qH qT = 0 := by
  have hok := addOk_of fbH fbT (by omega)
  refine ⟨(if_pos hok).trans ?_, if_pos hok⟩
  rw [qH_eq, qT_eq, Rat.divInt_add_divInt _ _ (by omega) (by omega)]
  rfl
theorem two_T : addV ((1 : Int) : Rat) (-qT) = Rat.divInt 2 3 := by
  have hok := addOk_of fb1 fbT.neg (by omega)
  refine (if_pos hok).trans ?_
  rw [qT_eq, ← divInt_one' 1, Rat.neg_divInt, Rat.divInt_add_divInt _ _ (by omega) (by omega)]
  rfl
theorem cube : powV (Rat.divInt 2 3) 3 = Rat.divInt 8 27 ∧ powE (Rat.divInt 2 3) 3 = 0 := by
  have e : (Rat.divInt 2 3) ^ (3 : Int).toNat = Rat.divInt 8 27 := by
    show (Rat.divInt 2 3) ^ 3 = _
    rw [Rat.pow_succ, Rat.pow_succ, Rat.pow_succ, Rat.pow_zero, Rat.one_mul, Rat.divInt_mul_divInt, Rat.divInt_mul_divInt]
    rfl
  obtain ⟨h1, h2⟩ := low_of (p := 8) (q := 27) (by decide) (by decide)
  have hok : powOk (Rat.divInt 2 3) 3 := powOk_of (by omega) (by omega) (by rw [e]; exact (fb_of h1 h2 (by decide) (by decide)).ft (by omega))
  rw [← e]
  exact pow_yes hok
theorem lv_a : ftx (mkV 6 (-8)) = [45, 51, 47, 52] := by
  have e : mkV 6 (-8) = Rat.divInt (-3) 4 := by
    refine (if_neg (by omega)).trans ?_
    exact (Rat.divInt_mul_left (n := -3) (d := 4) (a := -2) (by omega))
  obtain ⟨h1, h2⟩ := low_of (p := -3) (q := 4) (by decide) (by decide)
  rw [e, ftx_of h1 h2 (by omega), show (-3 : Int) = -((3 : Nat) : Int) from rfl, text_neg (by omega), show (4 : Int) = ((4 : Nat) : Int) from rfl, text_nat, Txt.dec_small (by omega), Txt.dec_small (by omega)]
  rfl
theorem lv_b : ftx (addV qH qT) = [53, 47, 54] := by
  obtain ⟨h1, h2⟩ := low_of (p := 5) (q := 6) (by decide) (by decide)
  rw [sum_HT.1, ftx_of h1 h2 (by omega), show (5 : Int) = ((5 : Nat) : Int) from rfl, text_nat, show (6 : Int) = ((6 : Nat) : Int) from rfl, text_nat, Txt.dec_small (by omega), Txt.dec_small (by omega)]
  rfl
theorem lv_c : ftx (powV (addV ((1 : Int) : Rat) (-qT)) 3) = [56, 47, 50, 55] := by
  obtain ⟨h1, h2⟩ := low_of (p := 8) (q := 27) (by decide) (by decide)
  rw [two_T, cube.1, ftx_of h1 h2 (by omega), show (8 : Int) = ((8 : Nat) : Int) from rfl, text_nat, show (27 : Int) = ((2 * 10 + 7 : Nat) : Int) from rfl, text_nat, Txt.dec_small (by omega), dec_two (by omega) (by omega) (by omega)]
  rfl
theorem lv_h : powE (addV ((1 : Int) : Rat) (-qT)) 3 = 0 := by rw [two_T]; exact cube.2
theorem text_lit {n : Nat} (h : n < 10) : [UInt8.ofNat (48 + n)] = Txt.text (n : Int) := by rw [text_nat, Txt.dec_small h]
theorem lv_i : parE [50, 47, 52] = 2 := (par_no fun x hf hx => by
  obtain ⟨h1, h2⟩ := ftx_top x
  rw [hx] at h1 h2
  have e1 : Txt.text ((2 : Nat) : Int) = Txt.text x.num := (text_lit (by omega)).symm.trans h1
  have e2 : Txt.text ((4 : Nat) : Int) = Txt.text (dn x) := (text_lit (by omega)).symm.trans h2
  have hl := low x
  rw [← Txt.text_inj e1, ← Txt.text_inj e2] at hl
  exact absurd hl (by decide)).2
theorem lv_j : parE [51, 47, 49] = 2 := (par_no fun x hf hx => by
  obtain ⟨h1, h2⟩ := ftx_top x
  rw [hx] at h1 h2
  have e2 : Txt.text ((1 : Nat) : Int) = Txt.text (dn x) := (text_lit (by omega)).symm.trans h2
  have hd := Txt.text_inj e2
  unfold ftx at hx
  rw [if_pos (by omega)] at hx
  have := no47 x.num
  rw [hx] at this
  exact this (by simp)).2
theorem parsR_self {z : Int} (h : fit z) : ParsR (Txt.text z) z 0 := .inl ⟨z, Txt.reads_text z, (rg_in h).1, (rg_in h).2⟩
theorem ftx_beq (x y : Rat) : (ftx x == ftx y) = decide (x = y) := by
  by_cases h : x = y
  · subst h; simp
  · rw [decide_eq_false h]
    have : ftx x ≠ ftx y := fun e => h (ftx_inj e)
    simpa using this
end Go.Proofs.YtmghfhkdfkdgkaaGreatDoor

namespace Go.Proofs.YtmghfhkdfkdgkaaGreatDoor
set_option linter.unusedVariables false
open Go.RowKit Go.Mem Go.Dig Go.Fr Go.Col

set_option maxRecDepth 100000 in
set_option maxHeartbeats 4000000 in
theorem t_lnumber (w : World) (v : Value) (z : Int) (h : (rfC z).sat v w (fun _ => 0)) : CT0 Tryz.prog 18 #[v] w (wfC (z)) := by
 have hz := h.2; refine enter_st Tryz.func18 rfl Tryz.ntmps18 [(0, v)] rfl ⟨rfl, trivial⟩ (Nat.le_of_ble_eq_true rfl) ?_; intro a0 XE0; obtain ⟨c0, hc0⟩ : ∃ c0 : Colr, c0 = fun _ => 0 := ⟨_, rfl⟩; have XG0 : GI w c0 := hc0 ▸ GI.zero w; have XN0 : Ext [21, 22, 23] w c0 w c0 := Ext.refl rfl XG0; have XL0 : All [.s (Fact.val (rfC (z)) v)] b0 f0 w c0 := ⟨(hc0 ▸ h), trivial⟩; refine wp_seq ?_; refine region_st [[], []] [1, 2] [21, 22] (tyvC [(1, PT), (2, PT)]) XE0 XG0 (All.cn 1 21 24 0 #[] (rfC (z)) (All.cn 2 22 33 1 #[] (wfC (0)) XL0)) (fun Q => ⟨sBox 1 21 (rO 0) (fun K h0 => bxs (rf_str' _) (K.fac.val 2 rfl)), sAlz 2 22 (zeroI _) (wf_zero), trivial⟩) ?_; intro bX fX w1 c1 a1 XG1 yx yA yB yV yO yF; obtain ⟨g1_1, e1⟩ := kp (yV 1 rfl) rfl; obtain ⟨g2_1, e2⟩ := kp (yV 2 rfl) rfl; have XE1 := XE0.up yF yO (ck e1 (ck e2 kn)); have XL1 := (All.cb (yA.nb 0 rfl e1 (yB 0 (by decide))) (All.cb (yA.nb 1 rfl e2 (yB 1 (by decide))) (yA.pk yB rfl []))); have XN1 := XN0.trans yx rfl; clear yx yA yB yV yO yF; show Code.wp _ _ _ _ _; refine wp_seq ?_; refine region_st [[], [0], [1], [2], [3], [3], [], [4, 6], [5]] [3, 4, 5, 6, 7, 8, 9, 10] [23] (tyvC [(3, PT), (4, (iE 0)), (5, (TyC.tup1 (wfC (z)) (Value.int .i64 0))), (6, (rfC (z))), (7, (TyC.eq (Value.string (St (Txt.text z))))), (8, (TyC.tup1 (wfC (z)) (Value.int .i64 0))), (9, (wfC (z))), (10, (iE 0))]) XE1 XG1 (All.cn 3 23 33 7 #[.bool false, .slice none 0 0] (wfC (z)) XL1) (fun Q => ⟨sLb 6 (rO 1) 1 aggN (rf_str' _), sC1 7 (rS 6 0) (fun K h0 => k_rtext h0) Tryz.func66, sC1 8 (rS 7 1) (fun K h0 => by cases h0; exact k_wparse _ (Txt.text z) rfl (ft_short hz) z 0 (parsR_self hz)) Tryz.func65, sMv 5 (rS 8 2), sEx 9 (rS 5 3) ex10, sEx 10 (rS 5 3) ex11, sAl 3 23 (zeroI _), sStn 3 23 6 0 (rS 9 4) aggInt (wf_str _), sMv 4 (rS 10 5), trivial⟩) ?_; intro bX fX w2 c2 a2 XG2 yx yA yB yV yO yF; obtain ⟨g3_2, e3⟩ := kp (yV 3 rfl) rfl; have XE2 := XE1.up yF yO (ck e3 kn); have XL2 := (All.cb (yA.nb 0 rfl e3 (yB 7 (by decide))) (yA.pk yB rfl [2])); have XN2 := XN1.trans yx rfl; clear yx yA yB yV yO yF; show Code.wp _ _ _ _ _; refine wp_seq ?_; refine region_st [[], [0]] [11] [22] (tyvC [(11, (wfC (z)))]) XE2 XG2 (All.stg 1 1 (Fact.box g2_1 33 22 (wfC (z))) XL2) (fun Q => ⟨sLb 11 (rO 3) 0 aggInt (wf_str _), sSto 22 (rO 2) (rS 11 0) aggInt (wf_str _) (fun K => BoxC.old (K.fac.sb0 1 rfl K.self) (wf_str _)) (fun K h0 => h0), trivial⟩) ?_; intro bX fX w3 c3 a3 XG3 yx yA yB yV yO yF; have XE3 := XE2.up yF yO kn; have XL3 := (yA.pk yB rfl [1]); have XN3 := XN2.trans yx rfl; clear yx yA yB yV yO yF; show Code.wp _ _ _ _ _; refine wp_ret ?_; (repeat (first | (with_reducible refine then_ret ?_) | (with_reducible refine inBlock_ret ?_) | (with_reducible refine then_normal ?_) | (with_reducible refine inBlock_normal ?_))); show bodyPost Tryz.prog Tryz.f18 _ Exit.ret a3 w3; obtain ⟨r0, hr0, hs0⟩ := BoxC.load (All.box XL3 0 rfl) aggInt (wf_str _); subst hc0; exact bodyPost_ret (res_c rfl _ (XE3.at 2 rfl) hr0) XE3.2.1 ⟨_, rfl, hs0, XN3.new0⟩

theorem k_lnumber {w : World} {c : Colr} {v : Value} {z : Int} (h : (rfC z).sat v w c) (he : Env w) : CV Tryz.prog 18 #[v] w c (wfC z) := (t_lnumber w v z h).cv (pl_wf _)
theorem k_make_self {w : World} {c : Colr} {v v' : Value} {x : Rat} (h : (wfC x.num).sat v w c) (h' : (wfC (dn x)).sat v' w c) : CV Tryz.prog 17 #[v, v'] w c ((ffC x).tup1 (.int .i64 0)) := by
  have := k_make h h'
  rwa [(mkV_self x).1, (mkV_self x).2] at this
set_option maxRecDepth 100000 in
set_option maxHeartbeats 4000000 in
theorem t_lof (w : World) (v : Value) (x : Rat) (h : (rffC x).sat v w (fun _ => 0)) (henv : Env w) : CT0 Tryz.prog 27 #[v] w (ffC (x)) := by
 refine enter_st Tryz.func27 rfl Tryz.ntmps27 [(0, v)] rfl ⟨rfl, trivial⟩ (Nat.le_of_ble_eq_true rfl) ?_; intro a0 XE0; obtain ⟨c0, hc0⟩ : ∃ c0 : Colr, c0 = fun _ => 0 := ⟨_, rfl⟩; have XG0 : GI w c0 := hc0 ▸ GI.zero w; have XN0 : Ext [21, 22, 23] w c0 w c0 := Ext.refl rfl XG0; have XL0 : All [.s (Fact.val (rffC (x)) v)] b0 f0 w c0 := ⟨(hc0 ▸ h), trivial⟩; refine wp_seq ?_; refine region_st [[], []] [1, 2] [21, 22] (tyvC [(1, PT), (2, PT)]) XE0 XG0 (All.cn 1 21 41 0 #[] (rffC (x)) (All.cn 2 22 35 1 #[] (ffC (0)) XL0)) (fun Q => ⟨sBox 1 21 (rO 0) (fun K h0 => bxs (rff_str _) (K.fac.val 2 rfl)), sAlz 2 22 (zeroF _) (ff_zero), trivial⟩) ?_; intro bX fX w1 c1 a1 XG1 yx yA yB yV yO yF; obtain ⟨g1_1, e1⟩ := kp (yV 1 rfl) rfl; obtain ⟨g2_1, e2⟩ := kp (yV 2 rfl) rfl; have XE1 := XE0.up yF yO (ck e1 (ck e2 kn)); have XL1 := (All.cb (yA.nb 0 rfl e1 (yB 0 (by decide))) (All.cb (yA.nb 1 rfl e2 (yB 1 (by decide))) (yA.pk yB rfl []))); have XN1 := XN0.trans yx rfl; clear yx yA yB yV yO yF; show Code.wp _ _ _ _ _; refine wp_seq ?_; refine region_st [[], [0], [1], [], [3], [4], [2, 5], [6], [7], [7], [], [8, 10], [9]] [3, 4, 5, 6, 7, 8, 9, 10, 11, 12, 13, 14] [23] (tyvC [(3, PT), (4, (iE 0)), (5, (TyC.tup1 (ffC (x)) (Value.int .i64 0))), (6, (pE g1_1 0)), (7, (rfC ((x).num))), (8, (wfC ((x).num))), (9, (pE g1_1 2)), (10, (rfC (dn (x)))), (11, (wfC (dn (x)))), (12, (TyC.tup1 (ffC (x)) (Value.int .i64 0))), (13, (ffC (x))), (14, (iE 0))]) XE1 XG1 (All.cn 3 23 35 11 #[.bool false, .slice none 0 0, .bool false, .slice none 0 0] (ffC (x)) XL1) (fun Q => ⟨sFa 6 (rO 1) (fld_r0 _), sLf 7 (rS 6 0) (fun K => lr_P (K.fac.box 1 rfl)), sC1 8 (rS 7 1) (fun K h0 => k_lnumber h0 (env_at henv (XN1.trans K.ext rfl) hc0)) Tryz.func18, sFa 9 (rO 1) (fld_r1 _), sLf 10 (rS 9 3) (fun K => lr_Q (K.fac.box 1 rfl)), sC1 11 (rS 10 4) (fun K h0 => k_lnumber h0 (env_at henv (XN1.trans K.ext rfl) hc0)) Tryz.func18, sC2 12 (rS 8 2) (rS 11 5) (fun K h0 h1 => k_make_self h0 h1) Tryz.func17, sMv 5 (rS 12 6), sEx 13 (rS 5 7) ex10, sEx 14 (rS 5 7) ex11, sAl 3 23 (zeroF _), sStn 3 23 10 0 (rS 13 8) aggF (ff_str _), sMv 4 (rS 14 9), trivial⟩) ?_; intro bX fX w2 c2 a2 XG2 yx yA yB yV yO yF; obtain ⟨g3_2, e3⟩ := kp (yV 3 rfl) rfl; have XE2 := XE1.up yF yO (ck e3 kn); have XL2 := (All.cb (yA.nb 0 rfl e3 (yB 11 (by decide))) (yA.pk yB rfl [2])); have XN2 := XN1.trans yx rfl; clear yx yA yB yV yO yF; show Code.wp _ _ _ _ _; refine wp_seq ?_; refine region_st [[], [0]] [15] [22] (tyvC [(15, (ffC (x)))]) XE2 XG2 (All.stg 1 1 (Fact.box g2_1 35 22 (ffC (x))) XL2) (fun Q => ⟨sLb 15 (rO 3) 0 aggF (ff_str _), sSto 22 (rO 2) (rS 15 0) aggF (ff_str _) (fun K => BoxC.old (K.fac.sb0 1 rfl K.self) (ff_str _)) (fun K h0 => h0), trivial⟩) ?_; intro bX fX w3 c3 a3 XG3 yx yA yB yV yO yF; have XE3 := XE2.up yF yO kn; have XL3 := (yA.pk yB rfl [1]); have XN3 := XN2.trans yx rfl; clear yx yA yB yV yO yF; show Code.wp _ _ _ _ _; refine wp_ret ?_; (repeat (first | (with_reducible refine then_ret ?_) | (with_reducible refine inBlock_ret ?_) | (with_reducible refine then_normal ?_) | (with_reducible refine inBlock_normal ?_)))
 show bodyPost Tryz.prog Tryz.f27 _ Exit.ret a3 w3; obtain ⟨r0, hr0, hs0⟩ := BoxC.load (All.box XL3 0 rfl) aggF (ff_str _); subst hc0; exact bodyPost_ret (res_c rfl _ (XE3.at 2 rfl) hr0) XE3.2.1 ⟨_, rfl, hs0, XN3.new0⟩

theorem k_lof {w : World} {c : Colr} {v : Value} {x : Rat} (h : (rffC x).sat v w c) (he : Env w) : CV Tryz.prog 27 #[v] w c (ffC x) := (t_lof w v x h he).cv (pl_ff _)
set_option maxRecDepth 100000 in
set_option maxHeartbeats 4000000 in
theorem t_lsame (w : World) (v v' : Value) (x : Rat) (h : (ffC x).sat v w (fun _ => 0)) (h' : (rffC x).sat v' w (fun _ => 0)) (henv : Env w) : CT0 Tryz.prog 20 #[v, v'] w (bE true) := by
 refine enter_st Tryz.func20 rfl Tryz.ntmps20 [(0, v), (1, v')] rfl ⟨rfl, rfl, trivial⟩ (Nat.le_of_ble_eq_true rfl) ?_; intro a0 XE0; obtain ⟨c0, hc0⟩ : ∃ c0 : Colr, c0 = fun _ => 0 := ⟨_, rfl⟩; have XG0 : GI w c0 := hc0 ▸ GI.zero w; have XN0 : Ext [21, 22] w c0 w c0 := Ext.refl rfl XG0; have XL0 : All [.s (Fact.val (ffC (x)) v), .s (Fact.val (rffC (x)) (v'))] b0 f0 w c0 := ⟨(hc0 ▸ h), (hc0 ▸ h'), trivial⟩; refine wp_seq ?_; refine region_st [[], [], []] [2, 3, 4] [21, 22] (tyvC [(2, PT), (3, PT), (4, (bE false))]) XE0 XG0 (All.cn 2 21 35 0 #[] (ffC (x)) (All.cn 3 22 41 1 #[] (rffC (x)) XL0)) (fun Q => ⟨sBox 2 21 (rO 0) (fun K h0 => bxs (ff_str _) (K.fac.val 2 rfl)), sBox 3 22 (rO 1) (fun K h0 => bxs (rff_str _) (K.fac.val 3 rfl)), sMv 4 (rK (Value.bool false)), trivial⟩) ?_; intro bX fX w1 c1 a1 XG1 yx yA yB yV yO yF; obtain ⟨g2_1, e2⟩ := kp (yV 2 rfl) rfl; obtain ⟨g3_1, e3⟩ := kp (yV 3 rfl) rfl; have XE1 := XE0.up yF yO (ck e2 (ck e3 (ck (kv (yV 4 rfl) rfl) kn))); have XL1 := (All.cb (yA.nb 0 rfl e2 (yB 0 (by decide))) (All.cb (yA.nb 1 rfl e3 (yB 1 (by decide))) (yA.pk yB rfl []))); have XN1 := XN0.trans yx rfl; clear yx yA yB yV yO yF; show Code.wp _ _ _ _ _; refine wp_seq ?_; refine region_st [[], [0], [1], [], [3], [4], [2, 5], [6], [7], [7, 8], [7, 9], [7], [7, 11], [7, 12], [7, 10, 13], [7, 14], [15]] [4, 5, 6, 7, 8, 9, 10, 11, 12, 13, 14, 15, 16, 17, 18, 19, 20] [] (tyvC [(4, (bE true)), (5, (ffC (x))), (6, (wfC (x.num))), (7, (TyC.eq (Value.string (St (Txt.text x.num))))), (8, (pE g3_1 0)), (9, (rfC ((x).num))), (10, (TyC.eq (Value.string (St (Txt.text ((x).num)))))), (11, (bE true)), (12, (bE true)), (13, (ffC (x))), (14, (wfC (dn x))), (15, (TyC.eq (Value.string (St (Txt.text (dn x)))))), (16, (pE g3_1 2)), (17, (rfC (dn (x)))), (18, (TyC.eq (Value.string (St (Txt.text (dn (x))))))), (19, (bE true)), (20, (bE true))]) XE1 XG1 XL1 (fun Q => ⟨sLb 5 (rO 2) 0 aggF (ff_str _), sC1 6 (rS 5 0) (fun K h0 => k_num h0) Tryz.func51, sC1 7 (rS 6 1) (fun K h0 => k_wstring h0 (env_at henv (XN1.trans K.ext rfl) hc0).1) Tryz.func69, sFa 8 (rO 3) (fld_r0 _), sLf 9 (rS 8 3) (fun K => lr_P (K.fac.box 1 rfl)), sC1 10 (rS 9 4) (fun K h0 => k_rtext h0) Tryz.func66, sBin 11 (rS 7 2) (rS 10 5) (fun h h' => ⟨h, h'⟩) (eqg_str _ _ _ _ _ _) (run_eqls_self _ _), sMv 12 (rS 11 6), sLb 13 (rO 2) 0 aggF (ff_str _), sC1 14 (rS 13 8) (fun K h0 => k_den h0) Tryz.func52, sC1 15 (rS 14 9) (fun K h0 => k_wstring h0 (env_at henv (XN1.trans K.ext rfl) hc0).1) Tryz.func69, sFa 16 (rO 3) (fld_r1 _), sLf 17 (rS 16 11) (fun K => lr_Q (K.fac.box 1 rfl)), sC1 18 (rS 17 12) (fun K h0 => k_rtext h0) Tryz.func66, sBin 19 (rS 15 10) (rS 18 13) (fun h h' => ⟨h, h'⟩) (eqg_str _ _ _ _ _ _) (run_eqls_self _ _), sPkt 20 (rS 12 7) (rS 19 14), sMv 4 (rS 20 15), trivial⟩) ?_; intro bX fX w2 c2 a2 XG2 yx yA yB yV yO yF; have XE2 := XE1.up yF yO (ck (kv (yV 4 rfl) rfl) kn); have XL2 := (yA.pk yB rfl []); have XN2 := XN1.trans yx rfl; clear yx yA yB yV yO yF; show Code.wp _ _ _ _ _; refine wp_ret ?_
 (repeat (first | (with_reducible refine then_ret ?_) | (with_reducible refine inBlock_ret ?_) | (with_reducible refine then_normal ?_) | (with_reducible refine inBlock_normal ?_))); show bodyPost Tryz.prog Tryz.f20 _ Exit.ret a2 w2; subst hc0; exact bodyPost_ret (res_t rfl _ (XE2.at 4 rfl)) XE2.2.1 ⟨_, rfl, rfl, XN2.new0⟩

theorem k_lsame {w : World} {c : Colr} {v v' : Value} {x y : Rat} (h : (ffC x).sat v w c) (h' : (rffC y).sat v' w c) (he : Env w) (e : x = y) : CV Tryz.prog 20 #[v, v'] w c (TyC.eq (.bool true)) := by
  subst e
  exact (t_lsame w v v' x h h' he).cv (plain_eq _)
set_option maxRecDepth 100000 in
set_option maxHeartbeats 4000000 in
theorem t_lwhole (w : World) (n : Int) (hn : I64 n) : CT0 Tryz.prog 22 #[Value.int .i64 n] w (ffC (((n : Int) : Rat))) := by
 rw [← mkV_int n]; refine enter_st Tryz.func22 rfl Tryz.ntmps22 [(0, Value.int .i64 n)] rfl ⟨rfl, trivial⟩ (Nat.le_of_ble_eq_true rfl) ?_; intro a0 XE0; obtain ⟨c0, hc0⟩ : ∃ c0 : Colr, c0 = fun _ => 0 := ⟨_, rfl⟩; have XG0 : GI w c0 := hc0 ▸ GI.zero w; have XN0 : Ext [21, 22] w c0 w c0 := Ext.refl rfl XG0; have XL0 : All [] b0 f0 w c0 := trivial; refine wp_seq ?_; refine region_st [[]] [2] [21] (tyvC [(2, PT)]) XE0 XG0 (All.cn 2 21 35 0 #[] (ffC (0)) XL0) (fun Q => ⟨sAlz 2 21 (zeroF _) (ff_zero), trivial⟩) ?_; intro bX fX w1 c1 a1 XG1 yx yA yB yV yO yF; obtain ⟨g2_1, e2⟩ := kp (yV 2 rfl) rfl; have XE1 := XE0.up yF yO (ck e2 kn); have XL1 := (All.cb (yA.nb 0 rfl e2 (yB 0 (by decide))) (yA.pk yB rfl [])); have XN1 := XN0.trans yx rfl; clear yx yA yB yV yO yF; show Code.wp _ _ _ _ _; refine wp_seq ?_; refine region_st [[], [0], [1], [2], [2], [], [3, 5], [4]] [3, 4, 5, 6, 7, 8, 9] [22] (tyvC [(3, PT), (4, (iE (mkE 1))), (5, (TyC.tup1 (ffC (mkV n 1)) (Value.int .i64 (mkE 1)))), (6, (iE n)), (7, (TyC.tup1 (ffC (mkV n 1)) (Value.int .i64 (mkE 1)))), (8, (ffC (mkV n 1))), (9, (iE (mkE 1)))]) XE1 XG1 (All.cn 3 22 35 6 #[.bool false, .slice none 0 0, .bool false, .slice none 0 0] (ffC (mkV n 1)) XL1) (fun Q => ⟨sMv 6 (rO 0), sC2 7 (rS 6 0) (rK (Value.int IntKind.i64 1)) (fun K h0 h1 => by cases h0; exact k_fof (n) (1) (by first | omega | assumption) (by first | omega | assumption)) Tryz.func21, sMv 5 (rS 7 1), sEx 8 (rS 5 2) ex10, sEx 9 (rS 5 2) ex11, sAl 3 22 (zeroF _), sStn 3 22 5 0 (rS 8 3) aggF (ff_str _), sMv 4 (rS 9 4), trivial⟩) ?_; intro bX fX w2 c2 a2 XG2 yx yA yB yV yO yF; obtain ⟨g3_2, e3⟩ := kp (yV 3 rfl) rfl; have XE2 := XE1.up yF yO (ck e3 kn); have XL2 := (All.cb (yA.nb 0 rfl e3 (yB 6 (by decide))) (yA.pk yB rfl [1])); have XN2 := XN1.trans yx rfl; clear yx yA yB yV yO yF; show Code.wp _ _ _ _ _; refine wp_seq ?_; refine region_st [[], [0]] [10] [21] (tyvC [(10, (ffC (mkV n 1)))]) XE2 XG2 (All.stg 1 1 (Fact.box g2_1 35 21 (ffC (mkV n 1))) XL2) (fun Q => ⟨sLb 10 (rO 3) 0 aggF (ff_str _), sSto 21 (rO 2) (rS 10 0) aggF (ff_str _) (fun K => BoxC.old (K.fac.sb0 1 rfl K.self) (ff_str _)) (fun K h0 => h0), trivial⟩) ?_; intro bX fX w3 c3 a3 XG3 yx yA yB yV yO yF; have XE3 := XE2.up yF yO kn; have XL3 := (yA.pk yB rfl [1]); have XN3 := XN2.trans yx rfl; clear yx yA yB yV yO yF; show Code.wp _ _ _ _ _; refine wp_ret ?_; (repeat (first | (with_reducible refine then_ret ?_) | (with_reducible refine inBlock_ret ?_) | (with_reducible refine then_normal ?_) | (with_reducible refine inBlock_normal ?_))); show bodyPost Tryz.prog Tryz.f22 _ Exit.ret a3 w3; obtain ⟨r0, hr0, hs0⟩ := BoxC.load (All.box XL3 0 rfl) aggF (ff_str _); subst hc0; exact bodyPost_ret (res_c rfl _ (XE3.at 2 rfl) hr0) XE3.2.1 ⟨_, rfl, hs0, XN3.new0⟩

theorem k_lwhole {w : World} {c : Colr} (n : Int) (hn : I64 n) : CV Tryz.prog 22 #[.int .i64 n] w c (ffC ((n : Int) : Rat)) := (t_lwhole w n hn).cv (pl_ff _)
set_option maxRecDepth 100000 in
set_option maxHeartbeats 4000000 in
theorem t_lequal (w : World) (v v' : Value) (x y : Rat) (h : (ffC x).sat v w (fun _ => 0)) (h' : (ffC y).sat v' w (fun _ => 0)) (henv : Env w) : CT0 Tryz.prog 41 #[v, v'] w (TyC.eq (Value.bool (ftx x == ftx y))) := by
 refine enter_st Tryz.func41 rfl Tryz.ntmps41 [(0, v), (1, v')] rfl ⟨rfl, rfl, trivial⟩ (Nat.le_of_ble_eq_true rfl) ?_; intro a0 XE0; obtain ⟨c0, hc0⟩ : ∃ c0 : Colr, c0 = fun _ => 0 := ⟨_, rfl⟩; have XG0 : GI w c0 := hc0 ▸ GI.zero w; have XN0 : Ext [21, 22] w c0 w c0 := Ext.refl rfl XG0; have XL0 : All [.s (Fact.val (ffC (x)) v), .s (Fact.val (ffC (y)) (v'))] b0 f0 w c0 := ⟨(hc0 ▸ h), (hc0 ▸ h'), trivial⟩; refine wp_seq ?_; refine region_st [[], [], []] [2, 3, 4] [21, 22] (tyvC [(2, PT), (3, PT), (4, (bE false))]) XE0 XG0 (All.cn 2 21 35 0 #[] (ffC (x)) (All.cn 3 22 35 1 #[] (ffC (y)) XL0)) (fun Q => ⟨sBox 2 21 (rO 0) (fun K h0 => bxs (ff_str _) (K.fac.val 2 rfl)), sBox 3 22 (rO 1) (fun K h0 => bxs (ff_str _) (K.fac.val 3 rfl)), sMv 4 (rK (Value.bool false)), trivial⟩) ?_; intro bX fX w1 c1 a1 XG1 yx yA yB yV yO yF; obtain ⟨g2_1, e2⟩ := kp (yV 2 rfl) rfl; obtain ⟨g3_1, e3⟩ := kp (yV 3 rfl) rfl; have XE1 := XE0.up yF yO (ck e2 (ck e3 (ck (kv (yV 4 rfl) rfl) kn))); have XL1 := (All.cb (yA.nb 0 rfl e2 (yB 0 (by decide))) (All.cb (yA.nb 1 rfl e3 (yB 1 (by decide))) (yA.pk yB rfl []))); have XN1 := XN0.trans yx rfl; clear yx yA yB yV yO yF; show Code.wp _ _ _ _ _; refine wp_seq ?_; refine region_st [[], [0], [], [2], [1, 3], [4]] [4, 5, 6, 7, 8, 9] [] (tyvC [(4, (TyC.eq (Value.bool (ftx x == ftx y)))), (5, (ffC (x))), (6, (TyC.eq (Value.string (St (ftx x))))), (7, (ffC (y))), (8, (TyC.eq (Value.string (St (ftx y))))), (9, (TyC.eq (Value.bool (ftx x == ftx y))))]) XE1 XG1 XL1 (fun Q => ⟨sLb 5 (rO 2) 0 aggF (ff_str _), sC1 6 (rS 5 0) (fun K h0 => k_fstring h0 (env_at henv (XN1.trans K.ext rfl) hc0).1) Tryz.func45, sLb 7 (rO 3) 1 aggF (ff_str _), sC1 8 (rS 7 2) (fun K h0 => k_fstring h0 (env_at henv (XN1.trans K.ext rfl) hc0).1) Tryz.func45, sBin 9 (rS 6 1) (rS 8 3) (fun h h' => ⟨h, h'⟩) (eqg_str _ _ _ _ _ _) (run_eqlS _ _ _), sMv 4 (rS 9 4), trivial⟩) ?_; intro bX fX w2 c2 a2 XG2 yx yA yB yV yO yF; have XE2 := XE1.up yF yO (ck (kv (yV 4 rfl) rfl) kn); have XL2 := (yA.pk yB rfl []); have XN2 := XN1.trans yx rfl; clear yx yA yB yV yO yF; show Code.wp _ _ _ _ _; refine wp_ret ?_; (repeat (first | (with_reducible refine then_ret ?_) | (with_reducible refine inBlock_ret ?_) | (with_reducible refine then_normal ?_) | (with_reducible refine inBlock_normal ?_))); show bodyPost Tryz.prog Tryz.f41 _ Exit.ret a2 w2; subst hc0; exact bodyPost_ret (res_t rfl _ (XE2.at 4 rfl)) XE2.2.1 ⟨_, rfl, rfl, XN2.new0⟩

theorem k_lequal {w : World} {c : Colr} {v v' : Value} {x y : Rat} (h : (ffC x).sat v w c) (h' : (ffC y).sat v' w c) (he : Env w) : CV Tryz.prog 41 #[v, v'] w c (TyC.eq (.bool (decide (x = y)))) := by
  rw [← ftx_beq]
  exact (t_lequal w v v' x y h h' he).cv (plain_eq _)
theorem k_leq {w : World} {c : Colr} {v v' : Value} {x y : Rat} (h : (ffC x).sat v w c) (h' : (ffC y).sat v' w c) (he : Env w) (e : x = y) : CV Tryz.prog 41 #[v, v'] w c (TyC.eq (.bool true)) := by
  have := k_lequal h h' he
  rwa [decide_eq_true e] at this
theorem tmod_emod (n : Int) {m : Int} (hm : 1 ≤ m) : (n.tmod m < 0 → n.tmod m + m = n % m) ∧ (¬ n.tmod m < 0 → n.tmod m = n % m) := by
  have h1 := Int.tmod_eq_emod (a := n) (b := m)
  have h2 := Int.emod_lt_of_pos n (show 0 < m by omega)
  have h3 := Int.emod_nonneg n (show m ≠ 0 by omega)
  rw [h1]
  split
  · omega
  · have : ((m.natAbs : Nat) : Int) = m := by omega
    rw [this]
    omega
set_option maxRecDepth 100000 in
set_option maxHeartbeats 4000000 in
theorem t_laround (w : World) (n m : Int) (hm : 1 ≤ m ∧ m ≤ 1000) (hn : I64 n) : CT0 Tryz.prog 37 #[Value.int .i64 n, Value.int .i64 m] w (iE (n % m)) := by
 obtain ⟨q1, q2⟩ := tmod_emod n hm.1; have q3 := Int.emod_lt_of_pos n (show 0 < m by omega); have q4 := Int.emod_nonneg n (show m ≠ 0 by omega); refine enter_st Tryz.func37 rfl Tryz.ntmps37 [(0, Value.int .i64 n), (1, Value.int .i64 m)] rfl ⟨rfl, rfl, trivial⟩ (Nat.le_of_ble_eq_true rfl) ?_; intro a0 XE0; obtain ⟨c0, hc0⟩ : ∃ c0 : Colr, c0 = fun _ => 0 := ⟨_, rfl⟩; have XG0 : GI w c0 := hc0 ▸ GI.zero w; have XN0 : Ext [] w c0 w c0 := Ext.refl rfl XG0; have XL0 : All [] b0 f0 w c0 := trivial; refine wp_seq ?_; refine region_st [[]] [4] [] (tyvC [(4, (iE 0))]) XE0 XG0 XL0 (fun Q => ⟨sMv 4 (rK (Value.int IntKind.i64 0)), trivial⟩) ?_; intro bX fX w1 c1 a1 XG1 yx yA yB yV yO yF; have XE1 := XE0.up yF yO (ck (kv (yV 4 rfl) rfl) kn); have XL1 := (yA.pk yB rfl []); have XN1 := XN0.trans yx rfl; clear yx yA yB yV yO yF; show Code.wp _ _ _ _ _; refine wp_seq ?_; refine region_st [[], [], [0, 1], [2]] [5, 6, 7, 8] [] (tyvC [(5, (iE (Int.tmod n m))), (6, (iE n)), (7, (iE m)), (8, (iE (Int.tmod n m)))]) XE1 XG1 XL1 (fun Q => ⟨sMv 6 (rO 0), sMv 7 (rO 1), sBin 8 (z := Value.int .i64 n) (z' := Value.int .i64 m) (u := Value.int .i64 (Int.tmod n m)) (rS 6 0) (rS 7 1) (fun h h' => ⟨h, h'⟩) (eqg_int _ _ _ _ _ _ _ _) (run_rem_i _ _ _ (by omega)), sMv 5 (rS 8 2), trivial⟩) ?_; intro bX fX w2 c2 a2 XG2 yx yA yB yV yO yF; have XE2 := XE1.up yF yO (ck (kv (yV 5 rfl) rfl) kn); have XL2 := (yA.pk yB rfl []); have XN2 := XN1.trans yx rfl; clear yx yA yB yV yO yF; show Code.wp _ _ _ _ _; refine wp_seq ?_; refine wp_seq ?_; by_cases hg : n.tmod m < 0
 · skip
   refine region_st [[], [0]] [9, 10] [] (tyvC [(9, (iE (Int.tmod n m))), (10, (bE true))]) XE2 XG2 XL2 (fun Q => ⟨sMv 9 (rO 5), sBin 10 (z := Value.int .i64 (Int.tmod n m)) (z' := Value.int IntKind.i64 0) (u := Value.bool true) (rS 9 0) (rK (Value.int IntKind.i64 0)) (fun h h' => ⟨h, rfl⟩) (eqg_int _ _ _ _ _ _ _ _) (run_as (run_lss _ _ _ _) (by simp [hg])), trivial⟩) ?_; intro bX fX w3 c3 a3 XG3 yx yA yB yV yO yF; have XE3 := XE2.up yF yO (ck (kv (yV 10 rfl) rfl) kn); have XL3 := (yA.pk yB rfl []); have XN3 := XN2.trans yx rfl; clear yx yA yB yV yO yF; show Code.wp _ _ _ _ _; refine wp_cond (t := true) (XE3.at 10 rfl) ?_; refine region_st [[], [], [0, 1], [0, 2]] [5, 11, 12, 13] [] (tyvC [(5, (iE (n % m))), (11, (iE (Int.tmod n m))), (12, (iE m)), (13, (iE (n % m)))]) XE3 XG3 XL3 (fun Q => ⟨sMv 11 (rP 5 3), sMv 12 (rO 1), sBin 13 (z := Value.int .i64 (Int.tmod n m)) (z' := Value.int .i64 m) (u := Value.int .i64 (n % m)) (rS 11 0) (rS 12 1) (fun h h' => ⟨h, h'⟩) (eqg_int _ _ _ _ _ _ _ _) (run_as (run_add' _ _ _) (by rw [q1 hg, IntWalk.i64_in _ (by omega)])), sMv 5 (rS 13 2), trivial⟩) ?_; intro bX fX w4 c4 a4 XG4 yx yA yB yV yO yF; have XE4 := XE3.up yF yO (ck (kv (yV 5 rfl) rfl) kn); have XL4 := (yA.pk yB rfl []); have XN4 := XN3.trans yx rfl; clear yx yA yB yV yO yF; show Code.wp _ _ _ _ _; refine wp_seq ?_; refine region_st [[], [0]] [4, 14] [] (tyvC [(4, (iE (n % m))), (14, (iE (n % m)))]) XE4 XG4 XL4 (fun Q => ⟨sMv 14 (rO 5), sMv 4 (rS 14 0), trivial⟩) ?_; intro bX fX w5 c5 a5 XG5 yx yA yB yV yO yF; have XE5 := XE4.up yF yO (ck (kv (yV 4 rfl) rfl) kn); have XL5 := (yA.pk yB rfl []); have XN5 := XN4.trans yx rfl; clear yx yA yB yV yO yF; show Code.wp _ _ _ _ _; refine wp_ret ?_; (repeat (first | (with_reducible refine then_ret ?_) | (with_reducible refine inBlock_ret ?_) | (with_reducible refine then_normal ?_) | (with_reducible refine inBlock_normal ?_))); show bodyPost Tryz.prog Tryz.f37 _ Exit.ret a5 w5; subst hc0; exact bodyPost_ret (res_t rfl _ (XE5.at 4 rfl)) XE5.2.1 ⟨_, rfl, rfl, XN5.new0⟩
 · rw [← q2 hg]
   refine region_st [[], [0]] [9, 10] [] (tyvC [(9, (iE (Int.tmod n m))), (10, (bE false))]) XE2 XG2 XL2 (fun Q => ⟨sMv 9 (rO 5), sBin 10 (z := Value.int .i64 (Int.tmod n m)) (z' := Value.int IntKind.i64 0) (u := Value.bool false) (rS 9 0) (rK (Value.int IntKind.i64 0)) (fun h h' => ⟨h, rfl⟩) (eqg_int _ _ _ _ _ _ _ _) (run_as (run_lss _ _ _ _) (by simp [hg])), trivial⟩) ?_; intro bX fX w6 c6 a6 XG6 yx yA yB yV yO yF; have XE6 := XE2.up yF yO (ck (kv (yV 10 rfl) rfl) kn); have XL6 := (yA.pk yB rfl []); have XN6 := XN2.trans yx rfl; clear yx yA yB yV yO yF; show Code.wp _ _ _ _ _; refine wp_cond (t := false) (XE6.at 10 rfl) ?_; refine wp_skip ?_; show Code.wp _ _ _ _ _; refine wp_seq ?_; refine region_st [[], [0]] [4, 14] [] (tyvC [(4, (iE (Int.tmod n m))), (14, (iE (Int.tmod n m)))]) XE6 XG6 XL6 (fun Q => ⟨sMv 14 (rO 5), sMv 4 (rS 14 0), trivial⟩) ?_; intro bX fX w7 c7 a7 XG7 yx yA yB yV yO yF; have XE7 := XE6.up yF yO (ck (kv (yV 4 rfl) rfl) kn); have XL7 := (yA.pk yB rfl []); have XN7 := XN6.trans yx rfl; clear yx yA yB yV yO yF; show Code.wp _ _ _ _ _; refine wp_ret ?_; (repeat (first | (with_reducible refine then_ret ?_) | (with_reducible refine inBlock_ret ?_) | (with_reducible refine then_normal ?_) | (with_reducible refine inBlock_normal ?_))); show bodyPost Tryz.prog Tryz.f37 _ Exit.ret a7 w7; subst hc0; exact bodyPost_ret (res_t rfl _ (XE7.at 4 rfl)) XE7.2.1 ⟨_, rfl, rfl, XN7.new0⟩

theorem k_laround {w : World} {c : Colr} {n m : Int} (hm : 1 ≤ m ∧ m ≤ 1000) (hn : I64 n) : CV Tryz.prog 37 #[.int .i64 n, .int .i64 m] w c (TyC.eq (.int .i64 (n % m))) := (t_laround w n m hm hn).cv (plain_eq _)
set_option maxRecDepth 100000 in
set_option maxHeartbeats 4000000 in
theorem t_llives (w : World) (henv : Env w) : CT0 Tryz.prog 24 #[] w (bE true) := by
 refine enter_st Tryz.func24 rfl Tryz.ntmps24 [] rfl trivial (Nat.le_of_ble_eq_true rfl) ?_; intro a0 XE0; obtain ⟨c0, hc0⟩ : ∃ c0 : Colr, c0 = fun _ => 0 := ⟨_, rfl⟩; have XG0 : GI w c0 := hc0 ▸ GI.zero w; have XN0 : Ext [21, 22, 23, 24, 25, 26, 27, 28, 29] w c0 w c0 := Ext.refl rfl XG0; have XL0 : All [] b0 f0 w c0 := trivial; refine wp_seq ?_; refine region_st [[]] [0] [] (tyvC [(0, (bE false))]) XE0 XG0 XL0 (fun Q => ⟨sMv 0 (rK (Value.bool false)), trivial⟩) ?_; intro bX fX w1 c1 a1 XG1 yx yA yB yV yO yF; have XE1 := XE0.up yF yO (ck (kv (yV 0 rfl) rfl) kn); have XL1 := (yA.pk yB rfl []); have XN1 := XN0.trans yx rfl; clear yx yA yB yV yO yF; show Code.wp _ _ _ _ _; refine wp_seq ?_; refine region_st [[], [0], [1], [1], [], [2, 4], [3]] [1, 2, 19, 20, 21, 22] [21] (tyvC [(1, PT), (2, (iE (mkE (-8)))), (19, (TyC.tup1 (ffC (mkV 6 (-8))) (Value.int .i64 (mkE (-8))))), (20, (TyC.tup1 (ffC (mkV 6 (-8))) (Value.int .i64 (mkE (-8))))), (21, (ffC (mkV 6 (-8)))), (22, (iE (mkE (-8))))]) XE1 XG1 (All.cn 1 21 35 5 #[.bool false, .slice none 0 0, .bool false, .slice none 0 0] (ffC (mkV 6 (-8))) XL1) (fun Q => ⟨sC2 20 (rK (Value.int IntKind.i64 6)) (rK (Value.int IntKind.i64 (-8))) (fun K h0 h1 => k_fof (6) (-8) (by first | omega | assumption) (by first | omega | assumption)) Tryz.func21, sMv 19 (rS 20 0), sEx 21 (rS 19 1) ex10, sEx 22 (rS 19 1) ex11, sAl 1 21 (zeroF _), sStn 1 21 4 0 (rS 21 2) aggF (ff_str _), sMv 2 (rS 22 3), trivial⟩) ?_; intro bX fX w2 c2 a2 XG2 yx yA yB yV yO yF; obtain ⟨g1_2, e1⟩ := kp (yV 1 rfl) rfl; have XE2 := XE1.up yF yO (ck e1 (ck (kv (yV 2 rfl) rfl) kn)); have XL2 := (All.cb (yA.nb 0 rfl e1 (yB 5 (by decide))) (yA.pk yB rfl [])); have XN2 := XN1.trans yx rfl; clear yx yA yB yV yO yF; show Code.wp _ _ _ _ _; refine wp_seq ?_; refine region_st [[], [0], [1], [1], [], [2, 4], [3]] [3, 4, 23, 24, 25, 26] [22] (tyvC [(3, PT), (4, (iE (mkE 2))), (23, (TyC.tup1 (ffC (mkV 1 2)) (Value.int .i64 (mkE 2)))), (24, (TyC.tup1 (ffC (mkV 1 2)) (Value.int .i64 (mkE 2)))), (25, (ffC (mkV 1 2))), (26, (iE (mkE 2)))]) XE2 XG2 (All.cn 3 22 35 5 #[.bool false, .slice none 0 0, .bool false, .slice none 0 0] (ffC (mkV 1 2)) XL2) (fun Q => ⟨sC2 24 (rK (Value.int IntKind.i64 1)) (rK (Value.int IntKind.i64 2)) (fun K h0 h1 => k_fof (1) (2) (by first | omega | assumption) (by first | omega | assumption)) Tryz.func21, sMv 23 (rS 24 0), sEx 25 (rS 23 1) ex10, sEx 26 (rS 23 1) ex11, sAl 3 22 (zeroF _), sStn 3 22 4 0 (rS 25 2) aggF (ff_str _), sMv 4 (rS 26 3), trivial⟩) ?_; intro bX fX w3 c3 a3 XG3 yx yA yB yV yO yF; obtain ⟨g3_3, e3⟩ := kp (yV 3 rfl) rfl; have XE3 := XE2.up yF yO (ck e3 kn); have XL3 := (All.cb (yA.nb 0 rfl e3 (yB 5 (by decide))) (yA.pk yB rfl [1])); have XN3 := XN2.trans yx rfl; clear yx yA yB yV yO yF; show Code.wp _ _ _ _ _; have hU1 := All.put (G := Fact.box g3_3 35 22 (ffC (qH))) 0 XL3 (BoxC.up (All.box XL3 0 rfl) (fun v hv => hv)); refine wp_seq ?_; refine region_st [[], [0], [1], [1], [], [2, 4], [3]] [5, 6, 27, 28, 29, 30] [23] (tyvC [(5, PT), (6, (iE (mkE 3))), (27, (TyC.tup1 (ffC (mkV 1 3)) (Value.int .i64 (mkE 3)))), (28, (TyC.tup1 (ffC (mkV 1 3)) (Value.int .i64 (mkE 3)))), (29, (ffC (mkV 1 3))), (30, (iE (mkE 3)))]) XE3 XG3 (All.cn 5 23 35 5 #[.bool false, .slice none 0 0, .bool false, .slice none 0 0] (ffC (mkV 1 3)) hU1) (fun Q => ⟨sC2 28 (rK (Value.int IntKind.i64 1)) (rK (Value.int IntKind.i64 3)) (fun K h0 h1 => k_fof (1) (3) (by first | omega | assumption) (by first | omega | assumption)) Tryz.func21, sMv 27 (rS 28 0), sEx 29 (rS 27 1) ex10, sEx 30 (rS 27 1) ex11, sAl 5 23 (zeroF _), sStn 5 23 4 0 (rS 29 2) aggF (ff_str _), sMv 6 (rS 30 3), trivial⟩) ?_
 intro bX fX w4 c4 a4 XG4 yx yA yB yV yO yF; obtain ⟨g5_4, e5⟩ := kp (yV 5 rfl) rfl; have XE4 := XE3.up yF yO (ck e5 kn); have XL4 := (All.cb (yA.nb 0 rfl e5 (yB 5 (by decide))) (yA.pk yB rfl [1, 2])); have XN4 := XN3.trans yx rfl; clear yx yA yB yV yO yF; show Code.wp _ _ _ _ _; have hU2 := All.put (G := Fact.box g5_4 35 23 (ffC (qT))) 0 XL4 (BoxC.up (All.box XL4 0 rfl) (fun v hv => hv)); refine wp_seq ?_; refine region_st [[], [], [0, 1], [2], [3], [3], [], [4, 6], [5]] [7, 8, 31, 32, 33, 34, 35, 36] [24] (tyvC [(7, PT), (8, (iE (addE qH qT))), (31, (TyC.tup1 (ffC (addV qH qT)) (Value.int .i64 (addE qH qT)))), (32, (ffC (qH))), (33, (ffC (qT))), (34, (TyC.tup1 (ffC (addV qH qT)) (Value.int .i64 (addE qH qT)))), (35, (ffC (addV qH qT))), (36, (iE (addE qH qT)))]) XE4 XG4 (All.cn 7 24 35 7 #[.bool false, .slice none 0 0, .bool false, .slice none 0 0] (ffC (addV qH qT)) hU2) (fun Q => ⟨sLb 32 (rO 3) 2 aggF (ff_str _), sLb 33 (rO 5) 1 aggF (ff_str _), sC2 34 (rS 32 0) (rS 33 1) (fun K h0 h1 => k_fadd h0 h1) Tryz.func28, sMv 31 (rS 34 2), sEx 35 (rS 31 3) ex10, sEx 36 (rS 31 3) ex11, sAl 7 24 (zeroF _), sStn 7 24 6 0 (rS 35 4) aggF (ff_str _), sMv 8 (rS 36 5), trivial⟩) ?_; intro bX fX w5 c5 a5 XG5 yx yA yB yV yO yF; obtain ⟨g7_5, e7⟩ := kp (yV 7 rfl) rfl; have XE5 := XE4.up yF yO (ck e7 (ck (kv (yV 8 rfl) rfl) kn)); have XL5 := (All.cb (yA.nb 0 rfl e7 (yB 7 (by decide))) (yA.pk yB rfl [1, 3])); have XN5 := XN4.trans yx rfl; clear yx yA yB yV yO yF; show Code.wp _ _ _ _ _; refine wp_seq ?_; refine region_st [[], [], [0, 1], [2], [3], [3], [], [4, 6], [5]] [9, 10, 37, 38, 39, 40, 41, 42] [25] (tyvC [(9, PT), (10, (iE (divE ((1 : Int) : Rat) ((0 : Int) : Rat)))), (37, (TyC.tup1 (ffC (divV ((1 : Int) : Rat) ((0 : Int) : Rat))) (Value.int .i64 (divE ((1 : Int) : Rat) ((0 : Int) : Rat))))), (38, (ffC (((1 : Int) : Rat)))), (39, (ffC (((0 : Int) : Rat)))), (40, (TyC.tup1 (ffC (divV ((1 : Int) : Rat) ((0 : Int) : Rat))) (Value.int .i64 (divE ((1 : Int) : Rat) ((0 : Int) : Rat))))), (41, (ffC (divV ((1 : Int) : Rat) ((0 : Int) : Rat)))), (42, (iE (divE ((1 : Int) : Rat) ((0 : Int) : Rat))))]) XE5 XG5 (All.cn 9 25 35 7 #[.bool false, .slice none 0 0, .bool false, .slice none 0 0] (ffC (divV ((1 : Int) : Rat) ((0 : Int) : Rat))) XL5) (fun Q => ⟨sC1 38 (rK (Value.int IntKind.i64 1)) (fun K h0 => k_lwhole 1 (by first | omega | assumption)) Tryz.func22, sC1 39 (rK (Value.int IntKind.i64 0)) (fun K h0 => k_lwhole 0 (by first | omega | assumption)) Tryz.func22, sC2 40 (rS 38 0) (rS 39 1) (fun K h0 h1 => k_fdiv h0 h1) Tryz.func34, sMv 37 (rS 40 2), sEx 41 (rS 37 3) ex10, sEx 42 (rS 37 3) ex11, sAl 9 25 (zeroF _), sStn 9 25 6 0 (rS 41 4) aggF (ff_str _), sMv 10 (rS 42 5), trivial⟩) ?_; intro bX fX w6 c6 a6 XG6 yx yA yB yV yO yF; have XE6 := XE5.up yF yO (ck (kv (yV 10 rfl) rfl) kn); have XL6 := (yA.pk yB rfl [1, 2, 3]); have XN6 := XN5.trans yx rfl; clear yx yA yB yV yO yF; show Code.wp _ _ _ _ _; refine wp_seq ?_; refine region_st [[], [], [0, 1], [2], [3], [3], [], [4, 6], [5]] [11, 12, 43, 44, 45, 46, 47, 48] [26] (tyvC [(11, PT), (12, (iE (addE ((1 : Int) : Rat) (-qT)))), (43, (TyC.tup1 (ffC (addV ((1 : Int) : Rat) (-qT))) (Value.int .i64 (addE ((1 : Int) : Rat) (-qT))))), (44, (ffC (((1 : Int) : Rat)))), (45, (ffC (qT))), (46, (TyC.tup1 (ffC (addV ((1 : Int) : Rat) (-qT))) (Value.int .i64 (addE ((1 : Int) : Rat) (-qT))))), (47, (ffC (addV ((1 : Int) : Rat) (-qT)))), (48, (iE (addE ((1 : Int) : Rat) (-qT))))]) XE6 XG6 (All.cn 11 26 35 7 #[.bool false, .slice none 0 0, .bool false, .slice none 0 0] (ffC (addV ((1 : Int) : Rat) (-qT))) XL6) (fun Q => ⟨sC1 44 (rK (Value.int IntKind.i64 1)) (fun K h0 => k_lwhole 1 (by first | omega | assumption)) Tryz.func22, sLb 45 (rO 5) 2 aggF (ff_str _), sC2 46 (rS 44 0) (rS 45 1) (fun K h0 h1 => k_fsub h0 h1) Tryz.func30, sMv 43 (rS 46 2), sEx 47 (rS 43 3) ex10, sEx 48 (rS 43 3) ex11, sAl 11 26 (zeroF _), sStn 11 26 6 0 (rS 47 4) aggF (ff_str _), sMv 12 (rS 48 5), trivial⟩) ?_
 intro bX fX w7 c7 a7 XG7 yx yA yB yV yO yF; obtain ⟨g11_7, e11⟩ := kp (yV 11 rfl) rfl; have XE7 := XE6.up yF yO (ck e11 kn); have XL7 := (All.cb (yA.nb 0 rfl e11 (yB 7 (by decide))) (yA.pk yB rfl [1, 3])); have XN7 := XN6.trans yx rfl; clear yx yA yB yV yO yF; show Code.wp _ _ _ _ _; refine wp_seq ?_; refine region_st [[], [0], [1], [2], [2], [], [3, 5], [4]] [13, 14, 49, 50, 51, 52, 53] [27] (tyvC [(13, PT), (14, (iE (powE (addV ((1 : Int) : Rat) (-qT)) 3))), (49, (TyC.tup1 (ffC (powV (addV ((1 : Int) : Rat) (-qT)) 3)) (Value.int .i64 (powE (addV ((1 : Int) : Rat) (-qT)) 3)))), (50, (ffC (addV ((1 : Int) : Rat) (-qT)))), (51, (TyC.tup1 (ffC (powV (addV ((1 : Int) : Rat) (-qT)) 3)) (Value.int .i64 (powE (addV ((1 : Int) : Rat) (-qT)) 3)))), (52, (ffC (powV (addV ((1 : Int) : Rat) (-qT)) 3))), (53, (iE (powE (addV ((1 : Int) : Rat) (-qT)) 3)))]) XE7 XG7 (All.cn 13 27 35 6 #[.bool false, .slice none 0 0, .bool false, .slice none 0 0] (ffC (powV (addV ((1 : Int) : Rat) (-qT)) 3)) XL7) (fun Q => ⟨sLb 50 (rO 11) 1 aggF (ff_str _), sC2 51 (rS 50 0) (rK (Value.int IntKind.i64 3)) (fun K h0 h1 => k_fpow (n := 3) (by first | omega | assumption) h0) Tryz.func39, sMv 49 (rS 51 1), sEx 52 (rS 49 2) ex10, sEx 53 (rS 49 2) ex11, sAl 13 27 (zeroF _), sStn 13 27 5 0 (rS 52 3) aggF (ff_str _), sMv 14 (rS 53 4), trivial⟩) ?_; intro bX fX w8 c8 a8 XG8 yx yA yB yV yO yF; obtain ⟨g13_8, e13⟩ := kp (yV 13 rfl) rfl; have XE8 := XE7.up yF yO (ck e13 (ck (kv (yV 14 rfl) rfl) kn)); have XL8 := (All.cb (yA.nb 0 rfl e13 (yB 6 (by decide))) (yA.pk yB rfl [2, 3])); have XN8 := XN7.trans yx rfl; clear yx yA yB yV yO yF; show Code.wp _ _ _ _ _; refine wp_seq ?_; refine region_st [[], [0], [1], [1], [], [2, 4], [3]] [15, 16, 54, 55, 56, 57] [28] (tyvC [(15, PT), (16, (iE (parE [50, 47, 52]))), (54, (TyC.tup1 (ffC (parV [50, 47, 52])) (Value.int .i64 (parE [50, 47, 52])))), (55, (TyC.tup1 (ffC (parV [50, 47, 52])) (Value.int .i64 (parE [50, 47, 52])))), (56, (ffC (parV [50, 47, 52]))), (57, (iE (parE [50, 47, 52])))]) XE8 XG8 (All.cn 15 28 35 5 #[.bool false, .slice none 0 0, .bool false, .slice none 0 0] (ffC (parV [50, 47, 52])) XL8) (fun Q => ⟨sC1 55 (rK (Value.string { data := #[50, 47, 52] })) (fun K h0 => k_fparse [50, 47, 52] (by decide) (env_at henv (XN8.trans K.ext rfl) hc0)) Tryz.func44, sMv 54 (rS 55 0), sEx 56 (rS 54 1) ex10, sEx 57 (rS 54 1) ex11, sAl 15 28 (zeroF _), sStn 15 28 4 0 (rS 56 2) aggF (ff_str _), sMv 16 (rS 57 3), trivial⟩) ?_; intro bX fX w9 c9 a9 XG9 yx yA yB yV yO yF; have XE9 := XE8.up yF yO (ck (kv (yV 16 rfl) rfl) kn); have XL9 := (yA.pk yB rfl [1, 2, 3]); have XN9 := XN8.trans yx rfl; clear yx yA yB yV yO yF; show Code.wp _ _ _ _ _; refine wp_seq ?_; refine region_st [[], [0], [1], [1], [], [2, 4], [3]] [17, 18, 58, 59, 60, 61] [29] (tyvC [(17, PT), (18, (iE (parE [51, 47, 49]))), (58, (TyC.tup1 (ffC (parV [51, 47, 49])) (Value.int .i64 (parE [51, 47, 49])))), (59, (TyC.tup1 (ffC (parV [51, 47, 49])) (Value.int .i64 (parE [51, 47, 49])))), (60, (ffC (parV [51, 47, 49]))), (61, (iE (parE [51, 47, 49])))]) XE9 XG9 (All.cn 17 29 35 5 #[.bool false, .slice none 0 0, .bool false, .slice none 0 0] (ffC (parV [51, 47, 49])) XL9) (fun Q => ⟨sC1 59 (rK (Value.string { data := #[51, 47, 49] })) (fun K h0 => k_fparse [51, 47, 49] (by decide) (env_at henv (XN9.trans K.ext rfl) hc0)) Tryz.func44, sMv 58 (rS 59 0), sEx 60 (rS 58 1) ex10, sEx 61 (rS 58 1) ex11, sAl 17 29 (zeroF _), sStn 17 29 4 0 (rS 60 2) aggF (ff_str _), sMv 18 (rS 61 3), trivial⟩) ?_
 intro bX fX w10 c10 a10 XG10 yx yA yB yV yO yF; have XE10 := XE9.up yF yO (ck (kv (yV 18 rfl) rfl) kn); have XL10 := (yA.pk yB rfl [1, 2, 3]); have XN10 := XN9.trans yx rfl; clear yx yA yB yV yO yF; show Code.wp _ _ _ _ _; refine wp_seq ?_; refine region_st [[], [0], [1], [2], [2, 3], [2, 4], [5], [6], [6, 7], [6, 8], [9], [10], [10, 11], [10, 12], [13], [14], [14, 15], [14, 16], [17], [18], [18, 19], [18, 20], [21], [22], [22, 23], [22, 24], [22, 25], [26], [27], [27, 28], [27, 29], [27, 30], [31], [32], [32, 33], [32, 34], [32, 35], [36]] [0, 62, 63, 64, 65, 66, 67, 68, 69, 70, 71, 72, 73, 74, 75, 76, 77, 78, 79, 80, 81, 82, 83, 84, 85, 86, 87, 88, 89, 90, 91, 92, 93, 94, 95, 96, 97, 98] [] (tyvC [(0, (bE true)), (62, (iE (mkE (-8)))), (63, (bE true)), (64, (bE true)), (65, (iE (addE qH qT))), (66, (bE true)), (67, (bE true)), (68, (bE true)), (69, (iE (divE ((1 : Int) : Rat) ((0 : Int) : Rat)))), (70, (bE true)), (71, (bE true)), (72, (bE true)), (73, (iE (powE (addV ((1 : Int) : Rat) (-qT)) 3))), (74, (bE true)), (75, (bE true)), (76, (bE true)), (77, (iE (parE [50, 47, 52]))), (78, (bE true)), (79, (bE true)), (80, (bE true)), (81, (iE (parE [51, 47, 49]))), (82, (bE true)), (83, (bE true)), (84, (bE true)), (85, (ffC (mkV 6 (-8)))), (86, (TyC.eq (Value.string (St (ftx (mkV 6 (-8))))))), (87, (bE true)), (88, (bE true)), (89, (bE true)), (90, (ffC (addV qH qT))), (91, (TyC.eq (Value.string (St (ftx (addV qH qT)))))), (92, (bE true)), (93, (bE true)), (94, (bE true)), (95, (ffC (powV (addV ((1 : Int) : Rat) (-qT)) 3))), (96, (TyC.eq (Value.string (St (ftx (powV (addV ((1 : Int) : Rat) (-qT)) 3)))))), (97, (bE true)), (98, (bE true))]) XE10 XG10 XL10 (fun Q => ⟨sMv 62 (rO 2), sBin 63 (z := Value.int .i64 (mkE (-8))) (z' := Value.int IntKind.i64 0) (u := Value.bool true) (rS 62 0) (rK (Value.int IntKind.i64 0)) (fun h h' => ⟨h, rfl⟩) (eqg_int _ _ _ _ _ _ _ _) (run_as (run_eql _ _ _ _) (by rw [show mkE (-8) = 0 from rfl]; rfl)), sMv 64 (rS 63 1), sMv 65 (rO 8), sBin 66 (z := Value.int .i64 (addE qH qT)) (z' := Value.int IntKind.i64 0) (u := Value.bool true) (rS 65 3) (rK (Value.int IntKind.i64 0)) (fun h h' => ⟨h, rfl⟩) (eqg_int _ _ _ _ _ _ _ _) (run_as (run_eql _ _ _ _) (by rw [sum_HT.2]; rfl)), sPkt 67 (rS 64 2) (rS 66 4), sMv 68 (rS 67 5), sMv 69 (rO 10), sBin 70 (z := Value.int .i64 (divE ((1 : Int) : Rat) ((0 : Int) : Rat))) (z' := Value.int IntKind.i64 1) (u := Value.bool true) (rS 69 7) (rK (Value.int IntKind.i64 1)) (fun h h' => ⟨h, rfl⟩) (eqg_int _ _ _ _ _ _ _ _) (run_as (run_eql _ _ _ _) (by rw [show divE ((1 : Int) : Rat) ((0 : Int) : Rat) = 1 from if_pos rfl]; rfl)), sPkt 71 (rS 68 6) (rS 70 8), sMv 72 (rS 71 9), sMv 73 (rO 14), sBin 74 (z := Value.int .i64 (powE (addV ((1 : Int) : Rat) (-qT)) 3)) (z' := Value.int IntKind.i64 0) (u := Value.bool true) (rS 73 11) (rK (Value.int IntKind.i64 0)) (fun h h' => ⟨h, rfl⟩) (eqg_int _ _ _ _ _ _ _ _) (run_as (run_eql _ _ _ _) (by rw [lv_h]; rfl)), sPkt 75 (rS 72 10) (rS 74 12), sMv 76 (rS 75 13), sMv 77 (rO 16), sBin 78 (z := Value.int .i64 (parE [50, 47, 52])) (z' := Value.int IntKind.i64 2) (u := Value.bool true) (rS 77 15) (rK (Value.int IntKind.i64 2)) (fun h h' => ⟨h, rfl⟩) (eqg_int _ _ _ _ _ _ _ _) (run_as (run_eql _ _ _ _) (by rw [lv_i]; rfl)), sPkt 79 (rS 76 14) (rS 78 16), sMv 80 (rS 79 17), sMv 81 (rO 18), sBin 82 (z := Value.int .i64 (parE [51, 47, 49])) (z' := Value.int IntKind.i64 2) (u := Value.bool true) (rS 81 19) (rK (Value.int IntKind.i64 2)) (fun h h' => ⟨h, rfl⟩) (eqg_int _ _ _ _ _ _ _ _) (run_as (run_eql _ _ _ _) (by rw [lv_j]; rfl)), sPkt 83 (rS 80 18) (rS 82 20), sMv 84 (rS 83 21), sLb 85 (rO 1) 2 aggF (ff_str _), sC1 86 (rS 85 23) (fun K h0 => k_fstring h0 (env_at henv (XN10.trans K.ext rfl) hc0).1) Tryz.func45, sBin 87 (z := Value.string (St (ftx (mkV 6 (-8))))) (z' := Value.string { data := #[45, 51, 47, 52] }) (u := Value.bool true) (rS 86 24) (rK (Value.string { data := #[45, 51, 47, 52] })) (fun h h' => ⟨h, rfl⟩) (eqg_str _ _ _ _ _ _) (run_as (run_eqlS _ _ [45, 51, 47, 52]) (by rw [lv_a]; rfl)), sPkt 88 (rS 84 22) (rS 87 25), sMv 89 (rS 88 26), sLb 90 (rO 7) 1 aggF (ff_str _), sC1 91 (rS 90 28) (fun K h0 => k_fstring h0 (env_at henv (XN10.trans K.ext rfl) hc0).1) Tryz.func45, sBin 92 (z := Value.string (St (ftx (addV qH qT)))) (z' := Value.string { data := #[53, 47, 54] }) (u := Value.bool true) (rS 91 29) (rK (Value.string { data := #[53, 47, 54] })) (fun h h' => ⟨h, rfl⟩) (eqg_str _ _ _ _ _ _) (run_as (run_eqlS _ _ [53, 47, 54]) (by rw [lv_b]; rfl)), sPkt 93 (rS 89 27) (rS 92 30), sMv 94 (rS 93 31), sLb 95 (rO 13) 0 aggF (ff_str _), sC1 96 (rS 95 33) (fun K h0 => k_fstring h0 (env_at henv (XN10.trans K.ext rfl) hc0).1) Tryz.func45, sBin 97 (z := Value.string (St (ftx (powV (addV ((1 : Int) : Rat) (-qT)) 3)))) (z' := Value.string { data := #[56, 47, 50, 55] }) (u := Value.bool true) (rS 96 34) (rK (Value.string { data := #[56, 47, 50, 55] })) (fun h h' => ⟨h, rfl⟩) (eqg_str _ _ _ _ _ _) (run_as (run_eqlS _ _ [56, 47, 50, 55]) (by rw [lv_c]; rfl)), sPkt 98 (rS 94 32) (rS 97 35), sMv 0 (rS 98 36), trivial⟩) ?_
 intro bX fX w11 c11 a11 XG11 yx yA yB yV yO yF; have XE11 := XE10.up yF yO (ck (kv (yV 0 rfl) rfl) kn); have XL11 := (yA.pk yB rfl []); have XN11 := XN10.trans yx rfl; clear yx yA yB yV yO yF; show Code.wp _ _ _ _ _; refine wp_ret ?_; (repeat (first | (with_reducible refine then_ret ?_) | (with_reducible refine inBlock_ret ?_) | (with_reducible refine then_normal ?_) | (with_reducible refine inBlock_normal ?_))); show bodyPost Tryz.prog Tryz.f24 _ Exit.ret a11 w11; subst hc0; exact bodyPost_ret (res_t rfl _ (XE11.at 0 rfl)) XE11.2.1 ⟨_, rfl, rfl, XN11.new0⟩

theorem k_llives {w : World} {c : Colr} (he : Env w) : CV Tryz.prog 24 #[] w c (TyC.eq (.bool true)) := (t_llives w he).cv (plain_eq _)
end Go.Proofs.YtmghfhkdfkdgkaaGreatDoor

namespace Go.Proofs.YtmghfhkdfkdgkaaGreatDoor
set_option linter.unusedVariables false
open Go.RowKit Go.Mem Go.Dig Go.Fr Go.Col

theorem tmod41 (m : Int) : -41 < Int.tmod m 41 ∧ Int.tmod m 41 < 41 := ⟨Int.lt_tmod_of_pos m (by decide), Int.tmod_lt_of_pos m (by decide)⟩
theorem powE_zero {x : Rat} {n : Int} (h0 : 0 ≤ n) (h : powE x n = 0) : powOk x n := by
  by_cases hp : powOk x n
  · exact hp
  · rw [(pow_no h0 hp).2] at h
    omega
theorem rat_pow_add (x : Rat) (a b : Nat) : x ^ (a + b) = x ^ a * x ^ b := by
  induction b with
  | zero => rw [Nat.add_zero, Rat.pow_zero, Rat.mul_one]
  | succ b ih => rw [← Nat.add_assoc, Rat.pow_succ, ih, Rat.pow_succ, Rat.mul_assoc]
theorem rgR_in {x : Rat} (h : ft x) : rgR x = x ∧ rgRE x = 0 := ⟨if_pos h, if_pos h⟩
theorem pow_sum {x : Rat} {a b : Int} (ha : 0 ≤ a) (hb : 0 ≤ b) (h1 : powE x a = 0) (h2 : powE x b = 0) (h3 : powE x (a + b) = 0) : rgR (powV x a * powV x b) = powV x (a + b) ∧ rgRE (powV x a * powV x b) = 0 := by
  have e : powV x a * powV x b = powV x (a + b) := by
    rw [(pow_yes (powE_zero ha h1)).1, (pow_yes (powE_zero hb h2)).1, (pow_yes (powE_zero (by omega) h3)).1, show (a + b).toNat = a.toNat + b.toNat by omega, rat_pow_add]
  rw [e]
  exact rgR_in (ft_powV _ _)
theorem num_lt {a b : Int} (hb : I64 b) {M : Nat} (hM : 1265 ≤ M) : (numV a b).natAbs < 2 ^ M := by
  have h0 : (2 : Nat) ^ 64 ≤ 2 ^ M := Nat.pow_le_pow_right (by omega) (by omega)
  have h64 : ∀ {z : Int}, z.natAbs < 18446744073709551616 → z.natAbs < 2 ^ M := fun h => Nat.lt_of_lt_of_le h h0
  unfold numV
  split
  · have h1 := Int.tmod_lt_of_pos b (show (0 : Int) < 60 by decide)
    have h2 : -60 < b.tmod 60 := Int.lt_tmod_of_pos b (show (0 : Int) < 60 by decide)
    exact h64 (by omega)
  · split
    · exact h64 (by omega)
    · have hi : ((a.tdiv 7).tmod 40).toNat ≤ 40 := by have := tmod40 (a.tdiv 7); omega
      have hb3 : (b + 3).natAbs < 2 ^ 64 := show (b + 3).natAbs < 18446744073709551616 by omega
      have hm : (mM ^ ((a.tdiv 7).tmod 40).toNat).natAbs < 2 ^ (30 * ((a.tdiv 7).tmod 40).toNat + 1) := by
        rw [Int.natAbs_pow, Nat.pow_succ, Nat.pow_mul]
        have h1 : mM.natAbs ^ ((a.tdiv 7).tmod 40).toNat ≤ (2 ^ 30) ^ ((a.tdiv 7).tmod 40).toNat := Nat.pow_le_pow_left (by decide) _
        have h2 : 0 < (2 ^ 30) ^ ((a.tdiv 7).tmod 40).toNat := Nat.pow_pos (by decide)
        omega
      exact Nat.lt_of_lt_of_le (nmul_lt hb3 hm) (Nat.pow_le_pow_right (by omega) (by omega))
/-- A fraction made from numbers is of at most 1265 bits. -/
theorem fracV_Fb {xs : List Int} (h : ∀ z ∈ xs, I64 z) (i : Int) {M : Nat} (hM : 1265 ≤ M) : Fb M (fracV xs i) := by
  have hn : ∀ j k, (numV (pk xs j) (pk xs k)).natAbs < 2 ^ M := fun j k => num_lt (pk_i64 h k) hM
  have h1 : (1 : Int).natAbs < 2 ^ M := Nat.lt_of_lt_of_le (show (1 : Nat) < 2 ^ 1 by decide) (Nat.pow_le_pow_right (by omega) (by omega))
  unfold fracV mkV
  have hq : (fracQ xs i).natAbs < 2 ^ M := by
    unfold fracQ
    split
    · exact h1
    · exact hn _ _
  split
  · rename_i h0
    exfalso
    unfold fracQ at h0
    split at h0 <;> omega
  · exact Fb.mk (hn _ _) hq (by omega)
section
variable {w : World} {c : Colr} {v v' : Value} {r r' s : Rat}
theorem k_faddin (h : (ffC r).sat v w c) (h' : (ffC r').sat v' w c) (ho : addOk r r') (e : r + r' = s) : CV Tryz.prog 28 #[v, v'] w c ((ffC s).tup1 (.int .i64 0)) := by
  have := k_fadd h h'
  rwa [show addV r r' = s from (if_pos ho).trans e, show addE r r' = 0 from if_pos ho] at this
theorem k_fsubin (h : (ffC r).sat v w c) (h' : (ffC r').sat v' w c) (ho : addOk r (-r')) (e : r + -r' = s) : CV Tryz.prog 30 #[v, v'] w c ((ffC s).tup1 (.int .i64 0)) := by
  have := k_fsub h h'
  rwa [show addV r (-r') = s from (if_pos ho).trans e, show addE r (-r') = 0 from if_pos ho] at this
theorem k_fmulin (h : (ffC r).sat v w c) (h' : (ffC r').sat v' w c) (ho : ft (r * r')) (e : r * r' = s) : CV Tryz.prog 32 #[v, v'] w c ((ffC s).tup1 (.int .i64 0)) := by
  have := k_fmul h h'
  rwa [show rgR (r * r') = s from (if_pos ho).trans e, show rgRE (r * r') = 0 from if_pos ho] at this
theorem k_fdivin (h : (ffC r).sat v w c) (h' : (ffC r').sat v' w c) (h0 : r' ≠ 0) (e : s * r' = r) (hs : ft s) : CV Tryz.prog 34 #[v, v'] w c ((ffC s).tup1 (.int .i64 0)) := by
  have hq : r / r' = s := by rw [← e, Rat.div_def, Rat.mul_assoc, Rat.mul_inv_cancel _ h0, Rat.mul_one]
  have := k_fdiv h h'
  rwa [show divV r r' = s from (if_neg h0).trans (by rw [hq]; exact if_pos hs), show divE r r' = 0 from (if_neg h0).trans (by rw [hq]; exact if_pos hs)] at this
theorem k_power {n : Nat} (hn : n ≤ 16000) : CV Tryz.prog 14 #[.int .i64 n] w c (rbC ((2 ^ n : Nat) : Int)) := CV.of_CT (t_power n (by omega)) fun v w' c' h1 => ⟨h1, (fit_of (m := n + 1) (by rw [Int.natAbs_natCast, Nat.pow_succ]; have := Nat.pow_pos (n := n) (show 0 < 2 by omega); omega) (by omega)).bd⟩
theorem huge_fit {a b : Int} (hb : I64 b) : fit (numV a b * ((2 ^ 9000 : Nat) : Int)) := by
  obtain ⟨K, hK⟩ : ∃ K : Nat, K = 9000 := ⟨_, rfl⟩
  rw [← hK]
  refine fit_of (nmul_lt (num_lt hb (Nat.le_refl _)) (k := K + 1) ?_) (by omega)
  rw [Int.natAbs_natCast, Nat.pow_succ]
  have := Nat.pow_pos (n := K) (show 0 < 2 by omega)
  omega
end
end Go.Proofs.YtmghfhkdfkdgkaaGreatDoor

namespace Go
section
variable {H : Type} {enc : TypeId × Value → H}
theorem lift_and_shaped {a : Assume} {C : Checked} {os : Os} {f : FuncId} {fn : Func} {s : ChangeSpec} {conds : List PathCond} {apart fresh handsOn again : Bool} {X : World → Array Value → Prop}
    (hX : ∀ (w w' : World) (args : Array Value), w.heap = w'.heap → X w args → X w' args)
    (own : ownKnob C.prog.godebug = none) (started : os.Started) (noInit : C.prog.inits.idxOf? f = none) (hfn : C.prog.funcs[f]? = some fn)
    (witness : ∃ (w : World) (tape : Tape) (i : Input), w.os = os ∧ (w.forCall tape i).Shaped C.prog ∧ i.vars = [] ∧ Input.okWide C.prog (w.forCall tape i) .any w.heap.size f i ∧
      ((s.pre enc C.prog fn conds apart (w.forCall tape i).memory i.args ∧ X (w.forCall tape i).memory i.args) ∧ sizedMet enc C.prog fn (OpenSpec.ofChange s) apart (w.forCall tape i).memory i.args) ∧ a.holds C.prog (lone (Frame.enter C.prog f i.args .normal) [] (w.forCall tape i)))
    (contract : ∀ (W : World) (base : Nat) (args : Array Value) (ds gs : List (DataW H)) (before : List MemPlace), W.ShapedOpen C.prog →
      (∀ (j : Nat) t v, fn.params[j]? = some t → args[j]? = some v → Value.okWide C.prog W .any base t v) →
      DataW.Whole enc C.prog fn.params.toList s.vars apart W args.toList ds gs before →
      conds.all (PathCond.test C.prog ⟨fn.params.toList, ds, s.plain.varTypes C.prog, gs⟩) = true →
      (DataW.weightsEach C.prog (fn.params.toList ++ s.plain.varTypes C.prog) (ds ++ gs)).all (· ≤ reachBytes) = true → X W args →
      a.holds C.prog (lone (Frame.enter C.prog f args .normal) [] W) →
      Calls C.prog f args W fun e W' => ∃ v, e = .returned v ∧ s.post enc C.prog fn apart fresh handsOn again W args v W') :
    ReturnsInHanded a C os f .any (fun w args => (s.pre enc C.prog fn conds apart w args ∧ X w args) ∧ sizedMet enc C.prog fn (OpenSpec.ofChange s) apart w args) (s.post enc C.prog fn apart fresh handsOn again) := by
  refine returnsInHanded_of_calls own started noInit witness ?_
  intro w tape i _ hsh _ hok hpre hholds
  obtain ⟨_, _, _, fn', hfn', _, _, _, _, hval⟩ := hok
  have e : fn' = fn := Option.some.inj (hfn'.symm.trans hfn)
  subst e
  obtain ⟨⟨⟨ds, gs, before, hw, hc⟩, hx⟩, hz⟩ := hpre
  have hw' := DataW.Whole.of_heap (w' := w.forCall tape i) (by rfl) hw
  refine (contract (w.forCall tape i) w.heap.size i.args ds gs before hsh hval hw' hc (hz.weights hw) (hX _ _ _ (by rfl) hx) hholds).mono fun e W' ⟨v, he, hp⟩ => ?_
  subst he
  exact ChangeSpec.post_blind hp
end
end Go

namespace Go.Mem
open Go.RowKit

theorem row_rd {k : IntKind} {w : World} {a : Option Addr} {len cap : Nat} {zs : List Int}
    (h : (a = none ∧ len = 0 ∧ cap = 0 ∧ zs = []) ∨ ∃ x, a = some x ∧ len ≤ cap ∧ cap ≤ maxLen ∧ zs.length = cap ∧ (∀ i, i < zs.length → w.cell? (x.add i) = some (.int k (zs.getD i 0))) ∧ ∀ n ∈ zs, (Lit.int k n).wf = true) :
    Rd w a len ((zs.take len).map (Value.int k)) ∧ len ≤ cap ∧ cap ≤ maxLen ∧ ∀ n ∈ zs.take len, (Lit.int k n).wf = true := by
  rcases h with ⟨rfl, rfl, rfl, rfl⟩ | ⟨x, rfl, h1, h2, h3, h4, h5⟩
  · exact ⟨Rd.nil _ _, Nat.le_refl _, Nat.zero_le _, by simp⟩
  · refine ⟨⟨by simp; omega, fun hn => ⟨x, rfl, fun j u hu => ?_⟩⟩, h1, h2, fun n hn => h5 n (List.mem_of_mem_take hn)⟩
    rw [List.getElem?_map, List.getElem?_take] at hu
    split at hu
    · rename_i hj
      have hj' : j < zs.length := by omega
      rw [h4 j hj']
      rw [List.getElem?_eq_getElem hj'] at hu
      simp at hu
      subst hu
      simp [List.getD, List.getElem?_eq_getElem hj']
    · cases hu
theorem row_ints {w : World} {a : Option Addr} {len cap : Nat} {zs : List Int}
    (h : (a = none ∧ len = 0 ∧ cap = 0 ∧ zs = []) ∨ ∃ x, a = some x ∧ len ≤ cap ∧ cap ≤ maxLen ∧ zs.length = cap ∧ (∀ i, i < zs.length → w.cell? (x.add i) = some (.int .i64 (zs.getD i 0))) ∧ ∀ n ∈ zs, (Lit.int .i64 n).wf = true) :
    ∃ l : List Int, Rd w a len (is l) ∧ len ≤ cap ∧ cap ≤ maxLen ∧ ∀ z ∈ l, -9223372036854775808 ≤ z ∧ z ≤ 9223372036854775807 := by
  obtain ⟨h1, h2, h3, h4⟩ := row_rd h
  refine ⟨zs.take len, h1, h2, h3, fun z hz => ?_⟩
  have := h4 z hz
  simp [Lit.wf, IntKind.min, IntKind.max, IntKind.signed, IntKind.bits] at this
  omega
theorem int_fits {a : Int} (h : (Lit.int .i64 a).wf = true) : -9223372036854775808 ≤ a ∧ a ≤ 9223372036854775807 := by
  simp [Lit.wf, IntKind.min, IntKind.max, IntKind.signed, IntKind.bits] at h
  omega
end Go.Mem
