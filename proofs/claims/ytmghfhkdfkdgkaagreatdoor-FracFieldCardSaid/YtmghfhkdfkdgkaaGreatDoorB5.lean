/- The parts Rf5, ShelfB, FrQ, Rf6, FrL, Rl1, FrZ, Lift, Args of the proof, in one text. -/
import Derived.Shelf.Strings.Builder1
import Derived.Shelf.Strings.Builder2
import Derived.Shelf.Small.Bits
import Derived.Shelf.Small.Wraps
import Derived.Shelf.Strings.BuilderF
import Derived.Shelf.Strconv.Atoi
import Derived.Shelf.Strconv.Itoa0
import Derived.Shelf.Strconv.Itoa1
import Derived.Shelf.LaysM
import Derived.Shelf.Strconv.Itoa2
import Derived.Shelf.Strconv.Itoa3
import Derived.Shelf.Strings.Search1
import Derived.Shelf.Strings.Search2
import Derived.Shelf.Strings.Cut
import Derived.Shelf.Strings.Shaped
import Derived.Shelf.Strings.Prefix
import Derived.Shelf.Bits.Mul64
import Derived.Shelf.Strings.Repeat
import Derived.Test.YtmghfhkdfkdgkaaGreatDoorProg
import Derived.Handed
import Derived.Test.YtmghfhkdfkdgkaaGreatDoorB4
set_option linter.unusedSimpArgs false
set_option linter.unusedVariables false

namespace Go.Proofs.YtmghfhkdfkdgkaaGreatDoor
set_option linter.unusedVariables false
open Go.RowKit Go.Mem Go.Dig Go.Fr Go.Col

theorem pow_out {x : Rat} {n m : Int} {k : Nat} (hk : 1 ≤ k) (h : k ≤ m.toNat) (h0 : 0 ≤ m) (hn : 0 ≤ n) (hx : x ^ m.toNat = x ^ n.toNat) (h2 : unitB x = false → m = n) (hf : ¬ ft (x ^ k)) : ¬ powOk x n := by
  cases hu : unitB x with
  | true => exact fun _ => hf (unit_fit hu k)
  | false => exact powOk_no hu hk (by have := h2 hu; omega) hf
set_option maxRecDepth 100000 in
set_option maxHeartbeats 4000000 in
theorem t_fpow (w : World) (v : Value) (x : Rat) (n : Int) (hn : I64 n) (h : (ffC x).sat v w (fun _ => 0)) : CT0 Tryz.prog 39 #[v, Value.int .i64 n] w (TyC.tup1 (ffC (powV x n)) (Value.int .i64 (powE x n))) := by
 refine enter_st Tryz.func39 rfl Tryz.ntmps39 [(0, v), (1, Value.int .i64 n)] rfl ⟨rfl, rfl, trivial⟩ (Nat.le_of_ble_eq_true rfl) ?_; intro a0 XE0; obtain ⟨c0, hc0⟩ : ∃ c0 : Colr, c0 = fun _ => 0 := ⟨_, rfl⟩; have XG0 : GI w c0 := hc0 ▸ GI.zero w; have XN0 : Ext [21, 22, 23, 24] w c0 w c0 := Ext.refl rfl XG0; have XL0 : All [.s (Fact.val (ffC (x)) v)] b0 f0 w c0 := ⟨(hc0 ▸ h), trivial⟩; refine wp_seq ?_; refine region_st [[], [], []] [2, 4, 5] [21, 22] (tyvC [(2, PT), (4, PT), (5, (iE 0))]) XE0 XG0 (All.cn 2 21 35 0 #[] (ffC (x)) (All.cn 4 22 35 1 #[] (ffC (0)) XL0)) (fun Q => ⟨sBox 2 21 (rO 0) (fun K h0 => bxs (ff_str _) (K.fac.val 2 rfl)), sAlz 4 22 (zeroF _) (ff_zero), sMv 5 (rK (Value.int IntKind.i64 0)), trivial⟩) ?_; intro bX fX w1 c1 a1 XG1 yx yA yB yV yO yF; obtain ⟨g2_1, e2⟩ := kp (yV 2 rfl) rfl; obtain ⟨g4_1, e4⟩ := kp (yV 4 rfl) rfl; have XE1 := XE0.up yF yO (ck e2 (ck e4 (ck (kv (yV 5 rfl) rfl) kn))); have XL1 := (All.cb (yA.nb 0 rfl e2 (yB 0 (by decide))) (All.cb (yA.nb 1 rfl e4 (yB 1 (by decide))) (yA.pk yB rfl []))); have XN1 := XN0.trans yx rfl; clear yx yA yB yV yO yF; show Code.wp _ _ _ _ _; refine wp_seq ?_; refine wp_seq ?_; by_cases h0 : n < 0
 · rw [(pow_neg' h0).1, (pow_neg' h0).2]
   refine region_st [[], [0]] [11, 12] [] (tyvC [(11, (iE n)), (12, (bE true))]) XE1 XG1 XL1 (fun Q => ⟨sMv 11 (rO 1), sBin 12 (z := Value.int .i64 n) (z' := Value.int IntKind.i64 0) (u := Value.bool true) (rS 11 0) (rK (Value.int IntKind.i64 0)) (fun h h' => ⟨h, rfl⟩) (eqg_int _ _ _ _ _ _ _ _) (run_as (run_lss _ _ _ _) (by simp [h0])), trivial⟩) ?_; intro bX fX w2 c2 a2 XG2 yx yA yB yV yO yF; have XE2 := XE1.up yF yO (ck (kv (yV 12 rfl) rfl) kn); have XL2 := (yA.pk yB rfl [0, 1]); have XN2 := XN1.trans yx rfl; clear yx yA yB yV yO yF; show Code.wp _ _ _ _ _; refine wp_cond (t := true) (XE2.at 12 rfl) ?_; refine wp_seq ?_; refine region_st [[], [0], []] [5, 13] [22] (tyvC [(5, (iE 1)), (13, (ffC (0)))]) XE2 XG2 (All.stg 1 1 (Fact.box g4_1 35 22 (ffC (0))) XL2) (fun Q => ⟨sB0 13  (fun K => b_ff0), sSto 22 (rO 4) (rS 13 0) aggF (ff_str _) (fun K => BoxC.old (K.fac.sb0 1 rfl K.self) (ff_str _)) (fun K h0 => h0), sMv 5 (rK (Value.int IntKind.i64 1)), trivial⟩) ?_; intro bX fX w3 c3 a3 XG3 yx yA yB yV yO yF; have XE3 := XE2.up yF yO (ck (kv (yV 5 rfl) rfl) kn); have XL3 := (yA.pk yB rfl [0, 1]); have XN3 := XN2.trans yx rfl; clear yx yA yB yV yO yF; show Code.wp _ _ _ _ _; refine wp_ret ?_; (repeat (first | (with_reducible refine then_ret ?_) | (with_reducible refine inBlock_ret ?_) | (with_reducible refine then_normal ?_) | (with_reducible refine inBlock_normal ?_))); show bodyPost Tryz.prog Tryz.f39 _ Exit.ret a3 w3; obtain ⟨r0, hr0, hs0⟩ := BoxC.load (All.box XL3 1 rfl) aggF (ff_str _); subst hc0; exact bodyPost_ret (res_ct rfl _ (XE3.at 4 rfl) hr0 (XE3.at 5 rfl)) XE3.2.1 ⟨_, rfl, ⟨_, rfl, hs0⟩, XN3.new0⟩
 · skip
   refine region_st [[], [0]] [11, 12] [] (tyvC [(11, (iE n)), (12, (bE false))]) XE1 XG1 XL1 (fun Q => ⟨sMv 11 (rO 1), sBin 12 (z := Value.int .i64 n) (z' := Value.int IntKind.i64 0) (u := Value.bool false) (rS 11 0) (rK (Value.int IntKind.i64 0)) (fun h h' => ⟨h, rfl⟩) (eqg_int _ _ _ _ _ _ _ _) (run_as (run_lss _ _ _ _) (by simp; omega)), trivial⟩) ?_; intro bX fX w4 c4 a4 XG4 yx yA yB yV yO yF; have XE4 := XE1.up yF yO (ck (kv (yV 12 rfl) rfl) kn); have XL4 := (yA.pk yB rfl [0, 1]); have XN4 := XN1.trans yx rfl; clear yx yA yB yV yO yF; show Code.wp _ _ _ _ _; refine wp_cond (t := false) (XE4.at 12 rfl) ?_; refine wp_skip ?_; show Code.wp _ _ _ _ _; refine wp_join (M := fun aZ wZ => ∃ (cZ : Colr) (m : Int), Ev 77 aZ (mof [(2, Value.pointer (some ⟨g2_1, 0, none⟩)), (4, Value.pointer (some ⟨g4_1, 0, none⟩)), (5, Value.int IntKind.i64 0), (1, Value.int .i64 m)]) ∧ GI wZ cZ ∧ Ext [21, 22, 23, 24] w c0 wZ cZ ∧ All [.s (Fact.box g2_1 35 21 (ffC (x))), .s (Fact.box g4_1 35 22 (ffC (0)))] b0 f0 wZ cZ ∧ (I64 m) ∧ (0 ≤ m) ∧ (x ^ m.toNat = x ^ n.toNat) ∧ ((unitB x = true → m ≤ 16384)) ∧ ((unitB x = false → m = n))) ?_ ?_
   · skip
     refine wp_seq ?_; refine region_st [[], [0], [1], [2], [3], [3], [4], [5]] [6, 7, 14, 15, 16, 17, 18, 19] [] (tyvC [(6, (iE (intIf ((x).num)))), (7, (TyC.eq (Value.bool (isInt ((x).num))))), (14, (TyC.eq (Value.tuple #[Value.int .i64 (intIf ((x).num)), Value.bool (isInt ((x).num))]))), (15, (pE g2_1 0)), (16, (wfC ((x).num))), (17, (TyC.eq (Value.tuple #[Value.int .i64 (intIf ((x).num)), Value.bool (isInt ((x).num))]))), (18, (iE (intIf ((x).num)))), (19, (TyC.eq (Value.bool (isInt ((x).num)))))]) XE4 XG4 XL4 (fun Q => ⟨sFa 15 (rO 2) (fld_f0 _), sLf 16 (rS 15 0) (fun K => lf_num (K.fac.box 0 rfl)), sC1 17 (rS 16 1) (fun K h0 => k_wsmall h0) Tryz.func74, sMv 14 (rS 17 2), sEx 18 (rS 14 3) (exe rfl), sEx 19 (rS 14 3) (exe rfl), sMv 6 (rS 18 4), sMv 7 (rS 19 5), trivial⟩) ?_; intro bX fX w5 c5 a5 XG5 yx yA yB yV yO yF; have XE5 := XE4.up yF yO (ck (kv (yV 6 rfl) rfl) (ck (kv (yV 7 rfl) rfl) kn)); have XL5 := (yA.pk yB rfl [0, 1]); have XN5 := XN4.trans yx rfl; clear yx yA yB yV yO yF; show Code.wp _ _ _ _ _; refine wp_seq ?_; cases h1 : isInt (x).num
     · have hu := unit_no1 h1
       have hR1 := XE5.re 7 rfl (by rw [h1] : Value.bool (isInt ((x).num)) = Value.bool false); refine region_st [[], [0], [1], [1], [1], [4], [5], [5], [5], [8], [9], [9], [9], [9], [9], [9]] [20, 21, 22, 23, 24, 25, 26, 27, 28, 29, 30, 31, 32, 33, 34, 35] [] (tyvC [(20, (bE false)), (21, (bE false)), (22, uE), (23, uE), (24, (bE false)), (25, (bE false)), (26, uE), (27, uE), (28, (bE false)), (29, (bE false)), (30, uE), (31, uE), (32, uE), (33, uE), (34, uE), (35, (bE false))]) hR1 XG5 XL5 (fun Q => ⟨sMv 20 (rO 7), sMv 21 (rS 20 0), sNo 22, sNo 23, sPkf 24 (rS 21 1) (rK (Value.bool false)), sMv 25 (rS 24 4), sNo 26, sNo 27, sPkf 28 (rS 25 5) (rK (Value.bool false)), sMv 29 (rS 28 8), sNo 30, sNo 31, sNo 32, sNo 33, sNo 34, sPkf 35 (rS 29 9) (rK (Value.bool false)), trivial⟩) ?_; intro bX fX w6 c6 a6 XG6 yx yA yB yV yO yF; have XE6 := hR1.up yF yO (ck (kv (yV 35 rfl) rfl) kn); have XL6 := (yA.pk yB rfl [0, 1]); have XN6 := XN5.trans yx rfl; clear yx yA yB yV yO yF; show Code.wp _ _ _ _ _; refine wp_cond (t := false) (XE6.at 35 rfl) ?_; refine wp_skip ?_; (repeat (first | (with_reducible refine inBlock_normal ?_) | (with_reducible refine then_normal ?_))); exact ⟨c6, n, (Ev.sub XE6 _ ⟨rfl, rfl, rfl, rfl, trivial⟩), XG6, XN6, ⟨(All.box XL6 0 rfl), (All.box XL6 1 rfl), trivial⟩, hn, by omega, rfl, (fun h => by rw [hu] at h; cases h), (fun _ => rfl)⟩
     · have hi1 : intIf (x).num = (x).num := by simp [intIf, h1]
       have hR2 := XE5.re 7 rfl (by rw [h1] : Value.bool (isInt ((x).num)) = Value.bool true); by_cases hb_ : -1 ≤ x.num
       · by_cases hc_ : x.num ≤ 1
         · by_cases ha_ : dn x = 1
           · have hu : unitB x = true := decide_eq_true ⟨ha_, hb_, hc_⟩
             refine region_st [[], [0], [1], [1, 2], [1, 3], [4], [5], [5, 6], [5, 7], [8], [9], [9, 10], [9], [9, 11, 12], [9, 13], [9, 14]] [20, 21, 22, 23, 24, 25, 26, 27, 28, 29, 30, 31, 32, 33, 34, 35] [] (tyvC [(20, (bE true)), (21, (bE true)), (22, (iE (intIf ((x).num)))), (23, (bE true)), (24, (bE true)), (25, (bE true)), (26, (iE (intIf ((x).num)))), (27, (bE true)), (28, (bE true)), (29, (bE true)), (30, (ffC (x))), (31, (wfC (dn x))), (32, (wfC (1))), (33, (iE (cmpI (dn x) 1))), (34, (bE true)), (35, (bE true))]) hR2 XG5 XL5 (fun Q => ⟨sMv 20 (rO 7), sMv 21 (rS 20 0), sMv 22 (rO 6), sBin 23 (z := Value.int .i64 (intIf ((x).num))) (z' := Value.int IntKind.i64 (-1)) (u := Value.bool true) (rS 22 2) (rK (Value.int IntKind.i64 (-1))) (fun h h' => ⟨h, rfl⟩) (eqg_int _ _ _ _ _ _ _ _) (run_as (run_geq _ _ _ _) (by rw [hi1]; simp; omega)), sPkt 24 (rS 21 1) (rS 23 3), sMv 25 (rS 24 4), sMv 26 (rO 6), sBin 27 (z := Value.int .i64 (intIf ((x).num))) (z' := Value.int IntKind.i64 1) (u := Value.bool true) (rS 26 6) (rK (Value.int IntKind.i64 1)) (fun h h' => ⟨h, rfl⟩) (eqg_int _ _ _ _ _ _ _ _) (run_as (run_leq _ _ _ _) (by rw [hi1]; simp; omega)), sPkt 28 (rS 25 5) (rS 27 7), sMv 29 (rS 28 8), sLb 30 (rO 2) 0 aggF (ff_str _), sC1 31 (rS 30 10) (fun K h0 => k_den h0) Tryz.func52, sC1 32 (rK (Value.int IntKind.i64 1)) (fun K h0 => k_from (1) (by first | omega | assumption)) Tryz.func38, sC2 33 (rS 31 11) (rS 32 12) (fun K h0 h1 => k_wcompare h0 h1) Tryz.func75, sBin 34 (z := Value.int .i64 (cmpI (dn x) 1)) (z' := Value.int IntKind.i64 0) (u := Value.bool true) (rS 33 13) (rK (Value.int IntKind.i64 0)) (fun h h' => ⟨h, rfl⟩) (eqg_int _ _ _ _ _ _ _ _) (run_as (run_eql _ _ _ _) (by rw [cmpI_eq ha_]; rfl)), sPkt 35 (rS 29 9) (rS 34 14), trivial⟩) ?_; intro bX fX w7 c7 a7 XG7 yx yA yB yV yO yF; have XE7 := hR2.up yF yO (ck (kv (yV 35 rfl) rfl) kn); have XL7 := (yA.pk yB rfl [0, 1]); have XN7 := XN5.trans yx rfl; clear yx yA yB yV yO yF; show Code.wp _ _ _ _ _; refine wp_cond (t := true) (XE7.at 35 rfl) ?_; refine wp_seq ?_; by_cases h3 : 2 < n
             · skip
               refine region_st [[], [0]] [36, 37] [] (tyvC [(36, (iE n)), (37, (bE true))]) XE7 XG7 XL7 (fun Q => ⟨sMv 36 (rO 1), sBin 37 (z := Value.int .i64 n) (z' := Value.int IntKind.i64 2) (u := Value.bool true) (rS 36 0) (rK (Value.int IntKind.i64 2)) (fun h h' => ⟨h, rfl⟩) (eqg_int _ _ _ _ _ _ _ _) (run_as (run_gtr _ _ _ _) (by simp [h3])), trivial⟩) ?_; intro bX fX w8 c8 a8 XG8 yx yA yB yV yO yF; have XE8 := XE7.up yF yO (ck (kv (yV 37 rfl) rfl) kn); have XL8 := (yA.pk yB rfl [0, 1]); have XN8 := XN7.trans yx rfl; clear yx yA yB yV yO yF; show Code.wp _ _ _ _ _; refine wp_cond (t := true) (XE8.at 37 rfl) ?_; have htm : n.tmod 2 = n % 2 := Int.tmod_eq_emod_of_nonneg (by omega); refine region_st [[], [0], [1], [0, 2]] [1, 38, 39, 40] [] (tyvC [(1, (iE (2 - n % 2))), (38, (iE n)), (39, (iE (Int.tmod n 2))), (40, (iE (2 - n % 2)))]) XE8 XG8 XL8 (fun Q => ⟨sMv 38 (rP 1 3), sBin 39 (z := Value.int .i64 n) (z' := Value.int IntKind.i64 2) (u := Value.int .i64 (Int.tmod n 2)) (rS 38 0) (rK (Value.int IntKind.i64 2)) (fun h h' => ⟨h, rfl⟩) (eqg_int _ _ _ _ _ _ _ _) (run_rem_i _ _ _ (by decide)), sBin 40 (z := Value.int IntKind.i64 2) (z' := Value.int .i64 (Int.tmod n 2)) (u := Value.int .i64 (2 - n % 2)) (rK (Value.int IntKind.i64 2)) (rS 39 1) (fun h h' => ⟨rfl, h'⟩) (eqg_int _ _ _ _ _ _ _ _) (run_as (run_sub' _ _ _) (by rw [htm, IntWalk.i64_in _ (by omega)])), sMv 1 (rS 40 2), trivial⟩) ?_; intro bX fX w9 c9 a9 XG9 yx yA yB yV yO yF; have XE9 := XE8.up yF yO (ck (kv (yV 1 rfl) rfl) kn); have XL9 := (yA.pk yB rfl [0, 1]); have XN9 := XN8.trans yx rfl; clear yx yA yB yV yO yF; (repeat (first | (with_reducible refine inBlock_normal ?_) | (with_reducible refine then_normal ?_))); exact ⟨c9, 2 - n % 2, (Ev.sub XE9 _ ⟨rfl, rfl, rfl, rfl, trivial⟩), XG9, XN9, ⟨(All.box XL9 0 rfl), (All.box XL9 1 rfl), trivial⟩, ⟨by omega, by omega⟩, by omega, unit_pow_eq hu (by omega) (by omega) (by omega), (fun _ => by omega), (fun h => by rw [hu] at h; cases h)⟩
             · skip
               refine region_st [[], [0]] [36, 37] [] (tyvC [(36, (iE n)), (37, (bE false))]) XE7 XG7 XL7 (fun Q => ⟨sMv 36 (rO 1), sBin 37 (z := Value.int .i64 n) (z' := Value.int IntKind.i64 2) (u := Value.bool false) (rS 36 0) (rK (Value.int IntKind.i64 2)) (fun h h' => ⟨h, rfl⟩) (eqg_int _ _ _ _ _ _ _ _) (run_as (run_gtr _ _ _ _) (by simp; omega)), trivial⟩) ?_; intro bX fX w10 c10 a10 XG10 yx yA yB yV yO yF; have XE10 := XE7.up yF yO (ck (kv (yV 37 rfl) rfl) kn); have XL10 := (yA.pk yB rfl [0, 1]); have XN10 := XN7.trans yx rfl; clear yx yA yB yV yO yF; show Code.wp _ _ _ _ _; refine wp_cond (t := false) (XE10.at 37 rfl) ?_; refine wp_skip ?_; (repeat (first | (with_reducible refine inBlock_normal ?_) | (with_reducible refine then_normal ?_))); exact ⟨c10, n, (Ev.sub XE10 _ ⟨rfl, rfl, rfl, rfl, trivial⟩), XG10, XN10, ⟨(All.box XL10 0 rfl), (All.box XL10 1 rfl), trivial⟩, hn, by omega, rfl, (fun _ => by omega), (fun _ => rfl)⟩
           · have hu : unitB x = false := decide_eq_false (fun h => ha_ h.1)
             refine region_st [[], [0], [1], [1, 2], [1, 3], [4], [5], [5, 6], [5, 7], [8], [9], [9, 10], [9], [9, 11, 12], [9, 13], [9, 14]] [20, 21, 22, 23, 24, 25, 26, 27, 28, 29, 30, 31, 32, 33, 34, 35] [] (tyvC [(20, (bE true)), (21, (bE true)), (22, (iE (intIf ((x).num)))), (23, (bE true)), (24, (bE true)), (25, (bE true)), (26, (iE (intIf ((x).num)))), (27, (bE true)), (28, (bE true)), (29, (bE true)), (30, (ffC (x))), (31, (wfC (dn x))), (32, (wfC (1))), (33, (iE (cmpI (dn x) 1))), (34, (bE false)), (35, (bE false))]) hR2 XG5 XL5 (fun Q => ⟨sMv 20 (rO 7), sMv 21 (rS 20 0), sMv 22 (rO 6), sBin 23 (z := Value.int .i64 (intIf ((x).num))) (z' := Value.int IntKind.i64 (-1)) (u := Value.bool true) (rS 22 2) (rK (Value.int IntKind.i64 (-1))) (fun h h' => ⟨h, rfl⟩) (eqg_int _ _ _ _ _ _ _ _) (run_as (run_geq _ _ _ _) (by rw [hi1]; simp; omega)), sPkt 24 (rS 21 1) (rS 23 3), sMv 25 (rS 24 4), sMv 26 (rO 6), sBin 27 (z := Value.int .i64 (intIf ((x).num))) (z' := Value.int IntKind.i64 1) (u := Value.bool true) (rS 26 6) (rK (Value.int IntKind.i64 1)) (fun h h' => ⟨h, rfl⟩) (eqg_int _ _ _ _ _ _ _ _) (run_as (run_leq _ _ _ _) (by rw [hi1]; simp; omega)), sPkt 28 (rS 25 5) (rS 27 7), sMv 29 (rS 28 8), sLb 30 (rO 2) 0 aggF (ff_str _), sC1 31 (rS 30 10) (fun K h0 => k_den h0) Tryz.func52, sC1 32 (rK (Value.int IntKind.i64 1)) (fun K h0 => k_from (1) (by first | omega | assumption)) Tryz.func38, sC2 33 (rS 31 11) (rS 32 12) (fun K h0 h1 => k_wcompare h0 h1) Tryz.func75, sBin 34 (z := Value.int .i64 (cmpI (dn x) 1)) (z' := Value.int IntKind.i64 0) (u := Value.bool false) (rS 33 13) (rK (Value.int IntKind.i64 0)) (fun h h' => ⟨h, rfl⟩) (eqg_int _ _ _ _ _ _ _ _) (run_as (run_eql _ _ _ _) (by rw [cmp_one ha_])), sPkt 35 (rS 29 9) (rS 34 14), trivial⟩) ?_; intro bX fX w11 c11 a11 XG11 yx yA yB yV yO yF; have XE11 := hR2.up yF yO (ck (kv (yV 35 rfl) rfl) kn); have XL11 := (yA.pk yB rfl [0, 1]); have XN11 := XN5.trans yx rfl; clear yx yA yB yV yO yF; show Code.wp _ _ _ _ _; refine wp_cond (t := false) (XE11.at 35 rfl) ?_; refine wp_skip ?_; (repeat (first | (with_reducible refine inBlock_normal ?_) | (with_reducible refine then_normal ?_))); exact ⟨c11, n, (Ev.sub XE11 _ ⟨rfl, rfl, rfl, rfl, trivial⟩), XG11, XN11, ⟨(All.box XL11 0 rfl), (All.box XL11 1 rfl), trivial⟩, hn, by omega, rfl, (fun h => by rw [hu] at h; cases h), (fun _ => rfl)⟩
         · have hu : unitB x = false := decide_eq_false (fun h => hc_ h.2.2)
           refine region_st [[], [0], [1], [1, 2], [1, 3], [4], [5], [5, 6], [5, 7], [8], [9], [9], [9], [9], [9], [9]] [20, 21, 22, 23, 24, 25, 26, 27, 28, 29, 30, 31, 32, 33, 34, 35] [] (tyvC [(20, (bE true)), (21, (bE true)), (22, (iE (intIf ((x).num)))), (23, (bE true)), (24, (bE true)), (25, (bE true)), (26, (iE (intIf ((x).num)))), (27, (bE false)), (28, (bE false)), (29, (bE false)), (30, uE), (31, uE), (32, uE), (33, uE), (34, uE), (35, (bE false))]) hR2 XG5 XL5 (fun Q => ⟨sMv 20 (rO 7), sMv 21 (rS 20 0), sMv 22 (rO 6), sBin 23 (z := Value.int .i64 (intIf ((x).num))) (z' := Value.int IntKind.i64 (-1)) (u := Value.bool true) (rS 22 2) (rK (Value.int IntKind.i64 (-1))) (fun h h' => ⟨h, rfl⟩) (eqg_int _ _ _ _ _ _ _ _) (run_as (run_geq _ _ _ _) (by rw [hi1]; simp; omega)), sPkt 24 (rS 21 1) (rS 23 3), sMv 25 (rS 24 4), sMv 26 (rO 6), sBin 27 (z := Value.int .i64 (intIf ((x).num))) (z' := Value.int IntKind.i64 1) (u := Value.bool false) (rS 26 6) (rK (Value.int IntKind.i64 1)) (fun h h' => ⟨h, rfl⟩) (eqg_int _ _ _ _ _ _ _ _) (run_as (run_leq _ _ _ _) (by rw [hi1]; simp; omega)), sPkt 28 (rS 25 5) (rS 27 7), sMv 29 (rS 28 8), sNo 30, sNo 31, sNo 32, sNo 33, sNo 34, sPkf 35 (rS 29 9) (rK (Value.bool false)), trivial⟩) ?_; intro bX fX w12 c12 a12 XG12 yx yA yB yV yO yF; have XE12 := hR2.up yF yO (ck (kv (yV 35 rfl) rfl) kn); have XL12 := (yA.pk yB rfl [0, 1]); have XN12 := XN5.trans yx rfl; clear yx yA yB yV yO yF; show Code.wp _ _ _ _ _; refine wp_cond (t := false) (XE12.at 35 rfl) ?_; refine wp_skip ?_; (repeat (first | (with_reducible refine inBlock_normal ?_) | (with_reducible refine then_normal ?_))); exact ⟨c12, n, (Ev.sub XE12 _ ⟨rfl, rfl, rfl, rfl, trivial⟩), XG12, XN12, ⟨(All.box XL12 0 rfl), (All.box XL12 1 rfl), trivial⟩, hn, by omega, rfl, (fun h => by rw [hu] at h; cases h), (fun _ => rfl)⟩
       · have hu : unitB x = false := decide_eq_false (fun h => hb_ h.2.1)
         refine region_st [[], [0], [1], [1, 2], [1, 3], [4], [5], [5], [5], [8], [9], [9], [9], [9], [9], [9]] [20, 21, 22, 23, 24, 25, 26, 27, 28, 29, 30, 31, 32, 33, 34, 35] [] (tyvC [(20, (bE true)), (21, (bE true)), (22, (iE (intIf ((x).num)))), (23, (bE false)), (24, (bE false)), (25, (bE false)), (26, uE), (27, uE), (28, (bE false)), (29, (bE false)), (30, uE), (31, uE), (32, uE), (33, uE), (34, uE), (35, (bE false))]) hR2 XG5 XL5 (fun Q => ⟨sMv 20 (rO 7), sMv 21 (rS 20 0), sMv 22 (rO 6), sBin 23 (z := Value.int .i64 (intIf ((x).num))) (z' := Value.int IntKind.i64 (-1)) (u := Value.bool false) (rS 22 2) (rK (Value.int IntKind.i64 (-1))) (fun h h' => ⟨h, rfl⟩) (eqg_int _ _ _ _ _ _ _ _) (run_as (run_geq _ _ _ _) (by rw [hi1]; simp; omega)), sPkt 24 (rS 21 1) (rS 23 3), sMv 25 (rS 24 4), sNo 26, sNo 27, sPkf 28 (rS 25 5) (rK (Value.bool false)), sMv 29 (rS 28 8), sNo 30, sNo 31, sNo 32, sNo 33, sNo 34, sPkf 35 (rS 29 9) (rK (Value.bool false)), trivial⟩) ?_; intro bX fX w13 c13 a13 XG13 yx yA yB yV yO yF; have XE13 := hR2.up yF yO (ck (kv (yV 35 rfl) rfl) kn); have XL13 := (yA.pk yB rfl [0, 1]); have XN13 := XN5.trans yx rfl; clear yx yA yB yV yO yF; show Code.wp _ _ _ _ _; refine wp_cond (t := false) (XE13.at 35 rfl) ?_; refine wp_skip ?_; (repeat (first | (with_reducible refine inBlock_normal ?_) | (with_reducible refine then_normal ?_))); exact ⟨c13, n, (Ev.sub XE13 _ ⟨rfl, rfl, rfl, rfl, trivial⟩), XG13, XN13, ⟨(All.box XL13 0 rfl), (All.box XL13 1 rfl), trivial⟩, hn, by omega, rfl, (fun h => by rw [hu] at h; cases h), (fun _ => rfl)⟩
   · skip
     intro ar1 wr1; rintro ⟨cr1, m, XEr1, XGr1, XNr1, XLr1, hmi, hm0, hmx, hm1, hm2⟩; show Code.wp _ _ _ _ _; refine wp_seq ?_; refine wp_seq ?_; by_cases h2 : 16384 < m
     · have hu : unitB x = false := by cases hq : unitB x; rfl; have := hm1 hq; omega
       have hmn := hm2 hu; have hy := pow_no (x := x) (n := n) (by omega) (fun h => by rcases h.2 with h | h; rw [hu] at h; cases h; omega); rw [hy.1, hy.2]; refine region_st [[], [0]] [41, 42] [] (tyvC [(41, (iE m)), (42, (bE true))]) XEr1 XGr1 XLr1 (fun Q => ⟨sMv 41 (rO 1), sBin 42 (z := Value.int .i64 m) (z' := Value.int IntKind.i64 16384) (u := Value.bool true) (rS 41 0) (rK (Value.int IntKind.i64 16384)) (fun h h' => ⟨h, rfl⟩) (eqg_int _ _ _ _ _ _ _ _) (run_as (run_gtr _ _ _ _) (by simp [h2])), trivial⟩) ?_; intro bX fX w14 c14 a14 XG14 yx yA yB yV yO yF; have XE14 := XEr1.up yF yO (ck (kv (yV 42 rfl) rfl) kn); have XL14 := (yA.pk yB rfl [0, 1]); have XN14 := XNr1.trans yx rfl; clear yx yA yB yV yO yF; show Code.wp _ _ _ _ _; refine wp_cond (t := true) (XE14.at 42 rfl) ?_; refine wp_seq ?_; refine region_st [[], [0], []] [5, 43] [22] (tyvC [(5, (iE 4)), (43, (ffC (0)))]) XE14 XG14 (All.stg 1 1 (Fact.box g4_1 35 22 (ffC (0))) XL14) (fun Q => ⟨sB0 43  (fun K => b_ff0), sSto 22 (rO 4) (rS 43 0) aggF (ff_str _) (fun K => BoxC.old (K.fac.sb0 1 rfl K.self) (ff_str _)) (fun K h0 => h0), sMv 5 (rK (Value.int IntKind.i64 4)), trivial⟩) ?_; intro bX fX w15 c15 a15 XG15 yx yA yB yV yO yF; have XE15 := XE14.up yF yO (ck (kv (yV 5 rfl) rfl) kn); have XL15 := (yA.pk yB rfl [0, 1]); have XN15 := XN14.trans yx rfl; clear yx yA yB yV yO yF; show Code.wp _ _ _ _ _; refine wp_ret ?_; (repeat (first | (with_reducible refine then_ret ?_) | (with_reducible refine inBlock_ret ?_) | (with_reducible refine then_normal ?_) | (with_reducible refine inBlock_normal ?_))); show bodyPost Tryz.prog Tryz.f39 _ Exit.ret a15 w15; obtain ⟨r0, hr0, hs0⟩ := BoxC.load (All.box XL15 1 rfl) aggF (ff_str _); subst hc0; exact bodyPost_ret (res_ct rfl _ (XE15.at 4 rfl) hr0 (XE15.at 5 rfl)) XE15.2.1 ⟨_, rfl, ⟨_, rfl, hs0⟩, XN15.new0⟩
     · skip
       refine region_st [[], [0]] [41, 42] [] (tyvC [(41, (iE m)), (42, (bE false))]) XEr1 XGr1 XLr1 (fun Q => ⟨sMv 41 (rO 1), sBin 42 (z := Value.int .i64 m) (z' := Value.int IntKind.i64 16384) (u := Value.bool false) (rS 41 0) (rK (Value.int IntKind.i64 16384)) (fun h h' => ⟨h, rfl⟩) (eqg_int _ _ _ _ _ _ _ _) (run_as (run_gtr _ _ _ _) (by simp; omega)), trivial⟩) ?_; intro bX fX w16 c16 a16 XG16 yx yA yB yV yO yF; have XE16 := XEr1.up yF yO (ck (kv (yV 42 rfl) rfl) kn); have XL16 := (yA.pk yB rfl [0, 1]); have XN16 := XNr1.trans yx rfl; clear yx yA yB yV yO yF; show Code.wp _ _ _ _ _; refine wp_cond (t := false) (XE16.at 42 rfl) ?_; refine wp_skip ?_; show Code.wp _ _ _ _ _; refine wp_seq ?_; refine region_st [[], [], [], [], [0, 2], [1, 3]] [8, 9, 44, 45] [23, 24] (tyvC [(8, PT), (9, PT), (44, (wfC (1))), (45, (wfC (1)))]) XE16 XG16 (All.cn 8 23 33 4 #[.bool false, .slice none 0 0] (wfC (1)) (All.cn 9 24 33 5 #[.bool false, .slice none 0 0] (wfC (1)) XL16)) (fun Q => ⟨sC1 44 (rK (Value.int IntKind.i64 1)) (fun K h0 => k_from (1) (by first | omega | assumption)) Tryz.func38, sC1 45 (rK (Value.int IntKind.i64 1)) (fun K h0 => k_from (1) (by first | omega | assumption)) Tryz.func38, sAl 8 23 (zeroI _), sAl 9 24 (zeroI _), sStn 8 23 2 0 (rS 44 0) aggInt (wf_str _), sStn 9 24 3 1 (rS 45 1) aggInt (wf_str _), trivial⟩) ?_; intro bX fX w17 c17 a17 XG17 yx yA yB yV yO yF; obtain ⟨g8_17, e8⟩ := kp (yV 8 rfl) rfl; obtain ⟨g9_17, e9⟩ := kp (yV 9 rfl) rfl; have XE17 := XE16.up yF yO (ck e8 (ck e9 kn)); have XL17 := (All.cb (yA.nb 0 rfl e8 (yB 4 (by decide))) (All.cb (yA.nb 1 rfl e9 (yB 5 (by decide))) (yA.pk yB rfl [2, 3]))); have XN17 := XN16.trans yx rfl; clear yx yA yB yV yO yF; show Code.wp _ _ _ _ _; have hU3 := All.put (G := Fact.box g8_17 33 23 (wfC ((x ^ 0).num))) 0 XL17 (BoxC.up (All.box XL17 0 rfl) (fun v hv => wf_cast (show (1 : Int) = (x ^ 0).num by rw [Rat.pow_zero]; rfl) hv)); have hU4 := All.put (G := Fact.box g9_17 33 24 (wfC (dn (x ^ 0)))) 1 hU3 (BoxC.up (All.box hU3 1 rfl) (fun v hv => wf_cast (show (1 : Int) = dn (x ^ 0) by rw [Rat.pow_zero]; rfl) hv)); refine wp_seq ?_; refine wp_seq ?_; refine region_st [[], []] [46, 47] [] (tyvC [(46, (iE m)), (47, (iE 0))]) XE17 XG17 hU4 (fun Q => ⟨sMv 46 (rO 1), sMv 47 (rK (Value.int IntKind.i64 0)), trivial⟩) ?_; intro bX fX w18 c18 a18 XG18 yx yA yB yV yO yF; have XE18 := XE17.up yF yO (ck (kv (yV 46 rfl) rfl) (ck (kv (yV 47 rfl) rfl) kn)); have XL18 := (yA.pk yB rfl [0, 1, 2, 3]); have XN18 := XN17.trans yx rfl; clear yx yA yB yV yO yF; show Code.wp _ _ _ _ _; refine wp_block ?_; refine loop_ghost (fun nZ aZ wZ => ∃ (cZ : Colr) (k : Nat), Ev 77 aZ (mof [(46, Value.int .i64 m), (47, Value.int .i64 (↑k)), (8, Value.pointer (some ⟨g8_17, 0, none⟩)), (9, Value.pointer (some ⟨g9_17, 0, none⟩)), (42, Value.bool false), (2, Value.pointer (some ⟨g2_1, 0, none⟩)), (4, Value.pointer (some ⟨g4_1, 0, none⟩)), (5, Value.int IntKind.i64 0)]) ∧ GI wZ cZ ∧ Ext [21, 22, 23, 24] w c0 wZ cZ ∧ All [.s (Fact.box g8_17 33 23 (wfC ((x ^ k).num))), .s (Fact.box g9_17 33 24 (wfC (dn (x ^ k)))), .s (Fact.box g2_1 35 21 (ffC (x))), .s (Fact.box g4_1 35 22 (ffC (0)))] b0 f0 wZ cZ ∧ (k ≤ m.toNat) ∧ (m.toNat - k = nZ)) (m.toNat) ⟨c18, 0, (Ev.sub XE18 _ ⟨rfl, rfl, rfl, rfl, rfl, rfl, rfl, rfl, trivial⟩), XG18, XN18, ⟨(All.box XL18 0 rfl), (All.box XL18 1 rfl), (All.box XL18 2 rfl), (All.box XL18 3 rfl), trivial⟩, Nat.zero_le _, rfl⟩ ?_
       intro n_ ar2 wr2; rintro ⟨cr2, k, XEr2, XGr2, XNr2, XLr2, hk, hm_⟩; refine wp_seq ?_; by_cases hl : (k : Int) < m
       · skip
         refine region_st [[]] [48] [] (tyvC [(48, (bE true))]) XEr2 XGr2 XLr2 (fun Q => ⟨sBin 48 (z := Value.int .i64 (↑k)) (z' := Value.int .i64 m) (u := Value.bool true) (rO 47) (rO 46) (fun h h' => ⟨rfl, rfl⟩) (eqg_int _ _ _ _ _ _ _ _) (run_as (run_lss _ _ _ _) (by simp [hl])), trivial⟩) ?_; intro bX fX w19 c19 a19 XG19 yx yA yB yV yO yF; have XE19 := XEr2.up yF yO (ck (kv (yV 48 rfl) rfl) kn); have XL19 := (yA.pk yB rfl [0, 1, 2, 3]); have XN19 := XNr2.trans yx rfl; clear yx yA yB yV yO yF; show Code.wp _ _ _ _ _; refine wp_seq ?_; refine wp_cond (t := true) (XE19.at 48 rfl) ?_; refine wp_skip ?_; show Code.wp _ _ _ _ _; refine wp_seq ?_; refine wp_block ?_; refine wp_seq ?_; refine region_st [[]] [10] [] (tyvC [(10, (iE 0))]) XE19 XG19 XL19 (fun Q => ⟨sMv 10 (rK (Value.int IntKind.i64 0)), trivial⟩) ?_; intro bX fX w20 c20 a20 XG20 yx yA yB yV yO yF; have XE20 := XE19.up yF yO (ck (kv (yV 10 rfl) rfl) kn); have XL20 := (yA.pk yB rfl [0, 1, 2, 3]); have XN20 := XN19.trans yx rfl; clear yx yA yB yV yO yF; show Code.wp _ _ _ _ _; refine wp_seq ?_; refine wp_seq ?_; refine region_st [[], [], [1], [0, 2], [3], [4], [5], [5], [0, 6], [7]] [10, 49, 50, 51, 52, 53, 54, 55, 56] [23] (tyvC [(10, (iE (rgE (((x ^ k).num) * ((x).num))))), (49, (TyC.tup1 (wfC (rg (((x ^ k).num) * ((x).num)))) (Value.int .i64 (rgE (((x ^ k).num) * ((x).num)))))), (50, (wfC ((x ^ k).num))), (51, (pE g2_1 0)), (52, (wfC ((x).num))), (53, (litC 2 33 [(wfC ((x ^ k).num)), (wfC ((x).num))])), (54, (TyC.tup1 (wfC (rg (((x ^ k).num) * ((x).num)))) (Value.int .i64 (rgE (((x ^ k).num) * ((x).num)))))), (55, (wfC (rg (((x ^ k).num) * ((x).num))))), (56, (iE (rgE (((x ^ k).num) * ((x).num)))))]) XE20 XG20 (All.stg 0 8 (Fact.box g8_17 33 23 (wfC (rg (((x ^ k).num) * ((x).num))))) XL20) (fun Q => ⟨sLf 50 (rO 8) (fun K => BoxC.load (K.fac.sb0 0 rfl (K.nyet 8 rfl)) aggInt (wf_str _)), sFa 51 (rO 2) (fld_f0 _), sLf 52 (rS 51 1) (fun K => lf_num (K.fac.box 2 rfl)), sL2 53 (L := [(wfC ((x ^ k).num)), (wfC ((x).num))]) (rS 50 0) (rS 52 2) (fun K h0 h1 => lit_33_2 (wi_cells (h0).1) (wi_cells (h1).1) h0 h1), sC1 54 (rS 53 3) (fun K h0 => k_prod h0) Tryz.func70, sMv 49 (rS 54 4), sEx 55 (rS 49 5) ex10, sEx 56 (rS 49 5) ex11, sSto 23 (rO 8) (rS 55 6) aggInt (wf_str _) (fun K => BoxC.old (K.fac.sb0 0 rfl K.self) (wf_str _)) (fun K h0 => h0), sMv 10 (rS 56 7), trivial⟩) ?_; intro bX fX w21 c21 a21 XG21 yx yA yB yV yO yF; have XE21 := XE20.up yF yO (ck (kv (yV 10 rfl) rfl) kn); have XL21 := (yA.pk yB rfl [0, 1, 2, 3]); have XN21 := XN20.trans yx rfl; clear yx yA yB yV yO yF; show Code.wp _ _ _ _ _; refine wp_seq ?_; have hpn : ((x ^ k).num) * ((x).num) = (x ^ (k + 1)).num := succ_num x k; have hpd : (dn (x ^ k)) * (dn (x)) = dn (x ^ (k + 1)) := succ_dn x k; by_cases hf : fit (x ^ (k + 1)).num
         · have hr := rg_in (hpn ▸ hf : fit (((x ^ k).num) * ((x).num)))
           have hR5 := XE21.re 10 rfl (by rw [hr.2] : Value.int .i64 (rgE (((x ^ k).num) * ((x).num))) = Value.int .i64 0); have hU6 := All.put (G := Fact.box g8_17 33 23 (wfC ((x ^ (k + 1)).num))) 0 XL21 (BoxC.up (All.box XL21 0 rfl) (fun v hv => wf_cast (hr.1.trans hpn) hv)); refine region_st [[], [0]] [57, 58] [] (tyvC [(57, (iE 0)), (58, (bE false))]) hR5 XG21 hU6 (fun Q => ⟨sMv 57 (rO 10), sBin 58 (rS 57 0) (rK (Value.int IntKind.i64 0)) (fun h h' => ⟨h, rfl⟩) (eqg_int _ _ _ _ _ _ _ _) (run_as (run_neq _ _ _ _) rfl), trivial⟩) ?_; intro bX fX w22 c22 a22 XG22 yx yA yB yV yO yF; have XE22 := hR5.up yF yO (ck (kv (yV 58 rfl) rfl) kn); have XL22 := (yA.pk yB rfl [0, 1, 2, 3]); have XN22 := XN21.trans yx rfl; clear yx yA yB yV yO yF; show Code.wp _ _ _ _ _; refine wp_cond (t := false) (XE22.at 58 rfl) ?_; refine wp_skip ?_; show Code.wp _ _ _ _ _; refine wp_seq ?_; refine region_st [[], [], [1], [0, 2], [3], [4], [5], [5], [0, 6], [7]] [10, 61, 62, 63, 64, 65, 66, 67, 68] [24] (tyvC [(10, (iE (rgE ((dn (x ^ k)) * (dn x))))), (61, (TyC.tup1 (wfC (rg ((dn (x ^ k)) * (dn x)))) (Value.int .i64 (rgE ((dn (x ^ k)) * (dn x)))))), (62, (wfC (dn (x ^ k)))), (63, (ffC (x))), (64, (wfC (dn x))), (65, (litC 2 33 [(wfC (dn (x ^ k))), (wfC (dn x))])), (66, (TyC.tup1 (wfC (rg ((dn (x ^ k)) * (dn x)))) (Value.int .i64 (rgE ((dn (x ^ k)) * (dn x)))))), (67, (wfC (rg ((dn (x ^ k)) * (dn x))))), (68, (iE (rgE ((dn (x ^ k)) * (dn x)))))]) XE22 XG22 (All.stg 1 8 (Fact.box g9_17 33 24 (wfC (rg ((dn (x ^ k)) * (dn x))))) XL22) (fun Q => ⟨sLf 62 (rO 9) (fun K => BoxC.load (K.fac.sb0 1 rfl (K.nyet 8 rfl)) aggInt (wf_str _)), sLb 63 (rO 2) 2 aggF (ff_str _), sC1 64 (rS 63 1) (fun K h0 => k_den h0) Tryz.func52, sL2 65 (L := [(wfC (dn (x ^ k))), (wfC (dn x))]) (rS 62 0) (rS 64 2) (fun K h0 h1 => lit_33_2 (wi_cells (h0).1) (wi_cells (h1).1) h0 h1), sC1 66 (rS 65 3) (fun K h0 => k_prod h0) Tryz.func70, sMv 61 (rS 66 4), sEx 67 (rS 61 5) ex10, sEx 68 (rS 61 5) ex11, sSto 24 (rO 9) (rS 67 6) aggInt (wf_str _) (fun K => BoxC.old (K.fac.sb0 1 rfl K.self) (wf_str _)) (fun K h0 => h0), sMv 10 (rS 68 7), trivial⟩) ?_; intro bX fX w23 c23 a23 XG23 yx yA yB yV yO yF; have XE23 := XE22.up yF yO (ck (kv (yV 10 rfl) rfl) kn); have XL23 := (yA.pk yB rfl [0, 1, 2, 3]); have XN23 := XN22.trans yx rfl; clear yx yA yB yV yO yF; show Code.wp _ _ _ _ _; refine wp_seq ?_; by_cases hf' : fit (dn (x ^ (k + 1)))
           · have hr' := rg_in (hpd ▸ hf' : fit ((dn (x ^ k)) * (dn (x))))
             have hR7 := XE23.re 10 rfl (by rw [hr'.2] : Value.int .i64 (rgE ((dn (x ^ k)) * (dn x))) = Value.int .i64 0); have hU8 := All.put (G := Fact.box g9_17 33 24 (wfC (dn (x ^ (k + 1))))) 1 XL23 (BoxC.up (All.box XL23 1 rfl) (fun v hv => wf_cast (hr'.1.trans hpd) hv)); refine region_st [[], [0]] [69, 70] [] (tyvC [(69, (iE 0)), (70, (bE false))]) hR7 XG23 hU8 (fun Q => ⟨sMv 69 (rO 10), sBin 70 (rS 69 0) (rK (Value.int IntKind.i64 0)) (fun h h' => ⟨h, rfl⟩) (eqg_int _ _ _ _ _ _ _ _) (run_as (run_neq _ _ _ _) rfl), trivial⟩) ?_; intro bX fX w24 c24 a24 XG24 yx yA yB yV yO yF; have XE24 := hR7.up yF yO (ck (kv (yV 70 rfl) rfl) kn); have XL24 := (yA.pk yB rfl [0, 1, 2, 3]); have XN24 := XN23.trans yx rfl; clear yx yA yB yV yO yF; show Code.wp _ _ _ _ _; refine wp_cond (t := false) (XE24.at 70 rfl) ?_; refine wp_skip ?_; (repeat (first | (with_reducible refine inBlock_normal ?_) | (with_reducible refine then_normal ?_))); show Code.wp _ _ _ _ _; refine region_st [[], [0]] [47, 73] [] (tyvC [(47, (iE (↑(k + 1)))), (73, (iE (↑(k + 1))))]) XE24 XG24 XL24 (fun Q => ⟨sBin 73 (z := Value.int .i64 (↑k)) (z' := Value.int IntKind.i64 1) (u := Value.int .i64 (↑(k + 1))) (rP 47 1) (rK (Value.int IntKind.i64 1)) (fun h h' => ⟨rfl, rfl⟩) (eqg_int _ _ _ _ _ _ _ _) (run_as (run_add' _ _ _) (by rw [IntWalk.i64_in _ (by omega)]; rfl)), sMv 47 (rS 73 0), trivial⟩) ?_; intro bX fX w25 c25 a25 XG25 yx yA yB yV yO yF; have XE25 := XE24.up yF yO (ck (kv (yV 47 rfl) rfl) kn); have XL25 := (yA.pk yB rfl [0, 1, 2, 3]); have XN25 := XN24.trans yx rfl; clear yx yA yB yV yO yF; (repeat (first | (with_reducible refine inBlock_normal ?_) | (with_reducible refine then_normal ?_))); exact ⟨m.toNat - (k + 1), by omega, ⟨c25, k + 1, (Ev.sub XE25 _ ⟨rfl, rfl, rfl, rfl, rfl, rfl, rfl, rfl, trivial⟩), XG25, XN25, ⟨(All.box XL25 0 rfl), (All.box XL25 1 rfl), (All.box XL25 2 rfl), (All.box XL25 3 rfl), trivial⟩, by omega, rfl⟩⟩
           · have hr' := rg_out (hpd ▸ hf' : ¬ fit ((dn (x ^ k)) * (dn (x))))
             have hf := hf'; have hy : ¬ powOk x n := pow_out (k := k + 1) (m := m) (by omega) (by omega) (by omega) (by omega) hmx hm2 (fun h => hf h.2); have hz := pow_no (x := x) (n := n) (by omega) hy; rw [hz.1, hz.2]; have hR9 := XE23.re 10 rfl (by rw [hr'.2] : Value.int .i64 (rgE ((dn (x ^ k)) * (dn x))) = Value.int .i64 4); refine region_st [[], [0]] [69, 70] [] (tyvC [(69, (iE 4)), (70, (bE true))]) hR9 XG23 XL23 (fun Q => ⟨sMv 69 (rO 10), sBin 70 (rS 69 0) (rK (Value.int IntKind.i64 0)) (fun h h' => ⟨h, rfl⟩) (eqg_int _ _ _ _ _ _ _ _) (run_as (run_neq _ _ _ _) rfl), trivial⟩) ?_; intro bX fX w26 c26 a26 XG26 yx yA yB yV yO yF; have XE26 := hR9.up yF yO (ck (kv (yV 70 rfl) rfl) kn); have XL26 := (yA.pk yB rfl [0, 1, 2, 3]); have XN26 := XN23.trans yx rfl; clear yx yA yB yV yO yF; show Code.wp _ _ _ _ _; refine wp_cond (t := true) (XE26.at 70 rfl) ?_; refine wp_seq ?_; refine region_st [[], [], [0], [1]] [5, 71, 72] [22] (tyvC [(5, (iE 4)), (71, (ffC (0))), (72, (iE 4))]) XE26 XG26 (All.stg 3 2 (Fact.box g4_1 35 22 (ffC (0))) XL26) (fun Q => ⟨sB0 71  (fun K => b_ff0), sMv 72 (rO 10), sSto 22 (rO 4) (rS 71 0) aggF (ff_str _) (fun K => BoxC.old (K.fac.sb0 3 rfl K.self) (ff_str _)) (fun K h0 => h0), sMv 5 (rS 72 1), trivial⟩) ?_; intro bX fX w27 c27 a27 XG27 yx yA yB yV yO yF; have XE27 := XE26.up yF yO (ck (kv (yV 5 rfl) rfl) kn); have XL27 := (yA.pk yB rfl [0, 1, 2, 3]); have XN27 := XN26.trans yx rfl; clear yx yA yB yV yO yF; show Code.wp _ _ _ _ _; refine wp_ret ?_; (repeat (first | (with_reducible refine then_ret ?_) | (with_reducible refine inBlock_ret ?_) | (with_reducible refine then_normal ?_) | (with_reducible refine inBlock_normal ?_))); show bodyPost Tryz.prog Tryz.f39 _ Exit.ret a27 w27; obtain ⟨r0, hr0, hs0⟩ := BoxC.load (All.box XL27 3 rfl) aggF (ff_str _); subst hc0; exact bodyPost_ret (res_ct rfl _ (XE27.at 4 rfl) hr0 (XE27.at 5 rfl)) XE27.2.1 ⟨_, rfl, ⟨_, rfl, hs0⟩, XN27.new0⟩
         · have hr := rg_out (hpn ▸ hf : ¬ fit (((x ^ k).num) * ((x).num)))
           have hy : ¬ powOk x n := pow_out (k := k + 1) (m := m) (by omega) (by omega) (by omega) (by omega) hmx hm2 (fun h => hf h.1); have hz := pow_no (x := x) (n := n) (by omega) hy; rw [hz.1, hz.2]; have hR10 := XE21.re 10 rfl (by rw [hr.2] : Value.int .i64 (rgE (((x ^ k).num) * ((x).num))) = Value.int .i64 4); refine region_st [[], [0]] [57, 58] [] (tyvC [(57, (iE 4)), (58, (bE true))]) hR10 XG21 XL21 (fun Q => ⟨sMv 57 (rO 10), sBin 58 (rS 57 0) (rK (Value.int IntKind.i64 0)) (fun h h' => ⟨h, rfl⟩) (eqg_int _ _ _ _ _ _ _ _) (run_as (run_neq _ _ _ _) rfl), trivial⟩) ?_; intro bX fX w28 c28 a28 XG28 yx yA yB yV yO yF; have XE28 := hR10.up yF yO (ck (kv (yV 58 rfl) rfl) kn); have XL28 := (yA.pk yB rfl [0, 1, 2, 3]); have XN28 := XN21.trans yx rfl; clear yx yA yB yV yO yF; show Code.wp _ _ _ _ _; refine wp_cond (t := true) (XE28.at 58 rfl) ?_; refine wp_seq ?_; refine region_st [[], [], [0], [1]] [5, 59, 60] [22] (tyvC [(5, (iE 4)), (59, (ffC (0))), (60, (iE 4))]) XE28 XG28 (All.stg 3 2 (Fact.box g4_1 35 22 (ffC (0))) XL28) (fun Q => ⟨sB0 59  (fun K => b_ff0), sMv 60 (rO 10), sSto 22 (rO 4) (rS 59 0) aggF (ff_str _) (fun K => BoxC.old (K.fac.sb0 3 rfl K.self) (ff_str _)) (fun K h0 => h0), sMv 5 (rS 60 1), trivial⟩) ?_; intro bX fX w29 c29 a29 XG29 yx yA yB yV yO yF; have XE29 := XE28.up yF yO (ck (kv (yV 5 rfl) rfl) kn); have XL29 := (yA.pk yB rfl [0, 1, 2, 3]); have XN29 := XN28.trans yx rfl; clear yx yA yB yV yO yF; show Code.wp _ _ _ _ _; refine wp_ret ?_; (repeat (first | (with_reducible refine then_ret ?_) | (with_reducible refine inBlock_ret ?_) | (with_reducible refine then_normal ?_) | (with_reducible refine inBlock_normal ?_))); show bodyPost Tryz.prog Tryz.f39 _ Exit.ret a29 w29; obtain ⟨r0, hr0, hs0⟩ := BoxC.load (All.box XL29 3 rfl) aggF (ff_str _); subst hc0; exact bodyPost_ret (res_ct rfl _ (XE29.at 4 rfl) hr0 (XE29.at 5 rfl)) XE29.2.1 ⟨_, rfl, ⟨_, rfl, hs0⟩, XN29.new0⟩
       · have hk' : k = m.toNat := by omega
         have hft : ft (x ^ n.toNat) := by obtain ⟨_, uu, huu, _⟩ := (All.box XLr2 0 rfl); obtain ⟨_, vv, hvv, _⟩ := (All.box XLr2 1 rfl); rw [← hmx, ← hk']; exact ⟨huu.2, hvv.2⟩
         have hok : powOk x n := ⟨by omega, by cases hq : unitB x; exact .inr ⟨by have := hm2 hq; omega, hft⟩; exact .inl rfl⟩; have hy := pow_yes hok; rw [hy.1, hy.2, ← hmx, ← hk']; refine region_st [[]] [48] [] (tyvC [(48, (bE false))]) XEr2 XGr2 XLr2 (fun Q => ⟨sBin 48 (z := Value.int .i64 (↑k)) (z' := Value.int .i64 m) (u := Value.bool false) (rO 47) (rO 46) (fun h h' => ⟨rfl, rfl⟩) (eqg_int _ _ _ _ _ _ _ _) (run_as (run_lss _ _ _ _) (by simp; omega)), trivial⟩) ?_; intro bX fX w30 c30 a30 XG30 yx yA yB yV yO yF; have XE30 := XEr2.up yF yO (ck (kv (yV 48 rfl) rfl) kn); have XL30 := (yA.pk yB rfl [0, 1, 2, 3]); have XN30 := XNr2.trans yx rfl; clear yx yA yB yV yO yF; show Code.wp _ _ _ _ _; refine wp_seq ?_; refine wp_cond (t := false) (XE30.at 48 rfl) ?_; refine wp_exit ?_; (repeat (with_reducible refine then_exit ?_)); refine inBlock_exit ?_; show Code.wp _ _ _ _ _; refine wp_seq ?_; refine region_st [[], [], [0, 1], [2], []] [5, 74, 75, 76] [22] (tyvC [(5, (iE 0)), (74, (wfC ((x ^ k).num))), (75, (wfC (dn (x ^ k)))), (76, (ffC ((x ^ k))))]) XE30 XG30 (All.stg 3 3 (Fact.box g4_1 35 22 (ffC ((x ^ k)))) XL30) (fun Q => ⟨sLb 74 (rO 8) 0 aggInt (wf_str _), sLb 75 (rO 9) 1 aggInt (wf_str _), sB2 76 (rS 74 0) (rS 75 1) (fun K h0 h1 => b_ff (r := (x ^ k)) h0 h1), sSto 22 (rO 4) (rS 76 2) aggF (ff_str _) (fun K => BoxC.old (K.fac.sb0 3 rfl K.self) (ff_str _)) (fun K h0 => h0), sMv 5 (rK (Value.int IntKind.i64 0)), trivial⟩) ?_; intro bX fX w31 c31 a31 XG31 yx yA yB yV yO yF; have XE31 := XE30.up yF yO (ck (kv (yV 5 rfl) rfl) kn); have XL31 := (yA.pk yB rfl [3]); have XN31 := XN30.trans yx rfl; clear yx yA yB yV yO yF; show Code.wp _ _ _ _ _; refine wp_ret ?_; (repeat (first | (with_reducible refine then_ret ?_) | (with_reducible refine inBlock_ret ?_) | (with_reducible refine then_normal ?_) | (with_reducible refine inBlock_normal ?_))); show bodyPost Tryz.prog Tryz.f39 _ Exit.ret a31 w31; obtain ⟨r0, hr0, hs0⟩ := BoxC.load (All.box XL31 0 rfl) aggF (ff_str _); subst hc0; exact bodyPost_ret (res_ct rfl _ (XE31.at 4 rfl) hr0 (XE31.at 5 rfl)) XE31.2.1 ⟨_, rfl, ⟨_, rfl, hs0⟩, XN31.new0⟩

theorem k_fpow {w : World} {c : Colr} {v : Value} {x : Rat} {n : Int} (hn : I64 n) (h : (ffC x).sat v w c) : CV Tryz.prog 39 #[v, .int .i64 n] w c ((ffC (powV x n)).tup1 (.int .i64 (powE x n))) := (t_fpow w v x n hn h).cv (plain_tup1 (pl_ff _))
end Go.Proofs.YtmghfhkdfkdgkaaGreatDoor

namespace Go.Proofs
open Go.Shelf
def Tryz.lays145_ren : Go.Shelf.Ren := ⟨fun | 145 => 77 | 220 => 109 | 219 => 133 | 217 => 150 | 225 => 151 | 224 => 152 | 267 => 153 | 266 => 162 | 314 => 163 | n => n, fun | 9 => 9 | 4 => 4 | 59 => 106 | 3 => 3 | 5 => 5 | 46 => 101 | 146 => 177 | 51 => 100 | n => n, fun | 1 => 0 | n => n⟩
theorem Tryz.lays145 : Go.Proofs.Lays.n145 Tryz.prog Tryz.lays145_ren := {
  mixed := by kernel_rfl
  f145 := Tryz.func77.trans (congrArg some (by kernel_rfl))
  f217 := Tryz.func150.trans (congrArg some (by kernel_rfl))
  f219 := Tryz.func133.trans (congrArg some (by kernel_rfl))
  f220 := Tryz.func109.trans (congrArg some (by kernel_rfl))
  f224 := Tryz.func152.trans (congrArg some (by kernel_rfl))
  f225 := Tryz.func151.trans (congrArg some (by kernel_rfl))
  f266 := Tryz.func162.trans (congrArg some (by kernel_rfl))
  f267 := Tryz.func153.trans (congrArg some (by kernel_rfl))
  f314 := Tryz.func163.trans (congrArg some (by kernel_rfl))
  t3 := Tryz.underlying3
  a3 := Tryz.isAgg3
  z3 := Tryz.sizeOf3
  v3 := Tryz.zeroValue3
  t4 := Tryz.underlying4
  a4 := Tryz.isAgg4
  z4 := Tryz.sizeOf4
  v4 := Tryz.zeroValue4
  t5 := Tryz.underlying5
  a5 := Tryz.isAgg5
  z5 := Tryz.sizeOf5
  v5 := Tryz.zeroValue5
  t9 := Tryz.underlying9
  a9 := Tryz.isAgg9
  z9 := Tryz.sizeOf9
  v9 := Tryz.zeroValue9
  t46 := Tryz.underlying101
  a46 := Tryz.isAgg101
  z46 := Tryz.sizeOf101
  v46 := Tryz.zeroValue101
  t51 := Tryz.underlying100
  a51 := Tryz.isAgg100
  z51 := Tryz.sizeOf100
  v51 := Tryz.zeroValue100
  t59 := Tryz.underlying106
  a59 := Tryz.isAgg106
  z59 := Tryz.sizeOf106
  v59 := Tryz.zeroValue106
  t146 := Tryz.underlying177
  a146 := Tryz.isAgg177
  z146 := Tryz.sizeOf177
  v146 := Tryz.zeroValue177
  g1 := by kernel_rfl }
open Go.RowKit Go.Lib in
/-- strings.Cut: "Cut slices s around the first instance of sep, returning the text before and after sep. The found result reports whether sep appears in s. If sep does not appear in s, cut returns s, "", false.": IT RETURNS 'Lib.cut s sep'; the world is as it was but for the count of draws. (LAID: no walk: one application.) -/
theorem Tryz.strings_Cut (s sep : ByteArray) (m : Int) (w : World) (hs : s.size < 4294967281) (hm : w.cell? ⟨0, 0, none⟩ = some (.int .i64 m)) :
    Calls Tryz.prog 77 #[.string s, .string sep] w fun e w' => e = .returned (.tuple #[.string ⟨(Lib.cut s.data.toList sep.data.toList).1.toArray⟩, .string ⟨(Lib.cut s.data.toList sep.data.toList).2.1.toArray⟩, .bool (Lib.cut s.data.toList sep.data.toList).2.2]) ∧ ∃ n, w' = w.drewN n := Any.strings_Cut Tryz.lays145 s sep m w hs hm
end Go.Proofs

namespace Go.Mem
open Go.RowKit
section
variable {P : Program} {o : Oper} {a : Act} {w w' : World} {v : Value}
end
end Go.Mem
namespace Go.Proofs.YtmghfhkdfkdgkaaGreatDoor
set_option linter.unusedVariables false
open Go.RowKit Go.Mem Go.Dig Go.Fr Go.Col
open Go.Lib (decDigits)

/-! ### where the stroke is -/
def topL : List UInt8 → List UInt8
  | [] => []
  | b :: l => if b = 47 then [] else b :: topL l
def rstL : List UInt8 → List UInt8
  | [] => []
  | b :: l => if b = 47 then l else rstL l
def botL (l : List UInt8) : List UInt8 := if 47 ∈ l then rstL l else [49]
theorem top_none : ∀ {l : List UInt8}, 47 ∉ l → topL l = l
  | [], _ => rfl
  | b :: l, h => by
    have h1 : ¬ b = 47 := fun e => h (by simp [e])
    have h2 : 47 ∉ l := fun e => h (by simp [e])
    show (if b = 47 then [] else b :: topL l) = b :: l
    rw [if_neg h1, top_none h2]
theorem top_app : ∀ (a b : List UInt8), 47 ∉ a → topL (a ++ 47 :: b) = a ∧ rstL (a ++ 47 :: b) = b
  | [], b, _ => ⟨rfl, rfl⟩
  | c :: a, b, h => by
    have h1 : ¬ c = 47 := fun e => h (by simp [e])
    have h2 : 47 ∉ a := fun e => h (by simp [e])
    obtain ⟨q1, q2⟩ := top_app a b h2
    refine ⟨?_, ?_⟩
    · show (if c = 47 then [] else c :: topL (a ++ 47 :: b)) = c :: a
      rw [if_neg h1, q1]
    · show (if c = 47 then (a ++ 47 :: b) else rstL (a ++ 47 :: b)) = b
      rw [if_neg h1, q2]
theorem index_nonneg : ∀ l : List UInt8, (47 ∈ l → Lib.index l [47] = (topL l).length ∧ rstL l = l.drop ((topL l).length + 1) ∧ topL l = l.take (topL l).length) ∧ (47 ∉ l → Lib.index l [47] = -1)
  | [] => ⟨fun h => by simp at h, fun _ => rfl⟩
  | b :: l => by
    have hp : [47].isPrefixOf (b :: l) = (47 == b) := by simp [List.isPrefixOf]
    obtain ⟨i1, i2⟩ := index_nonneg l
    by_cases hb : b = 47
    · subst hb
      refine ⟨fun _ => ⟨?_, rfl, rfl⟩, fun h => absurd (by simp) h⟩
      unfold Lib.index
      rw [hp]
      rfl
    · have hb' : (47 == b) = false := by simp; exact fun e => hb e.symm
      have ht : topL (b :: l) = b :: topL l := if_neg hb
      have hr : rstL (b :: l) = rstL l := if_neg hb
      refine ⟨fun h => ?_, fun h => ?_⟩
      · have hm : 47 ∈ l := by
          rcases List.mem_cons.1 h with h | h
          · exact absurd h.symm hb
          · exact h
        obtain ⟨j1, j2, j3⟩ := i1 hm
        refine ⟨?_, ?_, ?_⟩
        · unfold Lib.index
          rw [hp, hb', j1, ht]
          have : ((((topL l).length : Nat) : Int) == -1) = false := by simp
          rw [this]
          simp
        · rw [hr, ht, j2]; rfl
        · rw [ht]
          show b :: topL l = b :: l.take (topL l).length
          rw [← j3]
      · have hm : 47 ∉ l := fun e => h (by simp [e])
        unfold Lib.index
        rw [hp, hb', i2 hm]
        rfl
theorem cut_st (l : List UInt8) : Lib.cut l [47] = if 47 ∈ l then (topL l, rstL l, true) else (l, [], false) := by
  obtain ⟨h1, h2⟩ := index_nonneg l
  unfold Lib.cut
  by_cases h : 47 ∈ l
  · obtain ⟨q1, q2, q3⟩ := h1 h
    rw [if_pos h, q1, if_pos (by omega)]
    simp only [Int.toNat_natCast, List.length_cons, List.length_nil, Nat.zero_add]
    rw [← q2, ← q3]
  · rw [if_neg h, h2 h, if_neg (by omega)]

/-! ### texts of fractions -/
theorem no47 (z : Int) : 47 ∉ Txt.text z := by
  have hd : ∀ u, 47 ∉ decDigits u := fun u h => by
    have := Txt.allDig_dec u 47 h
    unfold Txt.isDig at this
    exact absurd this (by decide)
  unfold Txt.text
  split
  · intro h
    rcases List.mem_cons.1 h with h | h
    · exact absurd h (by decide)
    · exact hd _ h
  · exact hd _
theorem ftx_top (x : Rat) : topL (ftx x) = Txt.text x.num ∧ botL (ftx x) = Txt.text (dn x) := by
  unfold ftx botL
  by_cases h : dn x = 1
  · rw [if_pos h, if_neg (no47 _), top_none (no47 _), h, text_one]
    exact ⟨rfl, rfl⟩
  · rw [if_neg h, if_pos (by simp)]
    exact top_app _ _ (no47 _)
theorem ftx_inj {x y : Rat} (h : ftx x = ftx y) : x = y := by
  have h1 := (ftx_top x).1
  have h2 := (ftx_top x).2
  rw [h] at h1 h2
  exact Fr.ext (Txt.text_inj (h1.symm.trans (ftx_top y).1)) (Txt.text_inj (h2.symm.trans (ftx_top y).2))
/-! ### what Parse makes of a string -/
open Classical in
noncomputable def parV (l : List UInt8) : Rat := if h : ∃ x, ft x ∧ ftx x = l then h.choose else 0
open Classical in
noncomputable def parE (l : List UInt8) : Int := if ∃ x, ft x ∧ ftx x = l then 0 else 2
theorem par_yes {l : List UInt8} {x : Rat} (hf : ft x) (h : ftx x = l) : parV l = x ∧ parE l = 0 := by
  have he : ∃ x, ft x ∧ ftx x = l := ⟨x, hf, h⟩
  refine ⟨?_, if_pos he⟩
  unfold parV
  rw [dif_pos he]
  exact ftx_inj (he.choose_spec.2.trans h.symm)
theorem par_no {l : List UInt8} (h : ∀ x, ft x → ftx x ≠ l) : parV l = 0 ∧ parE l = 2 := by
  have he : ¬ ∃ x, ft x ∧ ftx x = l := fun ⟨x, h1, h2⟩ => h x h1 h2
  exact ⟨dif_neg he, if_neg he⟩
theorem parsR_text {z Z E : Int} (hf : fit z) (h : ParsR (Txt.text z) Z E) : Z = z ∧ E = 0 := by
  rcases h with ⟨y, h1, rfl, rfl⟩ | ⟨h1, _⟩
  · have := h1.uniq (Txt.reads_text z)
    subst this
    exact rg_in hf
  · exact absurd (Txt.reads_text z) (h1 z)
theorem parsR_any (l : List UInt8) : ∃ Z E, ParsR l Z E ∧ (E = 0 ∨ ¬ E = 0) := by
  by_cases h : ∃ z, Txt.Reads l z
  · obtain ⟨z, h⟩ := h
    exact ⟨rg z, rgE z, .inl ⟨z, h, rfl, rfl⟩, Decidable.em _⟩
  · exact ⟨0, 2, .inr ⟨fun z hz => h ⟨z, hz⟩, rfl, rfl⟩, Decidable.em _⟩
section
variable {l : List UInt8} {Z E Z' E' : Int}
theorem par_bad1 (h : ParsR (topL l) Z E) (hE : ¬ E = 0) : parV l = 0 ∧ parE l = 2 := par_no fun x hf hx => by
  subst hx
  rw [(ftx_top x).1] at h
  exact hE (parsR_text hf.1 h).2
theorem par_bad2 (h : ParsR (botL l) Z E) (hE : ¬ E = 0) : parV l = 0 ∧ parE l = 2 := par_no fun x hf hx => by
  subst hx
  rw [(ftx_top x).2] at h
  exact hE (parsR_text hf.2 h).2
theorem mkV_self (x : Rat) : mkV x.num (dn x) = x ∧ mkE (dn x) = 0 := by
  have h : dn x ≠ 0 := by have := dn_pos x; omega
  exact ⟨(if_neg h).trans (mk_self x), if_neg h⟩
theorem par_bad3 (h : ParsR (topL l) Z E) (h' : ParsR (botL l) Z' E') (hb : ¬ (mkE Z' = 0 ∧ ftx (mkV Z Z') = l)) : parV l = 0 ∧ parE l = 2 := par_no fun x hf hx => by
  subst hx
  rw [(ftx_top x).1] at h
  rw [(ftx_top x).2] at h'
  obtain ⟨rfl, rfl⟩ := parsR_text hf.1 h
  obtain ⟨rfl, rfl⟩ := parsR_text hf.2 h'
  exact hb ⟨(mkV_self x).2, by rw [(mkV_self x).1]⟩
end
/-- What the walks ask of the world: a table and a variable of the library. -/
def Env (w : World) : Prop := PowTab w ∧ ∃ m, w.cell? ⟨0, 0, none⟩ = some (.int .i64 m)
theorem Env.new {w w' : World} (h : Env w) (hn : New w w') : Env w' := ⟨h.1.new hn, by
  obtain ⟨m, hm⟩ := h.2
  exact ⟨m, hn.cell hm (fun h => h)⟩⟩
theorem env_at {S : List Nat} {w w' : World} {c0 c' : Colr} (h : Env w) (e : Ext S w c0 w' c') (hc : c0 = fun _ => 0) : Env w' := by
  subst hc
  exact h.new e.new0
theorem k_cut {w : World} {c : Colr} (l : List UInt8) (hl : l.length ≤ 1000000) (he : Env w) : CV Tryz.prog 77 #[.string (St l), .string { data := #[47] }] w c (TyC.eq (.tuple #[.string (St (if 47 ∈ l then topL l else l)), .string (St (if 47 ∈ l then rstL l else [])), .bool (decide (47 ∈ l))])) := by
  obtain ⟨m, hm⟩ := he.2
  refine CV.of_new (R := fun u _ => u = .tuple #[.string (St (if 47 ∈ l then topL l else l)), .string (St (if 47 ∈ l then rstL l else [])), .bool (decide (47 ∈ l))]) ((Tryz.strings_Cut (St l) { data := #[47] } m w (by rw [St_size]; omega) hm).mono ?_) (fun v w' c' h => h)
  rintro e w' ⟨rfl, n, rfl⟩
  refine ⟨_, rfl, ?_, (Chg.refl _ w).drewN n⟩
  have h1 : (St l).data.toList = l := by simp [St]
  have h2 : ({ data := #[47] } : ByteArray).data.toList = [47] := rfl
  rw [h1, h2, cut_st]
  by_cases h : 47 ∈ l
  · simp [h, St]
  · simp [h, St]
section
variable {P : Program} {w : World}
theorem run_neqS (t : TypeId) (x y : List UInt8) : (binOp .neq t (.string (St x)) (.string (St y))).run P w = .ok (.bool (!(x == y))) w := by
  have h : ∀ l : List UInt8, (St l).toList = l := fun l => by simp [St]
  simp [binOp, Op.stringOp, go_sem, h]
end
end Go.Proofs.YtmghfhkdfkdgkaaGreatDoor

namespace Go.Proofs.YtmghfhkdfkdgkaaGreatDoor
set_option linter.unusedVariables false
open Go.RowKit Go.Mem Go.Dig Go.Fr Go.Col

theorem top_len {l : List UInt8} (hl : l.length ≤ 4000) : (St (topL l)).size ≤ 5000 ∧ (St (botL l)).size ≤ 5000 := by
  have h1 : ∀ l : List UInt8, (topL l).length ≤ l.length := fun l => by
    induction l with
    | nil => exact Nat.le_refl _
    | cons b l ih =>
      show (if b = 47 then [] else b :: topL l).length ≤ _
      split
      · exact Nat.zero_le _
      · simp; omega
  have h2 : ∀ l : List UInt8, (rstL l).length ≤ l.length := fun l => by
    induction l with
    | nil => exact Nat.le_refl _
    | cons b l ih =>
      show (if b = 47 then l else rstL l).length ≤ _
      split
      · simp
      · simp; omega
  have h3 := h1 l
  have h4 := h2 l
  rw [St_size, St_size]
  refine ⟨by omega, ?_⟩
  unfold botL
  split
  · omega
  · exact Nat.le_trans (show 1 ≤ 5000 by omega) (Nat.le_refl _)
set_option maxRecDepth 100000 in
set_option maxHeartbeats 4000000 in
theorem t_fparse (w : World) (l : List UInt8) (hl : l.length ≤ 4000) (Z1 E1 Z2 E2 : Int) (hp1 : ParsR (topL l) Z1 E1) (hp2 : ParsR (botL l) Z2 E2) (henv : Env w) : CT0 Tryz.prog 44 #[Value.string (St l)] w (TyC.tup1 (ffC (parV l)) (Value.int .i64 (parE l))) := by
 obtain ⟨htl, hbl⟩ := top_len hl; refine enter_st Tryz.func44 rfl Tryz.ntmps44 [(0, Value.string (St l))] rfl ⟨rfl, trivial⟩ (Nat.le_of_ble_eq_true rfl) ?_; intro a0 XE0; obtain ⟨c0, hc0⟩ : ∃ c0 : Colr, c0 = fun _ => 0 := ⟨_, rfl⟩; have XG0 : GI w c0 := hc0 ▸ GI.zero w; have XN0 : Ext [21, 22, 23, 24] w c0 w c0 := Ext.refl rfl XG0; have XL0 : All [] b0 f0 w c0 := trivial; refine wp_seq ?_; refine region_st [[], []] [2, 3] [21] (tyvC [(2, PT), (3, (iE 0))]) XE0 XG0 (All.cn 2 21 35 0 #[] (ffC (0)) XL0) (fun Q => ⟨sAlz 2 21 (zeroF _) (ff_zero), sMv 3 (rK (Value.int IntKind.i64 0)), trivial⟩) ?_; intro bX fX w1 c1 a1 XG1 yx yA yB yV yO yF; obtain ⟨g2_1, e2⟩ := kp (yV 2 rfl) rfl; have XE1 := XE0.up yF yO (ck e2 (ck (kv (yV 3 rfl) rfl) kn)); have XL1 := (All.cb (yA.nb 0 rfl e2 (yB 0 (by decide))) (yA.pk yB rfl [])); have XN1 := XN0.trans yx rfl; clear yx yA yB yV yO yF; show Code.wp _ _ _ _ _; refine wp_seq ?_; refine region_st [[], [0], [1], [2], [2], [2], [3], [4], [5]] [4, 5, 6, 11, 12, 13, 14, 15, 16] [] (tyvC [(4, (TyC.eq (Value.string (St (if 47 ∈ l then topL l else l))))), (5, (TyC.eq (Value.string (St (if 47 ∈ l then rstL l else []))))), (6, (TyC.eq (Value.bool (decide (47 ∈ l))))), (11, (TyC.eq (Value.tuple #[Value.string (St (if 47 ∈ l then topL l else l)), Value.string (St (if 47 ∈ l then rstL l else [])), Value.bool (decide (47 ∈ l))]))), (12, (TyC.eq (Value.string (St l)))), (13, (TyC.eq (Value.tuple #[Value.string (St (if 47 ∈ l then topL l else l)), Value.string (St (if 47 ∈ l then rstL l else [])), Value.bool (decide (47 ∈ l))]))), (14, (TyC.eq (Value.string (St (if 47 ∈ l then topL l else l))))), (15, (TyC.eq (Value.string (St (if 47 ∈ l then rstL l else []))))), (16, (TyC.eq (Value.bool (decide (47 ∈ l)))))]) XE1 XG1 XL1 (fun Q => ⟨sMv 12 (rO 0), sC2 13 (rS 12 0) (rK (Value.string { data := #[47] })) (fun K h0 h1 => by cases h0; exact k_cut l (by omega) (env_at henv (XN1.trans K.ext rfl) hc0)) Tryz.func77, sMv 11 (rS 13 1), sEx 14 (rS 11 2) (exe rfl), sEx 15 (rS 11 2) (exe rfl), sEx 16 (rS 11 2) (exe rfl), sMv 4 (rS 14 3), sMv 5 (rS 15 4), sMv 6 (rS 16 5), trivial⟩) ?_; intro bX fX w2 c2 a2 XG2 yx yA yB yV yO yF; have XE2 := XE1.up yF yO (ck (kv (yV 4 rfl) rfl) (ck (kv (yV 5 rfl) rfl) (ck (kv (yV 6 rfl) rfl) kn))); have XL2 := (yA.pk yB rfl [0]); have XN2 := XN1.trans yx rfl; clear yx yA yB yV yO yF; show Code.wp _ _ _ _ _; have hR1 := XE2.re 4 rfl (by by_cases h : 47 ∈ l; rw [if_pos h]; rw [if_neg h, top_none h] : Value.string (St (if 47 ∈ l then topL l else l)) = Value.string (St (topL l))); refine wp_join (M := fun aZ wZ => ∃ (cZ : Colr), Ev 51 aZ (mof [(4, Value.string (St (topL l))), (5, Value.string (St (botL l))), (2, Value.pointer (some ⟨g2_1, 0, none⟩)), (3, Value.int IntKind.i64 0), (0, Value.string (St l))]) ∧ GI wZ cZ ∧ Ext [21, 22, 23, 24] w c0 wZ cZ ∧ All [.s (Fact.box g2_1 35 21 (ffC (0)))] b0 f0 wZ cZ) ?_ ?_
 · by_cases h47 : 47 ∈ l
   · skip
     refine wp_seq ?_; have hR2 := hR1.re 6 rfl (by rw [decide_eq_true h47] : Value.bool (decide (47 ∈ l)) = Value.bool true); refine region_st [[], [0]] [17, 18] [] (tyvC [(17, (bE true)), (18, (bE false))]) hR2 XG2 XL2 (fun Q => ⟨sMv 17 (rO 6), sUv 18 (rS 17 0) (fun h => h) (run_not _), trivial⟩) ?_; intro bX fX w3 c3 a3 XG3 yx yA yB yV yO yF; have XE3 := hR2.up yF yO (ck (kv (yV 18 rfl) rfl) kn); have XL3 := (yA.pk yB rfl [0]); have XN3 := XN2.trans yx rfl; clear yx yA yB yV yO yF; show Code.wp _ _ _ _ _; refine wp_cond (t := false) (XE3.at 18 rfl) ?_; refine wp_skip ?_; have hbot : botL l = (if 47 ∈ l then rstL l else []) := by rw [if_pos h47]; exact if_pos h47
     have hR3 := XE3.re 5 rfl (by rw [hbot] : Value.string (St (if 47 ∈ l then rstL l else [])) = Value.string (St (botL l))); (repeat (first | (with_reducible refine inBlock_normal ?_) | (with_reducible refine then_normal ?_))); exact ⟨c3, (Ev.sub hR3 _ ⟨rfl, rfl, rfl, rfl, rfl, trivial⟩), XG3, XN3, ⟨(All.box XL3 0 rfl), trivial⟩⟩
   · skip
     refine wp_seq ?_; have hR4 := hR1.re 6 rfl (by rw [decide_eq_false h47] : Value.bool (decide (47 ∈ l)) = Value.bool false); refine region_st [[], [0]] [17, 18] [] (tyvC [(17, (bE false)), (18, (bE true))]) hR4 XG2 XL2 (fun Q => ⟨sMv 17 (rO 6), sUv 18 (rS 17 0) (fun h => h) (run_not _), trivial⟩) ?_; intro bX fX w4 c4 a4 XG4 yx yA yB yV yO yF; have XE4 := hR4.up yF yO (ck (kv (yV 18 rfl) rfl) kn); have XL4 := (yA.pk yB rfl [0]); have XN4 := XN2.trans yx rfl; clear yx yA yB yV yO yF; show Code.wp _ _ _ _ _; refine wp_cond (t := true) (XE4.at 18 rfl) ?_; refine region_st [[]] [5] [] (tyvC [(5, (TyC.eq (Value.string { data := #[49] })))]) XE4 XG4 XL4 (fun Q => ⟨sMv 5 (rK (Value.string { data := #[49] })), trivial⟩) ?_; intro bX fX w5 c5 a5 XG5 yx yA yB yV yO yF; have XE5 := XE4.up yF yO (ck (kv (yV 5 rfl) rfl) kn); have XL5 := (yA.pk yB rfl [0]); have XN5 := XN4.trans yx rfl; clear yx yA yB yV yO yF; have hbot : botL l = [49] := if_neg h47; have hR5 := XE5.re 5 rfl (by rw [hbot]; rfl : Value.string { data := #[49] } = Value.string (St (botL l))); (repeat (first | (with_reducible refine inBlock_normal ?_) | (with_reducible refine then_normal ?_))); exact ⟨c5, (Ev.sub hR5 _ ⟨rfl, rfl, rfl, rfl, rfl, trivial⟩), XG5, XN5, ⟨(All.box XL5 0 rfl), trivial⟩⟩
 · skip
   intro ar1 wr1; rintro ⟨cr1, XEr1, XGr1, XNr1, XLr1⟩; show Code.wp _ _ _ _ _; refine wp_seq ?_; refine region_st [[], [0], [1], [2], [2], [], [3, 5], [4]] [7, 8, 19, 20, 21, 22, 23] [22] (tyvC [(7, PT), (8, (iE (E1))), (19, (TyC.tup1 (wfC (Z1)) (Value.int .i64 (E1)))), (20, (TyC.eq (Value.string (St (topL l))))), (21, (TyC.tup1 (wfC (Z1)) (Value.int .i64 (E1)))), (22, (wfC (Z1))), (23, (iE (E1)))]) XEr1 XGr1 (All.cn 7 22 33 6 #[.bool false, .slice none 0 0] (wfC (Z1)) XLr1) (fun Q => ⟨sMv 20 (rO 4), sC1 21 (rS 20 0) (fun K h0 => by cases h0; exact k_wparse _ _ rfl htl Z1 E1 hp1) Tryz.func65, sMv 19 (rS 21 1), sEx 22 (rS 19 2) ex10, sEx 23 (rS 19 2) ex11, sAl 7 22 (zeroI _), sStn 7 22 5 0 (rS 22 3) aggInt (wf_str _), sMv 8 (rS 23 4), trivial⟩) ?_; intro bX fX w6 c6 a6 XG6 yx yA yB yV yO yF; obtain ⟨g7_6, e7⟩ := kp (yV 7 rfl) rfl; have XE6 := XEr1.up yF yO (ck e7 (ck (kv (yV 8 rfl) rfl) kn)); have XL6 := (All.cb (yA.nb 0 rfl e7 (yB 6 (by decide))) (yA.pk yB rfl [1])); have XN6 := XNr1.trans yx rfl; clear yx yA yB yV yO yF; show Code.wp _ _ _ _ _; refine wp_seq ?_; refine wp_seq ?_; by_cases he1 : E1 = 0
   · skip
     refine region_st [[], [0]] [24, 25] [] (tyvC [(24, (iE (E1))), (25, (bE false))]) XE6 XG6 XL6 (fun Q => ⟨sMv 24 (rO 8), sBin 25 (z := Value.int .i64 (E1)) (z' := Value.int IntKind.i64 0) (u := Value.bool false) (rS 24 0) (rK (Value.int IntKind.i64 0)) (fun h h' => ⟨h, rfl⟩) (eqg_int _ _ _ _ _ _ _ _) (run_as (run_neq _ _ _ _) (by simp [he1])), trivial⟩) ?_; intro bX fX w7 c7 a7 XG7 yx yA yB yV yO yF; have XE7 := XE6.up yF yO (ck (kv (yV 25 rfl) rfl) kn); have XL7 := (yA.pk yB rfl [0, 1]); have XN7 := XN6.trans yx rfl; clear yx yA yB yV yO yF; show Code.wp _ _ _ _ _; refine wp_cond (t := false) (XE7.at 25 rfl) ?_; refine wp_skip ?_; show Code.wp _ _ _ _ _; refine wp_seq ?_; refine region_st [[], [0], [1], [2], [2], [], [3, 5], [4]] [8, 9, 27, 28, 29, 30, 31] [23] (tyvC [(8, (iE (E2))), (9, PT), (27, (TyC.tup1 (wfC (Z2)) (Value.int .i64 (E2)))), (28, (TyC.eq (Value.string (St (botL l))))), (29, (TyC.tup1 (wfC (Z2)) (Value.int .i64 (E2)))), (30, (wfC (Z2))), (31, (iE (E2)))]) XE7 XG7 (All.cn 9 23 33 6 #[.bool false, .slice none 0 0] (wfC (Z2)) XL7) (fun Q => ⟨sMv 28 (rO 5), sC1 29 (rS 28 0) (fun K h0 => by cases h0; exact k_wparse _ _ rfl hbl Z2 E2 hp2) Tryz.func65, sMv 27 (rS 29 1), sEx 30 (rS 27 2) ex10, sEx 31 (rS 27 2) ex11, sAl 9 23 (zeroI _), sStn 9 23 5 0 (rS 30 3) aggInt (wf_str _), sMv 8 (rS 31 4), trivial⟩) ?_; intro bX fX w8 c8 a8 XG8 yx yA yB yV yO yF; obtain ⟨g9_8, e9⟩ := kp (yV 9 rfl) rfl; have XE8 := XE7.up yF yO (ck (kv (yV 8 rfl) rfl) (ck e9 kn)); have XL8 := (All.cb (yA.nb 0 rfl e9 (yB 6 (by decide))) (yA.pk yB rfl [1, 2])); have XN8 := XN7.trans yx rfl; clear yx yA yB yV yO yF; show Code.wp _ _ _ _ _; refine wp_seq ?_; refine wp_seq ?_; by_cases he2 : E2 = 0
     · skip
       refine region_st [[], [0]] [32, 33] [] (tyvC [(32, (iE (E2))), (33, (bE false))]) XE8 XG8 XL8 (fun Q => ⟨sMv 32 (rO 8), sBin 33 (z := Value.int .i64 (E2)) (z' := Value.int IntKind.i64 0) (u := Value.bool false) (rS 32 0) (rK (Value.int IntKind.i64 0)) (fun h h' => ⟨h, rfl⟩) (eqg_int _ _ _ _ _ _ _ _) (run_as (run_neq _ _ _ _) (by simp [he2])), trivial⟩) ?_; intro bX fX w9 c9 a9 XG9 yx yA yB yV yO yF; have XE9 := XE8.up yF yO (ck (kv (yV 33 rfl) rfl) kn); have XL9 := (yA.pk yB rfl [0, 1, 2]); have XN9 := XN8.trans yx rfl; clear yx yA yB yV yO yF; show Code.wp _ _ _ _ _; refine wp_cond (t := false) (XE9.at 33 rfl) ?_; refine wp_skip ?_; show Code.wp _ _ _ _ _; refine wp_seq ?_; refine region_st [[], [], [0, 1], [2], [3], [3], [], [4, 6], [5]] [8, 10, 35, 36, 37, 38, 39, 40] [24] (tyvC [(8, (iE (mkE Z2))), (10, PT), (35, (TyC.tup1 (ffC (mkV Z1 Z2)) (Value.int .i64 (mkE Z2)))), (36, (wfC (Z1))), (37, (wfC (Z2))), (38, (TyC.tup1 (ffC (mkV Z1 Z2)) (Value.int .i64 (mkE Z2)))), (39, (ffC (mkV Z1 Z2))), (40, (iE (mkE Z2)))]) XE9 XG9 (All.cn 10 24 35 7 #[.bool false, .slice none 0 0, .bool false, .slice none 0 0] (ffC (mkV Z1 Z2)) XL9) (fun Q => ⟨sLb 36 (rO 7) 2 aggInt (wf_str _), sLb 37 (rO 9) 1 aggInt (wf_str _), sC2 38 (rS 36 0) (rS 37 1) (fun K h0 h1 => k_make h0 h1) Tryz.func17, sMv 35 (rS 38 2), sEx 39 (rS 35 3) ex10, sEx 40 (rS 35 3) ex11, sAl 10 24 (zeroF _), sStn 10 24 6 0 (rS 39 4) aggF (ff_str _), sMv 8 (rS 40 5), trivial⟩) ?_; intro bX fX w10 c10 a10 XG10 yx yA yB yV yO yF; obtain ⟨g10_10, e10⟩ := kp (yV 10 rfl) rfl; have XE10 := XE9.up yF yO (ck (kv (yV 8 rfl) rfl) (ck e10 kn)); have XL10 := (All.cb (yA.nb 0 rfl e10 (yB 7 (by decide))) (yA.pk yB rfl [3])); have XN10 := XN9.trans yx rfl; clear yx yA yB yV yO yF; show Code.wp _ _ _ _ _; refine wp_seq ?_; refine wp_seq ?_; by_cases hm : mkE Z2 = 0
       · by_cases hx : ftx (mkV Z1 Z2) = l
         · have hfm : ft (mkV Z1 Z2) := by obtain ⟨_, uu, huu, _⟩ := (All.box XL10 0 rfl); exact huu.2
           have hy := par_yes hfm hx; rw [hy.1, hy.2]; refine region_st [[], [0], [1], [2], [2, 3], [2], [2, 4, 5], [2, 6]] [41, 42, 43, 44, 45, 46, 47, 48] [] (tyvC [(41, (iE (mkE Z2))), (42, (bE false)), (43, (bE false)), (44, (ffC (mkV Z1 Z2))), (45, (TyC.eq (Value.string (St (ftx (mkV Z1 Z2)))))), (46, (TyC.eq (Value.string (St l)))), (47, (bE false)), (48, (bE false))]) XE10 XG10 XL10 (fun Q => ⟨sMv 41 (rO 8), sBin 42 (z := Value.int .i64 (mkE Z2)) (z' := Value.int IntKind.i64 0) (u := Value.bool false) (rS 41 0) (rK (Value.int IntKind.i64 0)) (fun h h' => ⟨h, rfl⟩) (eqg_int _ _ _ _ _ _ _ _) (run_as (run_neq _ _ _ _) (by simp [hm])), sMv 43 (rS 42 1), sLb 44 (rO 10) 0 aggF (ff_str _), sC1 45 (rS 44 3) (fun K h0 => k_fstring h0 (env_at henv (XN10.trans K.ext rfl) hc0).1) Tryz.func45, sMv 46 (rO 0), sBin 47 (z := Value.string (St (ftx (mkV Z1 Z2)))) (z' := Value.string (St l)) (u := Value.bool false) (rS 45 4) (rS 46 5) (fun h h' => ⟨h, h'⟩) (eqg_str _ _ _ _ _ _) (run_as (run_neqS _ _ _) (by simp [hx])), sPkf 48 (rS 43 2) (rS 47 6), trivial⟩) ?_; intro bX fX w11 c11 a11 XG11 yx yA yB yV yO yF; have XE11 := XE10.up yF yO (ck (kv (yV 48 rfl) rfl) kn); have XL11 := (yA.pk yB rfl [0, 1]); have XN11 := XN10.trans yx rfl; clear yx yA yB yV yO yF; show Code.wp _ _ _ _ _; refine wp_cond (t := false) (XE11.at 48 rfl) ?_; refine wp_skip ?_; show Code.wp _ _ _ _ _; refine wp_seq ?_; refine region_st [[], [0], []] [3, 50] [21] (tyvC [(3, (iE 0)), (50, (ffC (mkV Z1 Z2)))]) XE11 XG11 (All.stg 1 1 (Fact.box g2_1 35 21 (ffC (mkV Z1 Z2))) XL11) (fun Q => ⟨sLb 50 (rO 10) 0 aggF (ff_str _), sSto 21 (rO 2) (rS 50 0) aggF (ff_str _) (fun K => BoxC.old (K.fac.sb0 1 rfl K.self) (ff_str _)) (fun K h0 => h0), sMv 3 (rK (Value.int IntKind.i64 0)), trivial⟩) ?_; intro bX fX w12 c12 a12 XG12 yx yA yB yV yO yF; have XE12 := XE11.up yF yO (ck (kv (yV 3 rfl) rfl) kn); have XL12 := (yA.pk yB rfl [1]); have XN12 := XN11.trans yx rfl; clear yx yA yB yV yO yF; show Code.wp _ _ _ _ _; refine wp_ret ?_; (repeat (first | (with_reducible refine then_ret ?_) | (with_reducible refine inBlock_ret ?_) | (with_reducible refine then_normal ?_) | (with_reducible refine inBlock_normal ?_))); show bodyPost Tryz.prog Tryz.f44 _ Exit.ret a12 w12; obtain ⟨r0, hr0, hs0⟩ := BoxC.load (All.box XL12 0 rfl) aggF (ff_str _); subst hc0; exact bodyPost_ret (res_ct rfl _ (XE12.at 2 rfl) hr0 (XE12.at 3 rfl)) XE12.2.1 ⟨_, rfl, ⟨_, rfl, hs0⟩, XN12.new0⟩
         · have hy := par_bad3 hp1 hp2 (fun h => hx h.2)
           rw [hy.1, hy.2]; refine region_st [[], [0], [1], [2], [2, 3], [2], [2, 4, 5], [2, 6]] [41, 42, 43, 44, 45, 46, 47, 48] [] (tyvC [(41, (iE (mkE Z2))), (42, (bE false)), (43, (bE false)), (44, (ffC (mkV Z1 Z2))), (45, (TyC.eq (Value.string (St (ftx (mkV Z1 Z2)))))), (46, (TyC.eq (Value.string (St l)))), (47, (bE true)), (48, (bE true))]) XE10 XG10 XL10 (fun Q => ⟨sMv 41 (rO 8), sBin 42 (z := Value.int .i64 (mkE Z2)) (z' := Value.int IntKind.i64 0) (u := Value.bool false) (rS 41 0) (rK (Value.int IntKind.i64 0)) (fun h h' => ⟨h, rfl⟩) (eqg_int _ _ _ _ _ _ _ _) (run_as (run_neq _ _ _ _) (by simp [hm])), sMv 43 (rS 42 1), sLb 44 (rO 10) 0 aggF (ff_str _), sC1 45 (rS 44 3) (fun K h0 => k_fstring h0 (env_at henv (XN10.trans K.ext rfl) hc0).1) Tryz.func45, sMv 46 (rO 0), sBin 47 (z := Value.string (St (ftx (mkV Z1 Z2)))) (z' := Value.string (St l)) (u := Value.bool true) (rS 45 4) (rS 46 5) (fun h h' => ⟨h, h'⟩) (eqg_str _ _ _ _ _ _) (run_as (run_neqS _ _ _) (by simp [hx])), sPkf 48 (rS 43 2) (rS 47 6), trivial⟩) ?_; intro bX fX w13 c13 a13 XG13 yx yA yB yV yO yF; have XE13 := XE10.up yF yO (ck (kv (yV 48 rfl) rfl) kn); have XL13 := (yA.pk yB rfl [0, 1]); have XN13 := XN10.trans yx rfl; clear yx yA yB yV yO yF; show Code.wp _ _ _ _ _; refine wp_cond (t := true) (XE13.at 48 rfl) ?_; refine wp_seq ?_; refine region_st [[], [0], []] [3, 49] [21] (tyvC [(3, (iE 2)), (49, (ffC (0)))]) XE13 XG13 (All.stg 1 1 (Fact.box g2_1 35 21 (ffC (0))) XL13) (fun Q => ⟨sB0 49  (fun K => b_ff0), sSto 21 (rO 2) (rS 49 0) aggF (ff_str _) (fun K => BoxC.old (K.fac.sb0 1 rfl K.self) (ff_str _)) (fun K h0 => h0), sMv 3 (rK (Value.int IntKind.i64 2)), trivial⟩) ?_; intro bX fX w14 c14 a14 XG14 yx yA yB yV yO yF; have XE14 := XE13.up yF yO (ck (kv (yV 3 rfl) rfl) kn); have XL14 := (yA.pk yB rfl [0, 1]); have XN14 := XN13.trans yx rfl; clear yx yA yB yV yO yF; show Code.wp _ _ _ _ _; refine wp_ret ?_; (repeat (first | (with_reducible refine then_ret ?_) | (with_reducible refine inBlock_ret ?_) | (with_reducible refine then_normal ?_) | (with_reducible refine inBlock_normal ?_))); show bodyPost Tryz.prog Tryz.f44 _ Exit.ret a14 w14; obtain ⟨r0, hr0, hs0⟩ := BoxC.load (All.box XL14 1 rfl) aggF (ff_str _); subst hc0; exact bodyPost_ret (res_ct rfl _ (XE14.at 2 rfl) hr0 (XE14.at 3 rfl)) XE14.2.1 ⟨_, rfl, ⟨_, rfl, hs0⟩, XN14.new0⟩
       · have hy := par_bad3 hp1 hp2 (fun h => hm h.1)
         rw [hy.1, hy.2]; refine region_st [[], [0], [1], [2], [2], [2], [2], [2]] [41, 42, 43, 44, 45, 46, 47, 48] [] (tyvC [(41, (iE (mkE Z2))), (42, (bE true)), (43, (bE true)), (44, uE), (45, uE), (46, uE), (47, uE), (48, (bE true))]) XE10 XG10 XL10 (fun Q => ⟨sMv 41 (rO 8), sBin 42 (z := Value.int .i64 (mkE Z2)) (z' := Value.int IntKind.i64 0) (u := Value.bool true) (rS 41 0) (rK (Value.int IntKind.i64 0)) (fun h h' => ⟨h, rfl⟩) (eqg_int _ _ _ _ _ _ _ _) (run_as (run_neq _ _ _ _) (by simp [hm])), sMv 43 (rS 42 1), sNo 44, sNo 45, sNo 46, sNo 47, sPkt 48 (rS 43 2) (rK (Value.bool true)), trivial⟩) ?_; intro bX fX w15 c15 a15 XG15 yx yA yB yV yO yF; have XE15 := XE10.up yF yO (ck (kv (yV 48 rfl) rfl) kn); have XL15 := (yA.pk yB rfl [0, 1]); have XN15 := XN10.trans yx rfl; clear yx yA yB yV yO yF; show Code.wp _ _ _ _ _; refine wp_cond (t := true) (XE15.at 48 rfl) ?_; refine wp_seq ?_; refine region_st [[], [0], []] [3, 49] [21] (tyvC [(3, (iE 2)), (49, (ffC (0)))]) XE15 XG15 (All.stg 1 1 (Fact.box g2_1 35 21 (ffC (0))) XL15) (fun Q => ⟨sB0 49  (fun K => b_ff0), sSto 21 (rO 2) (rS 49 0) aggF (ff_str _) (fun K => BoxC.old (K.fac.sb0 1 rfl K.self) (ff_str _)) (fun K h0 => h0), sMv 3 (rK (Value.int IntKind.i64 2)), trivial⟩) ?_; intro bX fX w16 c16 a16 XG16 yx yA yB yV yO yF; have XE16 := XE15.up yF yO (ck (kv (yV 3 rfl) rfl) kn); have XL16 := (yA.pk yB rfl [0, 1]); have XN16 := XN15.trans yx rfl; clear yx yA yB yV yO yF; show Code.wp _ _ _ _ _; refine wp_ret ?_; (repeat (first | (with_reducible refine then_ret ?_) | (with_reducible refine inBlock_ret ?_) | (with_reducible refine then_normal ?_) | (with_reducible refine inBlock_normal ?_))); show bodyPost Tryz.prog Tryz.f44 _ Exit.ret a16 w16; obtain ⟨r0, hr0, hs0⟩ := BoxC.load (All.box XL16 1 rfl) aggF (ff_str _); subst hc0; exact bodyPost_ret (res_ct rfl _ (XE16.at 2 rfl) hr0 (XE16.at 3 rfl)) XE16.2.1 ⟨_, rfl, ⟨_, rfl, hs0⟩, XN16.new0⟩
     · have hy := par_bad2 hp2 he2
       rw [hy.1, hy.2]; refine region_st [[], [0]] [32, 33] [] (tyvC [(32, (iE (E2))), (33, (bE true))]) XE8 XG8 XL8 (fun Q => ⟨sMv 32 (rO 8), sBin 33 (z := Value.int .i64 (E2)) (z' := Value.int IntKind.i64 0) (u := Value.bool true) (rS 32 0) (rK (Value.int IntKind.i64 0)) (fun h h' => ⟨h, rfl⟩) (eqg_int _ _ _ _ _ _ _ _) (run_as (run_neq _ _ _ _) (by simp [he2])), trivial⟩) ?_; intro bX fX w17 c17 a17 XG17 yx yA yB yV yO yF; have XE17 := XE8.up yF yO (ck (kv (yV 33 rfl) rfl) kn); have XL17 := (yA.pk yB rfl [0, 1, 2]); have XN17 := XN8.trans yx rfl; clear yx yA yB yV yO yF; show Code.wp _ _ _ _ _; refine wp_cond (t := true) (XE17.at 33 rfl) ?_; refine wp_seq ?_; refine region_st [[], [0], []] [3, 34] [21] (tyvC [(3, (iE 2)), (34, (ffC (0)))]) XE17 XG17 (All.stg 2 1 (Fact.box g2_1 35 21 (ffC (0))) XL17) (fun Q => ⟨sB0 34  (fun K => b_ff0), sSto 21 (rO 2) (rS 34 0) aggF (ff_str _) (fun K => BoxC.old (K.fac.sb0 2 rfl K.self) (ff_str _)) (fun K h0 => h0), sMv 3 (rK (Value.int IntKind.i64 2)), trivial⟩) ?_; intro bX fX w18 c18 a18 XG18 yx yA yB yV yO yF; have XE18 := XE17.up yF yO (ck (kv (yV 3 rfl) rfl) kn); have XL18 := (yA.pk yB rfl [0, 1, 2]); have XN18 := XN17.trans yx rfl; clear yx yA yB yV yO yF; show Code.wp _ _ _ _ _; refine wp_ret ?_; (repeat (first | (with_reducible refine then_ret ?_) | (with_reducible refine inBlock_ret ?_) | (with_reducible refine then_normal ?_) | (with_reducible refine inBlock_normal ?_))); show bodyPost Tryz.prog Tryz.f44 _ Exit.ret a18 w18; obtain ⟨r0, hr0, hs0⟩ := BoxC.load (All.box XL18 2 rfl) aggF (ff_str _); subst hc0; exact bodyPost_ret (res_ct rfl _ (XE18.at 2 rfl) hr0 (XE18.at 3 rfl)) XE18.2.1 ⟨_, rfl, ⟨_, rfl, hs0⟩, XN18.new0⟩
   · have hy := par_bad1 hp1 he1
     rw [hy.1, hy.2]; refine region_st [[], [0]] [24, 25] [] (tyvC [(24, (iE (E1))), (25, (bE true))]) XE6 XG6 XL6 (fun Q => ⟨sMv 24 (rO 8), sBin 25 (z := Value.int .i64 (E1)) (z' := Value.int IntKind.i64 0) (u := Value.bool true) (rS 24 0) (rK (Value.int IntKind.i64 0)) (fun h h' => ⟨h, rfl⟩) (eqg_int _ _ _ _ _ _ _ _) (run_as (run_neq _ _ _ _) (by simp [he1])), trivial⟩) ?_; intro bX fX w19 c19 a19 XG19 yx yA yB yV yO yF; have XE19 := XE6.up yF yO (ck (kv (yV 25 rfl) rfl) kn); have XL19 := (yA.pk yB rfl [0, 1]); have XN19 := XN6.trans yx rfl; clear yx yA yB yV yO yF; show Code.wp _ _ _ _ _; refine wp_cond (t := true) (XE19.at 25 rfl) ?_; refine wp_seq ?_; refine region_st [[], [0], []] [3, 26] [21] (tyvC [(3, (iE 2)), (26, (ffC (0)))]) XE19 XG19 (All.stg 1 1 (Fact.box g2_1 35 21 (ffC (0))) XL19) (fun Q => ⟨sB0 26  (fun K => b_ff0), sSto 21 (rO 2) (rS 26 0) aggF (ff_str _) (fun K => BoxC.old (K.fac.sb0 1 rfl K.self) (ff_str _)) (fun K h0 => h0), sMv 3 (rK (Value.int IntKind.i64 2)), trivial⟩) ?_; intro bX fX w20 c20 a20 XG20 yx yA yB yV yO yF; have XE20 := XE19.up yF yO (ck (kv (yV 3 rfl) rfl) kn); have XL20 := (yA.pk yB rfl [0, 1]); have XN20 := XN19.trans yx rfl; clear yx yA yB yV yO yF; show Code.wp _ _ _ _ _; refine wp_ret ?_; (repeat (first | (with_reducible refine then_ret ?_) | (with_reducible refine inBlock_ret ?_) | (with_reducible refine then_normal ?_) | (with_reducible refine inBlock_normal ?_))); show bodyPost Tryz.prog Tryz.f44 _ Exit.ret a20 w20; obtain ⟨r0, hr0, hs0⟩ := BoxC.load (All.box XL20 1 rfl) aggF (ff_str _); subst hc0; exact bodyPost_ret (res_ct rfl _ (XE20.at 2 rfl) hr0 (XE20.at 3 rfl)) XE20.2.1 ⟨_, rfl, ⟨_, rfl, hs0⟩, XN20.new0⟩

theorem k_fparse {w : World} {c : Colr} (l : List UInt8) (hl : l.length ≤ 4000) (henv : Env w) : CV Tryz.prog 44 #[.string (St l)] w c ((ffC (parV l)).tup1 (.int .i64 (parE l))) := by
  obtain ⟨Z1, E1, h1, _⟩ := parsR_any (topL l)
  obtain ⟨Z2, E2, h2, _⟩ := parsR_any (botL l)
  exact (t_fparse w l hl Z1 E1 Z2 E2 h1 h2 henv).cv (plain_tup1 (pl_ff _))
end Go.Proofs.YtmghfhkdfkdgkaaGreatDoor

namespace Go.Proofs.YtmghfhkdfkdgkaaGreatDoor
set_option linter.unusedVariables false
open Go.RowKit Go.Mem Go.Dig Go.Fr Go.Col
open Go.Lib (decDigits)

theorem low_of {p q : Int} (hq : 0 < q) (hg : Int.gcd p q = 1) : (Rat.divInt p q).num = p ∧ dn (Rat.divInt p q) = q := by
  obtain ⟨h1, h2⟩ := make_pos (p := p) hq
  rw [hg] at h1 h2
  exact ⟨by rw [← h1]; simp, by rw [← h2]; simp⟩
theorem divInt_one' (n : Int) : Rat.divInt n 1 = (n : Rat) := by
  obtain ⟨h1, h2⟩ := low_of (p := n) (q := 1) (by decide) (by simp)
  exact Fr.ext h1 h2
theorem mkV_int (n : Int) : mkV n 1 = (n : Rat) := (if_neg (by omega)).trans (divInt_one' n)
theorem dec_two {a b : Nat} (ha : a < 10) (hb : b < 10) (h0 : 0 < a) : decDigits (a * 10 + b) = [UInt8.ofNat (48 + a), UInt8.ofNat (48 + b)] := by
  rw [Txt.dec_big (by omega), show (a * 10 + b) / 10 = a by omega, show (a * 10 + b) % 10 = b by omega, Txt.dec_small ha]
  rfl
theorem text_nat (n : Nat) : Txt.text (n : Int) = decDigits n := by
  unfold Txt.text
  rw [if_neg (by omega)]
  rfl
theorem text_neg {n : Nat} (h : 0 < n) : Txt.text (-(n : Int)) = 45 :: decDigits n := by
  unfold Txt.text
  rw [if_pos (by omega)]
  simp
theorem ftx_of {x : Rat} {p q : Int} (h1 : x.num = p) (h2 : dn x = q) (hq : q ≠ 1) : ftx x = Txt.text p ++ 47 :: Txt.text q := by
  unfold ftx
  rw [h1, h2, if_neg hq]
def qH : Rat := mkV 1 2
def qT : Rat := mkV 1 3
theorem qH_eq : qH = Rat.divInt 1 2 := show mkV 1 2 = _ from if_neg (by decide)
theorem qT_eq : qT = Rat.divInt 1 3 := show mkV 1 3 = _ from if_neg (by decide)
theorem fb_of {x : Rat} {p q : Int} (h1 : x.num = p) (h2 : dn x = q) (hp : p.natAbs < 4096) (hq : q.natAbs < 4096) : Fb 12 x := ⟨by rw [h1]; exact hp, by rw [h2]; exact hq⟩
theorem fbH : Fb 12 qH := by
  obtain ⟨h1, h2⟩ := low_of (p := 1) (q := 2) (by decide) (by decide)
  rw [qH_eq]
  exact fb_of h1 h2 (by decide) (by decide)
theorem fbT : Fb 12 qT := by
  obtain ⟨h1, h2⟩ := low_of (p := 1) (q := 3) (by decide) (by decide)
  rw [qT_eq]
  exact fb_of h1 h2 (by decide) (by decide)
theorem fb1 : Fb 12 ((1 : Int) : Rat) := fb_of (p := 1) (q := 1) rfl rfl (by decide) (by decide)
theorem sum_HT : addV qH qT = Rat.divInt 5 6 ∧ addE qH qT = 0 := by
  have hok := addOk_of fbH fbT (by omega)
  refine ⟨(if_pos hok).trans ?_, if_pos hok⟩
  rw [qH_eq, qT_eq, Rat.divInt_add_divInt _ _ (by omega) (by omega)]
  rfl
theorem two_T : addV ((1 : Int) : Rat) (-qT) = Rat.divInt 2 3 := by
  have hok := addOk_of fb1 fbT.neg (by omega)
  refine (if_pos hok).trans ?_
  rw [qT_eq, ← divInt_one' 1, Rat.neg_divInt, Rat.divInt_add_divInt _ _ (by omega) (by omega)]
  rfl
theorem cube : powV (Rat.divInt 2 3) 3 = Rat.divInt 8 27 ∧ powE (Rat.divInt 2 3) 3 = 0 := by
  have e : (Rat.divInt 2 3) ^ (3 : Int).toNat = Rat.divInt 8 27 := by
    show (Rat.divInt 2 3) ^ 3 = _
    rw [Rat.pow_succ, Rat.pow_succ, Rat.pow_succ, Rat.pow_zero, Rat.one_mul, Rat.divInt_mul_divInt, Rat.divInt_mul_divInt]
    rfl
  obtain ⟨h1, h2⟩ := low_of (p := 8) (q := 27) (by decide) (by decide)
  have hok : powOk (Rat.divInt 2 3) 3 := powOk_of (by omega) (by omega) (by rw [e]; exact (fb_of h1 h2 (by decide) (by decide)).ft (by omega))
  rw [← e]
  exact pow_yes hok
theorem lv_a : ftx (mkV 6 (-8)) = [45, 51, 47, 52] := by
  have e : mkV 6 (-8) = Rat.divInt (-3) 4 := by
    refine (if_neg (by omega)).trans ?_
    exact (Rat.divInt_mul_left (n := -3) (d := 4) (a := -2) (by omega))
  obtain ⟨h1, h2⟩ := low_of (p := -3) (q := 4) (by decide) (by decide)
  rw [e, ftx_of h1 h2 (by omega), show (-3 : Int) = -((3 : Nat) : Int) from rfl, text_neg (by omega), show (4 : Int) = ((4 : Nat) : Int) from rfl, text_nat, Txt.dec_small (by omega), Txt.dec_small (by omega)]
  rfl
theorem lv_b : ftx (addV qH qT) = [53, 47, 54] := by
  obtain ⟨h1, h2⟩ := low_of (p := 5) (q := 6) (by decide) (by decide)
  rw [sum_HT.1, ftx_of h1 h2 (by omega), show (5 : Int) = ((5 : Nat) : Int) from rfl, text_nat, show (6 : Int) = ((6 : Nat) : Int) from rfl, text_nat, Txt.dec_small (by omega), Txt.dec_small (by omega)]
  rfl
theorem lv_c : ftx (powV (addV ((1 : Int) : Rat) (-qT)) 3) = [56, 47, 50, 55] := by
  obtain ⟨h1, h2⟩ := low_of (p := 8) (q := 27) (by decide) (by decide)
  rw [two_T, cube.1, ftx_of h1 h2 (by omega), show (8 : Int) = ((8 : Nat) : Int) from rfl, text_nat, show (27 : Int) = ((2 * 10 + 7 : Nat) : Int) from rfl, text_nat, Txt.dec_small (by omega), dec_two (by omega) (by omega) (by omega)]
  rfl
theorem lv_h : powE (addV ((1 : Int) : Rat) (-qT)) 3 = 0 := by rw [two_T]; exact cube.2
theorem text_lit {n : Nat} (h : n < 10) : [UInt8.ofNat (48 + n)] = Txt.text (n : Int) := by rw [text_nat, Txt.dec_small h]
theorem lv_i : parE [50, 47, 52] = 2 := (par_no fun x hf hx => by
  obtain ⟨h1, h2⟩ := ftx_top x
  rw [hx] at h1 h2
  have e1 : Txt.text ((2 : Nat) : Int) = Txt.text x.num := (text_lit (by omega)).symm.trans h1
  have e2 : Txt.text ((4 : Nat) : Int) = Txt.text (dn x) := (text_lit (by omega)).symm.trans h2
  have hl := low x
  rw [← Txt.text_inj e1, ← Txt.text_inj e2] at hl
  exact absurd hl (by decide)).2
theorem lv_j : parE [51, 47, 49] = 2 := (par_no fun x hf hx => by
  obtain ⟨h1, h2⟩ := ftx_top x
  rw [hx] at h1 h2
  have e2 : Txt.text ((1 : Nat) : Int) = Txt.text (dn x) := (text_lit (by omega)).symm.trans h2
  have hd := Txt.text_inj e2
  unfold ftx at hx
  rw [if_pos (by omega)] at hx
  have := no47 x.num
  rw [hx] at this
  exact this (by simp)).2
theorem parsR_self {z : Int} (h : fit z) : ParsR (Txt.text z) z 0 := .inl ⟨z, Txt.reads_text z, (rg_in h).1, (rg_in h).2⟩
theorem ftx_beq (x y : Rat) : (ftx x == ftx y) = decide (x = y) := by
  by_cases h : x = y
  · subst h; simp
  · rw [decide_eq_false h]
    have : ftx x ≠ ftx y := fun e => h (ftx_inj e)
    simpa using this
end Go.Proofs.YtmghfhkdfkdgkaaGreatDoor

namespace Go.Proofs.YtmghfhkdfkdgkaaGreatDoor
set_option linter.unusedVariables false
open Go.RowKit Go.Mem Go.Dig Go.Fr Go.Col

set_option maxRecDepth 100000 in
set_option maxHeartbeats 4000000 in
theorem t_lnumber (w : World) (v : Value) (z : Int) (h : (rfC z).sat v w (fun _ => 0)) : CT0 Tryz.prog 18 #[v] w (wfC (z)) := by
 have hz := h.2; refine enter_st Tryz.func18 rfl Tryz.ntmps18 [(0, v)] rfl ⟨rfl, trivial⟩ (Nat.le_of_ble_eq_true rfl) ?_; intro a0 XE0; obtain ⟨c0, hc0⟩ : ∃ c0 : Colr, c0 = fun _ => 0 := ⟨_, rfl⟩; have XG0 : GI w c0 := hc0 ▸ GI.zero w; have XN0 : Ext [21, 22, 23] w c0 w c0 := Ext.refl rfl XG0; have XL0 : All [.s (Fact.val (rfC (z)) v)] b0 f0 w c0 := ⟨(hc0 ▸ h), trivial⟩; refine wp_seq ?_; refine region_st [[], []] [1, 2] [21, 22] (tyvC [(1, PT), (2, PT)]) XE0 XG0 (All.cn 1 21 24 0 #[] (rfC (z)) (All.cn 2 22 33 1 #[] (wfC (0)) XL0)) (fun Q => ⟨sBox 1 21 (rO 0) (fun K h0 => bxs (rf_str' _) (K.fac.val 2 rfl)), sAlz 2 22 (zeroI _) (wf_zero), trivial⟩) ?_; intro bX fX w1 c1 a1 XG1 yx yA yB yV yO yF; obtain ⟨g1_1, e1⟩ := kp (yV 1 rfl) rfl; obtain ⟨g2_1, e2⟩ := kp (yV 2 rfl) rfl; have XE1 := XE0.up yF yO (ck e1 (ck e2 kn)); have XL1 := (All.cb (yA.nb 0 rfl e1 (yB 0 (by decide))) (All.cb (yA.nb 1 rfl e2 (yB 1 (by decide))) (yA.pk yB rfl []))); have XN1 := XN0.trans yx rfl; clear yx yA yB yV yO yF; show Code.wp _ _ _ _ _; refine wp_seq ?_; refine region_st [[], [0], [1], [2], [3], [3], [], [4, 6], [5]] [3, 4, 5, 6, 7, 8, 9, 10] [23] (tyvC [(3, PT), (4, (iE 0)), (5, (TyC.tup1 (wfC (z)) (Value.int .i64 0))), (6, (rfC (z))), (7, (TyC.eq (Value.string (St (Txt.text z))))), (8, (TyC.tup1 (wfC (z)) (Value.int .i64 0))), (9, (wfC (z))), (10, (iE 0))]) XE1 XG1 (All.cn 3 23 33 7 #[.bool false, .slice none 0 0] (wfC (z)) XL1) (fun Q => ⟨sLb 6 (rO 1) 1 aggN (rf_str' _), sC1 7 (rS 6 0) (fun K h0 => k_rtext h0) Tryz.func66, sC1 8 (rS 7 1) (fun K h0 => by cases h0; exact k_wparse _ (Txt.text z) rfl (ft_short hz) z 0 (parsR_self hz)) Tryz.func65, sMv 5 (rS 8 2), sEx 9 (rS 5 3) ex10, sEx 10 (rS 5 3) ex11, sAl 3 23 (zeroI _), sStn 3 23 6 0 (rS 9 4) aggInt (wf_str _), sMv 4 (rS 10 5), trivial⟩) ?_; intro bX fX w2 c2 a2 XG2 yx yA yB yV yO yF; obtain ⟨g3_2, e3⟩ := kp (yV 3 rfl) rfl; have XE2 := XE1.up yF yO (ck e3 kn); have XL2 := (All.cb (yA.nb 0 rfl e3 (yB 7 (by decide))) (yA.pk yB rfl [2])); have XN2 := XN1.trans yx rfl; clear yx yA yB yV yO yF; show Code.wp _ _ _ _ _; refine wp_seq ?_; refine region_st [[], [0]] [11] [22] (tyvC [(11, (wfC (z)))]) XE2 XG2 (All.stg 1 1 (Fact.box g2_1 33 22 (wfC (z))) XL2) (fun Q => ⟨sLb 11 (rO 3) 0 aggInt (wf_str _), sSto 22 (rO 2) (rS 11 0) aggInt (wf_str _) (fun K => BoxC.old (K.fac.sb0 1 rfl K.self) (wf_str _)) (fun K h0 => h0), trivial⟩) ?_; intro bX fX w3 c3 a3 XG3 yx yA yB yV yO yF; have XE3 := XE2.up yF yO kn; have XL3 := (yA.pk yB rfl [1]); have XN3 := XN2.trans yx rfl; clear yx yA yB yV yO yF; show Code.wp _ _ _ _ _; refine wp_ret ?_; (repeat (first | (with_reducible refine then_ret ?_) | (with_reducible refine inBlock_ret ?_) | (with_reducible refine then_normal ?_) | (with_reducible refine inBlock_normal ?_))); show bodyPost Tryz.prog Tryz.f18 _ Exit.ret a3 w3; obtain ⟨r0, hr0, hs0⟩ := BoxC.load (All.box XL3 0 rfl) aggInt (wf_str _); subst hc0; exact bodyPost_ret (res_c rfl _ (XE3.at 2 rfl) hr0) XE3.2.1 ⟨_, rfl, hs0, XN3.new0⟩

theorem k_lnumber {w : World} {c : Colr} {v : Value} {z : Int} (h : (rfC z).sat v w c) (he : Env w) : CV Tryz.prog 18 #[v] w c (wfC z) := (t_lnumber w v z h).cv (pl_wf _)
theorem k_make_self {w : World} {c : Colr} {v v' : Value} {x : Rat} (h : (wfC x.num).sat v w c) (h' : (wfC (dn x)).sat v' w c) : CV Tryz.prog 17 #[v, v'] w c ((ffC x).tup1 (.int .i64 0)) := by
  have := k_make h h'
  rwa [(mkV_self x).1, (mkV_self x).2] at this
set_option maxRecDepth 100000 in
set_option maxHeartbeats 4000000 in
theorem t_lof (w : World) (v : Value) (x : Rat) (h : (rffC x).sat v w (fun _ => 0)) (henv : Env w) : CT0 Tryz.prog 27 #[v] w (ffC (x)) := by
 refine enter_st Tryz.func27 rfl Tryz.ntmps27 [(0, v)] rfl ⟨rfl, trivial⟩ (Nat.le_of_ble_eq_true rfl) ?_; intro a0 XE0; obtain ⟨c0, hc0⟩ : ∃ c0 : Colr, c0 = fun _ => 0 := ⟨_, rfl⟩; have XG0 : GI w c0 := hc0 ▸ GI.zero w; have XN0 : Ext [21, 22, 23] w c0 w c0 := Ext.refl rfl XG0; have XL0 : All [.s (Fact.val (rffC (x)) v)] b0 f0 w c0 := ⟨(hc0 ▸ h), trivial⟩; refine wp_seq ?_; refine region_st [[], []] [1, 2] [21, 22] (tyvC [(1, PT), (2, PT)]) XE0 XG0 (All.cn 1 21 41 0 #[] (rffC (x)) (All.cn 2 22 35 1 #[] (ffC (0)) XL0)) (fun Q => ⟨sBox 1 21 (rO 0) (fun K h0 => bxs (rff_str _) (K.fac.val 2 rfl)), sAlz 2 22 (zeroF _) (ff_zero), trivial⟩) ?_; intro bX fX w1 c1 a1 XG1 yx yA yB yV yO yF; obtain ⟨g1_1, e1⟩ := kp (yV 1 rfl) rfl; obtain ⟨g2_1, e2⟩ := kp (yV 2 rfl) rfl; have XE1 := XE0.up yF yO (ck e1 (ck e2 kn)); have XL1 := (All.cb (yA.nb 0 rfl e1 (yB 0 (by decide))) (All.cb (yA.nb 1 rfl e2 (yB 1 (by decide))) (yA.pk yB rfl []))); have XN1 := XN0.trans yx rfl; clear yx yA yB yV yO yF; show Code.wp _ _ _ _ _; refine wp_seq ?_; refine region_st [[], [0], [1], [], [3], [4], [2, 5], [6], [7], [7], [], [8, 10], [9]] [3, 4, 5, 6, 7, 8, 9, 10, 11, 12, 13, 14] [23] (tyvC [(3, PT), (4, (iE 0)), (5, (TyC.tup1 (ffC (x)) (Value.int .i64 0))), (6, (pE g1_1 0)), (7, (rfC ((x).num))), (8, (wfC ((x).num))), (9, (pE g1_1 2)), (10, (rfC (dn (x)))), (11, (wfC (dn (x)))), (12, (TyC.tup1 (ffC (x)) (Value.int .i64 0))), (13, (ffC (x))), (14, (iE 0))]) XE1 XG1 (All.cn 3 23 35 11 #[.bool false, .slice none 0 0, .bool false, .slice none 0 0] (ffC (x)) XL1) (fun Q => ⟨sFa 6 (rO 1) (fld_r0 _), sLf 7 (rS 6 0) (fun K => lr_P (K.fac.box 1 rfl)), sC1 8 (rS 7 1) (fun K h0 => k_lnumber h0 (env_at henv (XN1.trans K.ext rfl) hc0)) Tryz.func18, sFa 9 (rO 1) (fld_r1 _), sLf 10 (rS 9 3) (fun K => lr_Q (K.fac.box 1 rfl)), sC1 11 (rS 10 4) (fun K h0 => k_lnumber h0 (env_at henv (XN1.trans K.ext rfl) hc0)) Tryz.func18, sC2 12 (rS 8 2) (rS 11 5) (fun K h0 h1 => k_make_self h0 h1) Tryz.func17, sMv 5 (rS 12 6), sEx 13 (rS 5 7) ex10, sEx 14 (rS 5 7) ex11, sAl 3 23 (zeroF _), sStn 3 23 10 0 (rS 13 8) aggF (ff_str _), sMv 4 (rS 14 9), trivial⟩) ?_; intro bX fX w2 c2 a2 XG2 yx yA yB yV yO yF; obtain ⟨g3_2, e3⟩ := kp (yV 3 rfl) rfl; have XE2 := XE1.up yF yO (ck e3 kn); have XL2 := (All.cb (yA.nb 0 rfl e3 (yB 11 (by decide))) (yA.pk yB rfl [2])); have XN2 := XN1.trans yx rfl; clear yx yA yB yV yO yF; show Code.wp _ _ _ _ _; refine wp_seq ?_; refine region_st [[], [0]] [15] [22] (tyvC [(15, (ffC (x)))]) XE2 XG2 (All.stg 1 1 (Fact.box g2_1 35 22 (ffC (x))) XL2) (fun Q => ⟨sLb 15 (rO 3) 0 aggF (ff_str _), sSto 22 (rO 2) (rS 15 0) aggF (ff_str _) (fun K => BoxC.old (K.fac.sb0 1 rfl K.self) (ff_str _)) (fun K h0 => h0), trivial⟩) ?_; intro bX fX w3 c3 a3 XG3 yx yA yB yV yO yF; have XE3 := XE2.up yF yO kn; have XL3 := (yA.pk yB rfl [1]); have XN3 := XN2.trans yx rfl; clear yx yA yB yV yO yF; show Code.wp _ _ _ _ _; refine wp_ret ?_; (repeat (first | (with_reducible refine then_ret ?_) | (with_reducible refine inBlock_ret ?_) | (with_reducible refine then_normal ?_) | (with_reducible refine inBlock_normal ?_)))
 show bodyPost Tryz.prog Tryz.f27 _ Exit.ret a3 w3; obtain ⟨r0, hr0, hs0⟩ := BoxC.load (All.box XL3 0 rfl) aggF (ff_str _); subst hc0; exact bodyPost_ret (res_c rfl _ (XE3.at 2 rfl) hr0) XE3.2.1 ⟨_, rfl, hs0, XN3.new0⟩

theorem k_lof {w : World} {c : Colr} {v : Value} {x : Rat} (h : (rffC x).sat v w c) (he : Env w) : CV Tryz.prog 27 #[v] w c (ffC x) := (t_lof w v x h he).cv (pl_ff _)
set_option maxRecDepth 100000 in
set_option maxHeartbeats 4000000 in
theorem t_lwhole (w : World) (n : Int) (hn : I64 n) : CT0 Tryz.prog 22 #[Value.int .i64 n] w (ffC (((n : Int) : Rat))) := by
 rw [← mkV_int n]; refine enter_st Tryz.func22 rfl Tryz.ntmps22 [(0, Value.int .i64 n)] rfl ⟨rfl, trivial⟩ (Nat.le_of_ble_eq_true rfl) ?_; intro a0 XE0; obtain ⟨c0, hc0⟩ : ∃ c0 : Colr, c0 = fun _ => 0 := ⟨_, rfl⟩; have XG0 : GI w c0 := hc0 ▸ GI.zero w; have XN0 : Ext [21, 22] w c0 w c0 := Ext.refl rfl XG0; have XL0 : All [] b0 f0 w c0 := trivial; refine wp_seq ?_; refine region_st [[]] [2] [21] (tyvC [(2, PT)]) XE0 XG0 (All.cn 2 21 35 0 #[] (ffC (0)) XL0) (fun Q => ⟨sAlz 2 21 (zeroF _) (ff_zero), trivial⟩) ?_; intro bX fX w1 c1 a1 XG1 yx yA yB yV yO yF; obtain ⟨g2_1, e2⟩ := kp (yV 2 rfl) rfl; have XE1 := XE0.up yF yO (ck e2 kn); have XL1 := (All.cb (yA.nb 0 rfl e2 (yB 0 (by decide))) (yA.pk yB rfl [])); have XN1 := XN0.trans yx rfl; clear yx yA yB yV yO yF; show Code.wp _ _ _ _ _; refine wp_seq ?_; refine region_st [[], [0], [1], [2], [2], [], [3, 5], [4]] [3, 4, 5, 6, 7, 8, 9] [22] (tyvC [(3, PT), (4, (iE (mkE 1))), (5, (TyC.tup1 (ffC (mkV n 1)) (Value.int .i64 (mkE 1)))), (6, (iE n)), (7, (TyC.tup1 (ffC (mkV n 1)) (Value.int .i64 (mkE 1)))), (8, (ffC (mkV n 1))), (9, (iE (mkE 1)))]) XE1 XG1 (All.cn 3 22 35 6 #[.bool false, .slice none 0 0, .bool false, .slice none 0 0] (ffC (mkV n 1)) XL1) (fun Q => ⟨sMv 6 (rO 0), sC2 7 (rS 6 0) (rK (Value.int IntKind.i64 1)) (fun K h0 h1 => by cases h0; exact k_fof (n) (1) (by first | omega | assumption) (by first | omega | assumption)) Tryz.func21, sMv 5 (rS 7 1), sEx 8 (rS 5 2) ex10, sEx 9 (rS 5 2) ex11, sAl 3 22 (zeroF _), sStn 3 22 5 0 (rS 8 3) aggF (ff_str _), sMv 4 (rS 9 4), trivial⟩) ?_; intro bX fX w2 c2 a2 XG2 yx yA yB yV yO yF; obtain ⟨g3_2, e3⟩ := kp (yV 3 rfl) rfl; have XE2 := XE1.up yF yO (ck e3 kn); have XL2 := (All.cb (yA.nb 0 rfl e3 (yB 6 (by decide))) (yA.pk yB rfl [1])); have XN2 := XN1.trans yx rfl; clear yx yA yB yV yO yF; show Code.wp _ _ _ _ _; refine wp_seq ?_; refine region_st [[], [0]] [10] [21] (tyvC [(10, (ffC (mkV n 1)))]) XE2 XG2 (All.stg 1 1 (Fact.box g2_1 35 21 (ffC (mkV n 1))) XL2) (fun Q => ⟨sLb 10 (rO 3) 0 aggF (ff_str _), sSto 21 (rO 2) (rS 10 0) aggF (ff_str _) (fun K => BoxC.old (K.fac.sb0 1 rfl K.self) (ff_str _)) (fun K h0 => h0), trivial⟩) ?_; intro bX fX w3 c3 a3 XG3 yx yA yB yV yO yF; have XE3 := XE2.up yF yO kn; have XL3 := (yA.pk yB rfl [1]); have XN3 := XN2.trans yx rfl; clear yx yA yB yV yO yF; show Code.wp _ _ _ _ _; refine wp_ret ?_; (repeat (first | (with_reducible refine then_ret ?_) | (with_reducible refine inBlock_ret ?_) | (with_reducible refine then_normal ?_) | (with_reducible refine inBlock_normal ?_))); show bodyPost Tryz.prog Tryz.f22 _ Exit.ret a3 w3; obtain ⟨r0, hr0, hs0⟩ := BoxC.load (All.box XL3 0 rfl) aggF (ff_str _); subst hc0; exact bodyPost_ret (res_c rfl _ (XE3.at 2 rfl) hr0) XE3.2.1 ⟨_, rfl, hs0, XN3.new0⟩

theorem k_lwhole {w : World} {c : Colr} (n : Int) (hn : I64 n) : CV Tryz.prog 22 #[.int .i64 n] w c (ffC ((n : Int) : Rat)) := (t_lwhole w n hn).cv (pl_ff _)
set_option maxRecDepth 100000 in
set_option maxHeartbeats 4000000 in
theorem t_lequal (w : World) (v v' : Value) (x y : Rat) (h : (ffC x).sat v w (fun _ => 0)) (h' : (ffC y).sat v' w (fun _ => 0)) (henv : Env w) : CT0 Tryz.prog 41 #[v, v'] w (TyC.eq (Value.bool (ftx x == ftx y))) := by
 refine enter_st Tryz.func41 rfl Tryz.ntmps41 [(0, v), (1, v')] rfl ⟨rfl, rfl, trivial⟩ (Nat.le_of_ble_eq_true rfl) ?_; intro a0 XE0; obtain ⟨c0, hc0⟩ : ∃ c0 : Colr, c0 = fun _ => 0 := ⟨_, rfl⟩; have XG0 : GI w c0 := hc0 ▸ GI.zero w; have XN0 : Ext [21, 22] w c0 w c0 := Ext.refl rfl XG0; have XL0 : All [.s (Fact.val (ffC (x)) v), .s (Fact.val (ffC (y)) (v'))] b0 f0 w c0 := ⟨(hc0 ▸ h), (hc0 ▸ h'), trivial⟩; refine wp_seq ?_; refine region_st [[], [], []] [2, 3, 4] [21, 22] (tyvC [(2, PT), (3, PT), (4, (bE false))]) XE0 XG0 (All.cn 2 21 35 0 #[] (ffC (x)) (All.cn 3 22 35 1 #[] (ffC (y)) XL0)) (fun Q => ⟨sBox 2 21 (rO 0) (fun K h0 => bxs (ff_str _) (K.fac.val 2 rfl)), sBox 3 22 (rO 1) (fun K h0 => bxs (ff_str _) (K.fac.val 3 rfl)), sMv 4 (rK (Value.bool false)), trivial⟩) ?_; intro bX fX w1 c1 a1 XG1 yx yA yB yV yO yF; obtain ⟨g2_1, e2⟩ := kp (yV 2 rfl) rfl; obtain ⟨g3_1, e3⟩ := kp (yV 3 rfl) rfl; have XE1 := XE0.up yF yO (ck e2 (ck e3 (ck (kv (yV 4 rfl) rfl) kn))); have XL1 := (All.cb (yA.nb 0 rfl e2 (yB 0 (by decide))) (All.cb (yA.nb 1 rfl e3 (yB 1 (by decide))) (yA.pk yB rfl []))); have XN1 := XN0.trans yx rfl; clear yx yA yB yV yO yF; show Code.wp _ _ _ _ _; refine wp_seq ?_; refine region_st [[], [0], [], [2], [1, 3], [4]] [4, 5, 6, 7, 8, 9] [] (tyvC [(4, (TyC.eq (Value.bool (ftx x == ftx y)))), (5, (ffC (x))), (6, (TyC.eq (Value.string (St (ftx x))))), (7, (ffC (y))), (8, (TyC.eq (Value.string (St (ftx y))))), (9, (TyC.eq (Value.bool (ftx x == ftx y))))]) XE1 XG1 XL1 (fun Q => ⟨sLb 5 (rO 2) 0 aggF (ff_str _), sC1 6 (rS 5 0) (fun K h0 => k_fstring h0 (env_at henv (XN1.trans K.ext rfl) hc0).1) Tryz.func45, sLb 7 (rO 3) 1 aggF (ff_str _), sC1 8 (rS 7 2) (fun K h0 => k_fstring h0 (env_at henv (XN1.trans K.ext rfl) hc0).1) Tryz.func45, sBin 9 (rS 6 1) (rS 8 3) (fun h h' => ⟨h, h'⟩) (eqg_str _ _ _ _ _ _) (run_eqlS _ _ _), sMv 4 (rS 9 4), trivial⟩) ?_; intro bX fX w2 c2 a2 XG2 yx yA yB yV yO yF; have XE2 := XE1.up yF yO (ck (kv (yV 4 rfl) rfl) kn); have XL2 := (yA.pk yB rfl []); have XN2 := XN1.trans yx rfl; clear yx yA yB yV yO yF; show Code.wp _ _ _ _ _; refine wp_ret ?_; (repeat (first | (with_reducible refine then_ret ?_) | (with_reducible refine inBlock_ret ?_) | (with_reducible refine then_normal ?_) | (with_reducible refine inBlock_normal ?_))); show bodyPost Tryz.prog Tryz.f41 _ Exit.ret a2 w2; subst hc0; exact bodyPost_ret (res_t rfl _ (XE2.at 4 rfl)) XE2.2.1 ⟨_, rfl, rfl, XN2.new0⟩

theorem k_lequal {w : World} {c : Colr} {v v' : Value} {x y : Rat} (h : (ffC x).sat v w c) (h' : (ffC y).sat v' w c) (he : Env w) : CV Tryz.prog 41 #[v, v'] w c (TyC.eq (.bool (decide (x = y)))) := by
  rw [← ftx_beq]
  exact (t_lequal w v v' x y h h' he).cv (plain_eq _)
theorem k_leq {w : World} {c : Colr} {v v' : Value} {x y : Rat} (h : (ffC x).sat v w c) (h' : (ffC y).sat v' w c) (he : Env w) (e : x = y) : CV Tryz.prog 41 #[v, v'] w c (TyC.eq (.bool true)) := by
  have := k_lequal h h' he
  rwa [decide_eq_true e] at this
set_option maxRecDepth 100000 in
set_option maxHeartbeats 4000000 in
theorem t_llives (w : World) (henv : Env w) : CT0 Tryz.prog 24 #[] w (bE true) := by
 refine enter_st Tryz.func24 rfl Tryz.ntmps24 [] rfl trivial (Nat.le_of_ble_eq_true rfl) ?_; intro a0 XE0; obtain ⟨c0, hc0⟩ : ∃ c0 : Colr, c0 = fun _ => 0 := ⟨_, rfl⟩; have XG0 : GI w c0 := hc0 ▸ GI.zero w; have XN0 : Ext [21, 22, 23, 24, 25, 26, 27, 28, 29] w c0 w c0 := Ext.refl rfl XG0; have XL0 : All [] b0 f0 w c0 := trivial; refine wp_seq ?_; refine region_st [[]] [0] [] (tyvC [(0, (bE false))]) XE0 XG0 XL0 (fun Q => ⟨sMv 0 (rK (Value.bool false)), trivial⟩) ?_; intro bX fX w1 c1 a1 XG1 yx yA yB yV yO yF; have XE1 := XE0.up yF yO (ck (kv (yV 0 rfl) rfl) kn); have XL1 := (yA.pk yB rfl []); have XN1 := XN0.trans yx rfl; clear yx yA yB yV yO yF; show Code.wp _ _ _ _ _; refine wp_seq ?_; refine region_st [[], [0], [1], [1], [], [2, 4], [3]] [1, 2, 19, 20, 21, 22] [21] (tyvC [(1, PT), (2, (iE (mkE (-8)))), (19, (TyC.tup1 (ffC (mkV 6 (-8))) (Value.int .i64 (mkE (-8))))), (20, (TyC.tup1 (ffC (mkV 6 (-8))) (Value.int .i64 (mkE (-8))))), (21, (ffC (mkV 6 (-8)))), (22, (iE (mkE (-8))))]) XE1 XG1 (All.cn 1 21 35 5 #[.bool false, .slice none 0 0, .bool false, .slice none 0 0] (ffC (mkV 6 (-8))) XL1) (fun Q => ⟨sC2 20 (rK (Value.int IntKind.i64 6)) (rK (Value.int IntKind.i64 (-8))) (fun K h0 h1 => k_fof (6) (-8) (by first | omega | assumption) (by first | omega | assumption)) Tryz.func21, sMv 19 (rS 20 0), sEx 21 (rS 19 1) ex10, sEx 22 (rS 19 1) ex11, sAl 1 21 (zeroF _), sStn 1 21 4 0 (rS 21 2) aggF (ff_str _), sMv 2 (rS 22 3), trivial⟩) ?_; intro bX fX w2 c2 a2 XG2 yx yA yB yV yO yF; obtain ⟨g1_2, e1⟩ := kp (yV 1 rfl) rfl; have XE2 := XE1.up yF yO (ck e1 (ck (kv (yV 2 rfl) rfl) kn)); have XL2 := (All.cb (yA.nb 0 rfl e1 (yB 5 (by decide))) (yA.pk yB rfl [])); have XN2 := XN1.trans yx rfl; clear yx yA yB yV yO yF; show Code.wp _ _ _ _ _; refine wp_seq ?_; refine region_st [[], [0], [1], [1], [], [2, 4], [3]] [3, 4, 23, 24, 25, 26] [22] (tyvC [(3, PT), (4, (iE (mkE 2))), (23, (TyC.tup1 (ffC (mkV 1 2)) (Value.int .i64 (mkE 2)))), (24, (TyC.tup1 (ffC (mkV 1 2)) (Value.int .i64 (mkE 2)))), (25, (ffC (mkV 1 2))), (26, (iE (mkE 2)))]) XE2 XG2 (All.cn 3 22 35 5 #[.bool false, .slice none 0 0, .bool false, .slice none 0 0] (ffC (mkV 1 2)) XL2) (fun Q => ⟨sC2 24 (rK (Value.int IntKind.i64 1)) (rK (Value.int IntKind.i64 2)) (fun K h0 h1 => k_fof (1) (2) (by first | omega | assumption) (by first | omega | assumption)) Tryz.func21, sMv 23 (rS 24 0), sEx 25 (rS 23 1) ex10, sEx 26 (rS 23 1) ex11, sAl 3 22 (zeroF _), sStn 3 22 4 0 (rS 25 2) aggF (ff_str _), sMv 4 (rS 26 3), trivial⟩) ?_; intro bX fX w3 c3 a3 XG3 yx yA yB yV yO yF; obtain ⟨g3_3, e3⟩ := kp (yV 3 rfl) rfl; have XE3 := XE2.up yF yO (ck e3 kn); have XL3 := (All.cb (yA.nb 0 rfl e3 (yB 5 (by decide))) (yA.pk yB rfl [1])); have XN3 := XN2.trans yx rfl; clear yx yA yB yV yO yF; show Code.wp _ _ _ _ _; have hU1 := All.put (G := Fact.box g3_3 35 22 (ffC (qH))) 0 XL3 (BoxC.up (All.box XL3 0 rfl) (fun v hv => hv)); refine wp_seq ?_; refine region_st [[], [0], [1], [1], [], [2, 4], [3]] [5, 6, 27, 28, 29, 30] [23] (tyvC [(5, PT), (6, (iE (mkE 3))), (27, (TyC.tup1 (ffC (mkV 1 3)) (Value.int .i64 (mkE 3)))), (28, (TyC.tup1 (ffC (mkV 1 3)) (Value.int .i64 (mkE 3)))), (29, (ffC (mkV 1 3))), (30, (iE (mkE 3)))]) XE3 XG3 (All.cn 5 23 35 5 #[.bool false, .slice none 0 0, .bool false, .slice none 0 0] (ffC (mkV 1 3)) hU1) (fun Q => ⟨sC2 28 (rK (Value.int IntKind.i64 1)) (rK (Value.int IntKind.i64 3)) (fun K h0 h1 => k_fof (1) (3) (by first | omega | assumption) (by first | omega | assumption)) Tryz.func21, sMv 27 (rS 28 0), sEx 29 (rS 27 1) ex10, sEx 30 (rS 27 1) ex11, sAl 5 23 (zeroF _), sStn 5 23 4 0 (rS 29 2) aggF (ff_str _), sMv 6 (rS 30 3), trivial⟩) ?_
 intro bX fX w4 c4 a4 XG4 yx yA yB yV yO yF; obtain ⟨g5_4, e5⟩ := kp (yV 5 rfl) rfl; have XE4 := XE3.up yF yO (ck e5 kn); have XL4 := (All.cb (yA.nb 0 rfl e5 (yB 5 (by decide))) (yA.pk yB rfl [1, 2])); have XN4 := XN3.trans yx rfl; clear yx yA yB yV yO yF; show Code.wp _ _ _ _ _; have hU2 := All.put (G := Fact.box g5_4 35 23 (ffC (qT))) 0 XL4 (BoxC.up (All.box XL4 0 rfl) (fun v hv => hv)); refine wp_seq ?_; refine region_st [[], [], [0, 1], [2], [3], [3], [], [4, 6], [5]] [7, 8, 31, 32, 33, 34, 35, 36] [24] (tyvC [(7, PT), (8, (iE (addE qH qT))), (31, (TyC.tup1 (ffC (addV qH qT)) (Value.int .i64 (addE qH qT)))), (32, (ffC (qH))), (33, (ffC (qT))), (34, (TyC.tup1 (ffC (addV qH qT)) (Value.int .i64 (addE qH qT)))), (35, (ffC (addV qH qT))), (36, (iE (addE qH qT)))]) XE4 XG4 (All.cn 7 24 35 7 #[.bool false, .slice none 0 0, .bool false, .slice none 0 0] (ffC (addV qH qT)) hU2) (fun Q => ⟨sLb 32 (rO 3) 2 aggF (ff_str _), sLb 33 (rO 5) 1 aggF (ff_str _), sC2 34 (rS 32 0) (rS 33 1) (fun K h0 h1 => k_fadd h0 h1) Tryz.func28, sMv 31 (rS 34 2), sEx 35 (rS 31 3) ex10, sEx 36 (rS 31 3) ex11, sAl 7 24 (zeroF _), sStn 7 24 6 0 (rS 35 4) aggF (ff_str _), sMv 8 (rS 36 5), trivial⟩) ?_; intro bX fX w5 c5 a5 XG5 yx yA yB yV yO yF; obtain ⟨g7_5, e7⟩ := kp (yV 7 rfl) rfl; have XE5 := XE4.up yF yO (ck e7 (ck (kv (yV 8 rfl) rfl) kn)); have XL5 := (All.cb (yA.nb 0 rfl e7 (yB 7 (by decide))) (yA.pk yB rfl [1, 3])); have XN5 := XN4.trans yx rfl; clear yx yA yB yV yO yF; show Code.wp _ _ _ _ _; refine wp_seq ?_; refine region_st [[], [], [0, 1], [2], [3], [3], [], [4, 6], [5]] [9, 10, 37, 38, 39, 40, 41, 42] [25] (tyvC [(9, PT), (10, (iE (divE ((1 : Int) : Rat) ((0 : Int) : Rat)))), (37, (TyC.tup1 (ffC (divV ((1 : Int) : Rat) ((0 : Int) : Rat))) (Value.int .i64 (divE ((1 : Int) : Rat) ((0 : Int) : Rat))))), (38, (ffC (((1 : Int) : Rat)))), (39, (ffC (((0 : Int) : Rat)))), (40, (TyC.tup1 (ffC (divV ((1 : Int) : Rat) ((0 : Int) : Rat))) (Value.int .i64 (divE ((1 : Int) : Rat) ((0 : Int) : Rat))))), (41, (ffC (divV ((1 : Int) : Rat) ((0 : Int) : Rat)))), (42, (iE (divE ((1 : Int) : Rat) ((0 : Int) : Rat))))]) XE5 XG5 (All.cn 9 25 35 7 #[.bool false, .slice none 0 0, .bool false, .slice none 0 0] (ffC (divV ((1 : Int) : Rat) ((0 : Int) : Rat))) XL5) (fun Q => ⟨sC1 38 (rK (Value.int IntKind.i64 1)) (fun K h0 => k_lwhole 1 (by first | omega | assumption)) Tryz.func22, sC1 39 (rK (Value.int IntKind.i64 0)) (fun K h0 => k_lwhole 0 (by first | omega | assumption)) Tryz.func22, sC2 40 (rS 38 0) (rS 39 1) (fun K h0 h1 => k_fdiv h0 h1) Tryz.func34, sMv 37 (rS 40 2), sEx 41 (rS 37 3) ex10, sEx 42 (rS 37 3) ex11, sAl 9 25 (zeroF _), sStn 9 25 6 0 (rS 41 4) aggF (ff_str _), sMv 10 (rS 42 5), trivial⟩) ?_; intro bX fX w6 c6 a6 XG6 yx yA yB yV yO yF; have XE6 := XE5.up yF yO (ck (kv (yV 10 rfl) rfl) kn); have XL6 := (yA.pk yB rfl [1, 2, 3]); have XN6 := XN5.trans yx rfl; clear yx yA yB yV yO yF; show Code.wp _ _ _ _ _; refine wp_seq ?_; refine region_st [[], [], [0, 1], [2], [3], [3], [], [4, 6], [5]] [11, 12, 43, 44, 45, 46, 47, 48] [26] (tyvC [(11, PT), (12, (iE (addE ((1 : Int) : Rat) (-qT)))), (43, (TyC.tup1 (ffC (addV ((1 : Int) : Rat) (-qT))) (Value.int .i64 (addE ((1 : Int) : Rat) (-qT))))), (44, (ffC (((1 : Int) : Rat)))), (45, (ffC (qT))), (46, (TyC.tup1 (ffC (addV ((1 : Int) : Rat) (-qT))) (Value.int .i64 (addE ((1 : Int) : Rat) (-qT))))), (47, (ffC (addV ((1 : Int) : Rat) (-qT)))), (48, (iE (addE ((1 : Int) : Rat) (-qT))))]) XE6 XG6 (All.cn 11 26 35 7 #[.bool false, .slice none 0 0, .bool false, .slice none 0 0] (ffC (addV ((1 : Int) : Rat) (-qT))) XL6) (fun Q => ⟨sC1 44 (rK (Value.int IntKind.i64 1)) (fun K h0 => k_lwhole 1 (by first | omega | assumption)) Tryz.func22, sLb 45 (rO 5) 2 aggF (ff_str _), sC2 46 (rS 44 0) (rS 45 1) (fun K h0 h1 => k_fsub h0 h1) Tryz.func30, sMv 43 (rS 46 2), sEx 47 (rS 43 3) ex10, sEx 48 (rS 43 3) ex11, sAl 11 26 (zeroF _), sStn 11 26 6 0 (rS 47 4) aggF (ff_str _), sMv 12 (rS 48 5), trivial⟩) ?_
 intro bX fX w7 c7 a7 XG7 yx yA yB yV yO yF; obtain ⟨g11_7, e11⟩ := kp (yV 11 rfl) rfl; have XE7 := XE6.up yF yO (ck e11 kn); have XL7 := (All.cb (yA.nb 0 rfl e11 (yB 7 (by decide))) (yA.pk yB rfl [1, 3])); have XN7 := XN6.trans yx rfl; clear yx yA yB yV yO yF; show Code.wp _ _ _ _ _; refine wp_seq ?_; refine region_st [[], [0], [1], [2], [2], [], [3, 5], [4]] [13, 14, 49, 50, 51, 52, 53] [27] (tyvC [(13, PT), (14, (iE (powE (addV ((1 : Int) : Rat) (-qT)) 3))), (49, (TyC.tup1 (ffC (powV (addV ((1 : Int) : Rat) (-qT)) 3)) (Value.int .i64 (powE (addV ((1 : Int) : Rat) (-qT)) 3)))), (50, (ffC (addV ((1 : Int) : Rat) (-qT)))), (51, (TyC.tup1 (ffC (powV (addV ((1 : Int) : Rat) (-qT)) 3)) (Value.int .i64 (powE (addV ((1 : Int) : Rat) (-qT)) 3)))), (52, (ffC (powV (addV ((1 : Int) : Rat) (-qT)) 3))), (53, (iE (powE (addV ((1 : Int) : Rat) (-qT)) 3)))]) XE7 XG7 (All.cn 13 27 35 6 #[.bool false, .slice none 0 0, .bool false, .slice none 0 0] (ffC (powV (addV ((1 : Int) : Rat) (-qT)) 3)) XL7) (fun Q => ⟨sLb 50 (rO 11) 1 aggF (ff_str _), sC2 51 (rS 50 0) (rK (Value.int IntKind.i64 3)) (fun K h0 h1 => k_fpow (n := 3) (by first | omega | assumption) h0) Tryz.func39, sMv 49 (rS 51 1), sEx 52 (rS 49 2) ex10, sEx 53 (rS 49 2) ex11, sAl 13 27 (zeroF _), sStn 13 27 5 0 (rS 52 3) aggF (ff_str _), sMv 14 (rS 53 4), trivial⟩) ?_; intro bX fX w8 c8 a8 XG8 yx yA yB yV yO yF; obtain ⟨g13_8, e13⟩ := kp (yV 13 rfl) rfl; have XE8 := XE7.up yF yO (ck e13 (ck (kv (yV 14 rfl) rfl) kn)); have XL8 := (All.cb (yA.nb 0 rfl e13 (yB 6 (by decide))) (yA.pk yB rfl [2, 3])); have XN8 := XN7.trans yx rfl; clear yx yA yB yV yO yF; show Code.wp _ _ _ _ _; refine wp_seq ?_; refine region_st [[], [0], [1], [1], [], [2, 4], [3]] [15, 16, 54, 55, 56, 57] [28] (tyvC [(15, PT), (16, (iE (parE [50, 47, 52]))), (54, (TyC.tup1 (ffC (parV [50, 47, 52])) (Value.int .i64 (parE [50, 47, 52])))), (55, (TyC.tup1 (ffC (parV [50, 47, 52])) (Value.int .i64 (parE [50, 47, 52])))), (56, (ffC (parV [50, 47, 52]))), (57, (iE (parE [50, 47, 52])))]) XE8 XG8 (All.cn 15 28 35 5 #[.bool false, .slice none 0 0, .bool false, .slice none 0 0] (ffC (parV [50, 47, 52])) XL8) (fun Q => ⟨sC1 55 (rK (Value.string { data := #[50, 47, 52] })) (fun K h0 => k_fparse [50, 47, 52] (by decide) (env_at henv (XN8.trans K.ext rfl) hc0)) Tryz.func44, sMv 54 (rS 55 0), sEx 56 (rS 54 1) ex10, sEx 57 (rS 54 1) ex11, sAl 15 28 (zeroF _), sStn 15 28 4 0 (rS 56 2) aggF (ff_str _), sMv 16 (rS 57 3), trivial⟩) ?_; intro bX fX w9 c9 a9 XG9 yx yA yB yV yO yF; have XE9 := XE8.up yF yO (ck (kv (yV 16 rfl) rfl) kn); have XL9 := (yA.pk yB rfl [1, 2, 3]); have XN9 := XN8.trans yx rfl; clear yx yA yB yV yO yF; show Code.wp _ _ _ _ _; refine wp_seq ?_; refine region_st [[], [0], [1], [1], [], [2, 4], [3]] [17, 18, 58, 59, 60, 61] [29] (tyvC [(17, PT), (18, (iE (parE [51, 47, 49]))), (58, (TyC.tup1 (ffC (parV [51, 47, 49])) (Value.int .i64 (parE [51, 47, 49])))), (59, (TyC.tup1 (ffC (parV [51, 47, 49])) (Value.int .i64 (parE [51, 47, 49])))), (60, (ffC (parV [51, 47, 49]))), (61, (iE (parE [51, 47, 49])))]) XE9 XG9 (All.cn 17 29 35 5 #[.bool false, .slice none 0 0, .bool false, .slice none 0 0] (ffC (parV [51, 47, 49])) XL9) (fun Q => ⟨sC1 59 (rK (Value.string { data := #[51, 47, 49] })) (fun K h0 => k_fparse [51, 47, 49] (by decide) (env_at henv (XN9.trans K.ext rfl) hc0)) Tryz.func44, sMv 58 (rS 59 0), sEx 60 (rS 58 1) ex10, sEx 61 (rS 58 1) ex11, sAl 17 29 (zeroF _), sStn 17 29 4 0 (rS 60 2) aggF (ff_str _), sMv 18 (rS 61 3), trivial⟩) ?_
 intro bX fX w10 c10 a10 XG10 yx yA yB yV yO yF; have XE10 := XE9.up yF yO (ck (kv (yV 18 rfl) rfl) kn); have XL10 := (yA.pk yB rfl [1, 2, 3]); have XN10 := XN9.trans yx rfl; clear yx yA yB yV yO yF; show Code.wp _ _ _ _ _; refine wp_seq ?_; refine region_st [[], [0], [1], [2], [2, 3], [2, 4], [5], [6], [6, 7], [6, 8], [9], [10], [10, 11], [10, 12], [13], [14], [14, 15], [14, 16], [17], [18], [18, 19], [18, 20], [21], [22], [22, 23], [22, 24], [22, 25], [26], [27], [27, 28], [27, 29], [27, 30], [31], [32], [32, 33], [32, 34], [32, 35], [36]] [0, 62, 63, 64, 65, 66, 67, 68, 69, 70, 71, 72, 73, 74, 75, 76, 77, 78, 79, 80, 81, 82, 83, 84, 85, 86, 87, 88, 89, 90, 91, 92, 93, 94, 95, 96, 97, 98] [] (tyvC [(0, (bE true)), (62, (iE (mkE (-8)))), (63, (bE true)), (64, (bE true)), (65, (iE (addE qH qT))), (66, (bE true)), (67, (bE true)), (68, (bE true)), (69, (iE (divE ((1 : Int) : Rat) ((0 : Int) : Rat)))), (70, (bE true)), (71, (bE true)), (72, (bE true)), (73, (iE (powE (addV ((1 : Int) : Rat) (-qT)) 3))), (74, (bE true)), (75, (bE true)), (76, (bE true)), (77, (iE (parE [50, 47, 52]))), (78, (bE true)), (79, (bE true)), (80, (bE true)), (81, (iE (parE [51, 47, 49]))), (82, (bE true)), (83, (bE true)), (84, (bE true)), (85, (ffC (mkV 6 (-8)))), (86, (TyC.eq (Value.string (St (ftx (mkV 6 (-8))))))), (87, (bE true)), (88, (bE true)), (89, (bE true)), (90, (ffC (addV qH qT))), (91, (TyC.eq (Value.string (St (ftx (addV qH qT)))))), (92, (bE true)), (93, (bE true)), (94, (bE true)), (95, (ffC (powV (addV ((1 : Int) : Rat) (-qT)) 3))), (96, (TyC.eq (Value.string (St (ftx (powV (addV ((1 : Int) : Rat) (-qT)) 3)))))), (97, (bE true)), (98, (bE true))]) XE10 XG10 XL10 (fun Q => ⟨sMv 62 (rO 2), sBin 63 (z := Value.int .i64 (mkE (-8))) (z' := Value.int IntKind.i64 0) (u := Value.bool true) (rS 62 0) (rK (Value.int IntKind.i64 0)) (fun h h' => ⟨h, rfl⟩) (eqg_int _ _ _ _ _ _ _ _) (run_as (run_eql _ _ _ _) (by rw [show mkE (-8) = 0 from rfl]; rfl)), sMv 64 (rS 63 1), sMv 65 (rO 8), sBin 66 (z := Value.int .i64 (addE qH qT)) (z' := Value.int IntKind.i64 0) (u := Value.bool true) (rS 65 3) (rK (Value.int IntKind.i64 0)) (fun h h' => ⟨h, rfl⟩) (eqg_int _ _ _ _ _ _ _ _) (run_as (run_eql _ _ _ _) (by rw [sum_HT.2]; rfl)), sPkt 67 (rS 64 2) (rS 66 4), sMv 68 (rS 67 5), sMv 69 (rO 10), sBin 70 (z := Value.int .i64 (divE ((1 : Int) : Rat) ((0 : Int) : Rat))) (z' := Value.int IntKind.i64 1) (u := Value.bool true) (rS 69 7) (rK (Value.int IntKind.i64 1)) (fun h h' => ⟨h, rfl⟩) (eqg_int _ _ _ _ _ _ _ _) (run_as (run_eql _ _ _ _) (by rw [show divE ((1 : Int) : Rat) ((0 : Int) : Rat) = 1 from if_pos rfl]; rfl)), sPkt 71 (rS 68 6) (rS 70 8), sMv 72 (rS 71 9), sMv 73 (rO 14), sBin 74 (z := Value.int .i64 (powE (addV ((1 : Int) : Rat) (-qT)) 3)) (z' := Value.int IntKind.i64 0) (u := Value.bool true) (rS 73 11) (rK (Value.int IntKind.i64 0)) (fun h h' => ⟨h, rfl⟩) (eqg_int _ _ _ _ _ _ _ _) (run_as (run_eql _ _ _ _) (by rw [lv_h]; rfl)), sPkt 75 (rS 72 10) (rS 74 12), sMv 76 (rS 75 13), sMv 77 (rO 16), sBin 78 (z := Value.int .i64 (parE [50, 47, 52])) (z' := Value.int IntKind.i64 2) (u := Value.bool true) (rS 77 15) (rK (Value.int IntKind.i64 2)) (fun h h' => ⟨h, rfl⟩) (eqg_int _ _ _ _ _ _ _ _) (run_as (run_eql _ _ _ _) (by rw [lv_i]; rfl)), sPkt 79 (rS 76 14) (rS 78 16), sMv 80 (rS 79 17), sMv 81 (rO 18), sBin 82 (z := Value.int .i64 (parE [51, 47, 49])) (z' := Value.int IntKind.i64 2) (u := Value.bool true) (rS 81 19) (rK (Value.int IntKind.i64 2)) (fun h h' => ⟨h, rfl⟩) (eqg_int _ _ _ _ _ _ _ _) (run_as (run_eql _ _ _ _) (by rw [lv_j]; rfl)), sPkt 83 (rS 80 18) (rS 82 20), sMv 84 (rS 83 21), sLb 85 (rO 1) 2 aggF (ff_str _), sC1 86 (rS 85 23) (fun K h0 => k_fstring h0 (env_at henv (XN10.trans K.ext rfl) hc0).1) Tryz.func45, sBin 87 (z := Value.string (St (ftx (mkV 6 (-8))))) (z' := Value.string { data := #[45, 51, 47, 52] }) (u := Value.bool true) (rS 86 24) (rK (Value.string { data := #[45, 51, 47, 52] })) (fun h h' => ⟨h, rfl⟩) (eqg_str _ _ _ _ _ _) (run_as (run_eqlS _ _ [45, 51, 47, 52]) (by rw [lv_a]; rfl)), sPkt 88 (rS 84 22) (rS 87 25), sMv 89 (rS 88 26), sLb 90 (rO 7) 1 aggF (ff_str _), sC1 91 (rS 90 28) (fun K h0 => k_fstring h0 (env_at henv (XN10.trans K.ext rfl) hc0).1) Tryz.func45, sBin 92 (z := Value.string (St (ftx (addV qH qT)))) (z' := Value.string { data := #[53, 47, 54] }) (u := Value.bool true) (rS 91 29) (rK (Value.string { data := #[53, 47, 54] })) (fun h h' => ⟨h, rfl⟩) (eqg_str _ _ _ _ _ _) (run_as (run_eqlS _ _ [53, 47, 54]) (by rw [lv_b]; rfl)), sPkt 93 (rS 89 27) (rS 92 30), sMv 94 (rS 93 31), sLb 95 (rO 13) 0 aggF (ff_str _), sC1 96 (rS 95 33) (fun K h0 => k_fstring h0 (env_at henv (XN10.trans K.ext rfl) hc0).1) Tryz.func45, sBin 97 (z := Value.string (St (ftx (powV (addV ((1 : Int) : Rat) (-qT)) 3)))) (z' := Value.string { data := #[56, 47, 50, 55] }) (u := Value.bool true) (rS 96 34) (rK (Value.string { data := #[56, 47, 50, 55] })) (fun h h' => ⟨h, rfl⟩) (eqg_str _ _ _ _ _ _) (run_as (run_eqlS _ _ [56, 47, 50, 55]) (by rw [lv_c]; rfl)), sPkt 98 (rS 94 32) (rS 97 35), sMv 0 (rS 98 36), trivial⟩) ?_
 intro bX fX w11 c11 a11 XG11 yx yA yB yV yO yF; have XE11 := XE10.up yF yO (ck (kv (yV 0 rfl) rfl) kn); have XL11 := (yA.pk yB rfl []); have XN11 := XN10.trans yx rfl; clear yx yA yB yV yO yF; show Code.wp _ _ _ _ _; refine wp_ret ?_; (repeat (first | (with_reducible refine then_ret ?_) | (with_reducible refine inBlock_ret ?_) | (with_reducible refine then_normal ?_) | (with_reducible refine inBlock_normal ?_))); show bodyPost Tryz.prog Tryz.f24 _ Exit.ret a11 w11; subst hc0; exact bodyPost_ret (res_t rfl _ (XE11.at 0 rfl)) XE11.2.1 ⟨_, rfl, rfl, XN11.new0⟩

theorem k_llives {w : World} {c : Colr} (he : Env w) : CV Tryz.prog 24 #[] w c (TyC.eq (.bool true)) := (t_llives w he).cv (plain_eq _)
end Go.Proofs.YtmghfhkdfkdgkaaGreatDoor

namespace Go.Proofs.YtmghfhkdfkdgkaaGreatDoor
set_option linter.unusedVariables false
open Go.RowKit Go.Mem Go.Dig Go.Fr Go.Col

theorem num_lt {a b : Int} (hb : I64 b) {M : Nat} (hM : 1265 ≤ M) : (numV a b).natAbs < 2 ^ M := by
  have h0 : (2 : Nat) ^ 64 ≤ 2 ^ M := Nat.pow_le_pow_right (by omega) (by omega)
  have h64 : ∀ {z : Int}, z.natAbs < 18446744073709551616 → z.natAbs < 2 ^ M := fun h => Nat.lt_of_lt_of_le h h0
  unfold numV
  split
  · have h1 := Int.tmod_lt_of_pos b (show (0 : Int) < 60 by decide)
    have h2 : -60 < b.tmod 60 := Int.lt_tmod_of_pos b (show (0 : Int) < 60 by decide)
    exact h64 (by omega)
  · split
    · exact h64 (by omega)
    · have hi : ((a.tdiv 7).tmod 40).toNat ≤ 40 := by have := tmod40 (a.tdiv 7); omega
      have hb3 : (b + 3).natAbs < 2 ^ 64 := show (b + 3).natAbs < 18446744073709551616 by omega
      have hm : (mM ^ ((a.tdiv 7).tmod 40).toNat).natAbs < 2 ^ (30 * ((a.tdiv 7).tmod 40).toNat + 1) := by
        rw [Int.natAbs_pow, Nat.pow_succ, Nat.pow_mul]
        have h1 : mM.natAbs ^ ((a.tdiv 7).tmod 40).toNat ≤ (2 ^ 30) ^ ((a.tdiv 7).tmod 40).toNat := Nat.pow_le_pow_left (by decide) _
        have h2 : 0 < (2 ^ 30) ^ ((a.tdiv 7).tmod 40).toNat := Nat.pow_pos (by decide)
        omega
      exact Nat.lt_of_lt_of_le (nmul_lt hb3 hm) (Nat.pow_le_pow_right (by omega) (by omega))
/-- A fraction made from numbers is of at most 1265 bits. -/
theorem fracV_Fb {xs : List Int} (h : ∀ z ∈ xs, I64 z) (i : Int) {M : Nat} (hM : 1265 ≤ M) : Fb M (fracV xs i) := by
  have hn : ∀ j k, (numV (pk xs j) (pk xs k)).natAbs < 2 ^ M := fun j k => num_lt (pk_i64 h k) hM
  have h1 : (1 : Int).natAbs < 2 ^ M := Nat.lt_of_lt_of_le (show (1 : Nat) < 2 ^ 1 by decide) (Nat.pow_le_pow_right (by omega) (by omega))
  unfold fracV mkV
  have hq : (fracQ xs i).natAbs < 2 ^ M := by
    unfold fracQ
    split
    · exact h1
    · exact hn _ _
  split
  · rename_i h0
    exfalso
    unfold fracQ at h0
    split at h0 <;> omega
  · exact Fb.mk (hn _ _) hq (by omega)
section
variable {w : World} {c : Colr} {v v' : Value} {r r' s : Rat}
theorem k_faddin (h : (ffC r).sat v w c) (h' : (ffC r').sat v' w c) (ho : addOk r r') (e : r + r' = s) : CV Tryz.prog 28 #[v, v'] w c ((ffC s).tup1 (.int .i64 0)) := by
  have := k_fadd h h'
  rwa [show addV r r' = s from (if_pos ho).trans e, show addE r r' = 0 from if_pos ho] at this
theorem k_fsubin (h : (ffC r).sat v w c) (h' : (ffC r').sat v' w c) (ho : addOk r (-r')) (e : r + -r' = s) : CV Tryz.prog 30 #[v, v'] w c ((ffC s).tup1 (.int .i64 0)) := by
  have := k_fsub h h'
  rwa [show addV r (-r') = s from (if_pos ho).trans e, show addE r (-r') = 0 from if_pos ho] at this
theorem k_fmulin (h : (ffC r).sat v w c) (h' : (ffC r').sat v' w c) (ho : ft (r * r')) (e : r * r' = s) : CV Tryz.prog 32 #[v, v'] w c ((ffC s).tup1 (.int .i64 0)) := by
  have := k_fmul h h'
  rwa [show rgR (r * r') = s from (if_pos ho).trans e, show rgRE (r * r') = 0 from if_pos ho] at this
theorem k_fdivin (h : (ffC r).sat v w c) (h' : (ffC r').sat v' w c) (h0 : r' ≠ 0) (e : s * r' = r) (hs : ft s) : CV Tryz.prog 34 #[v, v'] w c ((ffC s).tup1 (.int .i64 0)) := by
  have hq : r / r' = s := by rw [← e, Rat.div_def, Rat.mul_assoc, Rat.mul_inv_cancel _ h0, Rat.mul_one]
  have := k_fdiv h h'
  rwa [show divV r r' = s from (if_neg h0).trans (by rw [hq]; exact if_pos hs), show divE r r' = 0 from (if_neg h0).trans (by rw [hq]; exact if_pos hs)] at this
end
end Go.Proofs.YtmghfhkdfkdgkaaGreatDoor

namespace Go
section
variable {H : Type} {enc : TypeId × Value → H}
theorem lift_and_shaped {a : Assume} {C : Checked} {os : Os} {f : FuncId} {fn : Func} {s : ChangeSpec} {conds : List PathCond} {apart fresh handsOn again : Bool} {X : World → Array Value → Prop}
    (hX : ∀ (w w' : World) (args : Array Value), w.heap = w'.heap → X w args → X w' args)
    (own : ownKnob C.prog.godebug = none) (started : os.Started) (noInit : C.prog.inits.idxOf? f = none) (hfn : C.prog.funcs[f]? = some fn)
    (witness : ∃ (w : World) (tape : Tape) (i : Input), w.os = os ∧ (w.forCall tape i).Shaped C.prog ∧ i.vars = [] ∧ Input.okWide C.prog (w.forCall tape i) .any w.heap.size f i ∧
      ((s.pre enc C.prog fn conds apart (w.forCall tape i).memory i.args ∧ X (w.forCall tape i).memory i.args) ∧ sizedMet enc C.prog fn (OpenSpec.ofChange s) apart (w.forCall tape i).memory i.args) ∧ a.holds C.prog (lone (Frame.enter C.prog f i.args .normal) [] (w.forCall tape i)))
    (contract : ∀ (W : World) (base : Nat) (args : Array Value) (ds gs : List (DataW H)) (before : List MemPlace), W.ShapedOpen C.prog →
      (∀ (j : Nat) t v, fn.params[j]? = some t → args[j]? = some v → Value.okWide C.prog W .any base t v) →
      DataW.Whole enc C.prog fn.params.toList s.vars apart W args.toList ds gs before →
      conds.all (PathCond.test C.prog ⟨fn.params.toList, ds, s.plain.varTypes C.prog, gs⟩) = true →
      (DataW.weightsEach C.prog (fn.params.toList ++ s.plain.varTypes C.prog) (ds ++ gs)).all (· ≤ reachBytes) = true → X W args →
      a.holds C.prog (lone (Frame.enter C.prog f args .normal) [] W) →
      Calls C.prog f args W fun e W' => ∃ v, e = .returned v ∧ s.post enc C.prog fn apart fresh handsOn again W args v W') :
    ReturnsInHanded a C os f .any (fun w args => (s.pre enc C.prog fn conds apart w args ∧ X w args) ∧ sizedMet enc C.prog fn (OpenSpec.ofChange s) apart w args) (s.post enc C.prog fn apart fresh handsOn again) := by
  refine returnsInHanded_of_calls own started noInit witness ?_
  intro w tape i _ hsh _ hok hpre hholds
  obtain ⟨_, _, _, fn', hfn', _, _, _, _, hval⟩ := hok
  have e : fn' = fn := Option.some.inj (hfn'.symm.trans hfn)
  subst e
  obtain ⟨⟨⟨ds, gs, before, hw, hc⟩, hx⟩, hz⟩ := hpre
  have hw' := DataW.Whole.of_heap (w' := w.forCall tape i) (by rfl) hw
  refine (contract (w.forCall tape i) w.heap.size i.args ds gs before hsh hval hw' hc (hz.weights hw) (hX _ _ _ (by rfl) hx) hholds).mono fun e W' ⟨v, he, hp⟩ => ?_
  subst he
  exact ChangeSpec.post_blind hp
end
end Go

namespace Go.Mem
open Go.RowKit

theorem row_rd {k : IntKind} {w : World} {a : Option Addr} {len cap : Nat} {zs : List Int}
    (h : (a = none ∧ len = 0 ∧ cap = 0 ∧ zs = []) ∨ ∃ x, a = some x ∧ len ≤ cap ∧ cap ≤ maxLen ∧ zs.length = cap ∧ (∀ i, i < zs.length → w.cell? (x.add i) = some (.int k (zs.getD i 0))) ∧ ∀ n ∈ zs, (Lit.int k n).wf = true) :
    Rd w a len ((zs.take len).map (Value.int k)) ∧ len ≤ cap ∧ cap ≤ maxLen ∧ ∀ n ∈ zs.take len, (Lit.int k n).wf = true := by
  rcases h with ⟨rfl, rfl, rfl, rfl⟩ | ⟨x, rfl, h1, h2, h3, h4, h5⟩
  · exact ⟨Rd.nil _ _, Nat.le_refl _, Nat.zero_le _, by simp⟩
  · refine ⟨⟨by simp; omega, fun hn => ⟨x, rfl, fun j u hu => ?_⟩⟩, h1, h2, fun n hn => h5 n (List.mem_of_mem_take hn)⟩
    rw [List.getElem?_map, List.getElem?_take] at hu
    split at hu
    · rename_i hj
      have hj' : j < zs.length := by omega
      rw [h4 j hj']
      rw [List.getElem?_eq_getElem hj'] at hu
      simp at hu
      subst hu
      simp [List.getD, List.getElem?_eq_getElem hj']
    · cases hu
theorem row_ints {w : World} {a : Option Addr} {len cap : Nat} {zs : List Int}
    (h : (a = none ∧ len = 0 ∧ cap = 0 ∧ zs = []) ∨ ∃ x, a = some x ∧ len ≤ cap ∧ cap ≤ maxLen ∧ zs.length = cap ∧ (∀ i, i < zs.length → w.cell? (x.add i) = some (.int .i64 (zs.getD i 0))) ∧ ∀ n ∈ zs, (Lit.int .i64 n).wf = true) :
    ∃ l : List Int, Rd w a len (is l) ∧ len ≤ cap ∧ cap ≤ maxLen ∧ ∀ z ∈ l, -9223372036854775808 ≤ z ∧ z ≤ 9223372036854775807 := by
  obtain ⟨h1, h2, h3, h4⟩ := row_rd h
  refine ⟨zs.take len, h1, h2, h3, fun z hz => ?_⟩
  have := h4 z hz
  simp [Lit.wf, IntKind.min, IntKind.max, IntKind.signed, IntKind.bits] at this
  omega
end Go.Mem
