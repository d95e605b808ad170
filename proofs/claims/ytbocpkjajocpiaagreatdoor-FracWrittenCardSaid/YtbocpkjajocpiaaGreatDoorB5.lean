/- The parts Rf3, Rf4, FrP, Rf5, ShelfB, FrQ, Rf6, FrL, Rl1, FrZ, FrO, FrW, RowV, Pure, Wr, PureRead of the proof, in one text. -/
import Derived.Shelf.Strings.Builder1
import Derived.Shelf.Strings.Builder2
import Derived.Shelf.Small.Bits
import Derived.Shelf.Small.Wraps
import Derived.Shelf.Strings.BuilderF
import Derived.Shelf.Strconv.Atoi
import Derived.Shelf.Strconv.Itoa0
import Derived.Shelf.Strconv.Itoa1
import Derived.Shelf.LaysM
import Derived.Shelf.Strconv.Itoa2
import Derived.Shelf.Strconv.Itoa3
import Derived.Shelf.Strings.Search1
import Derived.Shelf.Strings.Search2
import Derived.Shelf.Strings.Cut
import Derived.Shelf.Strings.Shaped
import Derived.Shelf.Strings.Prefix
import Derived.Shelf.Bits.Mul64
import Derived.Shelf.Strings.Repeat
import Derived.Test.YtbocpkjajocpiaaGreatDoorProg
import Derived.Deep.Upon
import Derived.WalkKit
import Derived.PlainAid
import Derived.Test.YtbocpkjajocpiaaGreatDoorB4
set_option linter.unusedSimpArgs false
set_option linter.unusedVariables false

namespace Go.Proofs.YtbocpkjajocpiaaGreatDoor
set_option linter.unusedVariables false
open Go.RowKit Go.Mem Go.Dig Go.Fr Go.Col

/-- -1, 0 or 1. -/
def unitB (x : Rat) : Bool := decide (dn x = 1 ∧ -1 ≤ x.num ∧ x.num ≤ 1)
theorem unit_no1 {x : Rat} (h : isInt x.num = false) : unitB x = false := by
  unfold isInt at h
  unfold unitB
  simp at h ⊢
  intro h1 h2
  omega
set_option maxRecDepth 100000 in
set_option maxHeartbeats 4000000 in
theorem t_pk (w : World) (A : Option Addr) (cp : Nat) (xs : List Int) (i : Int) (h : (intsC xs).sat (.slice A xs.length cp) w (fun _ => 0)) : CT0 Tryz.prog 28 #[Value.slice A xs.length cp, Value.int .i64 i] w (iE (pk xs i)) := by
 refine enter_st Tryz.func28 rfl Tryz.ntmps28 [(0, Value.slice A xs.length cp), (1, Value.int .i64 i)] rfl ⟨rfl, rfl, trivial⟩ (Nat.le_of_ble_eq_true rfl) ?_; intro a0 XE0; obtain ⟨c0, hc0⟩ : ∃ c0 : Colr, c0 = fun _ => 0 := ⟨_, rfl⟩; have XG0 : GI w c0 := hc0 ▸ GI.zero w; have XN0 : Ext [] w c0 w c0 := Ext.refl rfl XG0; have XL0 : All [.s (Fact.val (intsC xs) (Value.slice A xs.length cp))] b0 f0 w c0 := ⟨(hc0 ▸ h), trivial⟩; refine wp_seq ?_; refine region_st [[]] [4] [] (tyvC [(4, (iE 0))]) XE0 XG0 XL0 (fun Q => ⟨sMv 4 (rK (Value.int IntKind.i64 0)), trivial⟩) ?_; intro bX fX w1 c1 a1 XG1 yx yA yB yV yO yF; have XE1 := XE0.up yF yO (ck (kv (yV 4 rfl) rfl) kn); have XL1 := (yA.pk yB rfl [0]); have XN1 := XN0.trans yx rfl; clear yx yA yB yV yO yF; show Code.wp _ _ _ _ _; refine wp_seq ?_; refine wp_seq ?_; by_cases h0 : i < 0
 · have hp : pk xs i = 0 := if_pos (.inl h0)
   rw [hp]; refine region_st [[], [0], [1], [2], [2], [2], [2], [2]] [5, 6, 7, 8, 9, 10, 11, 12] [] (tyvC [(5, (iE i)), (6, (bE true)), (7, (bE true)), (8, uE), (9, uE), (10, uE), (11, uE), (12, (bE true))]) XE1 XG1 XL1 (fun Q => ⟨sMv 5 (rO 1), sBin 6 (z := Value.int .i64 i) (z' := Value.int IntKind.i64 0) (u := Value.bool true) (rS 5 0) (rK (Value.int IntKind.i64 0)) (fun h h' => ⟨h, rfl⟩) (eqg_int _ _ _ _ _ _ _ _) (run_as (run_lss _ _ _ _) (by simp [h0])), sMv 7 (rS 6 1), sNo 8, sNo 9, sNo 10, sNo 11, sPkt 12 (rS 7 2) (rK (Value.bool true)), trivial⟩) ?_; intro bX fX w2 c2 a2 XG2 yx yA yB yV yO yF; have XE2 := XE1.up yF yO (ck (kv (yV 12 rfl) rfl) kn); have XL2 := (yA.pk yB rfl [0]); have XN2 := XN1.trans yx rfl; clear yx yA yB yV yO yF; show Code.wp _ _ _ _ _; refine wp_cond (t := true) (XE2.at 12 rfl) ?_; refine wp_seq ?_; refine region_st [[]] [4] [] (tyvC [(4, (iE 0))]) XE2 XG2 XL2 (fun Q => ⟨sMv 4 (rK (Value.int IntKind.i64 0)), trivial⟩) ?_; intro bX fX w3 c3 a3 XG3 yx yA yB yV yO yF; have XE3 := XE2.up yF yO (ck (kv (yV 4 rfl) rfl) kn); have XL3 := (yA.pk yB rfl [0]); have XN3 := XN2.trans yx rfl; clear yx yA yB yV yO yF; show Code.wp _ _ _ _ _; refine wp_ret ?_; (repeat (first | (with_reducible refine then_ret ?_) | (with_reducible refine inBlock_ret ?_) | (with_reducible refine then_normal ?_) | (with_reducible refine inBlock_normal ?_))); show bodyPost Tryz.prog Tryz.f28 _ Exit.ret a3 w3; subst hc0; exact bodyPost_ret (res_t rfl _ (XE3.at 4 rfl)) XE3.2.1 ⟨_, rfl, rfl, XN3.new0⟩
 · by_cases h1 : (xs.length : Int) ≤ i
   · have hp : pk xs i = 0 := if_pos (.inr h1)
     rw [hp]; refine region_st [[], [0], [1], [2], [2], [2, 4], [2, 3, 5], [2, 6]] [5, 6, 7, 8, 9, 10, 11, 12] [] (tyvC [(5, (iE i)), (6, (bE false)), (7, (bE false)), (8, (iE i)), (9, (TyC.eq (Value.slice A xs.length cp))), (10, (iE (↑xs.length))), (11, (bE true)), (12, (bE true))]) XE1 XG1 XL1 (fun Q => ⟨sMv 5 (rO 1), sBin 6 (z := Value.int .i64 i) (z' := Value.int IntKind.i64 0) (u := Value.bool false) (rS 5 0) (rK (Value.int IntKind.i64 0)) (fun h h' => ⟨h, rfl⟩) (eqg_int _ _ _ _ _ _ _ _) (run_as (run_lss _ _ _ _) (by simp; omega)), sMv 7 (rS 6 1), sMv 8 (rO 1), sMv 9 (rO 0), sSlen 10 (rS 9 4) Tryz.underlying23 (fun K h => h), sBin 11 (z := Value.int .i64 i) (z' := Value.int .i64 (↑xs.length)) (u := Value.bool true) (rS 8 3) (rS 10 5) (fun h h' => ⟨h, h'⟩) (eqg_int _ _ _ _ _ _ _ _) (run_as (run_geq _ _ _ _) (by simp; omega)), sPkf 12 (rS 7 2) (rS 11 6), trivial⟩) ?_; intro bX fX w4 c4 a4 XG4 yx yA yB yV yO yF; have XE4 := XE1.up yF yO (ck (kv (yV 12 rfl) rfl) kn); have XL4 := (yA.pk yB rfl [0]); have XN4 := XN1.trans yx rfl; clear yx yA yB yV yO yF; show Code.wp _ _ _ _ _; refine wp_cond (t := true) (XE4.at 12 rfl) ?_; refine wp_seq ?_; refine region_st [[]] [4] [] (tyvC [(4, (iE 0))]) XE4 XG4 XL4 (fun Q => ⟨sMv 4 (rK (Value.int IntKind.i64 0)), trivial⟩) ?_; intro bX fX w5 c5 a5 XG5 yx yA yB yV yO yF; have XE5 := XE4.up yF yO (ck (kv (yV 4 rfl) rfl) kn); have XL5 := (yA.pk yB rfl [0]); have XN5 := XN4.trans yx rfl; clear yx yA yB yV yO yF; show Code.wp _ _ _ _ _; refine wp_ret ?_; (repeat (first | (with_reducible refine then_ret ?_) | (with_reducible refine inBlock_ret ?_) | (with_reducible refine then_normal ?_) | (with_reducible refine inBlock_normal ?_))); show bodyPost Tryz.prog Tryz.f28 _ Exit.ret a5 w5; subst hc0; exact bodyPost_ret (res_t rfl _ (XE5.at 4 rfl)) XE5.2.1 ⟨_, rfl, rfl, XN5.new0⟩
   · have hp : pk xs i = xs.getD i.toNat 0 := if_neg (by omega)
     rw [hp]; refine region_st [[], [0], [1], [2], [2], [2, 4], [2, 3, 5], [2, 6]] [5, 6, 7, 8, 9, 10, 11, 12] [] (tyvC [(5, (iE i)), (6, (bE false)), (7, (bE false)), (8, (iE i)), (9, (TyC.eq (Value.slice A xs.length cp))), (10, (iE (↑xs.length))), (11, (bE false)), (12, (bE false))]) XE1 XG1 XL1 (fun Q => ⟨sMv 5 (rO 1), sBin 6 (z := Value.int .i64 i) (z' := Value.int IntKind.i64 0) (u := Value.bool false) (rS 5 0) (rK (Value.int IntKind.i64 0)) (fun h h' => ⟨h, rfl⟩) (eqg_int _ _ _ _ _ _ _ _) (run_as (run_lss _ _ _ _) (by simp; omega)), sMv 7 (rS 6 1), sMv 8 (rO 1), sMv 9 (rO 0), sSlen 10 (rS 9 4) Tryz.underlying23 (fun K h => h), sBin 11 (z := Value.int .i64 i) (z' := Value.int .i64 (↑xs.length)) (u := Value.bool false) (rS 8 3) (rS 10 5) (fun h h' => ⟨h, h'⟩) (eqg_int _ _ _ _ _ _ _ _) (run_as (run_geq _ _ _ _) (by simp; omega)), sPkf 12 (rS 7 2) (rS 11 6), trivial⟩) ?_; intro bX fX w6 c6 a6 XG6 yx yA yB yV yO yF; have XE6 := XE1.up yF yO (ck (kv (yV 12 rfl) rfl) kn); have XL6 := (yA.pk yB rfl [0]); have XN6 := XN1.trans yx rfl; clear yx yA yB yV yO yF; show Code.wp _ _ _ _ _; refine wp_cond (t := false) (XE6.at 12 rfl) ?_; refine wp_skip ?_; show Code.wp _ _ _ _ _; refine wp_seq ?_; refine region_st [[], [], [0, 1], [2], [3]] [4, 13, 14, 15, 16] [] (tyvC [(4, (iE (xs.getD (i).toNat 0))), (13, (TyC.eq (Value.slice A xs.length cp))), (14, (iE i)), (15, (refIC (xs.getD (i).toNat 0))), (16, (iE (xs.getD (i).toNat 0)))]) XE6 XG6 XL6 (fun Q => ⟨sMv 13 (rO 0), sMv 14 (rO 1), sIx 15 (rS 13 0) (rS 14 1) (fun K h0 h1 => by cases h0; cases h1; exact ints_index (xs := xs) (i := i) (K.fac.val 0 rfl) (by omega) (by omega)), sLd 16 (rS 15 2) (fun K h0 => refI_load h0), sMv 4 (rS 16 3), trivial⟩) ?_; intro bX fX w7 c7 a7 XG7 yx yA yB yV yO yF; have XE7 := XE6.up yF yO (ck (kv (yV 4 rfl) rfl) kn); have XL7 := (yA.pk yB rfl []); have XN7 := XN6.trans yx rfl; clear yx yA yB yV yO yF; show Code.wp _ _ _ _ _; refine wp_ret ?_; (repeat (first | (with_reducible refine then_ret ?_) | (with_reducible refine inBlock_ret ?_) | (with_reducible refine then_normal ?_) | (with_reducible refine inBlock_normal ?_))); show bodyPost Tryz.prog Tryz.f28 _ Exit.ret a7 w7; subst hc0; exact bodyPost_ret (res_t rfl _ (XE7.at 4 rfl)) XE7.2.1 ⟨_, rfl, rfl, XN7.new0⟩

theorem k_pk {w : World} {c : Colr} {v : Value} {xs : List Int} {i : Int} (h : (intsC xs).sat v w c) : CV Tryz.prog 28 #[v, .int .i64 i] w c (TyC.eq (.int .i64 (pk xs i))) := by
  obtain ⟨A, cp, rfl, h2, h3, h4, _⟩ := h
  exact (t_pk w A cp xs i ⟨A, cp, rfl, h2, h3, h4, fun _ _ _ => rfl⟩).cv (plain_eq _)

set_option maxRecDepth 100000 in
set_option maxHeartbeats 4000000 in
theorem t_number (w : World) (a b : Int) (ha : I64 a) (hb : I64 b) : CT0 Tryz.prog 27 #[Value.int .i64 a, Value.int .i64 b] w (rfC (numV a b)) := by
 refine enter_st Tryz.func27 rfl Tryz.ntmps27 [(0, Value.int .i64 a), (1, Value.int .i64 b)] rfl ⟨rfl, rfl, trivial⟩ (Nat.le_of_ble_eq_true rfl) ?_; intro a0 XE0; obtain ⟨c0, hc0⟩ : ∃ c0 : Colr, c0 = fun _ => 0 := ⟨_, rfl⟩; have XG0 : GI w c0 := hc0 ▸ GI.zero w; have XN0 : Ext [21, 22] w c0 w c0 := Ext.refl rfl XG0; have XL0 : All [] b0 f0 w c0 := trivial; refine wp_seq ?_; refine region_st [[]] [4] [21] (tyvC [(4, PT)]) XE0 XG0 (All.cn 4 21 26 0 #[] (rfC (0)) XL0) (fun Q => ⟨sAlz 4 21 (zeroN _) (rf_zero), trivial⟩) ?_; intro bX fX w1 c1 a1 XG1 yx yA yB yV yO yF; obtain ⟨g4_1, e4⟩ := kp (yV 4 rfl) rfl; have XE1 := XE0.up yF yO (ck e4 kn); have XL1 := (All.cb (yA.nb 0 rfl e4 (yB 0 (by decide))) (yA.pk yB rfl [])); have XN1 := XN0.trans yx rfl; clear yx yA yB yV yO yF; show Code.wp _ _ _ _ _; refine wp_seq ?_; refine region_st [[], [0], [1]] [5, 8, 9] [] (tyvC [(5, (iE (Int.tmod a 7))), (8, (iE a)), (9, (iE (Int.tmod a 7)))]) XE1 XG1 XL1 (fun Q => ⟨sMv 8 (rO 0), sBin 9 (z := Value.int .i64 a) (z' := Value.int IntKind.i64 7) (u := Value.int .i64 (Int.tmod a 7)) (rS 8 0) (rK (Value.int IntKind.i64 7)) (fun h h' => ⟨h, rfl⟩) (eqg_int _ _ _ _ _ _ _ _) (run_rem_i _ _ _ (by decide)), sMv 5 (rS 9 1), trivial⟩) ?_; intro bX fX w2 c2 a2 XG2 yx yA yB yV yO yF; have XE2 := XE1.up yF yO (ck (kv (yV 5 rfl) rfl) kn); have XL2 := (yA.pk yB rfl [0]); have XN2 := XN1.trans yx rfl; clear yx yA yB yV yO yF; show Code.wp _ _ _ _ _; refine wp_join (M := fun aZ wZ => ∃ (cZ : Colr), Ev 38 aZ (mof [(5, Value.int .i64 (a % 7)), (4, Value.pointer (some ⟨g4_1, 0, none⟩)), (0, Value.int .i64 a), (1, Value.int .i64 b)]) ∧ GI wZ cZ ∧ Ext [21, 22] w c0 wZ cZ ∧ All [.s (Fact.box g4_1 26 21 (rfC (0)))] b0 f0 wZ cZ) ?_ ?_
 · by_cases hn : a.tmod 7 < 0
   · skip
     refine wp_seq ?_; refine region_st [[], [0]] [10, 11] [] (tyvC [(10, (iE (Int.tmod a 7))), (11, (bE true))]) XE2 XG2 XL2 (fun Q => ⟨sMv 10 (rO 5), sBin 11 (z := Value.int .i64 (Int.tmod a 7)) (z' := Value.int IntKind.i64 0) (u := Value.bool true) (rS 10 0) (rK (Value.int IntKind.i64 0)) (fun h h' => ⟨h, rfl⟩) (eqg_int _ _ _ _ _ _ _ _) (run_as (run_lss _ _ _ _) (by simp [hn])), trivial⟩) ?_; intro bX fX w3 c3 a3 XG3 yx yA yB yV yO yF; have XE3 := XE2.up yF yO (ck (kv (yV 11 rfl) rfl) kn); have XL3 := (yA.pk yB rfl [0]); have XN3 := XN2.trans yx rfl; clear yx yA yB yV yO yF; show Code.wp _ _ _ _ _; refine wp_cond (t := true) (XE3.at 11 rfl) ?_; refine region_st [[], [0], [0, 1]] [5, 12, 13] [] (tyvC [(5, (iE (a % 7))), (12, (iE (Int.tmod a 7))), (13, (iE (a % 7)))]) XE3 XG3 XL3 (fun Q => ⟨sMv 12 (rP 5 2), sBin 13 (z := Value.int .i64 (Int.tmod a 7)) (z' := Value.int IntKind.i64 7) (u := Value.int .i64 (a % 7)) (rS 12 0) (rK (Value.int IntKind.i64 7)) (fun h h' => ⟨h, rfl⟩) (eqg_int _ _ _ _ _ _ _ _) (run_as (run_add' _ _ _) (by rw [(tmod7 a).1 hn, IntWalk.i64_in _ (by omega)])), sMv 5 (rS 13 1), trivial⟩) ?_; intro bX fX w4 c4 a4 XG4 yx yA yB yV yO yF; have XE4 := XE3.up yF yO (ck (kv (yV 5 rfl) rfl) kn); have XL4 := (yA.pk yB rfl [0]); have XN4 := XN3.trans yx rfl; clear yx yA yB yV yO yF; (repeat (first | (with_reducible refine inBlock_normal ?_) | (with_reducible refine then_normal ?_))); exact ⟨c4, (Ev.sub XE4 _ ⟨rfl, rfl, rfl, rfl, trivial⟩), XG4, XN4, ⟨(All.box XL4 0 rfl), trivial⟩⟩
   · skip
     refine wp_seq ?_; refine region_st [[], [0]] [10, 11] [] (tyvC [(10, (iE (Int.tmod a 7))), (11, (bE false))]) XE2 XG2 XL2 (fun Q => ⟨sMv 10 (rO 5), sBin 11 (z := Value.int .i64 (Int.tmod a 7)) (z' := Value.int IntKind.i64 0) (u := Value.bool false) (rS 10 0) (rK (Value.int IntKind.i64 0)) (fun h h' => ⟨h, rfl⟩) (eqg_int _ _ _ _ _ _ _ _) (run_as (run_lss _ _ _ _) (by simp [hn])), trivial⟩) ?_; intro bX fX w5 c5 a5 XG5 yx yA yB yV yO yF; have XE5 := XE2.up yF yO (ck (kv (yV 11 rfl) rfl) kn); have XL5 := (yA.pk yB rfl [0]); have XN5 := XN2.trans yx rfl; clear yx yA yB yV yO yF; show Code.wp _ _ _ _ _; refine wp_cond (t := false) (XE5.at 11 rfl) ?_; refine wp_skip ?_; have hR1 := XE5.re 5 rfl (by rw [(tmod7 a).2 hn] : Value.int .i64 (Int.tmod a 7) = Value.int .i64 (a % 7)); (repeat (first | (with_reducible refine inBlock_normal ?_) | (with_reducible refine then_normal ?_))); exact ⟨c5, (Ev.sub hR1 _ ⟨rfl, rfl, rfl, rfl, trivial⟩), XG5, XN5, ⟨(All.box XL5 0 rfl), trivial⟩⟩
 · skip
   intro ar1 wr1; rintro ⟨cr1, XEr1, XGr1, XNr1, XLr1⟩; show Code.wp _ _ _ _ _; refine wp_seq ?_; refine wp_seq ?_; by_cases h4 : a % 7 < 4
   · have hv : numV a b = b.tmod 60 := if_pos h4
     rw [hv]; have h60 := Int.tmod_lt_of_pos b (show (0 : Int) < 60 by decide); have h61 := Int.lt_tmod_of_pos b (show (0 : Int) < 60 by decide); refine region_st [[], [0]] [14, 15] [] (tyvC [(14, (iE (a % 7))), (15, (bE true))]) XEr1 XGr1 XLr1 (fun Q => ⟨sMv 14 (rO 5), sBin 15 (z := Value.int .i64 (a % 7)) (z' := Value.int IntKind.i64 4) (u := Value.bool true) (rS 14 0) (rK (Value.int IntKind.i64 4)) (fun h h' => ⟨h, rfl⟩) (eqg_int _ _ _ _ _ _ _ _) (run_as (run_lss _ _ _ _) (by simp [h4])), trivial⟩) ?_; intro bX fX w6 c6 a6 XG6 yx yA yB yV yO yF; have XE6 := XEr1.up yF yO (ck (kv (yV 15 rfl) rfl) kn); have XL6 := (yA.pk yB rfl [0]); have XN6 := XNr1.trans yx rfl; clear yx yA yB yV yO yF; show Code.wp _ _ _ _ _; refine wp_cond (t := true) (XE6.at 15 rfl) ?_; refine wp_seq ?_; refine region_st [[], [0], [1], [2]] [16, 17, 18] [21] (tyvC [(16, (iE b)), (17, (iE (Int.tmod b 60))), (18, (rfC (Int.tmod b 60)))]) XE6 XG6 (All.stg 0 3 (Fact.box g4_1 26 21 (rfC (Int.tmod b 60))) XL6) (fun Q => ⟨sMv 16 (rO 1), sBin 17 (z := Value.int .i64 b) (z' := Value.int IntKind.i64 60) (u := Value.int .i64 (Int.tmod b 60)) (rS 16 0) (rK (Value.int IntKind.i64 60)) (fun h h' => ⟨h, rfl⟩) (eqg_int _ _ _ _ _ _ _ _) (run_rem_i _ _ _ (by decide)), sC1 18 (rS 17 1) (fun K h0 => by cases h0; exact k_of (Int.tmod b 60) (by first | omega | assumption)) Tryz.func15, sSto 21 (rO 4) (rS 18 2) aggN (rf_str' _) (fun K => BoxC.old (K.fac.sb0 0 rfl K.self) (rf_str' _)) (fun K h0 => h0), trivial⟩) ?_; intro bX fX w7 c7 a7 XG7 yx yA yB yV yO yF; have XE7 := XE6.up yF yO kn; have XL7 := (yA.pk yB rfl [0]); have XN7 := XN6.trans yx rfl; clear yx yA yB yV yO yF; show Code.wp _ _ _ _ _; refine wp_ret ?_; (repeat (first | (with_reducible refine then_ret ?_) | (with_reducible refine inBlock_ret ?_) | (with_reducible refine then_normal ?_) | (with_reducible refine inBlock_normal ?_))); show bodyPost Tryz.prog Tryz.f27 _ Exit.ret a7 w7; obtain ⟨r0, hr0, hs0⟩ := BoxC.load (All.box XL7 0 rfl) aggN (rf_str' _); subst hc0; exact bodyPost_ret (res_c rfl _ (XE7.at 4 rfl) hr0) XE7.2.1 ⟨_, rfl, hs0, XN7.new0⟩
   · skip
     refine region_st [[], [0]] [14, 15] [] (tyvC [(14, (iE (a % 7))), (15, (bE false))]) XEr1 XGr1 XLr1 (fun Q => ⟨sMv 14 (rO 5), sBin 15 (z := Value.int .i64 (a % 7)) (z' := Value.int IntKind.i64 4) (u := Value.bool false) (rS 14 0) (rK (Value.int IntKind.i64 4)) (fun h h' => ⟨h, rfl⟩) (eqg_int _ _ _ _ _ _ _ _) (run_as (run_lss _ _ _ _) (by simp; omega)), trivial⟩) ?_; intro bX fX w8 c8 a8 XG8 yx yA yB yV yO yF; have XE8 := XEr1.up yF yO (ck (kv (yV 15 rfl) rfl) kn); have XL8 := (yA.pk yB rfl [0]); have XN8 := XNr1.trans yx rfl; clear yx yA yB yV yO yF; show Code.wp _ _ _ _ _; refine wp_cond (t := false) (XE8.at 15 rfl) ?_; refine wp_skip ?_; show Code.wp _ _ _ _ _; refine wp_seq ?_; refine wp_seq ?_; by_cases h6 : a % 7 < 6
     · have hv : numV a b = b := (if_neg h4).trans (if_pos h6)
       rw [hv]; refine region_st [[], [0]] [19, 20] [] (tyvC [(19, (iE (a % 7))), (20, (bE true))]) XE8 XG8 XL8 (fun Q => ⟨sMv 19 (rO 5), sBin 20 (z := Value.int .i64 (a % 7)) (z' := Value.int IntKind.i64 6) (u := Value.bool true) (rS 19 0) (rK (Value.int IntKind.i64 6)) (fun h h' => ⟨h, rfl⟩) (eqg_int _ _ _ _ _ _ _ _) (run_as (run_lss _ _ _ _) (by simp [h6])), trivial⟩) ?_; intro bX fX w9 c9 a9 XG9 yx yA yB yV yO yF; have XE9 := XE8.up yF yO (ck (kv (yV 20 rfl) rfl) kn); have XL9 := (yA.pk yB rfl [0]); have XN9 := XN8.trans yx rfl; clear yx yA yB yV yO yF; show Code.wp _ _ _ _ _; refine wp_cond (t := true) (XE9.at 20 rfl) ?_; refine wp_seq ?_; refine region_st [[], [0], [1]] [21, 22] [21] (tyvC [(21, (iE b)), (22, (rfC (b)))]) XE9 XG9 (All.stg 0 2 (Fact.box g4_1 26 21 (rfC (b))) XL9) (fun Q => ⟨sMv 21 (rO 1), sC1 22 (rS 21 0) (fun K h0 => by cases h0; exact k_of (b) (by first | omega | assumption)) Tryz.func15, sSto 21 (rO 4) (rS 22 1) aggN (rf_str' _) (fun K => BoxC.old (K.fac.sb0 0 rfl K.self) (rf_str' _)) (fun K h0 => h0), trivial⟩) ?_; intro bX fX w10 c10 a10 XG10 yx yA yB yV yO yF; have XE10 := XE9.up yF yO kn; have XL10 := (yA.pk yB rfl [0]); have XN10 := XN9.trans yx rfl; clear yx yA yB yV yO yF; show Code.wp _ _ _ _ _; refine wp_ret ?_; (repeat (first | (with_reducible refine then_ret ?_) | (with_reducible refine inBlock_ret ?_) | (with_reducible refine then_normal ?_) | (with_reducible refine inBlock_normal ?_))); show bodyPost Tryz.prog Tryz.f27 _ Exit.ret a10 w10; obtain ⟨r0, hr0, hs0⟩ := BoxC.load (All.box XL10 0 rfl) aggN (rf_str' _); subst hc0; exact bodyPost_ret (res_c rfl _ (XE10.at 4 rfl) hr0) XE10.2.1 ⟨_, rfl, hs0, XN10.new0⟩
     · have hv : numV a b = (b + 3) * mM ^ ((a.tdiv 7).tmod 40).toNat := (if_neg h4).trans (if_neg h6)
       rw [hv]; refine region_st [[], [0]] [19, 20] [] (tyvC [(19, (iE (a % 7))), (20, (bE false))]) XE8 XG8 XL8 (fun Q => ⟨sMv 19 (rO 5), sBin 20 (z := Value.int .i64 (a % 7)) (z' := Value.int IntKind.i64 6) (u := Value.bool false) (rS 19 0) (rK (Value.int IntKind.i64 6)) (fun h h' => ⟨h, rfl⟩) (eqg_int _ _ _ _ _ _ _ _) (run_as (run_lss _ _ _ _) (by simp; omega)), trivial⟩) ?_; intro bX fX w11 c11 a11 XG11 yx yA yB yV yO yF; have XE11 := XE8.up yF yO (ck (kv (yV 20 rfl) rfl) kn); have XL11 := (yA.pk yB rfl [0]); have XN11 := XN8.trans yx rfl; clear yx yA yB yV yO yF; show Code.wp _ _ _ _ _; refine wp_cond (t := false) (XE11.at 20 rfl) ?_; refine wp_skip ?_; show Code.wp _ _ _ _ _; refine wp_seq ?_; refine region_st [[], [0], [], [1, 2], [], [3, 4]] [6, 23, 24, 25, 26] [22] (tyvC [(6, PT), (23, (iE b)), (24, (rfC (b))), (25, (rfC (3))), (26, (rbC (b + 3)))]) XE11 XG11 (All.cn 6 22 26 5 #[.bool false, .slice none 0 0] (rbC (b + 3)) XL11) (fun Q => ⟨sMv 23 (rO 1), sC1 24 (rS 23 0) (fun K h0 => by cases h0; exact k_of (b) (by first | omega | assumption)) Tryz.func15, sC1 25 (rK (Value.int IntKind.i64 3)) (fun K h0 => k_of (3) (by first | omega | assumption)) Tryz.func15, sC2 26 (rS 24 1) (rS 25 2) (fun K h0 h1 => k_radd h0 h1) Tryz.func71, sAl 6 22 (zeroN _), sStn 6 22 4 0 (rS 26 3) aggN (rb_str _), trivial⟩) ?_; intro bX fX w12 c12 a12 XG12 yx yA yB yV yO yF; obtain ⟨g6_12, e6⟩ := kp (yV 6 rfl) rfl; have XE12 := XE11.up yF yO (ck e6 kn); have XL12 := (All.cb (yA.nb 0 rfl e6 (yB 5 (by decide))) (yA.pk yB rfl [1])); have XN12 := XN11.trans yx rfl; clear yx yA yB yV yO yF; show Code.wp _ _ _ _ _; have hU2 := All.put (G := Fact.box g6_12 26 22 (rfC ((b + 3) * mM ^ 0))) 0 XL12 (BoxC.up (All.box XL12 0 rfl) (fun v hv => rf_cast (show b + 3 = (b + 3) * mM ^ 0 by rw [Int.pow_zero, Int.mul_one]) (rb_up hv (by have := fit_num hb (i := 0) (by omega); rwa [Int.pow_zero, Int.mul_one] at this)))); refine wp_seq ?_; refine wp_seq ?_; refine region_st [[]] [7] [] (tyvC [(7, (iE 0))]) XE12 XG12 hU2 (fun Q => ⟨sMv 7 (rK (Value.int IntKind.i64 0)), trivial⟩) ?_; intro bX fX w13 c13 a13 XG13 yx yA yB yV yO yF; have XE13 := XE12.up yF yO (ck (kv (yV 7 rfl) rfl) kn); have XL13 := (yA.pk yB rfl [0, 1]); have XN13 := XN12.trans yx rfl; clear yx yA yB yV yO yF; show Code.wp _ _ _ _ _; refine wp_block ?_; have hK := tmod40 (a.tdiv 7); refine loop_ghost (fun nZ aZ wZ => ∃ (cZ : Colr) (k : Nat), Ev 38 aZ (mof [(7, Value.int .i64 (↑k)), (6, Value.pointer (some ⟨g6_12, 0, none⟩)), (20, Value.bool false), (15, Value.bool false), (4, Value.pointer (some ⟨g4_1, 0, none⟩)), (0, Value.int .i64 a)]) ∧ GI wZ cZ ∧ Ext [21, 22] w c0 wZ cZ ∧ All [.s (Fact.box g6_12 26 22 (rfC ((b + 3) * mM ^ k))), .s (Fact.box g4_1 26 21 (rfC (0)))] b0 f0 wZ cZ ∧ (k ≤ ((a.tdiv 7).tmod 40).toNat) ∧ (((a.tdiv 7).tmod 40).toNat - k = nZ)) (((a.tdiv 7).tmod 40).toNat) ⟨c13, 0, (Ev.sub XE13 _ ⟨rfl, rfl, rfl, rfl, rfl, rfl, trivial⟩), XG13, XN13, ⟨(All.box XL13 0 rfl), (All.box XL13 1 rfl), trivial⟩, Nat.zero_le _, rfl⟩ ?_
       intro n_ ar2 wr2; rintro ⟨cr2, k, XEr2, XGr2, XNr2, XLr2, hk, hm_⟩; refine wp_seq ?_; refine wp_seq ?_; by_cases hl : (k : Int) < (a.tdiv 7).tmod 40
       · skip
         refine region_st [[], [], [1], [2], [0, 3]] [27, 28, 29, 30, 31] [] (tyvC [(27, (iE (↑k))), (28, (iE a)), (29, (iE (Int.tdiv a 7))), (30, (iE (Int.tmod (Int.tdiv a 7) 40))), (31, (bE true))]) XEr2 XGr2 XLr2 (fun Q => ⟨sMv 27 (rO 7), sMv 28 (rO 0), sBin 29 (z := Value.int .i64 a) (z' := Value.int IntKind.i64 7) (u := Value.int .i64 (Int.tdiv a 7)) (rS 28 1) (rK (Value.int IntKind.i64 7)) (fun h h' => ⟨h, rfl⟩) (eqg_int _ _ _ _ _ _ _ _) (run_quo_i _ _ _ (by decide) (by first | omega | assumption)), sBin 30 (z := Value.int .i64 (Int.tdiv a 7)) (z' := Value.int IntKind.i64 40) (u := Value.int .i64 (Int.tmod (Int.tdiv a 7) 40)) (rS 29 2) (rK (Value.int IntKind.i64 40)) (fun h h' => ⟨h, rfl⟩) (eqg_int _ _ _ _ _ _ _ _) (run_rem_i _ _ _ (by decide)), sBin 31 (z := Value.int .i64 (↑k)) (z' := Value.int .i64 (Int.tmod (Int.tdiv a 7) 40)) (u := Value.bool true) (rS 27 0) (rS 30 3) (fun h h' => ⟨h, h'⟩) (eqg_int _ _ _ _ _ _ _ _) (run_as (run_lss _ _ _ _) (by simp [hl])), trivial⟩) ?_; intro bX fX w14 c14 a14 XG14 yx yA yB yV yO yF; have XE14 := XEr2.up yF yO (ck (kv (yV 31 rfl) rfl) kn); have XL14 := (yA.pk yB rfl [0, 1]); have XN14 := XNr2.trans yx rfl; clear yx yA yB yV yO yF; show Code.wp _ _ _ _ _; refine wp_cond (t := true) (XE14.at 31 rfl) ?_; refine wp_skip ?_; show Code.wp _ _ _ _ _; refine wp_seq ?_; refine wp_block ?_; have hfk := fit_num hb (i := k) (by omega); have hfk' := fit_num hb (i := k + 1) (by omega); refine region_st [[], [], [0, 1], [0, 2]] [34, 35, 36] [22] (tyvC [(34, (rfC ((b + 3) * mM ^ k))), (35, (rfC (1000000007))), (36, (rbC (((b + 3) * mM ^ k) * 1000000007)))]) XE14 XG14 (All.stg 0 3 (Fact.box g6_12 26 22 (rbC (((b + 3) * mM ^ k) * 1000000007))) XL14) (fun Q => ⟨sLf 34 (rO 6) (fun K => BoxC.load (K.fac.sb0 0 rfl (K.nyet 3 rfl)) aggN (rf_str' _)), sC1 35 (rK (Value.int IntKind.i64 1000000007)) (fun K h0 => k_of (1000000007) (by first | omega | assumption)) Tryz.func15, sC2 36 (rS 34 0) (rS 35 1) (fun K h0 h1 => k_rmul h0 h1) Tryz.func18, sSto 22 (rO 6) (rS 36 2) aggN (rb_str _) (fun K => BoxC.old (K.fac.sb0 0 rfl K.self) (rf_str' _)) (fun K h0 => h0), trivial⟩) ?_; intro bX fX w15 c15 a15 XG15 yx yA yB yV yO yF; have XE15 := XE14.up yF yO kn; have XL15 := (yA.pk yB rfl [0, 1]); have XN15 := XN14.trans yx rfl; clear yx yA yB yV yO yF; (repeat (first | (with_reducible refine inBlock_normal ?_) | (with_reducible refine then_normal ?_))); show Code.wp _ _ _ _ _; have hU3 := All.put (G := Fact.box g6_12 26 22 (rfC ((b + 3) * mM ^ (k + 1)))) 0 XL15 (BoxC.up (All.box XL15 0 rfl) (fun v hv => rf_cast (show (b + 3) * mM ^ k * mM = (b + 3) * mM ^ (k + 1) by rw [Int.pow_succ, Int.mul_assoc]) (rb_up hv (by rw [Int.mul_assoc, ← Int.pow_succ]; exact hfk')))); refine region_st [[], [0], [0, 1]] [7, 32, 33] [] (tyvC [(7, (iE (↑(k + 1)))), (32, (iE (↑k))), (33, (iE (↑(k + 1))))]) XE15 XG15 hU3 (fun Q => ⟨sMv 32 (rP 7 2), sBin 33 (z := Value.int .i64 (↑k)) (z' := Value.int IntKind.i64 1) (u := Value.int .i64 (↑(k + 1))) (rS 32 0) (rK (Value.int IntKind.i64 1)) (fun h h' => ⟨h, rfl⟩) (eqg_int _ _ _ _ _ _ _ _) (run_as (run_add' _ _ _) (by rw [IntWalk.i64_in _ (by omega)]; rfl)), sMv 7 (rS 33 1), trivial⟩) ?_
         intro bX fX w16 c16 a16 XG16 yx yA yB yV yO yF; have XE16 := XE15.up yF yO (ck (kv (yV 7 rfl) rfl) kn); have XL16 := (yA.pk yB rfl [0, 1]); have XN16 := XN15.trans yx rfl; clear yx yA yB yV yO yF; (repeat (first | (with_reducible refine inBlock_normal ?_) | (with_reducible refine then_normal ?_))); exact ⟨((a.tdiv 7).tmod 40).toNat - (k + 1), by omega, ⟨c16, k + 1, (Ev.sub XE16 _ ⟨rfl, rfl, rfl, rfl, rfl, rfl, trivial⟩), XG16, XN16, ⟨(All.box XL16 0 rfl), (All.box XL16 1 rfl), trivial⟩, by omega, rfl⟩⟩
       · have hk' : k = ((a.tdiv 7).tmod 40).toNat := by omega
         refine region_st [[], [], [1], [2], [0, 3]] [27, 28, 29, 30, 31] [] (tyvC [(27, (iE (↑k))), (28, (iE a)), (29, (iE (Int.tdiv a 7))), (30, (iE (Int.tmod (Int.tdiv a 7) 40))), (31, (bE false))]) XEr2 XGr2 XLr2 (fun Q => ⟨sMv 27 (rO 7), sMv 28 (rO 0), sBin 29 (z := Value.int .i64 a) (z' := Value.int IntKind.i64 7) (u := Value.int .i64 (Int.tdiv a 7)) (rS 28 1) (rK (Value.int IntKind.i64 7)) (fun h h' => ⟨h, rfl⟩) (eqg_int _ _ _ _ _ _ _ _) (run_quo_i _ _ _ (by decide) (by first | omega | assumption)), sBin 30 (z := Value.int .i64 (Int.tdiv a 7)) (z' := Value.int IntKind.i64 40) (u := Value.int .i64 (Int.tmod (Int.tdiv a 7) 40)) (rS 29 2) (rK (Value.int IntKind.i64 40)) (fun h h' => ⟨h, rfl⟩) (eqg_int _ _ _ _ _ _ _ _) (run_rem_i _ _ _ (by decide)), sBin 31 (z := Value.int .i64 (↑k)) (z' := Value.int .i64 (Int.tmod (Int.tdiv a 7) 40)) (u := Value.bool false) (rS 27 0) (rS 30 3) (fun h h' => ⟨h, h'⟩) (eqg_int _ _ _ _ _ _ _ _) (run_as (run_lss _ _ _ _) (by simp; omega)), trivial⟩) ?_; intro bX fX w17 c17 a17 XG17 yx yA yB yV yO yF; have XE17 := XEr2.up yF yO (ck (kv (yV 31 rfl) rfl) kn); have XL17 := (yA.pk yB rfl [0, 1]); have XN17 := XNr2.trans yx rfl; clear yx yA yB yV yO yF; show Code.wp _ _ _ _ _; refine wp_cond (t := false) (XE17.at 31 rfl) ?_; refine wp_exit ?_; (repeat (with_reducible refine then_exit ?_)); refine inBlock_exit ?_; show Code.wp _ _ _ _ _; rw [← hk']; refine wp_seq ?_; refine region_st [[], [0]] [37] [21] (tyvC [(37, (rfC ((b + 3) * mM ^ k)))]) XE17 XG17 (All.stg 1 1 (Fact.box g4_1 26 21 (rfC ((b + 3) * mM ^ k))) XL17) (fun Q => ⟨sLb 37 (rO 6) 0 aggN (rf_str' _), sSto 21 (rO 4) (rS 37 0) aggN (rf_str' _) (fun K => BoxC.old (K.fac.sb0 1 rfl K.self) (rf_str' _)) (fun K h0 => h0), trivial⟩) ?_; intro bX fX w18 c18 a18 XG18 yx yA yB yV yO yF; have XE18 := XE17.up yF yO kn; have XL18 := (yA.pk yB rfl [1]); have XN18 := XN17.trans yx rfl; clear yx yA yB yV yO yF; show Code.wp _ _ _ _ _; refine wp_ret ?_; (repeat (first | (with_reducible refine then_ret ?_) | (with_reducible refine inBlock_ret ?_) | (with_reducible refine then_normal ?_) | (with_reducible refine inBlock_normal ?_))); show bodyPost Tryz.prog Tryz.f27 _ Exit.ret a18 w18; obtain ⟨r0, hr0, hs0⟩ := BoxC.load (All.box XL18 0 rfl) aggN (rf_str' _); subst hc0; exact bodyPost_ret (res_c rfl _ (XE18.at 4 rfl) hr0) XE18.2.1 ⟨_, rfl, hs0, XN18.new0⟩

theorem k_number {w : World} {c : Colr} {a b : Int} (ha : I64 a) (hb : I64 b) : CV Tryz.prog 27 #[.int .i64 a, .int .i64 b] w c (rfC (numV a b)) := (t_number w a b ha hb).cv (pl_rf _)
set_option maxRecDepth 100000 in
set_option maxHeartbeats 4000000 in
theorem t_rfrac (w : World) (A : Option Addr) (cp : Nat) (xs : List Int) (hxs : ∀ z ∈ xs, I64 z) (i : Int) (hi : 0 ≤ i ∧ i ≤ 1000) (h : (intsC xs).sat (.slice A xs.length cp) w (fun _ => 0)) : CT0 Tryz.prog 37 #[Value.slice A xs.length cp, Value.int .i64 i] w (rffC (fracV xs i)) := by
 show CT0 _ _ _ _ (rffC (mkV (numV (pk xs i) (pk xs (i + 1))) (fracQ xs i))); refine enter_st Tryz.func37 rfl Tryz.ntmps37 [(0, Value.slice A xs.length cp), (1, Value.int .i64 i)] rfl ⟨rfl, rfl, trivial⟩ (Nat.le_of_ble_eq_true rfl) ?_; intro a0 XE0; obtain ⟨c0, hc0⟩ : ∃ c0 : Colr, c0 = fun _ => 0 := ⟨_, rfl⟩; have XG0 : GI w c0 := hc0 ▸ GI.zero w; have XN0 : Ext [21, 22, 23, 24] w c0 w c0 := Ext.refl rfl XG0; have XL0 : All [.s (Fact.val (intsC xs) (Value.slice A xs.length cp))] b0 f0 w c0 := ⟨(hc0 ▸ h), trivial⟩; refine wp_seq ?_; refine region_st [[]] [4] [21] (tyvC [(4, PT)]) XE0 XG0 (All.cn 4 21 57 0 #[] (rzC) XL0) (fun Q => ⟨sAlz 4 21 (zeroRF _) (rz_zero), trivial⟩) ?_; intro bX fX w1 c1 a1 XG1 yx yA yB yV yO yF; obtain ⟨g4_1, e4⟩ := kp (yV 4 rfl) rfl; have XE1 := XE0.up yF yO (ck e4 kn); have XL1 := (All.cb (yA.nb 0 rfl e4 (yB 0 (by decide))) (yA.pk yB rfl [1])); have XN1 := XN0.trans yx rfl; clear yx yA yB yV yO yF; show Code.wp _ _ _ _ _; refine wp_seq ?_; refine region_st [[], [], [1], [0, 2], [], [], [5], [4, 6], [3, 7], [], [8, 9]] [5, 8, 9, 10, 11, 12, 13, 14, 15, 16] [22] (tyvC [(5, PT), (8, (TyC.eq (Value.slice A xs.length cp))), (9, (iE i)), (10, (iE (i + 2))), (11, (iE (pk xs (i + 2)))), (12, (TyC.eq (Value.slice A xs.length cp))), (13, (iE i)), (14, (iE (i + 3))), (15, (iE (pk xs (i + 3)))), (16, (rfC (numV (pk xs (i + 2)) (pk xs (i + 3)))))]) XE1 XG1 (All.cn 5 22 26 10 #[.bool false, .slice none 0 0] (rfC (numV (pk xs (i + 2)) (pk xs (i + 3)))) XL1) (fun Q => ⟨sMv 8 (rO 0), sMv 9 (rO 1), sBin 10 (z := Value.int .i64 i) (z' := Value.int IntKind.i64 2) (u := Value.int .i64 (i + 2)) (rS 9 1) (rK (Value.int IntKind.i64 2)) (fun h h' => ⟨h, rfl⟩) (eqg_int _ _ _ _ _ _ _ _) (run_as (run_add' _ _ _) (congrArg (Value.int .i64) (IntWalk.i64_in _ (by omega)))), sC2 11 (rS 8 0) (rS 10 2) (fun K h0 h1 => by cases h0; cases h1; exact k_pk (K.fac.val 2 rfl)) Tryz.func28, sMv 12 (rO 0), sMv 13 (rO 1), sBin 14 (z := Value.int .i64 i) (z' := Value.int IntKind.i64 3) (u := Value.int .i64 (i + 3)) (rS 13 5) (rK (Value.int IntKind.i64 3)) (fun h h' => ⟨h, rfl⟩) (eqg_int _ _ _ _ _ _ _ _) (run_as (run_add' _ _ _) (congrArg (Value.int .i64) (IntWalk.i64_in _ (by omega)))), sC2 15 (rS 12 4) (rS 14 6) (fun K h0 h1 => by cases h0; cases h1; exact k_pk (K.fac.val 2 rfl)) Tryz.func28, sC2 16 (rS 11 3) (rS 15 7) (fun K h0 h1 => by cases h0; cases h1; exact k_number (pk_i64 hxs _) (pk_i64 hxs _)) Tryz.func27, sAl 5 22 (zeroN _), sStn 5 22 9 0 (rS 16 8) aggN (rf_str' _), trivial⟩) ?_; intro bX fX w2 c2 a2 XG2 yx yA yB yV yO yF; obtain ⟨g5_2, e5⟩ := kp (yV 5 rfl) rfl; have XE2 := XE1.up yF yO (ck e5 kn); have XL2 := (All.cb (yA.nb 0 rfl e5 (yB 10 (by decide))) (yA.pk yB rfl [1, 2])); have XN2 := XN1.trans yx rfl; clear yx yA yB yV yO yF; show Code.wp _ _ _ _ _; obtain ⟨ho1, uo1, hu1, hk1⟩ := (All.box XL2 0 rfl); obtain ⟨so1, Ao1, no1, co1, rfl, hs1o, hd1o⟩ := hu1.1; have hU2 := All.put (G := Fact.box g5_2 26 22 (TyC.eq (Value.agg #[.bool so1, .slice Ao1 no1 co1]))) 0 XL2 (⟨ho1, _, rfl, hk1⟩)
 have hV3 := All.cv (v := Value.agg #[.bool so1, .slice Ao1 no1 co1]) (τ := (rfC (numV (pk xs (i + 2)) (pk xs (i + 3))))) (⟨⟨so1, Ao1, no1, co1, rfl, hs1o, hd1o⟩, hu1.2⟩) hU2; have hps := hd1o.pos; refine wp_seq ?_; refine wp_seq ?_; by_cases hq : numV (pk xs (i + 2)) (pk xs (i + 3)) = 0
 · have hv : fracQ xs i = 1 := if_pos hq
   rw [hv]; refine region_st [[], [0], [1], [2]] [17, 18, 19, 20] [] (tyvC [(17, (pE g5_2 1)), (18, (TyC.eq (Value.slice Ao1 no1 co1))), (19, (iE (↑no1))), (20, (bE true))]) XE2 XG2 hV3 (fun Q => ⟨sFa 17 (rO 5) (fld_n1 _ 0), sLf 18 (rS 17 0) (fun K => l_cell (k := 1) (u := Value.slice Ao1 no1 co1) (K.fac.box 1 rfl) flat_ints rfl), sSlen 19 (rS 18 1) Tryz.underlying23 (fun K h => h), sBin 20 (z := Value.int .i64 (↑no1)) (z' := Value.int IntKind.i64 0) (u := Value.bool true) (rS 19 2) (rK (Value.int IntKind.i64 0)) (fun h h' => ⟨h, rfl⟩) (eqg_int _ _ _ _ _ _ _ _) (run_as (run_eql _ _ _ _) (by simp; omega)), trivial⟩) ?_; intro bX fX w3 c3 a3 XG3 yx yA yB yV yO yF; have XE3 := XE2.up yF yO (ck (kv (yV 20 rfl) rfl) kn); have XL3 := (yA.pk yB rfl [0, 1, 2, 3]); have XN3 := XN2.trans yx rfl; clear yx yA yB yV yO yF; show Code.wp _ _ _ _ _; refine wp_cond (t := true) (XE3.at 20 rfl) ?_; refine region_st [[], [0]] [21] [22] (tyvC [(21, (rfC (1)))]) XE3 XG3 (All.stg 1 1 (Fact.box g5_2 26 22 (rfC (1))) XL3) (fun Q => ⟨sC1 21 (rK (Value.int IntKind.i64 1)) (fun K h0 => k_of (1) (by first | omega | assumption)) Tryz.func15, sSto 22 (rO 5) (rS 21 0) aggN (rf_str' _) (fun K => BoxC.old (K.fac.sb0 1 rfl K.self) (eq2_str _ _ _ _)) (fun K h0 => h0), trivial⟩) ?_; intro bX fX w4 c4 a4 XG4 yx yA yB yV yO yF; have XE4 := XE3.up yF yO kn; have XL4 := (yA.pk yB rfl [0, 1, 2, 3]); have XN4 := XN3.trans yx rfl; clear yx yA yB yV yO yF; show Code.wp _ _ _ _ _; refine wp_seq ?_; refine region_st [[], [], [0, 1], [], [], [4], [3, 5], [2, 6], [], [7, 8], [9], [10], [10], [], [11, 13], [12]] [6, 7, 22, 23, 24, 25, 26, 27, 28, 29, 30, 31, 32, 33, 34] [23] (tyvC [(6, PT), (7, (iE (mkE 1))), (22, (TyC.tup1 (rffC (mkV (numV (pk xs i) (pk xs (i + 1))) 1)) (Value.int .i64 (mkE 1)))), (23, (TyC.eq (Value.slice A xs.length cp))), (24, (iE i)), (25, (iE (pk xs i))), (26, (TyC.eq (Value.slice A xs.length cp))), (27, (iE i)), (28, (iE (i + 1))), (29, (iE (pk xs (i + 1)))), (30, (rfC (numV (pk xs i) (pk xs (i + 1))))), (31, (rfC (1))), (32, (TyC.tup1 (rffC (mkV (numV (pk xs i) (pk xs (i + 1))) 1)) (Value.int .i64 (mkE 1)))), (33, (rffC (mkV (numV (pk xs i) (pk xs (i + 1))) 1))), (34, (iE (mkE 1)))]) XE4 XG4 (All.cn 6 23 57 14 #[.bool false, .slice none 0 0, .bool false, .slice none 0 0] (rffC (mkV (numV (pk xs i) (pk xs (i + 1))) 1)) XL4) (fun Q => ⟨sMv 23 (rO 0), sMv 24 (rO 1), sC2 25 (rS 23 0) (rS 24 1) (fun K h0 h1 => by cases h0; cases h1; exact k_pk (K.fac.val 4 rfl)) Tryz.func28, sMv 26 (rO 0), sMv 27 (rO 1), sBin 28 (z := Value.int .i64 i) (z' := Value.int IntKind.i64 1) (u := Value.int .i64 (i + 1)) (rS 27 4) (rK (Value.int IntKind.i64 1)) (fun h h' => ⟨h, rfl⟩) (eqg_int _ _ _ _ _ _ _ _) (run_as (run_add' _ _ _) (congrArg (Value.int .i64) (IntWalk.i64_in _ (by omega)))), sC2 29 (rS 26 3) (rS 28 5) (fun K h0 h1 => by cases h0; cases h1; exact k_pk (K.fac.val 4 rfl)) Tryz.func28, sC2 30 (rS 25 2) (rS 29 6) (fun K h0 h1 => by cases h0; cases h1; exact k_number (pk_i64 hxs _) (pk_i64 hxs _)) Tryz.func27, sLb 31 (rO 5) 2 aggN (rf_str' _), sC2 32 (rS 30 7) (rS 31 8) (fun K h0 h1 => k_rmake h0 h1) Tryz.func31, sMv 22 (rS 32 9), sEx 33 (rS 22 10) ex10, sEx 34 (rS 22 10) ex11, sAl 6 23 (zeroRF _), sStn 6 23 13 0 (rS 33 11) aggRF (rff_str _), sMv 7 (rS 34 12), trivial⟩) ?_
   intro bX fX w5 c5 a5 XG5 yx yA yB yV yO yF; obtain ⟨g6_5, e6⟩ := kp (yV 6 rfl) rfl; have XE5 := XE4.up yF yO (ck e6 kn); have XL5 := (All.cb (yA.nb 0 rfl e6 (yB 14 (by decide))) (yA.pk yB rfl [1, 3])); have XN5 := XN4.trans yx rfl; clear yx yA yB yV yO yF; show Code.wp _ _ _ _ _; refine wp_seq ?_; refine region_st [[], [0]] [35] [21] (tyvC [(35, (rffC (mkV (numV (pk xs i) (pk xs (i + 1))) 1)))]) XE5 XG5 (All.stg 2 1 (Fact.box g4_1 57 21 (rffC (mkV (numV (pk xs i) (pk xs (i + 1))) 1))) XL5) (fun Q => ⟨sLb 35 (rO 6) 0 aggRF (rff_str _), sSto 21 (rO 4) (rS 35 0) aggRF (rff_str _) (fun K => BoxC.old (K.fac.sb0 2 rfl K.self) rz_str) (fun K h0 => h0), trivial⟩) ?_; intro bX fX w6 c6 a6 XG6 yx yA yB yV yO yF; have XE6 := XE5.up yF yO kn; have XL6 := (yA.pk yB rfl [1, 2]); have XN6 := XN5.trans yx rfl; clear yx yA yB yV yO yF; show Code.wp _ _ _ _ _; refine wp_ret ?_; (repeat (first | (with_reducible refine then_ret ?_) | (with_reducible refine inBlock_ret ?_) | (with_reducible refine then_normal ?_) | (with_reducible refine inBlock_normal ?_))); show bodyPost Tryz.prog Tryz.f37 _ Exit.ret a6 w6; obtain ⟨r0, hr0, hs0⟩ := BoxC.load (All.box XL6 1 rfl) aggRF (rff_str _); subst hc0; exact bodyPost_ret (res_c rfl _ (XE6.at 4 rfl) hr0) XE6.2.1 ⟨_, rfl, hs0, XN6.new0⟩
 · have hv : fracQ xs i = numV (pk xs (i + 2)) (pk xs (i + 3)) := if_neg hq
   rw [hv]; refine region_st [[], [0], [1], [2]] [17, 18, 19, 20] [] (tyvC [(17, (pE g5_2 1)), (18, (TyC.eq (Value.slice Ao1 no1 co1))), (19, (iE (↑no1))), (20, (bE false))]) XE2 XG2 hV3 (fun Q => ⟨sFa 17 (rO 5) (fld_n1 _ 0), sLf 18 (rS 17 0) (fun K => l_cell (k := 1) (u := Value.slice Ao1 no1 co1) (K.fac.box 1 rfl) flat_ints rfl), sSlen 19 (rS 18 1) Tryz.underlying23 (fun K h => h), sBin 20 (z := Value.int .i64 (↑no1)) (z' := Value.int IntKind.i64 0) (u := Value.bool false) (rS 19 2) (rK (Value.int IntKind.i64 0)) (fun h h' => ⟨h, rfl⟩) (eqg_int _ _ _ _ _ _ _ _) (run_as (run_eql _ _ _ _) (by simp; omega)), trivial⟩) ?_; intro bX fX w7 c7 a7 XG7 yx yA yB yV yO yF; have XE7 := XE2.up yF yO (ck (kv (yV 20 rfl) rfl) kn); have XL7 := (yA.pk yB rfl [0, 1, 2, 3]); have XN7 := XN2.trans yx rfl; clear yx yA yB yV yO yF; show Code.wp _ _ _ _ _; refine wp_cond (t := false) (XE7.at 20 rfl) ?_; refine wp_skip ?_; show Code.wp _ _ _ _ _; refine wp_seq ?_; refine region_st [[], [], [0, 1], [], [], [4], [3, 5], [2, 6], [], [7, 8], [9], [10], [10], [], [11, 13], [12]] [6, 7, 22, 23, 24, 25, 26, 27, 28, 29, 30, 31, 32, 33, 34] [24] (tyvC [(6, PT), (7, (iE (mkE (numV (pk xs (i + 2)) (pk xs (i + 3)))))), (22, (TyC.tup1 (rffC (mkV (numV (pk xs i) (pk xs (i + 1))) (numV (pk xs (i + 2)) (pk xs (i + 3))))) (Value.int .i64 (mkE (numV (pk xs (i + 2)) (pk xs (i + 3))))))), (23, (TyC.eq (Value.slice A xs.length cp))), (24, (iE i)), (25, (iE (pk xs i))), (26, (TyC.eq (Value.slice A xs.length cp))), (27, (iE i)), (28, (iE (i + 1))), (29, (iE (pk xs (i + 1)))), (30, (rfC (numV (pk xs i) (pk xs (i + 1))))), (31, (TyC.eq (Value.agg #[.bool so1, .slice Ao1 no1 co1]))), (32, (TyC.tup1 (rffC (mkV (numV (pk xs i) (pk xs (i + 1))) (numV (pk xs (i + 2)) (pk xs (i + 3))))) (Value.int .i64 (mkE (numV (pk xs (i + 2)) (pk xs (i + 3))))))), (33, (rffC (mkV (numV (pk xs i) (pk xs (i + 1))) (numV (pk xs (i + 2)) (pk xs (i + 3)))))), (34, (iE (mkE (numV (pk xs (i + 2)) (pk xs (i + 3))))))]) XE7 XG7 (All.cn 6 24 57 14 #[.bool false, .slice none 0 0, .bool false, .slice none 0 0] (rffC (mkV (numV (pk xs i) (pk xs (i + 1))) (numV (pk xs (i + 2)) (pk xs (i + 3))))) XL7) (fun Q => ⟨sMv 23 (rO 0), sMv 24 (rO 1), sC2 25 (rS 23 0) (rS 24 1) (fun K h0 h1 => by cases h0; cases h1; exact k_pk (K.fac.val 4 rfl)) Tryz.func28, sMv 26 (rO 0), sMv 27 (rO 1), sBin 28 (z := Value.int .i64 i) (z' := Value.int IntKind.i64 1) (u := Value.int .i64 (i + 1)) (rS 27 4) (rK (Value.int IntKind.i64 1)) (fun h h' => ⟨h, rfl⟩) (eqg_int _ _ _ _ _ _ _ _) (run_as (run_add' _ _ _) (congrArg (Value.int .i64) (IntWalk.i64_in _ (by omega)))), sC2 29 (rS 26 3) (rS 28 5) (fun K h0 h1 => by cases h0; cases h1; exact k_pk (K.fac.val 4 rfl)) Tryz.func28, sC2 30 (rS 25 2) (rS 29 6) (fun K h0 h1 => by cases h0; cases h1; exact k_number (pk_i64 hxs _) (pk_i64 hxs _)) Tryz.func27, sLb 31 (rO 5) 2 aggN (eq2_str _ _ _ _), sC2 32 (rS 30 7) (rS 31 8) (fun K h0 h1 => by cases h1; exact k_rmake h0 (K.fac.val 1 rfl)) Tryz.func31, sMv 22 (rS 32 9), sEx 33 (rS 22 10) ex10, sEx 34 (rS 22 10) ex11, sAl 6 24 (zeroRF _), sStn 6 24 13 0 (rS 33 11) aggRF (rff_str _), sMv 7 (rS 34 12), trivial⟩) ?_
   intro bX fX w8 c8 a8 XG8 yx yA yB yV yO yF; obtain ⟨g6_8, e6⟩ := kp (yV 6 rfl) rfl; have XE8 := XE7.up yF yO (ck e6 kn); have XL8 := (All.cb (yA.nb 0 rfl e6 (yB 14 (by decide))) (yA.pk yB rfl [1, 3])); have XN8 := XN7.trans yx rfl; clear yx yA yB yV yO yF; show Code.wp _ _ _ _ _; refine wp_seq ?_; refine region_st [[], [0]] [35] [21] (tyvC [(35, (rffC (mkV (numV (pk xs i) (pk xs (i + 1))) (numV (pk xs (i + 2)) (pk xs (i + 3))))))]) XE8 XG8 (All.stg 2 1 (Fact.box g4_1 57 21 (rffC (mkV (numV (pk xs i) (pk xs (i + 1))) (numV (pk xs (i + 2)) (pk xs (i + 3)))))) XL8) (fun Q => ⟨sLb 35 (rO 6) 0 aggRF (rff_str _), sSto 21 (rO 4) (rS 35 0) aggRF (rff_str _) (fun K => BoxC.old (K.fac.sb0 2 rfl K.self) rz_str) (fun K h0 => h0), trivial⟩) ?_; intro bX fX w9 c9 a9 XG9 yx yA yB yV yO yF; have XE9 := XE8.up yF yO kn; have XL9 := (yA.pk yB rfl [1, 2]); have XN9 := XN8.trans yx rfl; clear yx yA yB yV yO yF; show Code.wp _ _ _ _ _; refine wp_ret ?_; (repeat (first | (with_reducible refine then_ret ?_) | (with_reducible refine inBlock_ret ?_) | (with_reducible refine then_normal ?_) | (with_reducible refine inBlock_normal ?_))); show bodyPost Tryz.prog Tryz.f37 _ Exit.ret a9 w9; obtain ⟨r0, hr0, hs0⟩ := BoxC.load (All.box XL9 1 rfl) aggRF (rff_str _); subst hc0; exact bodyPost_ret (res_c rfl _ (XE9.at 4 rfl) hr0) XE9.2.1 ⟨_, rfl, hs0, XN9.new0⟩

theorem k_rfrac {w : World} {c : Colr} {v : Value} {xs : List Int} (hxs : ∀ z ∈ xs, I64 z) {i : Int} (hi : 0 ≤ i ∧ i ≤ 1000) (h : (intsC xs).sat v w c) : CV Tryz.prog 37 #[v, .int .i64 i] w c (rffC (fracV xs i)) := by
  obtain ⟨A, cp, rfl, h2, h3, h4, _⟩ := h
  exact (t_rfrac w A cp xs hxs i hi ⟨A, cp, rfl, h2, h3, h4, fun _ _ _ => rfl⟩).cv (pl_rff _)
end Go.Proofs.YtbocpkjajocpiaaGreatDoor

namespace Go.Proofs.YtbocpkjajocpiaaGreatDoor
set_option linter.unusedVariables false
open Go.RowKit Go.Mem Go.Dig Go.Fr Go.Col

end Go.Proofs.YtbocpkjajocpiaaGreatDoor

namespace Go.Proofs.YtbocpkjajocpiaaGreatDoor
set_option linter.unusedVariables false
open Go.RowKit Go.Mem Go.Dig Go.Fr Go.Col

def powOk (x : Rat) (n : Int) : Prop := 0 ≤ n ∧ (unitB x = true ∨ (n ≤ 16384 ∧ ft (x ^ n.toNat)))
instance (x : Rat) (n : Int) : Decidable (powOk x n) := by unfold powOk; exact inferInstance
def powV (x : Rat) (n : Int) : Rat := if powOk x n then x ^ n.toNat else 0
def powE (x : Rat) (n : Int) : Int := if n < 0 then 1 else if powOk x n then 0 else 4
theorem pow_yes {x : Rat} {n : Int} (h : powOk x n) : powV x n = x ^ n.toNat ∧ powE x n = 0 := ⟨if_pos h, (if_neg (show ¬ n < 0 by have := h.1; omega)).trans (if_pos h)⟩
theorem pow_no {x : Rat} {n : Int} (h0 : 0 ≤ n) (h : ¬ powOk x n) : powV x n = 0 ∧ powE x n = 4 := ⟨if_neg h, (if_neg (show ¬ n < 0 by omega)).trans (if_neg h)⟩
theorem pow_neg' {x : Rat} {n : Int} (h0 : n < 0) : powV x n = 0 ∧ powE x n = 1 := ⟨if_neg (fun h => by have := h.1; omega), if_pos h0⟩
theorem dn_pow (x : Rat) (k : Nat) : dn (x ^ k) = dn x ^ k := by
  show ((x.den ^ k : Nat) : Int) = (x.den : Int) ^ k
  exact Int.natCast_pow _ _
theorem num_pow (x : Rat) (k : Nat) : (x ^ k).num = x.num ^ k := rfl
theorem fit_pow_le {a : Int} {i n : Nat} (hi : 1 ≤ i) (h : i ≤ n) (hf : fit (a ^ n)) : fit (a ^ i) := by
  unfold fit at *
  rw [Int.natAbs_pow] at *
  rcases Nat.eq_zero_or_pos a.natAbs with h0 | h0
  · rw [h0, Nat.zero_pow (by omega)]
    exact Nat.lt_of_le_of_lt (Nat.zero_le _) hf
  · exact Nat.lt_of_le_of_lt (Nat.pow_le_pow_right h0 h) hf
theorem ft_pow_le {x : Rat} {i n : Nat} (hi : 1 ≤ i) (h : i ≤ n) (hf : ft (x ^ n)) : ft (x ^ i) := by
  refine ⟨fit_pow_le hi h hf.1, ?_⟩
  have := hf.2
  rw [dn_pow] at *
  exact fit_pow_le hi h this
theorem unit_form {x : Rat} (h : unitB x = true) : x = -1 ∨ x = 0 ∨ x = 1 := by
  unfold unitB at h
  have h := of_decide_eq_true h
  obtain ⟨h1, h2, h3⟩ := h
  rcases (by omega : x.num = -1 ∨ x.num = 0 ∨ x.num = 1) with h | h | h
  · exact .inl (Fr.ext h h1)
  · exact .inr (.inl (Fr.ext h h1))
  · exact .inr (.inr (Fr.ext h h1))
theorem one_pow' (n : Nat) : (1 : Rat) ^ n = 1 := by
  induction n with
  | zero => rfl
  | succ n ih => rw [Rat.pow_succ, ih, Rat.mul_one]
theorem zero_pow' {n : Nat} (h : 1 ≤ n) : (0 : Rat) ^ n = 0 := by
  obtain ⟨m, rfl⟩ : ∃ m, n = m + 1 := ⟨n - 1, by omega⟩
  rw [Rat.pow_succ, Rat.mul_zero]
theorem neg_pow2 (n : Nat) : (-1 : Rat) ^ n = if n % 2 = 0 then 1 else -1 := by
  induction n with
  | zero => rfl
  | succ n ih =>
    rw [Rat.pow_succ, ih]
    by_cases h : n % 2 = 0
    · rw [if_pos h, if_neg (by omega), Rat.one_mul]
    · rw [if_neg h, if_pos (by omega), Rat.neg_mul, Rat.one_mul, Rat.neg_neg]
/-- A power of -1, 0 or 1. -/
theorem unit_pow {x : Rat} (h : unitB x = true) {n : Nat} (hn : 1 ≤ n) : x ^ n = if n % 2 = 0 ∧ x.num < 0 then -x else x := by
  rcases unit_form h with rfl | rfl | rfl
  · rw [neg_pow2]
    by_cases h2 : n % 2 = 0
    · rw [if_pos h2, if_pos ⟨h2, by decide⟩]; rfl
    · rw [if_neg h2, if_neg (fun h => h2 h.1)]
  · rw [zero_pow' hn, if_neg (fun h => absurd h.2 (by decide))]
  · rw [one_pow', if_neg (fun h => absurd h.2 (by decide))]
theorem unit_pow_eq {x : Rat} (h : unitB x = true) {n m : Nat} (hn : 1 ≤ n) (hm : 1 ≤ m) (he : n % 2 = m % 2) : x ^ n = x ^ m := by
  rw [unit_pow h hn, unit_pow h hm, he]
theorem unit_fit {x : Rat} (h : unitB x = true) (n : Nat) : ft (x ^ n) := by
  rcases Nat.eq_zero_or_pos n with h0 | h0
  · subst h0; rw [Rat.pow_zero]; exact ft_one
  · rw [unit_pow h h0]
    have hx : ft x := by rcases unit_form h with rfl | rfl | rfl <;> exact ⟨fit_small (by decide) (by decide), fit_small (by decide) (by decide)⟩
    split
    · exact hx.neg
    · exact hx
theorem powOk_of {x : Rat} {n : Int} (h0 : 0 ≤ n) (h1 : n ≤ 16384) (hf : ft (x ^ n.toNat)) : powOk x n := ⟨h0, .inr ⟨h1, hf⟩⟩
theorem powOk_no {x : Rat} {n : Int} (hu : unitB x = false) {i : Nat} (hi : 1 ≤ i) (h : i ≤ n.toNat) (hf : ¬ ft (x ^ i)) : ¬ powOk x n := fun ⟨_, h2⟩ => by
  rcases h2 with h2 | ⟨_, h2⟩
  · rw [hu] at h2; cases h2
  · exact hf (ft_pow_le hi h h2)
theorem succ_num (x : Rat) (k : Nat) : (x ^ k).num * x.num = (x ^ (k + 1)).num := by
  rw [num_pow, num_pow, Int.pow_succ]
theorem succ_dn (x : Rat) (k : Nat) : dn (x ^ k) * dn x = dn (x ^ (k + 1)) := by
  rw [dn_pow, dn_pow, Int.pow_succ]
section
variable {w : World} {c : Colr} {v v' : Value} {x y : Int} {r r' : Rat}
end
end Go.Proofs.YtbocpkjajocpiaaGreatDoor

namespace Go.Proofs.YtbocpkjajocpiaaGreatDoor
set_option linter.unusedVariables false
open Go.RowKit Go.Mem Go.Dig Go.Fr Go.Col

theorem pow_out {x : Rat} {n m : Int} {k : Nat} (hk : 1 ≤ k) (h : k ≤ m.toNat) (h0 : 0 ≤ m) (hn : 0 ≤ n) (hx : x ^ m.toNat = x ^ n.toNat) (h2 : unitB x = false → m = n) (hf : ¬ ft (x ^ k)) : ¬ powOk x n := by
  cases hu : unitB x with
  | true => exact fun _ => hf (unit_fit hu k)
  | false => exact powOk_no hu hk (by have := h2 hu; omega) hf
set_option maxRecDepth 100000 in
set_option maxHeartbeats 4000000 in
theorem t_fpow (w : World) (v : Value) (x : Rat) (n : Int) (hn : I64 n) (h : (ffC x).sat v w (fun _ => 0)) : CT0 Tryz.prog 51 #[v, Value.int .i64 n] w (TyC.tup1 (ffC (powV x n)) (Value.int .i64 (powE x n))) := by
 refine enter_st Tryz.func51 rfl Tryz.ntmps51 [(0, v), (1, Value.int .i64 n)] rfl ⟨rfl, rfl, trivial⟩ (Nat.le_of_ble_eq_true rfl) ?_; intro a0 XE0; obtain ⟨c0, hc0⟩ : ∃ c0 : Colr, c0 = fun _ => 0 := ⟨_, rfl⟩; have XG0 : GI w c0 := hc0 ▸ GI.zero w; have XN0 : Ext [21, 22, 23, 24] w c0 w c0 := Ext.refl rfl XG0; have XL0 : All [.s (Fact.val (ffC (x)) v)] b0 f0 w c0 := ⟨(hc0 ▸ h), trivial⟩; refine wp_seq ?_; refine region_st [[], [], []] [2, 4, 5] [21, 22] (tyvC [(2, PT), (4, PT), (5, (iE 0))]) XE0 XG0 (All.cn 2 21 52 0 #[] (ffC (x)) (All.cn 4 22 52 1 #[] (ffC (0)) XL0)) (fun Q => ⟨sBox 2 21 (rO 0) (fun K h0 => bxs (ff_str _) (K.fac.val 2 rfl)), sAlz 4 22 (zeroF _) (ff_zero), sMv 5 (rK (Value.int IntKind.i64 0)), trivial⟩) ?_; intro bX fX w1 c1 a1 XG1 yx yA yB yV yO yF; obtain ⟨g2_1, e2⟩ := kp (yV 2 rfl) rfl; obtain ⟨g4_1, e4⟩ := kp (yV 4 rfl) rfl; have XE1 := XE0.up yF yO (ck e2 (ck e4 (ck (kv (yV 5 rfl) rfl) kn))); have XL1 := (All.cb (yA.nb 0 rfl e2 (yB 0 (by decide))) (All.cb (yA.nb 1 rfl e4 (yB 1 (by decide))) (yA.pk yB rfl []))); have XN1 := XN0.trans yx rfl; clear yx yA yB yV yO yF; show Code.wp _ _ _ _ _; refine wp_seq ?_; refine wp_seq ?_; by_cases h0 : n < 0
 · rw [(pow_neg' h0).1, (pow_neg' h0).2]
   refine region_st [[], [0]] [11, 12] [] (tyvC [(11, (iE n)), (12, (bE true))]) XE1 XG1 XL1 (fun Q => ⟨sMv 11 (rO 1), sBin 12 (z := Value.int .i64 n) (z' := Value.int IntKind.i64 0) (u := Value.bool true) (rS 11 0) (rK (Value.int IntKind.i64 0)) (fun h h' => ⟨h, rfl⟩) (eqg_int _ _ _ _ _ _ _ _) (run_as (run_lss _ _ _ _) (by simp [h0])), trivial⟩) ?_; intro bX fX w2 c2 a2 XG2 yx yA yB yV yO yF; have XE2 := XE1.up yF yO (ck (kv (yV 12 rfl) rfl) kn); have XL2 := (yA.pk yB rfl [0, 1]); have XN2 := XN1.trans yx rfl; clear yx yA yB yV yO yF; show Code.wp _ _ _ _ _; refine wp_cond (t := true) (XE2.at 12 rfl) ?_; refine wp_seq ?_; refine region_st [[], [0], []] [5, 13] [22] (tyvC [(5, (iE 1)), (13, (ffC (0)))]) XE2 XG2 (All.stg 1 1 (Fact.box g4_1 52 22 (ffC (0))) XL2) (fun Q => ⟨sB0 13  (fun K => b_ff0), sSto 22 (rO 4) (rS 13 0) aggF (ff_str _) (fun K => BoxC.old (K.fac.sb0 1 rfl K.self) (ff_str _)) (fun K h0 => h0), sMv 5 (rK (Value.int IntKind.i64 1)), trivial⟩) ?_; intro bX fX w3 c3 a3 XG3 yx yA yB yV yO yF; have XE3 := XE2.up yF yO (ck (kv (yV 5 rfl) rfl) kn); have XL3 := (yA.pk yB rfl [0, 1]); have XN3 := XN2.trans yx rfl; clear yx yA yB yV yO yF; show Code.wp _ _ _ _ _; refine wp_ret ?_; (repeat (first | (with_reducible refine then_ret ?_) | (with_reducible refine inBlock_ret ?_) | (with_reducible refine then_normal ?_) | (with_reducible refine inBlock_normal ?_))); show bodyPost Tryz.prog Tryz.f51 _ Exit.ret a3 w3; obtain ⟨r0, hr0, hs0⟩ := BoxC.load (All.box XL3 1 rfl) aggF (ff_str _); subst hc0; exact bodyPost_ret (res_ct rfl _ (XE3.at 4 rfl) hr0 (XE3.at 5 rfl)) XE3.2.1 ⟨_, rfl, ⟨_, rfl, hs0⟩, XN3.new0⟩
 · skip
   refine region_st [[], [0]] [11, 12] [] (tyvC [(11, (iE n)), (12, (bE false))]) XE1 XG1 XL1 (fun Q => ⟨sMv 11 (rO 1), sBin 12 (z := Value.int .i64 n) (z' := Value.int IntKind.i64 0) (u := Value.bool false) (rS 11 0) (rK (Value.int IntKind.i64 0)) (fun h h' => ⟨h, rfl⟩) (eqg_int _ _ _ _ _ _ _ _) (run_as (run_lss _ _ _ _) (by simp; omega)), trivial⟩) ?_; intro bX fX w4 c4 a4 XG4 yx yA yB yV yO yF; have XE4 := XE1.up yF yO (ck (kv (yV 12 rfl) rfl) kn); have XL4 := (yA.pk yB rfl [0, 1]); have XN4 := XN1.trans yx rfl; clear yx yA yB yV yO yF; show Code.wp _ _ _ _ _; refine wp_cond (t := false) (XE4.at 12 rfl) ?_; refine wp_skip ?_; show Code.wp _ _ _ _ _; refine wp_join (M := fun aZ wZ => ∃ (cZ : Colr) (m : Int), Ev 77 aZ (mof [(2, Value.pointer (some ⟨g2_1, 0, none⟩)), (4, Value.pointer (some ⟨g4_1, 0, none⟩)), (5, Value.int IntKind.i64 0), (1, Value.int .i64 m)]) ∧ GI wZ cZ ∧ Ext [21, 22, 23, 24] w c0 wZ cZ ∧ All [.s (Fact.box g2_1 52 21 (ffC (x))), .s (Fact.box g4_1 52 22 (ffC (0)))] b0 f0 wZ cZ ∧ (I64 m) ∧ (0 ≤ m) ∧ (x ^ m.toNat = x ^ n.toNat) ∧ ((unitB x = true → m ≤ 16384)) ∧ ((unitB x = false → m = n))) ?_ ?_
   · skip
     refine wp_seq ?_; refine region_st [[], [0], [1], [2], [3], [3], [4], [5]] [6, 7, 14, 15, 16, 17, 18, 19] [] (tyvC [(6, (iE (intIf ((x).num)))), (7, (TyC.eq (Value.bool (isInt ((x).num))))), (14, (TyC.eq (Value.tuple #[Value.int .i64 (intIf ((x).num)), Value.bool (isInt ((x).num))]))), (15, (pE g2_1 0)), (16, (wfC ((x).num))), (17, (TyC.eq (Value.tuple #[Value.int .i64 (intIf ((x).num)), Value.bool (isInt ((x).num))]))), (18, (iE (intIf ((x).num)))), (19, (TyC.eq (Value.bool (isInt ((x).num)))))]) XE4 XG4 XL4 (fun Q => ⟨sFa 15 (rO 2) (fld_f0 _), sLf 16 (rS 15 0) (fun K => lf_num (K.fac.box 0 rfl)), sC1 17 (rS 16 1) (fun K h0 => k_wsmall h0) Tryz.func108, sMv 14 (rS 17 2), sEx 18 (rS 14 3) (exe rfl), sEx 19 (rS 14 3) (exe rfl), sMv 6 (rS 18 4), sMv 7 (rS 19 5), trivial⟩) ?_; intro bX fX w5 c5 a5 XG5 yx yA yB yV yO yF; have XE5 := XE4.up yF yO (ck (kv (yV 6 rfl) rfl) (ck (kv (yV 7 rfl) rfl) kn)); have XL5 := (yA.pk yB rfl [0, 1]); have XN5 := XN4.trans yx rfl; clear yx yA yB yV yO yF; show Code.wp _ _ _ _ _; refine wp_seq ?_; cases h1 : isInt (x).num
     · have hu := unit_no1 h1
       have hR1 := XE5.re 7 rfl (by rw [h1] : Value.bool (isInt ((x).num)) = Value.bool false); refine region_st [[], [0], [1], [1], [1], [4], [5], [5], [5], [8], [9], [9], [9], [9], [9], [9]] [20, 21, 22, 23, 24, 25, 26, 27, 28, 29, 30, 31, 32, 33, 34, 35] [] (tyvC [(20, (bE false)), (21, (bE false)), (22, uE), (23, uE), (24, (bE false)), (25, (bE false)), (26, uE), (27, uE), (28, (bE false)), (29, (bE false)), (30, uE), (31, uE), (32, uE), (33, uE), (34, uE), (35, (bE false))]) hR1 XG5 XL5 (fun Q => ⟨sMv 20 (rO 7), sMv 21 (rS 20 0), sNo 22, sNo 23, sPkf 24 (rS 21 1) (rK (Value.bool false)), sMv 25 (rS 24 4), sNo 26, sNo 27, sPkf 28 (rS 25 5) (rK (Value.bool false)), sMv 29 (rS 28 8), sNo 30, sNo 31, sNo 32, sNo 33, sNo 34, sPkf 35 (rS 29 9) (rK (Value.bool false)), trivial⟩) ?_; intro bX fX w6 c6 a6 XG6 yx yA yB yV yO yF; have XE6 := hR1.up yF yO (ck (kv (yV 35 rfl) rfl) kn); have XL6 := (yA.pk yB rfl [0, 1]); have XN6 := XN5.trans yx rfl; clear yx yA yB yV yO yF; show Code.wp _ _ _ _ _; refine wp_cond (t := false) (XE6.at 35 rfl) ?_; refine wp_skip ?_; (repeat (first | (with_reducible refine inBlock_normal ?_) | (with_reducible refine then_normal ?_))); exact ⟨c6, n, (Ev.sub XE6 _ ⟨rfl, rfl, rfl, rfl, trivial⟩), XG6, XN6, ⟨(All.box XL6 0 rfl), (All.box XL6 1 rfl), trivial⟩, hn, by omega, rfl, (fun h => by rw [hu] at h; cases h), (fun _ => rfl)⟩
     · have hi1 : intIf (x).num = (x).num := by simp [intIf, h1]
       have hR2 := XE5.re 7 rfl (by rw [h1] : Value.bool (isInt ((x).num)) = Value.bool true); by_cases hb_ : -1 ≤ x.num
       · by_cases hc_ : x.num ≤ 1
         · by_cases ha_ : dn x = 1
           · have hu : unitB x = true := decide_eq_true ⟨ha_, hb_, hc_⟩
             refine region_st [[], [0], [1], [1, 2], [1, 3], [4], [5], [5, 6], [5, 7], [8], [9], [9, 10], [9], [9, 11, 12], [9, 13], [9, 14]] [20, 21, 22, 23, 24, 25, 26, 27, 28, 29, 30, 31, 32, 33, 34, 35] [] (tyvC [(20, (bE true)), (21, (bE true)), (22, (iE (intIf ((x).num)))), (23, (bE true)), (24, (bE true)), (25, (bE true)), (26, (iE (intIf ((x).num)))), (27, (bE true)), (28, (bE true)), (29, (bE true)), (30, (ffC (x))), (31, (wfC (dn x))), (32, (wfC (1))), (33, (iE (cmpI (dn x) 1))), (34, (bE true)), (35, (bE true))]) hR2 XG5 XL5 (fun Q => ⟨sMv 20 (rO 7), sMv 21 (rS 20 0), sMv 22 (rO 6), sBin 23 (z := Value.int .i64 (intIf ((x).num))) (z' := Value.int IntKind.i64 (-1)) (u := Value.bool true) (rS 22 2) (rK (Value.int IntKind.i64 (-1))) (fun h h' => ⟨h, rfl⟩) (eqg_int _ _ _ _ _ _ _ _) (run_as (run_geq _ _ _ _) (by rw [hi1]; simp; omega)), sPkt 24 (rS 21 1) (rS 23 3), sMv 25 (rS 24 4), sMv 26 (rO 6), sBin 27 (z := Value.int .i64 (intIf ((x).num))) (z' := Value.int IntKind.i64 1) (u := Value.bool true) (rS 26 6) (rK (Value.int IntKind.i64 1)) (fun h h' => ⟨h, rfl⟩) (eqg_int _ _ _ _ _ _ _ _) (run_as (run_leq _ _ _ _) (by rw [hi1]; simp; omega)), sPkt 28 (rS 25 5) (rS 27 7), sMv 29 (rS 28 8), sLb 30 (rO 2) 0 aggF (ff_str _), sC1 31 (rS 30 10) (fun K h0 => k_den h0) Tryz.func64, sC1 32 (rK (Value.int IntKind.i64 1)) (fun K h0 => k_from (1) (by first | omega | assumption)) Tryz.func50, sC2 33 (rS 31 11) (rS 32 12) (fun K h0 h1 => k_wcompare h0 h1) Tryz.func25, sBin 34 (z := Value.int .i64 (cmpI (dn x) 1)) (z' := Value.int IntKind.i64 0) (u := Value.bool true) (rS 33 13) (rK (Value.int IntKind.i64 0)) (fun h h' => ⟨h, rfl⟩) (eqg_int _ _ _ _ _ _ _ _) (run_as (run_eql _ _ _ _) (by rw [cmpI_eq ha_]; rfl)), sPkt 35 (rS 29 9) (rS 34 14), trivial⟩) ?_; intro bX fX w7 c7 a7 XG7 yx yA yB yV yO yF; have XE7 := hR2.up yF yO (ck (kv (yV 35 rfl) rfl) kn); have XL7 := (yA.pk yB rfl [0, 1]); have XN7 := XN5.trans yx rfl; clear yx yA yB yV yO yF; show Code.wp _ _ _ _ _; refine wp_cond (t := true) (XE7.at 35 rfl) ?_; refine wp_seq ?_; by_cases h3 : 2 < n
             · skip
               refine region_st [[], [0]] [36, 37] [] (tyvC [(36, (iE n)), (37, (bE true))]) XE7 XG7 XL7 (fun Q => ⟨sMv 36 (rO 1), sBin 37 (z := Value.int .i64 n) (z' := Value.int IntKind.i64 2) (u := Value.bool true) (rS 36 0) (rK (Value.int IntKind.i64 2)) (fun h h' => ⟨h, rfl⟩) (eqg_int _ _ _ _ _ _ _ _) (run_as (run_gtr _ _ _ _) (by simp [h3])), trivial⟩) ?_; intro bX fX w8 c8 a8 XG8 yx yA yB yV yO yF; have XE8 := XE7.up yF yO (ck (kv (yV 37 rfl) rfl) kn); have XL8 := (yA.pk yB rfl [0, 1]); have XN8 := XN7.trans yx rfl; clear yx yA yB yV yO yF; show Code.wp _ _ _ _ _; refine wp_cond (t := true) (XE8.at 37 rfl) ?_; have htm : n.tmod 2 = n % 2 := Int.tmod_eq_emod_of_nonneg (by omega); refine region_st [[], [0], [1], [0, 2]] [1, 38, 39, 40] [] (tyvC [(1, (iE (2 - n % 2))), (38, (iE n)), (39, (iE (Int.tmod n 2))), (40, (iE (2 - n % 2)))]) XE8 XG8 XL8 (fun Q => ⟨sMv 38 (rP 1 3), sBin 39 (z := Value.int .i64 n) (z' := Value.int IntKind.i64 2) (u := Value.int .i64 (Int.tmod n 2)) (rS 38 0) (rK (Value.int IntKind.i64 2)) (fun h h' => ⟨h, rfl⟩) (eqg_int _ _ _ _ _ _ _ _) (run_rem_i _ _ _ (by decide)), sBin 40 (z := Value.int IntKind.i64 2) (z' := Value.int .i64 (Int.tmod n 2)) (u := Value.int .i64 (2 - n % 2)) (rK (Value.int IntKind.i64 2)) (rS 39 1) (fun h h' => ⟨rfl, h'⟩) (eqg_int _ _ _ _ _ _ _ _) (run_as (run_sub' _ _ _) (by rw [htm, IntWalk.i64_in _ (by omega)])), sMv 1 (rS 40 2), trivial⟩) ?_; intro bX fX w9 c9 a9 XG9 yx yA yB yV yO yF; have XE9 := XE8.up yF yO (ck (kv (yV 1 rfl) rfl) kn); have XL9 := (yA.pk yB rfl [0, 1]); have XN9 := XN8.trans yx rfl; clear yx yA yB yV yO yF; (repeat (first | (with_reducible refine inBlock_normal ?_) | (with_reducible refine then_normal ?_))); exact ⟨c9, 2 - n % 2, (Ev.sub XE9 _ ⟨rfl, rfl, rfl, rfl, trivial⟩), XG9, XN9, ⟨(All.box XL9 0 rfl), (All.box XL9 1 rfl), trivial⟩, ⟨by omega, by omega⟩, by omega, unit_pow_eq hu (by omega) (by omega) (by omega), (fun _ => by omega), (fun h => by rw [hu] at h; cases h)⟩
             · skip
               refine region_st [[], [0]] [36, 37] [] (tyvC [(36, (iE n)), (37, (bE false))]) XE7 XG7 XL7 (fun Q => ⟨sMv 36 (rO 1), sBin 37 (z := Value.int .i64 n) (z' := Value.int IntKind.i64 2) (u := Value.bool false) (rS 36 0) (rK (Value.int IntKind.i64 2)) (fun h h' => ⟨h, rfl⟩) (eqg_int _ _ _ _ _ _ _ _) (run_as (run_gtr _ _ _ _) (by simp; omega)), trivial⟩) ?_; intro bX fX w10 c10 a10 XG10 yx yA yB yV yO yF; have XE10 := XE7.up yF yO (ck (kv (yV 37 rfl) rfl) kn); have XL10 := (yA.pk yB rfl [0, 1]); have XN10 := XN7.trans yx rfl; clear yx yA yB yV yO yF; show Code.wp _ _ _ _ _; refine wp_cond (t := false) (XE10.at 37 rfl) ?_; refine wp_skip ?_; (repeat (first | (with_reducible refine inBlock_normal ?_) | (with_reducible refine then_normal ?_))); exact ⟨c10, n, (Ev.sub XE10 _ ⟨rfl, rfl, rfl, rfl, trivial⟩), XG10, XN10, ⟨(All.box XL10 0 rfl), (All.box XL10 1 rfl), trivial⟩, hn, by omega, rfl, (fun _ => by omega), (fun _ => rfl)⟩
           · have hu : unitB x = false := decide_eq_false (fun h => ha_ h.1)
             refine region_st [[], [0], [1], [1, 2], [1, 3], [4], [5], [5, 6], [5, 7], [8], [9], [9, 10], [9], [9, 11, 12], [9, 13], [9, 14]] [20, 21, 22, 23, 24, 25, 26, 27, 28, 29, 30, 31, 32, 33, 34, 35] [] (tyvC [(20, (bE true)), (21, (bE true)), (22, (iE (intIf ((x).num)))), (23, (bE true)), (24, (bE true)), (25, (bE true)), (26, (iE (intIf ((x).num)))), (27, (bE true)), (28, (bE true)), (29, (bE true)), (30, (ffC (x))), (31, (wfC (dn x))), (32, (wfC (1))), (33, (iE (cmpI (dn x) 1))), (34, (bE false)), (35, (bE false))]) hR2 XG5 XL5 (fun Q => ⟨sMv 20 (rO 7), sMv 21 (rS 20 0), sMv 22 (rO 6), sBin 23 (z := Value.int .i64 (intIf ((x).num))) (z' := Value.int IntKind.i64 (-1)) (u := Value.bool true) (rS 22 2) (rK (Value.int IntKind.i64 (-1))) (fun h h' => ⟨h, rfl⟩) (eqg_int _ _ _ _ _ _ _ _) (run_as (run_geq _ _ _ _) (by rw [hi1]; simp; omega)), sPkt 24 (rS 21 1) (rS 23 3), sMv 25 (rS 24 4), sMv 26 (rO 6), sBin 27 (z := Value.int .i64 (intIf ((x).num))) (z' := Value.int IntKind.i64 1) (u := Value.bool true) (rS 26 6) (rK (Value.int IntKind.i64 1)) (fun h h' => ⟨h, rfl⟩) (eqg_int _ _ _ _ _ _ _ _) (run_as (run_leq _ _ _ _) (by rw [hi1]; simp; omega)), sPkt 28 (rS 25 5) (rS 27 7), sMv 29 (rS 28 8), sLb 30 (rO 2) 0 aggF (ff_str _), sC1 31 (rS 30 10) (fun K h0 => k_den h0) Tryz.func64, sC1 32 (rK (Value.int IntKind.i64 1)) (fun K h0 => k_from (1) (by first | omega | assumption)) Tryz.func50, sC2 33 (rS 31 11) (rS 32 12) (fun K h0 h1 => k_wcompare h0 h1) Tryz.func25, sBin 34 (z := Value.int .i64 (cmpI (dn x) 1)) (z' := Value.int IntKind.i64 0) (u := Value.bool false) (rS 33 13) (rK (Value.int IntKind.i64 0)) (fun h h' => ⟨h, rfl⟩) (eqg_int _ _ _ _ _ _ _ _) (run_as (run_eql _ _ _ _) (by rw [cmp_one ha_])), sPkt 35 (rS 29 9) (rS 34 14), trivial⟩) ?_; intro bX fX w11 c11 a11 XG11 yx yA yB yV yO yF; have XE11 := hR2.up yF yO (ck (kv (yV 35 rfl) rfl) kn); have XL11 := (yA.pk yB rfl [0, 1]); have XN11 := XN5.trans yx rfl; clear yx yA yB yV yO yF; show Code.wp _ _ _ _ _; refine wp_cond (t := false) (XE11.at 35 rfl) ?_; refine wp_skip ?_; (repeat (first | (with_reducible refine inBlock_normal ?_) | (with_reducible refine then_normal ?_))); exact ⟨c11, n, (Ev.sub XE11 _ ⟨rfl, rfl, rfl, rfl, trivial⟩), XG11, XN11, ⟨(All.box XL11 0 rfl), (All.box XL11 1 rfl), trivial⟩, hn, by omega, rfl, (fun h => by rw [hu] at h; cases h), (fun _ => rfl)⟩
         · have hu : unitB x = false := decide_eq_false (fun h => hc_ h.2.2)
           refine region_st [[], [0], [1], [1, 2], [1, 3], [4], [5], [5, 6], [5, 7], [8], [9], [9], [9], [9], [9], [9]] [20, 21, 22, 23, 24, 25, 26, 27, 28, 29, 30, 31, 32, 33, 34, 35] [] (tyvC [(20, (bE true)), (21, (bE true)), (22, (iE (intIf ((x).num)))), (23, (bE true)), (24, (bE true)), (25, (bE true)), (26, (iE (intIf ((x).num)))), (27, (bE false)), (28, (bE false)), (29, (bE false)), (30, uE), (31, uE), (32, uE), (33, uE), (34, uE), (35, (bE false))]) hR2 XG5 XL5 (fun Q => ⟨sMv 20 (rO 7), sMv 21 (rS 20 0), sMv 22 (rO 6), sBin 23 (z := Value.int .i64 (intIf ((x).num))) (z' := Value.int IntKind.i64 (-1)) (u := Value.bool true) (rS 22 2) (rK (Value.int IntKind.i64 (-1))) (fun h h' => ⟨h, rfl⟩) (eqg_int _ _ _ _ _ _ _ _) (run_as (run_geq _ _ _ _) (by rw [hi1]; simp; omega)), sPkt 24 (rS 21 1) (rS 23 3), sMv 25 (rS 24 4), sMv 26 (rO 6), sBin 27 (z := Value.int .i64 (intIf ((x).num))) (z' := Value.int IntKind.i64 1) (u := Value.bool false) (rS 26 6) (rK (Value.int IntKind.i64 1)) (fun h h' => ⟨h, rfl⟩) (eqg_int _ _ _ _ _ _ _ _) (run_as (run_leq _ _ _ _) (by rw [hi1]; simp; omega)), sPkt 28 (rS 25 5) (rS 27 7), sMv 29 (rS 28 8), sNo 30, sNo 31, sNo 32, sNo 33, sNo 34, sPkf 35 (rS 29 9) (rK (Value.bool false)), trivial⟩) ?_; intro bX fX w12 c12 a12 XG12 yx yA yB yV yO yF; have XE12 := hR2.up yF yO (ck (kv (yV 35 rfl) rfl) kn); have XL12 := (yA.pk yB rfl [0, 1]); have XN12 := XN5.trans yx rfl; clear yx yA yB yV yO yF; show Code.wp _ _ _ _ _; refine wp_cond (t := false) (XE12.at 35 rfl) ?_; refine wp_skip ?_; (repeat (first | (with_reducible refine inBlock_normal ?_) | (with_reducible refine then_normal ?_))); exact ⟨c12, n, (Ev.sub XE12 _ ⟨rfl, rfl, rfl, rfl, trivial⟩), XG12, XN12, ⟨(All.box XL12 0 rfl), (All.box XL12 1 rfl), trivial⟩, hn, by omega, rfl, (fun h => by rw [hu] at h; cases h), (fun _ => rfl)⟩
       · have hu : unitB x = false := decide_eq_false (fun h => hb_ h.2.1)
         refine region_st [[], [0], [1], [1, 2], [1, 3], [4], [5], [5], [5], [8], [9], [9], [9], [9], [9], [9]] [20, 21, 22, 23, 24, 25, 26, 27, 28, 29, 30, 31, 32, 33, 34, 35] [] (tyvC [(20, (bE true)), (21, (bE true)), (22, (iE (intIf ((x).num)))), (23, (bE false)), (24, (bE false)), (25, (bE false)), (26, uE), (27, uE), (28, (bE false)), (29, (bE false)), (30, uE), (31, uE), (32, uE), (33, uE), (34, uE), (35, (bE false))]) hR2 XG5 XL5 (fun Q => ⟨sMv 20 (rO 7), sMv 21 (rS 20 0), sMv 22 (rO 6), sBin 23 (z := Value.int .i64 (intIf ((x).num))) (z' := Value.int IntKind.i64 (-1)) (u := Value.bool false) (rS 22 2) (rK (Value.int IntKind.i64 (-1))) (fun h h' => ⟨h, rfl⟩) (eqg_int _ _ _ _ _ _ _ _) (run_as (run_geq _ _ _ _) (by rw [hi1]; simp; omega)), sPkt 24 (rS 21 1) (rS 23 3), sMv 25 (rS 24 4), sNo 26, sNo 27, sPkf 28 (rS 25 5) (rK (Value.bool false)), sMv 29 (rS 28 8), sNo 30, sNo 31, sNo 32, sNo 33, sNo 34, sPkf 35 (rS 29 9) (rK (Value.bool false)), trivial⟩) ?_; intro bX fX w13 c13 a13 XG13 yx yA yB yV yO yF; have XE13 := hR2.up yF yO (ck (kv (yV 35 rfl) rfl) kn); have XL13 := (yA.pk yB rfl [0, 1]); have XN13 := XN5.trans yx rfl; clear yx yA yB yV yO yF; show Code.wp _ _ _ _ _; refine wp_cond (t := false) (XE13.at 35 rfl) ?_; refine wp_skip ?_; (repeat (first | (with_reducible refine inBlock_normal ?_) | (with_reducible refine then_normal ?_))); exact ⟨c13, n, (Ev.sub XE13 _ ⟨rfl, rfl, rfl, rfl, trivial⟩), XG13, XN13, ⟨(All.box XL13 0 rfl), (All.box XL13 1 rfl), trivial⟩, hn, by omega, rfl, (fun h => by rw [hu] at h; cases h), (fun _ => rfl)⟩
   · skip
     intro ar1 wr1; rintro ⟨cr1, m, XEr1, XGr1, XNr1, XLr1, hmi, hm0, hmx, hm1, hm2⟩; show Code.wp _ _ _ _ _; refine wp_seq ?_; refine wp_seq ?_; by_cases h2 : 16384 < m
     · have hu : unitB x = false := by cases hq : unitB x; rfl; have := hm1 hq; omega
       have hmn := hm2 hu; have hy := pow_no (x := x) (n := n) (by omega) (fun h => by rcases h.2 with h | h; rw [hu] at h; cases h; omega); rw [hy.1, hy.2]; refine region_st [[], [0]] [41, 42] [] (tyvC [(41, (iE m)), (42, (bE true))]) XEr1 XGr1 XLr1 (fun Q => ⟨sMv 41 (rO 1), sBin 42 (z := Value.int .i64 m) (z' := Value.int IntKind.i64 16384) (u := Value.bool true) (rS 41 0) (rK (Value.int IntKind.i64 16384)) (fun h h' => ⟨h, rfl⟩) (eqg_int _ _ _ _ _ _ _ _) (run_as (run_gtr _ _ _ _) (by simp [h2])), trivial⟩) ?_; intro bX fX w14 c14 a14 XG14 yx yA yB yV yO yF; have XE14 := XEr1.up yF yO (ck (kv (yV 42 rfl) rfl) kn); have XL14 := (yA.pk yB rfl [0, 1]); have XN14 := XNr1.trans yx rfl; clear yx yA yB yV yO yF; show Code.wp _ _ _ _ _; refine wp_cond (t := true) (XE14.at 42 rfl) ?_; refine wp_seq ?_; refine region_st [[], [0], []] [5, 43] [22] (tyvC [(5, (iE 4)), (43, (ffC (0)))]) XE14 XG14 (All.stg 1 1 (Fact.box g4_1 52 22 (ffC (0))) XL14) (fun Q => ⟨sB0 43  (fun K => b_ff0), sSto 22 (rO 4) (rS 43 0) aggF (ff_str _) (fun K => BoxC.old (K.fac.sb0 1 rfl K.self) (ff_str _)) (fun K h0 => h0), sMv 5 (rK (Value.int IntKind.i64 4)), trivial⟩) ?_; intro bX fX w15 c15 a15 XG15 yx yA yB yV yO yF; have XE15 := XE14.up yF yO (ck (kv (yV 5 rfl) rfl) kn); have XL15 := (yA.pk yB rfl [0, 1]); have XN15 := XN14.trans yx rfl; clear yx yA yB yV yO yF; show Code.wp _ _ _ _ _; refine wp_ret ?_; (repeat (first | (with_reducible refine then_ret ?_) | (with_reducible refine inBlock_ret ?_) | (with_reducible refine then_normal ?_) | (with_reducible refine inBlock_normal ?_))); show bodyPost Tryz.prog Tryz.f51 _ Exit.ret a15 w15; obtain ⟨r0, hr0, hs0⟩ := BoxC.load (All.box XL15 1 rfl) aggF (ff_str _); subst hc0; exact bodyPost_ret (res_ct rfl _ (XE15.at 4 rfl) hr0 (XE15.at 5 rfl)) XE15.2.1 ⟨_, rfl, ⟨_, rfl, hs0⟩, XN15.new0⟩
     · skip
       refine region_st [[], [0]] [41, 42] [] (tyvC [(41, (iE m)), (42, (bE false))]) XEr1 XGr1 XLr1 (fun Q => ⟨sMv 41 (rO 1), sBin 42 (z := Value.int .i64 m) (z' := Value.int IntKind.i64 16384) (u := Value.bool false) (rS 41 0) (rK (Value.int IntKind.i64 16384)) (fun h h' => ⟨h, rfl⟩) (eqg_int _ _ _ _ _ _ _ _) (run_as (run_gtr _ _ _ _) (by simp; omega)), trivial⟩) ?_; intro bX fX w16 c16 a16 XG16 yx yA yB yV yO yF; have XE16 := XEr1.up yF yO (ck (kv (yV 42 rfl) rfl) kn); have XL16 := (yA.pk yB rfl [0, 1]); have XN16 := XNr1.trans yx rfl; clear yx yA yB yV yO yF; show Code.wp _ _ _ _ _; refine wp_cond (t := false) (XE16.at 42 rfl) ?_; refine wp_skip ?_; show Code.wp _ _ _ _ _; refine wp_seq ?_; refine region_st [[], [], [], [], [0, 2], [1, 3]] [8, 9, 44, 45] [23, 24] (tyvC [(8, PT), (9, PT), (44, (wfC (1))), (45, (wfC (1)))]) XE16 XG16 (All.cn 8 23 35 4 #[.bool false, .slice none 0 0] (wfC (1)) (All.cn 9 24 35 5 #[.bool false, .slice none 0 0] (wfC (1)) XL16)) (fun Q => ⟨sC1 44 (rK (Value.int IntKind.i64 1)) (fun K h0 => k_from (1) (by first | omega | assumption)) Tryz.func50, sC1 45 (rK (Value.int IntKind.i64 1)) (fun K h0 => k_from (1) (by first | omega | assumption)) Tryz.func50, sAl 8 23 (zeroI _), sAl 9 24 (zeroI _), sStn 8 23 2 0 (rS 44 0) aggInt (wf_str _), sStn 9 24 3 1 (rS 45 1) aggInt (wf_str _), trivial⟩) ?_; intro bX fX w17 c17 a17 XG17 yx yA yB yV yO yF; obtain ⟨g8_17, e8⟩ := kp (yV 8 rfl) rfl; obtain ⟨g9_17, e9⟩ := kp (yV 9 rfl) rfl; have XE17 := XE16.up yF yO (ck e8 (ck e9 kn)); have XL17 := (All.cb (yA.nb 0 rfl e8 (yB 4 (by decide))) (All.cb (yA.nb 1 rfl e9 (yB 5 (by decide))) (yA.pk yB rfl [2, 3]))); have XN17 := XN16.trans yx rfl; clear yx yA yB yV yO yF; show Code.wp _ _ _ _ _; have hU3 := All.put (G := Fact.box g8_17 35 23 (wfC ((x ^ 0).num))) 0 XL17 (BoxC.up (All.box XL17 0 rfl) (fun v hv => wf_cast (show (1 : Int) = (x ^ 0).num by rw [Rat.pow_zero]; rfl) hv)); have hU4 := All.put (G := Fact.box g9_17 35 24 (wfC (dn (x ^ 0)))) 1 hU3 (BoxC.up (All.box hU3 1 rfl) (fun v hv => wf_cast (show (1 : Int) = dn (x ^ 0) by rw [Rat.pow_zero]; rfl) hv)); refine wp_seq ?_; refine wp_seq ?_; refine region_st [[], []] [46, 47] [] (tyvC [(46, (iE m)), (47, (iE 0))]) XE17 XG17 hU4 (fun Q => ⟨sMv 46 (rO 1), sMv 47 (rK (Value.int IntKind.i64 0)), trivial⟩) ?_; intro bX fX w18 c18 a18 XG18 yx yA yB yV yO yF; have XE18 := XE17.up yF yO (ck (kv (yV 46 rfl) rfl) (ck (kv (yV 47 rfl) rfl) kn)); have XL18 := (yA.pk yB rfl [0, 1, 2, 3]); have XN18 := XN17.trans yx rfl; clear yx yA yB yV yO yF; show Code.wp _ _ _ _ _; refine wp_block ?_; refine loop_ghost (fun nZ aZ wZ => ∃ (cZ : Colr) (k : Nat), Ev 77 aZ (mof [(46, Value.int .i64 m), (47, Value.int .i64 (↑k)), (8, Value.pointer (some ⟨g8_17, 0, none⟩)), (9, Value.pointer (some ⟨g9_17, 0, none⟩)), (42, Value.bool false), (2, Value.pointer (some ⟨g2_1, 0, none⟩)), (4, Value.pointer (some ⟨g4_1, 0, none⟩)), (5, Value.int IntKind.i64 0)]) ∧ GI wZ cZ ∧ Ext [21, 22, 23, 24] w c0 wZ cZ ∧ All [.s (Fact.box g8_17 35 23 (wfC ((x ^ k).num))), .s (Fact.box g9_17 35 24 (wfC (dn (x ^ k)))), .s (Fact.box g2_1 52 21 (ffC (x))), .s (Fact.box g4_1 52 22 (ffC (0)))] b0 f0 wZ cZ ∧ (k ≤ m.toNat) ∧ (m.toNat - k = nZ)) (m.toNat) ⟨c18, 0, (Ev.sub XE18 _ ⟨rfl, rfl, rfl, rfl, rfl, rfl, rfl, rfl, trivial⟩), XG18, XN18, ⟨(All.box XL18 0 rfl), (All.box XL18 1 rfl), (All.box XL18 2 rfl), (All.box XL18 3 rfl), trivial⟩, Nat.zero_le _, rfl⟩ ?_
       intro n_ ar2 wr2; rintro ⟨cr2, k, XEr2, XGr2, XNr2, XLr2, hk, hm_⟩; refine wp_seq ?_; by_cases hl : (k : Int) < m
       · skip
         refine region_st [[]] [48] [] (tyvC [(48, (bE true))]) XEr2 XGr2 XLr2 (fun Q => ⟨sBin 48 (z := Value.int .i64 (↑k)) (z' := Value.int .i64 m) (u := Value.bool true) (rO 47) (rO 46) (fun h h' => ⟨rfl, rfl⟩) (eqg_int _ _ _ _ _ _ _ _) (run_as (run_lss _ _ _ _) (by simp [hl])), trivial⟩) ?_; intro bX fX w19 c19 a19 XG19 yx yA yB yV yO yF; have XE19 := XEr2.up yF yO (ck (kv (yV 48 rfl) rfl) kn); have XL19 := (yA.pk yB rfl [0, 1, 2, 3]); have XN19 := XNr2.trans yx rfl; clear yx yA yB yV yO yF; show Code.wp _ _ _ _ _; refine wp_seq ?_; refine wp_cond (t := true) (XE19.at 48 rfl) ?_; refine wp_skip ?_; show Code.wp _ _ _ _ _; refine wp_seq ?_; refine wp_block ?_; refine wp_seq ?_; refine region_st [[]] [10] [] (tyvC [(10, (iE 0))]) XE19 XG19 XL19 (fun Q => ⟨sMv 10 (rK (Value.int IntKind.i64 0)), trivial⟩) ?_; intro bX fX w20 c20 a20 XG20 yx yA yB yV yO yF; have XE20 := XE19.up yF yO (ck (kv (yV 10 rfl) rfl) kn); have XL20 := (yA.pk yB rfl [0, 1, 2, 3]); have XN20 := XN19.trans yx rfl; clear yx yA yB yV yO yF; show Code.wp _ _ _ _ _; refine wp_seq ?_; refine wp_seq ?_; refine region_st [[], [], [1], [0, 2], [3], [4], [5], [5], [0, 6], [7]] [10, 49, 50, 51, 52, 53, 54, 55, 56] [23] (tyvC [(10, (iE (rgE (((x ^ k).num) * ((x).num))))), (49, (TyC.tup1 (wfC (rg (((x ^ k).num) * ((x).num)))) (Value.int .i64 (rgE (((x ^ k).num) * ((x).num)))))), (50, (wfC ((x ^ k).num))), (51, (pE g2_1 0)), (52, (wfC ((x).num))), (53, (litC 2 35 [(wfC ((x ^ k).num)), (wfC ((x).num))])), (54, (TyC.tup1 (wfC (rg (((x ^ k).num) * ((x).num)))) (Value.int .i64 (rgE (((x ^ k).num) * ((x).num)))))), (55, (wfC (rg (((x ^ k).num) * ((x).num))))), (56, (iE (rgE (((x ^ k).num) * ((x).num)))))]) XE20 XG20 (All.stg 0 8 (Fact.box g8_17 35 23 (wfC (rg (((x ^ k).num) * ((x).num))))) XL20) (fun Q => ⟨sLf 50 (rO 8) (fun K => BoxC.load (K.fac.sb0 0 rfl (K.nyet 8 rfl)) aggInt (wf_str _)), sFa 51 (rO 2) (fld_f0 _), sLf 52 (rS 51 1) (fun K => lf_num (K.fac.box 2 rfl)), sL2 53 (L := [(wfC ((x ^ k).num)), (wfC ((x).num))]) (rS 50 0) (rS 52 2) (fun K h0 h1 => lit_35_2 (wi_cells (h0).1) (wi_cells (h1).1) h0 h1), sC1 54 (rS 53 3) (fun K h0 => k_prod h0) Tryz.func104, sMv 49 (rS 54 4), sEx 55 (rS 49 5) ex10, sEx 56 (rS 49 5) ex11, sSto 23 (rO 8) (rS 55 6) aggInt (wf_str _) (fun K => BoxC.old (K.fac.sb0 0 rfl K.self) (wf_str _)) (fun K h0 => h0), sMv 10 (rS 56 7), trivial⟩) ?_; intro bX fX w21 c21 a21 XG21 yx yA yB yV yO yF; have XE21 := XE20.up yF yO (ck (kv (yV 10 rfl) rfl) kn); have XL21 := (yA.pk yB rfl [0, 1, 2, 3]); have XN21 := XN20.trans yx rfl; clear yx yA yB yV yO yF; show Code.wp _ _ _ _ _; refine wp_seq ?_; have hpn : ((x ^ k).num) * ((x).num) = (x ^ (k + 1)).num := succ_num x k; have hpd : (dn (x ^ k)) * (dn (x)) = dn (x ^ (k + 1)) := succ_dn x k; by_cases hf : fit (x ^ (k + 1)).num
         · have hr := rg_in (hpn ▸ hf : fit (((x ^ k).num) * ((x).num)))
           have hR5 := XE21.re 10 rfl (by rw [hr.2] : Value.int .i64 (rgE (((x ^ k).num) * ((x).num))) = Value.int .i64 0); have hU6 := All.put (G := Fact.box g8_17 35 23 (wfC ((x ^ (k + 1)).num))) 0 XL21 (BoxC.up (All.box XL21 0 rfl) (fun v hv => wf_cast (hr.1.trans hpn) hv)); refine region_st [[], [0]] [57, 58] [] (tyvC [(57, (iE 0)), (58, (bE false))]) hR5 XG21 hU6 (fun Q => ⟨sMv 57 (rO 10), sBin 58 (rS 57 0) (rK (Value.int IntKind.i64 0)) (fun h h' => ⟨h, rfl⟩) (eqg_int _ _ _ _ _ _ _ _) (run_as (run_neq _ _ _ _) rfl), trivial⟩) ?_; intro bX fX w22 c22 a22 XG22 yx yA yB yV yO yF; have XE22 := hR5.up yF yO (ck (kv (yV 58 rfl) rfl) kn); have XL22 := (yA.pk yB rfl [0, 1, 2, 3]); have XN22 := XN21.trans yx rfl; clear yx yA yB yV yO yF; show Code.wp _ _ _ _ _; refine wp_cond (t := false) (XE22.at 58 rfl) ?_; refine wp_skip ?_; show Code.wp _ _ _ _ _; refine wp_seq ?_; refine region_st [[], [], [1], [0, 2], [3], [4], [5], [5], [0, 6], [7]] [10, 61, 62, 63, 64, 65, 66, 67, 68] [24] (tyvC [(10, (iE (rgE ((dn (x ^ k)) * (dn x))))), (61, (TyC.tup1 (wfC (rg ((dn (x ^ k)) * (dn x)))) (Value.int .i64 (rgE ((dn (x ^ k)) * (dn x)))))), (62, (wfC (dn (x ^ k)))), (63, (ffC (x))), (64, (wfC (dn x))), (65, (litC 2 35 [(wfC (dn (x ^ k))), (wfC (dn x))])), (66, (TyC.tup1 (wfC (rg ((dn (x ^ k)) * (dn x)))) (Value.int .i64 (rgE ((dn (x ^ k)) * (dn x)))))), (67, (wfC (rg ((dn (x ^ k)) * (dn x))))), (68, (iE (rgE ((dn (x ^ k)) * (dn x)))))]) XE22 XG22 (All.stg 1 8 (Fact.box g9_17 35 24 (wfC (rg ((dn (x ^ k)) * (dn x))))) XL22) (fun Q => ⟨sLf 62 (rO 9) (fun K => BoxC.load (K.fac.sb0 1 rfl (K.nyet 8 rfl)) aggInt (wf_str _)), sLb 63 (rO 2) 2 aggF (ff_str _), sC1 64 (rS 63 1) (fun K h0 => k_den h0) Tryz.func64, sL2 65 (L := [(wfC (dn (x ^ k))), (wfC (dn x))]) (rS 62 0) (rS 64 2) (fun K h0 h1 => lit_35_2 (wi_cells (h0).1) (wi_cells (h1).1) h0 h1), sC1 66 (rS 65 3) (fun K h0 => k_prod h0) Tryz.func104, sMv 61 (rS 66 4), sEx 67 (rS 61 5) ex10, sEx 68 (rS 61 5) ex11, sSto 24 (rO 9) (rS 67 6) aggInt (wf_str _) (fun K => BoxC.old (K.fac.sb0 1 rfl K.self) (wf_str _)) (fun K h0 => h0), sMv 10 (rS 68 7), trivial⟩) ?_; intro bX fX w23 c23 a23 XG23 yx yA yB yV yO yF; have XE23 := XE22.up yF yO (ck (kv (yV 10 rfl) rfl) kn); have XL23 := (yA.pk yB rfl [0, 1, 2, 3]); have XN23 := XN22.trans yx rfl; clear yx yA yB yV yO yF; show Code.wp _ _ _ _ _; refine wp_seq ?_; by_cases hf' : fit (dn (x ^ (k + 1)))
           · have hr' := rg_in (hpd ▸ hf' : fit ((dn (x ^ k)) * (dn (x))))
             have hR7 := XE23.re 10 rfl (by rw [hr'.2] : Value.int .i64 (rgE ((dn (x ^ k)) * (dn x))) = Value.int .i64 0); have hU8 := All.put (G := Fact.box g9_17 35 24 (wfC (dn (x ^ (k + 1))))) 1 XL23 (BoxC.up (All.box XL23 1 rfl) (fun v hv => wf_cast (hr'.1.trans hpd) hv)); refine region_st [[], [0]] [69, 70] [] (tyvC [(69, (iE 0)), (70, (bE false))]) hR7 XG23 hU8 (fun Q => ⟨sMv 69 (rO 10), sBin 70 (rS 69 0) (rK (Value.int IntKind.i64 0)) (fun h h' => ⟨h, rfl⟩) (eqg_int _ _ _ _ _ _ _ _) (run_as (run_neq _ _ _ _) rfl), trivial⟩) ?_; intro bX fX w24 c24 a24 XG24 yx yA yB yV yO yF; have XE24 := hR7.up yF yO (ck (kv (yV 70 rfl) rfl) kn); have XL24 := (yA.pk yB rfl [0, 1, 2, 3]); have XN24 := XN23.trans yx rfl; clear yx yA yB yV yO yF; show Code.wp _ _ _ _ _; refine wp_cond (t := false) (XE24.at 70 rfl) ?_; refine wp_skip ?_; (repeat (first | (with_reducible refine inBlock_normal ?_) | (with_reducible refine then_normal ?_))); show Code.wp _ _ _ _ _; refine region_st [[], [0]] [47, 73] [] (tyvC [(47, (iE (↑(k + 1)))), (73, (iE (↑(k + 1))))]) XE24 XG24 XL24 (fun Q => ⟨sBin 73 (z := Value.int .i64 (↑k)) (z' := Value.int IntKind.i64 1) (u := Value.int .i64 (↑(k + 1))) (rP 47 1) (rK (Value.int IntKind.i64 1)) (fun h h' => ⟨rfl, rfl⟩) (eqg_int _ _ _ _ _ _ _ _) (run_as (run_add' _ _ _) (by rw [IntWalk.i64_in _ (by omega)]; rfl)), sMv 47 (rS 73 0), trivial⟩) ?_; intro bX fX w25 c25 a25 XG25 yx yA yB yV yO yF; have XE25 := XE24.up yF yO (ck (kv (yV 47 rfl) rfl) kn); have XL25 := (yA.pk yB rfl [0, 1, 2, 3]); have XN25 := XN24.trans yx rfl; clear yx yA yB yV yO yF; (repeat (first | (with_reducible refine inBlock_normal ?_) | (with_reducible refine then_normal ?_))); exact ⟨m.toNat - (k + 1), by omega, ⟨c25, k + 1, (Ev.sub XE25 _ ⟨rfl, rfl, rfl, rfl, rfl, rfl, rfl, rfl, trivial⟩), XG25, XN25, ⟨(All.box XL25 0 rfl), (All.box XL25 1 rfl), (All.box XL25 2 rfl), (All.box XL25 3 rfl), trivial⟩, by omega, rfl⟩⟩
           · have hr' := rg_out (hpd ▸ hf' : ¬ fit ((dn (x ^ k)) * (dn (x))))
             have hf := hf'; have hy : ¬ powOk x n := pow_out (k := k + 1) (m := m) (by omega) (by omega) (by omega) (by omega) hmx hm2 (fun h => hf h.2); have hz := pow_no (x := x) (n := n) (by omega) hy; rw [hz.1, hz.2]; have hR9 := XE23.re 10 rfl (by rw [hr'.2] : Value.int .i64 (rgE ((dn (x ^ k)) * (dn x))) = Value.int .i64 4); refine region_st [[], [0]] [69, 70] [] (tyvC [(69, (iE 4)), (70, (bE true))]) hR9 XG23 XL23 (fun Q => ⟨sMv 69 (rO 10), sBin 70 (rS 69 0) (rK (Value.int IntKind.i64 0)) (fun h h' => ⟨h, rfl⟩) (eqg_int _ _ _ _ _ _ _ _) (run_as (run_neq _ _ _ _) rfl), trivial⟩) ?_; intro bX fX w26 c26 a26 XG26 yx yA yB yV yO yF; have XE26 := hR9.up yF yO (ck (kv (yV 70 rfl) rfl) kn); have XL26 := (yA.pk yB rfl [0, 1, 2, 3]); have XN26 := XN23.trans yx rfl; clear yx yA yB yV yO yF; show Code.wp _ _ _ _ _; refine wp_cond (t := true) (XE26.at 70 rfl) ?_; refine wp_seq ?_; refine region_st [[], [], [0], [1]] [5, 71, 72] [22] (tyvC [(5, (iE 4)), (71, (ffC (0))), (72, (iE 4))]) XE26 XG26 (All.stg 3 2 (Fact.box g4_1 52 22 (ffC (0))) XL26) (fun Q => ⟨sB0 71  (fun K => b_ff0), sMv 72 (rO 10), sSto 22 (rO 4) (rS 71 0) aggF (ff_str _) (fun K => BoxC.old (K.fac.sb0 3 rfl K.self) (ff_str _)) (fun K h0 => h0), sMv 5 (rS 72 1), trivial⟩) ?_; intro bX fX w27 c27 a27 XG27 yx yA yB yV yO yF; have XE27 := XE26.up yF yO (ck (kv (yV 5 rfl) rfl) kn); have XL27 := (yA.pk yB rfl [0, 1, 2, 3]); have XN27 := XN26.trans yx rfl; clear yx yA yB yV yO yF; show Code.wp _ _ _ _ _; refine wp_ret ?_; (repeat (first | (with_reducible refine then_ret ?_) | (with_reducible refine inBlock_ret ?_) | (with_reducible refine then_normal ?_) | (with_reducible refine inBlock_normal ?_))); show bodyPost Tryz.prog Tryz.f51 _ Exit.ret a27 w27; obtain ⟨r0, hr0, hs0⟩ := BoxC.load (All.box XL27 3 rfl) aggF (ff_str _); subst hc0; exact bodyPost_ret (res_ct rfl _ (XE27.at 4 rfl) hr0 (XE27.at 5 rfl)) XE27.2.1 ⟨_, rfl, ⟨_, rfl, hs0⟩, XN27.new0⟩
         · have hr := rg_out (hpn ▸ hf : ¬ fit (((x ^ k).num) * ((x).num)))
           have hy : ¬ powOk x n := pow_out (k := k + 1) (m := m) (by omega) (by omega) (by omega) (by omega) hmx hm2 (fun h => hf h.1); have hz := pow_no (x := x) (n := n) (by omega) hy; rw [hz.1, hz.2]; have hR10 := XE21.re 10 rfl (by rw [hr.2] : Value.int .i64 (rgE (((x ^ k).num) * ((x).num))) = Value.int .i64 4); refine region_st [[], [0]] [57, 58] [] (tyvC [(57, (iE 4)), (58, (bE true))]) hR10 XG21 XL21 (fun Q => ⟨sMv 57 (rO 10), sBin 58 (rS 57 0) (rK (Value.int IntKind.i64 0)) (fun h h' => ⟨h, rfl⟩) (eqg_int _ _ _ _ _ _ _ _) (run_as (run_neq _ _ _ _) rfl), trivial⟩) ?_; intro bX fX w28 c28 a28 XG28 yx yA yB yV yO yF; have XE28 := hR10.up yF yO (ck (kv (yV 58 rfl) rfl) kn); have XL28 := (yA.pk yB rfl [0, 1, 2, 3]); have XN28 := XN21.trans yx rfl; clear yx yA yB yV yO yF; show Code.wp _ _ _ _ _; refine wp_cond (t := true) (XE28.at 58 rfl) ?_; refine wp_seq ?_; refine region_st [[], [], [0], [1]] [5, 59, 60] [22] (tyvC [(5, (iE 4)), (59, (ffC (0))), (60, (iE 4))]) XE28 XG28 (All.stg 3 2 (Fact.box g4_1 52 22 (ffC (0))) XL28) (fun Q => ⟨sB0 59  (fun K => b_ff0), sMv 60 (rO 10), sSto 22 (rO 4) (rS 59 0) aggF (ff_str _) (fun K => BoxC.old (K.fac.sb0 3 rfl K.self) (ff_str _)) (fun K h0 => h0), sMv 5 (rS 60 1), trivial⟩) ?_; intro bX fX w29 c29 a29 XG29 yx yA yB yV yO yF; have XE29 := XE28.up yF yO (ck (kv (yV 5 rfl) rfl) kn); have XL29 := (yA.pk yB rfl [0, 1, 2, 3]); have XN29 := XN28.trans yx rfl; clear yx yA yB yV yO yF; show Code.wp _ _ _ _ _; refine wp_ret ?_; (repeat (first | (with_reducible refine then_ret ?_) | (with_reducible refine inBlock_ret ?_) | (with_reducible refine then_normal ?_) | (with_reducible refine inBlock_normal ?_))); show bodyPost Tryz.prog Tryz.f51 _ Exit.ret a29 w29; obtain ⟨r0, hr0, hs0⟩ := BoxC.load (All.box XL29 3 rfl) aggF (ff_str _); subst hc0; exact bodyPost_ret (res_ct rfl _ (XE29.at 4 rfl) hr0 (XE29.at 5 rfl)) XE29.2.1 ⟨_, rfl, ⟨_, rfl, hs0⟩, XN29.new0⟩
       · have hk' : k = m.toNat := by omega
         have hft : ft (x ^ n.toNat) := by obtain ⟨_, uu, huu, _⟩ := (All.box XLr2 0 rfl); obtain ⟨_, vv, hvv, _⟩ := (All.box XLr2 1 rfl); rw [← hmx, ← hk']; exact ⟨huu.2, hvv.2⟩
         have hok : powOk x n := ⟨by omega, by cases hq : unitB x; exact .inr ⟨by have := hm2 hq; omega, hft⟩; exact .inl rfl⟩; have hy := pow_yes hok; rw [hy.1, hy.2, ← hmx, ← hk']; refine region_st [[]] [48] [] (tyvC [(48, (bE false))]) XEr2 XGr2 XLr2 (fun Q => ⟨sBin 48 (z := Value.int .i64 (↑k)) (z' := Value.int .i64 m) (u := Value.bool false) (rO 47) (rO 46) (fun h h' => ⟨rfl, rfl⟩) (eqg_int _ _ _ _ _ _ _ _) (run_as (run_lss _ _ _ _) (by simp; omega)), trivial⟩) ?_; intro bX fX w30 c30 a30 XG30 yx yA yB yV yO yF; have XE30 := XEr2.up yF yO (ck (kv (yV 48 rfl) rfl) kn); have XL30 := (yA.pk yB rfl [0, 1, 2, 3]); have XN30 := XNr2.trans yx rfl; clear yx yA yB yV yO yF; show Code.wp _ _ _ _ _; refine wp_seq ?_; refine wp_cond (t := false) (XE30.at 48 rfl) ?_; refine wp_exit ?_; (repeat (with_reducible refine then_exit ?_)); refine inBlock_exit ?_; show Code.wp _ _ _ _ _; refine wp_seq ?_; refine region_st [[], [], [0, 1], [2], []] [5, 74, 75, 76] [22] (tyvC [(5, (iE 0)), (74, (wfC ((x ^ k).num))), (75, (wfC (dn (x ^ k)))), (76, (ffC ((x ^ k))))]) XE30 XG30 (All.stg 3 3 (Fact.box g4_1 52 22 (ffC ((x ^ k)))) XL30) (fun Q => ⟨sLb 74 (rO 8) 0 aggInt (wf_str _), sLb 75 (rO 9) 1 aggInt (wf_str _), sB2 76 (rS 74 0) (rS 75 1) (fun K h0 h1 => b_ff (r := (x ^ k)) h0 h1), sSto 22 (rO 4) (rS 76 2) aggF (ff_str _) (fun K => BoxC.old (K.fac.sb0 3 rfl K.self) (ff_str _)) (fun K h0 => h0), sMv 5 (rK (Value.int IntKind.i64 0)), trivial⟩) ?_; intro bX fX w31 c31 a31 XG31 yx yA yB yV yO yF; have XE31 := XE30.up yF yO (ck (kv (yV 5 rfl) rfl) kn); have XL31 := (yA.pk yB rfl [3]); have XN31 := XN30.trans yx rfl; clear yx yA yB yV yO yF; show Code.wp _ _ _ _ _; refine wp_ret ?_; (repeat (first | (with_reducible refine then_ret ?_) | (with_reducible refine inBlock_ret ?_) | (with_reducible refine then_normal ?_) | (with_reducible refine inBlock_normal ?_))); show bodyPost Tryz.prog Tryz.f51 _ Exit.ret a31 w31; obtain ⟨r0, hr0, hs0⟩ := BoxC.load (All.box XL31 0 rfl) aggF (ff_str _); subst hc0; exact bodyPost_ret (res_ct rfl _ (XE31.at 4 rfl) hr0 (XE31.at 5 rfl)) XE31.2.1 ⟨_, rfl, ⟨_, rfl, hs0⟩, XN31.new0⟩

theorem k_fpow {w : World} {c : Colr} {v : Value} {x : Rat} {n : Int} (hn : I64 n) (h : (ffC x).sat v w c) : CV Tryz.prog 51 #[v, .int .i64 n] w c ((ffC (powV x n)).tup1 (.int .i64 (powE x n))) := (t_fpow w v x n hn h).cv (plain_tup1 (pl_ff _))
end Go.Proofs.YtbocpkjajocpiaaGreatDoor

namespace Go.Proofs
open Go.Shelf
def Tryz.lays145_ren : Go.Shelf.Ren := ⟨fun | 145 => 110 | 220 => 140 | 219 => 170 | 217 => 186 | 225 => 187 | 224 => 188 | 267 => 189 | 266 => 199 | 314 => 200 | n => n, fun | 9 => 9 | 4 => 4 | 59 => 151 | 3 => 3 | 5 => 5 | 46 => 147 | 146 => 203 | 51 => 108 | n => n, fun | 1 => 2 | n => n⟩
theorem Tryz.lays145 : Go.Proofs.Lays.n145 Tryz.prog Tryz.lays145_ren := {
  mixed := by kernel_rfl
  f145 := Tryz.func110.trans (congrArg some (by kernel_rfl))
  f217 := Tryz.func186.trans (congrArg some (by kernel_rfl))
  f219 := Tryz.func170.trans (congrArg some (by kernel_rfl))
  f220 := Tryz.func140.trans (congrArg some (by kernel_rfl))
  f224 := Tryz.func188.trans (congrArg some (by kernel_rfl))
  f225 := Tryz.func187.trans (congrArg some (by kernel_rfl))
  f266 := Tryz.func199.trans (congrArg some (by kernel_rfl))
  f267 := Tryz.func189.trans (congrArg some (by kernel_rfl))
  f314 := Tryz.func200.trans (congrArg some (by kernel_rfl))
  t3 := Tryz.underlying3
  a3 := Tryz.isAgg3
  z3 := Tryz.sizeOf3
  v3 := Tryz.zeroValue3
  t4 := Tryz.underlying4
  a4 := Tryz.isAgg4
  z4 := Tryz.sizeOf4
  v4 := Tryz.zeroValue4
  t5 := Tryz.underlying5
  a5 := Tryz.isAgg5
  z5 := Tryz.sizeOf5
  v5 := Tryz.zeroValue5
  t9 := Tryz.underlying9
  a9 := Tryz.isAgg9
  z9 := Tryz.sizeOf9
  v9 := Tryz.zeroValue9
  t46 := Tryz.underlying147
  a46 := Tryz.isAgg147
  z46 := Tryz.sizeOf147
  v46 := Tryz.zeroValue147
  t51 := Tryz.underlying108
  a51 := Tryz.isAgg108
  z51 := Tryz.sizeOf108
  v51 := Tryz.zeroValue108
  t59 := Tryz.underlying151
  a59 := Tryz.isAgg151
  z59 := Tryz.sizeOf151
  v59 := Tryz.zeroValue151
  t146 := Tryz.underlying203
  a146 := Tryz.isAgg203
  z146 := Tryz.sizeOf203
  v146 := Tryz.zeroValue203
  g1 := by kernel_rfl }
open Go.RowKit Go.Lib in
/-- strings.Cut: "Cut slices s around the first instance of sep, returning the text before and after sep. The found result reports whether sep appears in s. If sep does not appear in s, cut returns s, "", false.": IT RETURNS 'Lib.cut s sep'; the world is as it was but for the count of draws. (LAID: no walk: one application.) -/
theorem Tryz.strings_Cut (s sep : ByteArray) (m : Int) (w : World) (hs : s.size < 4294967281) (hm : w.cell? ⟨2, 0, none⟩ = some (.int .i64 m)) :
    Calls Tryz.prog 110 #[.string s, .string sep] w fun e w' => e = .returned (.tuple #[.string ⟨(Lib.cut s.data.toList sep.data.toList).1.toArray⟩, .string ⟨(Lib.cut s.data.toList sep.data.toList).2.1.toArray⟩, .bool (Lib.cut s.data.toList sep.data.toList).2.2]) ∧ ∃ n, w' = w.drewN n := Any.strings_Cut Tryz.lays145 s sep m w hs hm
end Go.Proofs

namespace Go.Mem
open Go.RowKit
section
variable {P : Program} {o : Oper} {a : Act} {w w' : World} {v : Value}
end
end Go.Mem
namespace Go.Proofs.YtbocpkjajocpiaaGreatDoor
set_option linter.unusedVariables false
open Go.RowKit Go.Mem Go.Dig Go.Fr Go.Col
open Go.Lib (decDigits)

/-! ### where the stroke is -/
def topL : List UInt8 → List UInt8
  | [] => []
  | b :: l => if b = 47 then [] else b :: topL l
def rstL : List UInt8 → List UInt8
  | [] => []
  | b :: l => if b = 47 then l else rstL l
def botL (l : List UInt8) : List UInt8 := if 47 ∈ l then rstL l else [49]
theorem top_none : ∀ {l : List UInt8}, 47 ∉ l → topL l = l
  | [], _ => rfl
  | b :: l, h => by
    have h1 : ¬ b = 47 := fun e => h (by simp [e])
    have h2 : 47 ∉ l := fun e => h (by simp [e])
    show (if b = 47 then [] else b :: topL l) = b :: l
    rw [if_neg h1, top_none h2]
theorem top_app : ∀ (a b : List UInt8), 47 ∉ a → topL (a ++ 47 :: b) = a ∧ rstL (a ++ 47 :: b) = b
  | [], b, _ => ⟨rfl, rfl⟩
  | c :: a, b, h => by
    have h1 : ¬ c = 47 := fun e => h (by simp [e])
    have h2 : 47 ∉ a := fun e => h (by simp [e])
    obtain ⟨q1, q2⟩ := top_app a b h2
    refine ⟨?_, ?_⟩
    · show (if c = 47 then [] else c :: topL (a ++ 47 :: b)) = c :: a
      rw [if_neg h1, q1]
    · show (if c = 47 then (a ++ 47 :: b) else rstL (a ++ 47 :: b)) = b
      rw [if_neg h1, q2]
theorem index_nonneg : ∀ l : List UInt8, (47 ∈ l → Lib.index l [47] = (topL l).length ∧ rstL l = l.drop ((topL l).length + 1) ∧ topL l = l.take (topL l).length) ∧ (47 ∉ l → Lib.index l [47] = -1)
  | [] => ⟨fun h => by simp at h, fun _ => rfl⟩
  | b :: l => by
    have hp : [47].isPrefixOf (b :: l) = (47 == b) := by simp [List.isPrefixOf]
    obtain ⟨i1, i2⟩ := index_nonneg l
    by_cases hb : b = 47
    · subst hb
      refine ⟨fun _ => ⟨?_, rfl, rfl⟩, fun h => absurd (by simp) h⟩
      unfold Lib.index
      rw [hp]
      rfl
    · have hb' : (47 == b) = false := by simp; exact fun e => hb e.symm
      have ht : topL (b :: l) = b :: topL l := if_neg hb
      have hr : rstL (b :: l) = rstL l := if_neg hb
      refine ⟨fun h => ?_, fun h => ?_⟩
      · have hm : 47 ∈ l := by
          rcases List.mem_cons.1 h with h | h
          · exact absurd h.symm hb
          · exact h
        obtain ⟨j1, j2, j3⟩ := i1 hm
        refine ⟨?_, ?_, ?_⟩
        · unfold Lib.index
          rw [hp, hb', j1, ht]
          have : ((((topL l).length : Nat) : Int) == -1) = false := by simp
          rw [this]
          simp
        · rw [hr, ht, j2]; rfl
        · rw [ht]
          show b :: topL l = b :: l.take (topL l).length
          rw [← j3]
      · have hm : 47 ∉ l := fun e => h (by simp [e])
        unfold Lib.index
        rw [hp, hb', i2 hm]
        rfl
theorem cut_st (l : List UInt8) : Lib.cut l [47] = if 47 ∈ l then (topL l, rstL l, true) else (l, [], false) := by
  obtain ⟨h1, h2⟩ := index_nonneg l
  unfold Lib.cut
  by_cases h : 47 ∈ l
  · obtain ⟨q1, q2, q3⟩ := h1 h
    rw [if_pos h, q1, if_pos (by omega)]
    simp only [Int.toNat_natCast, List.length_cons, List.length_nil, Nat.zero_add]
    rw [← q2, ← q3]
  · rw [if_neg h, h2 h, if_neg (by omega)]

/-! ### texts of fractions -/
theorem no47 (z : Int) : 47 ∉ Txt.text z := by
  have hd : ∀ u, 47 ∉ decDigits u := fun u h => by
    have := Txt.allDig_dec u 47 h
    unfold Txt.isDig at this
    exact absurd this (by decide)
  unfold Txt.text
  split
  · intro h
    rcases List.mem_cons.1 h with h | h
    · exact absurd h (by decide)
    · exact hd _ h
  · exact hd _
theorem ftx_top (x : Rat) : topL (ftx x) = Txt.text x.num ∧ botL (ftx x) = Txt.text (dn x) := by
  unfold ftx botL
  by_cases h : dn x = 1
  · rw [if_pos h, if_neg (no47 _), top_none (no47 _), h, text_one]
    exact ⟨rfl, rfl⟩
  · rw [if_neg h, if_pos (by simp)]
    exact top_app _ _ (no47 _)
theorem ftx_inj {x y : Rat} (h : ftx x = ftx y) : x = y := by
  have h1 := (ftx_top x).1
  have h2 := (ftx_top x).2
  rw [h] at h1 h2
  exact Fr.ext (Txt.text_inj (h1.symm.trans (ftx_top y).1)) (Txt.text_inj (h2.symm.trans (ftx_top y).2))
/-! ### what Parse makes of a string -/
open Classical in
noncomputable def parV (l : List UInt8) : Rat := if h : ∃ x, ft x ∧ ftx x = l then h.choose else 0
open Classical in
noncomputable def parE (l : List UInt8) : Int := if ∃ x, ft x ∧ ftx x = l then 0 else 2
theorem par_yes {l : List UInt8} {x : Rat} (hf : ft x) (h : ftx x = l) : parV l = x ∧ parE l = 0 := by
  have he : ∃ x, ft x ∧ ftx x = l := ⟨x, hf, h⟩
  refine ⟨?_, if_pos he⟩
  unfold parV
  rw [dif_pos he]
  exact ftx_inj (he.choose_spec.2.trans h.symm)
theorem par_no {l : List UInt8} (h : ∀ x, ft x → ftx x ≠ l) : parV l = 0 ∧ parE l = 2 := by
  have he : ¬ ∃ x, ft x ∧ ftx x = l := fun ⟨x, h1, h2⟩ => h x h1 h2
  exact ⟨dif_neg he, if_neg he⟩
theorem parsR_text {z Z E : Int} (hf : fit z) (h : ParsR (Txt.text z) Z E) : Z = z ∧ E = 0 := by
  rcases h with ⟨y, h1, rfl, rfl⟩ | ⟨h1, _⟩
  · have := h1.uniq (Txt.reads_text z)
    subst this
    exact rg_in hf
  · exact absurd (Txt.reads_text z) (h1 z)
theorem parsR_any (l : List UInt8) : ∃ Z E, ParsR l Z E ∧ (E = 0 ∨ ¬ E = 0) := by
  by_cases h : ∃ z, Txt.Reads l z
  · obtain ⟨z, h⟩ := h
    exact ⟨rg z, rgE z, .inl ⟨z, h, rfl, rfl⟩, Decidable.em _⟩
  · exact ⟨0, 2, .inr ⟨fun z hz => h ⟨z, hz⟩, rfl, rfl⟩, Decidable.em _⟩
section
variable {l : List UInt8} {Z E Z' E' : Int}
theorem par_bad1 (h : ParsR (topL l) Z E) (hE : ¬ E = 0) : parV l = 0 ∧ parE l = 2 := par_no fun x hf hx => by
  subst hx
  rw [(ftx_top x).1] at h
  exact hE (parsR_text hf.1 h).2
theorem par_bad2 (h : ParsR (botL l) Z E) (hE : ¬ E = 0) : parV l = 0 ∧ parE l = 2 := par_no fun x hf hx => by
  subst hx
  rw [(ftx_top x).2] at h
  exact hE (parsR_text hf.2 h).2
theorem mkV_self (x : Rat) : mkV x.num (dn x) = x ∧ mkE (dn x) = 0 := by
  have h : dn x ≠ 0 := by have := dn_pos x; omega
  exact ⟨(if_neg h).trans (mk_self x), if_neg h⟩
theorem par_bad3 (h : ParsR (topL l) Z E) (h' : ParsR (botL l) Z' E') (hb : ¬ (mkE Z' = 0 ∧ ftx (mkV Z Z') = l)) : parV l = 0 ∧ parE l = 2 := par_no fun x hf hx => by
  subst hx
  rw [(ftx_top x).1] at h
  rw [(ftx_top x).2] at h'
  obtain ⟨rfl, rfl⟩ := parsR_text hf.1 h
  obtain ⟨rfl, rfl⟩ := parsR_text hf.2 h'
  exact hb ⟨(mkV_self x).2, by rw [(mkV_self x).1]⟩
end
/-- What the walks ask of the world: a table and a variable of the library. -/
def Env (w : World) : Prop := PowTab w ∧ ∃ m, w.cell? ⟨2, 0, none⟩ = some (.int .i64 m)
theorem Env.new {w w' : World} (h : Env w) (hn : New w w') : Env w' := ⟨h.1.new hn, by
  obtain ⟨m, hm⟩ := h.2
  exact ⟨m, hn.cell hm (fun h => h)⟩⟩
theorem env_at {S : List Nat} {w w' : World} {c0 c' : Colr} (h : Env w) (e : Ext S w c0 w' c') (hc : c0 = fun _ => 0) : Env w' := by
  subst hc
  exact h.new e.new0
theorem k_cut {w : World} {c : Colr} (l : List UInt8) (hl : l.length ≤ 1000000) (he : Env w) : CV Tryz.prog 110 #[.string (St l), .string { data := #[47] }] w c (TyC.eq (.tuple #[.string (St (if 47 ∈ l then topL l else l)), .string (St (if 47 ∈ l then rstL l else [])), .bool (decide (47 ∈ l))])) := by
  obtain ⟨m, hm⟩ := he.2
  refine CV.of_new (R := fun u _ => u = .tuple #[.string (St (if 47 ∈ l then topL l else l)), .string (St (if 47 ∈ l then rstL l else [])), .bool (decide (47 ∈ l))]) ((Tryz.strings_Cut (St l) { data := #[47] } m w (by rw [St_size]; omega) hm).mono ?_) (fun v w' c' h => h)
  rintro e w' ⟨rfl, n, rfl⟩
  refine ⟨_, rfl, ?_, (Chg.refl _ w).drewN n⟩
  have h1 : (St l).data.toList = l := by simp [St]
  have h2 : ({ data := #[47] } : ByteArray).data.toList = [47] := rfl
  rw [h1, h2, cut_st]
  by_cases h : 47 ∈ l
  · simp [h, St]
  · simp [h, St]
section
variable {P : Program} {w : World}
theorem run_neqS (t : TypeId) (x y : List UInt8) : (binOp .neq t (.string (St x)) (.string (St y))).run P w = .ok (.bool (!(x == y))) w := by
  have h : ∀ l : List UInt8, (St l).toList = l := fun l => by simp [St]
  simp [binOp, Op.stringOp, go_sem, h]
end
end Go.Proofs.YtbocpkjajocpiaaGreatDoor

namespace Go.Proofs.YtbocpkjajocpiaaGreatDoor
set_option linter.unusedVariables false
open Go.RowKit Go.Mem Go.Dig Go.Fr Go.Col

theorem top_len {l : List UInt8} (hl : l.length ≤ 4000) : (St (topL l)).size ≤ 5000 ∧ (St (botL l)).size ≤ 5000 := by
  have h1 : ∀ l : List UInt8, (topL l).length ≤ l.length := fun l => by
    induction l with
    | nil => exact Nat.le_refl _
    | cons b l ih =>
      show (if b = 47 then [] else b :: topL l).length ≤ _
      split
      · exact Nat.zero_le _
      · simp; omega
  have h2 : ∀ l : List UInt8, (rstL l).length ≤ l.length := fun l => by
    induction l with
    | nil => exact Nat.le_refl _
    | cons b l ih =>
      show (if b = 47 then l else rstL l).length ≤ _
      split
      · simp
      · simp; omega
  have h3 := h1 l
  have h4 := h2 l
  rw [St_size, St_size]
  refine ⟨by omega, ?_⟩
  unfold botL
  split
  · omega
  · exact Nat.le_trans (show 1 ≤ 5000 by omega) (Nat.le_refl _)
set_option maxRecDepth 100000 in
set_option maxHeartbeats 4000000 in
theorem t_fparse (w : World) (l : List UInt8) (hl : l.length ≤ 4000) (Z1 E1 Z2 E2 : Int) (hp1 : ParsR (topL l) Z1 E1) (hp2 : ParsR (botL l) Z2 E2) (henv : Env w) : CT0 Tryz.prog 56 #[Value.string (St l)] w (TyC.tup1 (ffC (parV l)) (Value.int .i64 (parE l))) := by
 obtain ⟨htl, hbl⟩ := top_len hl; refine enter_st Tryz.func56 rfl Tryz.ntmps56 [(0, Value.string (St l))] rfl ⟨rfl, trivial⟩ (Nat.le_of_ble_eq_true rfl) ?_; intro a0 XE0; obtain ⟨c0, hc0⟩ : ∃ c0 : Colr, c0 = fun _ => 0 := ⟨_, rfl⟩; have XG0 : GI w c0 := hc0 ▸ GI.zero w; have XN0 : Ext [21, 22, 23, 24] w c0 w c0 := Ext.refl rfl XG0; have XL0 : All [] b0 f0 w c0 := trivial; refine wp_seq ?_; refine region_st [[], []] [2, 3] [21] (tyvC [(2, PT), (3, (iE 0))]) XE0 XG0 (All.cn 2 21 52 0 #[] (ffC (0)) XL0) (fun Q => ⟨sAlz 2 21 (zeroF _) (ff_zero), sMv 3 (rK (Value.int IntKind.i64 0)), trivial⟩) ?_; intro bX fX w1 c1 a1 XG1 yx yA yB yV yO yF; obtain ⟨g2_1, e2⟩ := kp (yV 2 rfl) rfl; have XE1 := XE0.up yF yO (ck e2 (ck (kv (yV 3 rfl) rfl) kn)); have XL1 := (All.cb (yA.nb 0 rfl e2 (yB 0 (by decide))) (yA.pk yB rfl [])); have XN1 := XN0.trans yx rfl; clear yx yA yB yV yO yF; show Code.wp _ _ _ _ _; refine wp_seq ?_; refine region_st [[], [0], [1], [2], [2], [2], [3], [4], [5]] [4, 5, 6, 11, 12, 13, 14, 15, 16] [] (tyvC [(4, (TyC.eq (Value.string (St (if 47 ∈ l then topL l else l))))), (5, (TyC.eq (Value.string (St (if 47 ∈ l then rstL l else []))))), (6, (TyC.eq (Value.bool (decide (47 ∈ l))))), (11, (TyC.eq (Value.tuple #[Value.string (St (if 47 ∈ l then topL l else l)), Value.string (St (if 47 ∈ l then rstL l else [])), Value.bool (decide (47 ∈ l))]))), (12, (TyC.eq (Value.string (St l)))), (13, (TyC.eq (Value.tuple #[Value.string (St (if 47 ∈ l then topL l else l)), Value.string (St (if 47 ∈ l then rstL l else [])), Value.bool (decide (47 ∈ l))]))), (14, (TyC.eq (Value.string (St (if 47 ∈ l then topL l else l))))), (15, (TyC.eq (Value.string (St (if 47 ∈ l then rstL l else []))))), (16, (TyC.eq (Value.bool (decide (47 ∈ l)))))]) XE1 XG1 XL1 (fun Q => ⟨sMv 12 (rO 0), sC2 13 (rS 12 0) (rK (Value.string { data := #[47] })) (fun K h0 h1 => by cases h0; exact k_cut l (by omega) (env_at henv (XN1.trans K.ext rfl) hc0)) Tryz.func110, sMv 11 (rS 13 1), sEx 14 (rS 11 2) (exe rfl), sEx 15 (rS 11 2) (exe rfl), sEx 16 (rS 11 2) (exe rfl), sMv 4 (rS 14 3), sMv 5 (rS 15 4), sMv 6 (rS 16 5), trivial⟩) ?_; intro bX fX w2 c2 a2 XG2 yx yA yB yV yO yF; have XE2 := XE1.up yF yO (ck (kv (yV 4 rfl) rfl) (ck (kv (yV 5 rfl) rfl) (ck (kv (yV 6 rfl) rfl) kn))); have XL2 := (yA.pk yB rfl [0]); have XN2 := XN1.trans yx rfl; clear yx yA yB yV yO yF; show Code.wp _ _ _ _ _; have hR1 := XE2.re 4 rfl (by by_cases h : 47 ∈ l; rw [if_pos h]; rw [if_neg h, top_none h] : Value.string (St (if 47 ∈ l then topL l else l)) = Value.string (St (topL l))); refine wp_join (M := fun aZ wZ => ∃ (cZ : Colr), Ev 51 aZ (mof [(4, Value.string (St (topL l))), (5, Value.string (St (botL l))), (2, Value.pointer (some ⟨g2_1, 0, none⟩)), (3, Value.int IntKind.i64 0), (0, Value.string (St l))]) ∧ GI wZ cZ ∧ Ext [21, 22, 23, 24] w c0 wZ cZ ∧ All [.s (Fact.box g2_1 52 21 (ffC (0)))] b0 f0 wZ cZ) ?_ ?_
 · by_cases h47 : 47 ∈ l
   · skip
     refine wp_seq ?_; have hR2 := hR1.re 6 rfl (by rw [decide_eq_true h47] : Value.bool (decide (47 ∈ l)) = Value.bool true); refine region_st [[], [0]] [17, 18] [] (tyvC [(17, (bE true)), (18, (bE false))]) hR2 XG2 XL2 (fun Q => ⟨sMv 17 (rO 6), sUv 18 (rS 17 0) (fun h => h) (run_not _), trivial⟩) ?_; intro bX fX w3 c3 a3 XG3 yx yA yB yV yO yF; have XE3 := hR2.up yF yO (ck (kv (yV 18 rfl) rfl) kn); have XL3 := (yA.pk yB rfl [0]); have XN3 := XN2.trans yx rfl; clear yx yA yB yV yO yF; show Code.wp _ _ _ _ _; refine wp_cond (t := false) (XE3.at 18 rfl) ?_; refine wp_skip ?_; have hbot : botL l = (if 47 ∈ l then rstL l else []) := by rw [if_pos h47]; exact if_pos h47
     have hR3 := XE3.re 5 rfl (by rw [hbot] : Value.string (St (if 47 ∈ l then rstL l else [])) = Value.string (St (botL l))); (repeat (first | (with_reducible refine inBlock_normal ?_) | (with_reducible refine then_normal ?_))); exact ⟨c3, (Ev.sub hR3 _ ⟨rfl, rfl, rfl, rfl, rfl, trivial⟩), XG3, XN3, ⟨(All.box XL3 0 rfl), trivial⟩⟩
   · skip
     refine wp_seq ?_; have hR4 := hR1.re 6 rfl (by rw [decide_eq_false h47] : Value.bool (decide (47 ∈ l)) = Value.bool false); refine region_st [[], [0]] [17, 18] [] (tyvC [(17, (bE false)), (18, (bE true))]) hR4 XG2 XL2 (fun Q => ⟨sMv 17 (rO 6), sUv 18 (rS 17 0) (fun h => h) (run_not _), trivial⟩) ?_; intro bX fX w4 c4 a4 XG4 yx yA yB yV yO yF; have XE4 := hR4.up yF yO (ck (kv (yV 18 rfl) rfl) kn); have XL4 := (yA.pk yB rfl [0]); have XN4 := XN2.trans yx rfl; clear yx yA yB yV yO yF; show Code.wp _ _ _ _ _; refine wp_cond (t := true) (XE4.at 18 rfl) ?_; refine region_st [[]] [5] [] (tyvC [(5, (TyC.eq (Value.string { data := #[49] })))]) XE4 XG4 XL4 (fun Q => ⟨sMv 5 (rK (Value.string { data := #[49] })), trivial⟩) ?_; intro bX fX w5 c5 a5 XG5 yx yA yB yV yO yF; have XE5 := XE4.up yF yO (ck (kv (yV 5 rfl) rfl) kn); have XL5 := (yA.pk yB rfl [0]); have XN5 := XN4.trans yx rfl; clear yx yA yB yV yO yF; have hbot : botL l = [49] := if_neg h47; have hR5 := XE5.re 5 rfl (by rw [hbot]; rfl : Value.string { data := #[49] } = Value.string (St (botL l))); (repeat (first | (with_reducible refine inBlock_normal ?_) | (with_reducible refine then_normal ?_))); exact ⟨c5, (Ev.sub hR5 _ ⟨rfl, rfl, rfl, rfl, rfl, trivial⟩), XG5, XN5, ⟨(All.box XL5 0 rfl), trivial⟩⟩
 · skip
   intro ar1 wr1; rintro ⟨cr1, XEr1, XGr1, XNr1, XLr1⟩; show Code.wp _ _ _ _ _; refine wp_seq ?_; refine region_st [[], [0], [1], [2], [2], [], [3, 5], [4]] [7, 8, 19, 20, 21, 22, 23] [22] (tyvC [(7, PT), (8, (iE (E1))), (19, (TyC.tup1 (wfC (Z1)) (Value.int .i64 (E1)))), (20, (TyC.eq (Value.string (St (topL l))))), (21, (TyC.tup1 (wfC (Z1)) (Value.int .i64 (E1)))), (22, (wfC (Z1))), (23, (iE (E1)))]) XEr1 XGr1 (All.cn 7 22 35 6 #[.bool false, .slice none 0 0] (wfC (Z1)) XLr1) (fun Q => ⟨sMv 20 (rO 4), sC1 21 (rS 20 0) (fun K h0 => by cases h0; exact k_wparse _ _ rfl htl Z1 E1 hp1) Tryz.func19, sMv 19 (rS 21 1), sEx 22 (rS 19 2) ex10, sEx 23 (rS 19 2) ex11, sAl 7 22 (zeroI _), sStn 7 22 5 0 (rS 22 3) aggInt (wf_str _), sMv 8 (rS 23 4), trivial⟩) ?_; intro bX fX w6 c6 a6 XG6 yx yA yB yV yO yF; obtain ⟨g7_6, e7⟩ := kp (yV 7 rfl) rfl; have XE6 := XEr1.up yF yO (ck e7 (ck (kv (yV 8 rfl) rfl) kn)); have XL6 := (All.cb (yA.nb 0 rfl e7 (yB 6 (by decide))) (yA.pk yB rfl [1])); have XN6 := XNr1.trans yx rfl; clear yx yA yB yV yO yF; show Code.wp _ _ _ _ _; refine wp_seq ?_; refine wp_seq ?_; by_cases he1 : E1 = 0
   · skip
     refine region_st [[], [0]] [24, 25] [] (tyvC [(24, (iE (E1))), (25, (bE false))]) XE6 XG6 XL6 (fun Q => ⟨sMv 24 (rO 8), sBin 25 (z := Value.int .i64 (E1)) (z' := Value.int IntKind.i64 0) (u := Value.bool false) (rS 24 0) (rK (Value.int IntKind.i64 0)) (fun h h' => ⟨h, rfl⟩) (eqg_int _ _ _ _ _ _ _ _) (run_as (run_neq _ _ _ _) (by simp [he1])), trivial⟩) ?_; intro bX fX w7 c7 a7 XG7 yx yA yB yV yO yF; have XE7 := XE6.up yF yO (ck (kv (yV 25 rfl) rfl) kn); have XL7 := (yA.pk yB rfl [0, 1]); have XN7 := XN6.trans yx rfl; clear yx yA yB yV yO yF; show Code.wp _ _ _ _ _; refine wp_cond (t := false) (XE7.at 25 rfl) ?_; refine wp_skip ?_; show Code.wp _ _ _ _ _; refine wp_seq ?_; refine region_st [[], [0], [1], [2], [2], [], [3, 5], [4]] [8, 9, 27, 28, 29, 30, 31] [23] (tyvC [(8, (iE (E2))), (9, PT), (27, (TyC.tup1 (wfC (Z2)) (Value.int .i64 (E2)))), (28, (TyC.eq (Value.string (St (botL l))))), (29, (TyC.tup1 (wfC (Z2)) (Value.int .i64 (E2)))), (30, (wfC (Z2))), (31, (iE (E2)))]) XE7 XG7 (All.cn 9 23 35 6 #[.bool false, .slice none 0 0] (wfC (Z2)) XL7) (fun Q => ⟨sMv 28 (rO 5), sC1 29 (rS 28 0) (fun K h0 => by cases h0; exact k_wparse _ _ rfl hbl Z2 E2 hp2) Tryz.func19, sMv 27 (rS 29 1), sEx 30 (rS 27 2) ex10, sEx 31 (rS 27 2) ex11, sAl 9 23 (zeroI _), sStn 9 23 5 0 (rS 30 3) aggInt (wf_str _), sMv 8 (rS 31 4), trivial⟩) ?_; intro bX fX w8 c8 a8 XG8 yx yA yB yV yO yF; obtain ⟨g9_8, e9⟩ := kp (yV 9 rfl) rfl; have XE8 := XE7.up yF yO (ck (kv (yV 8 rfl) rfl) (ck e9 kn)); have XL8 := (All.cb (yA.nb 0 rfl e9 (yB 6 (by decide))) (yA.pk yB rfl [1, 2])); have XN8 := XN7.trans yx rfl; clear yx yA yB yV yO yF; show Code.wp _ _ _ _ _; refine wp_seq ?_; refine wp_seq ?_; by_cases he2 : E2 = 0
     · skip
       refine region_st [[], [0]] [32, 33] [] (tyvC [(32, (iE (E2))), (33, (bE false))]) XE8 XG8 XL8 (fun Q => ⟨sMv 32 (rO 8), sBin 33 (z := Value.int .i64 (E2)) (z' := Value.int IntKind.i64 0) (u := Value.bool false) (rS 32 0) (rK (Value.int IntKind.i64 0)) (fun h h' => ⟨h, rfl⟩) (eqg_int _ _ _ _ _ _ _ _) (run_as (run_neq _ _ _ _) (by simp [he2])), trivial⟩) ?_; intro bX fX w9 c9 a9 XG9 yx yA yB yV yO yF; have XE9 := XE8.up yF yO (ck (kv (yV 33 rfl) rfl) kn); have XL9 := (yA.pk yB rfl [0, 1, 2]); have XN9 := XN8.trans yx rfl; clear yx yA yB yV yO yF; show Code.wp _ _ _ _ _; refine wp_cond (t := false) (XE9.at 33 rfl) ?_; refine wp_skip ?_; show Code.wp _ _ _ _ _; refine wp_seq ?_; refine region_st [[], [], [0, 1], [2], [3], [3], [], [4, 6], [5]] [8, 10, 35, 36, 37, 38, 39, 40] [24] (tyvC [(8, (iE (mkE Z2))), (10, PT), (35, (TyC.tup1 (ffC (mkV Z1 Z2)) (Value.int .i64 (mkE Z2)))), (36, (wfC (Z1))), (37, (wfC (Z2))), (38, (TyC.tup1 (ffC (mkV Z1 Z2)) (Value.int .i64 (mkE Z2)))), (39, (ffC (mkV Z1 Z2))), (40, (iE (mkE Z2)))]) XE9 XG9 (All.cn 10 24 52 7 #[.bool false, .slice none 0 0, .bool false, .slice none 0 0] (ffC (mkV Z1 Z2)) XL9) (fun Q => ⟨sLb 36 (rO 7) 2 aggInt (wf_str _), sLb 37 (rO 9) 1 aggInt (wf_str _), sC2 38 (rS 36 0) (rS 37 1) (fun K h0 h1 => k_make h0 h1) Tryz.func29, sMv 35 (rS 38 2), sEx 39 (rS 35 3) ex10, sEx 40 (rS 35 3) ex11, sAl 10 24 (zeroF _), sStn 10 24 6 0 (rS 39 4) aggF (ff_str _), sMv 8 (rS 40 5), trivial⟩) ?_; intro bX fX w10 c10 a10 XG10 yx yA yB yV yO yF; obtain ⟨g10_10, e10⟩ := kp (yV 10 rfl) rfl; have XE10 := XE9.up yF yO (ck (kv (yV 8 rfl) rfl) (ck e10 kn)); have XL10 := (All.cb (yA.nb 0 rfl e10 (yB 7 (by decide))) (yA.pk yB rfl [3])); have XN10 := XN9.trans yx rfl; clear yx yA yB yV yO yF; show Code.wp _ _ _ _ _; refine wp_seq ?_; refine wp_seq ?_; by_cases hm : mkE Z2 = 0
       · by_cases hx : ftx (mkV Z1 Z2) = l
         · have hfm : ft (mkV Z1 Z2) := by obtain ⟨_, uu, huu, _⟩ := (All.box XL10 0 rfl); exact huu.2
           have hy := par_yes hfm hx; rw [hy.1, hy.2]; refine region_st [[], [0], [1], [2], [2, 3], [2], [2, 4, 5], [2, 6]] [41, 42, 43, 44, 45, 46, 47, 48] [] (tyvC [(41, (iE (mkE Z2))), (42, (bE false)), (43, (bE false)), (44, (ffC (mkV Z1 Z2))), (45, (TyC.eq (Value.string (St (ftx (mkV Z1 Z2)))))), (46, (TyC.eq (Value.string (St l)))), (47, (bE false)), (48, (bE false))]) XE10 XG10 XL10 (fun Q => ⟨sMv 41 (rO 8), sBin 42 (z := Value.int .i64 (mkE Z2)) (z' := Value.int IntKind.i64 0) (u := Value.bool false) (rS 41 0) (rK (Value.int IntKind.i64 0)) (fun h h' => ⟨h, rfl⟩) (eqg_int _ _ _ _ _ _ _ _) (run_as (run_neq _ _ _ _) (by simp [hm])), sMv 43 (rS 42 1), sLb 44 (rO 10) 0 aggF (ff_str _), sC1 45 (rS 44 3) (fun K h0 => k_fstring h0 (env_at henv (XN10.trans K.ext rfl) hc0).1) Tryz.func57, sMv 46 (rO 0), sBin 47 (z := Value.string (St (ftx (mkV Z1 Z2)))) (z' := Value.string (St l)) (u := Value.bool false) (rS 45 4) (rS 46 5) (fun h h' => ⟨h, h'⟩) (eqg_str _ _ _ _ _ _) (run_as (run_neqS _ _ _) (by simp [hx])), sPkf 48 (rS 43 2) (rS 47 6), trivial⟩) ?_; intro bX fX w11 c11 a11 XG11 yx yA yB yV yO yF; have XE11 := XE10.up yF yO (ck (kv (yV 48 rfl) rfl) kn); have XL11 := (yA.pk yB rfl [0, 1]); have XN11 := XN10.trans yx rfl; clear yx yA yB yV yO yF; show Code.wp _ _ _ _ _; refine wp_cond (t := false) (XE11.at 48 rfl) ?_; refine wp_skip ?_; show Code.wp _ _ _ _ _; refine wp_seq ?_; refine region_st [[], [0], []] [3, 50] [21] (tyvC [(3, (iE 0)), (50, (ffC (mkV Z1 Z2)))]) XE11 XG11 (All.stg 1 1 (Fact.box g2_1 52 21 (ffC (mkV Z1 Z2))) XL11) (fun Q => ⟨sLb 50 (rO 10) 0 aggF (ff_str _), sSto 21 (rO 2) (rS 50 0) aggF (ff_str _) (fun K => BoxC.old (K.fac.sb0 1 rfl K.self) (ff_str _)) (fun K h0 => h0), sMv 3 (rK (Value.int IntKind.i64 0)), trivial⟩) ?_; intro bX fX w12 c12 a12 XG12 yx yA yB yV yO yF; have XE12 := XE11.up yF yO (ck (kv (yV 3 rfl) rfl) kn); have XL12 := (yA.pk yB rfl [1]); have XN12 := XN11.trans yx rfl; clear yx yA yB yV yO yF; show Code.wp _ _ _ _ _; refine wp_ret ?_; (repeat (first | (with_reducible refine then_ret ?_) | (with_reducible refine inBlock_ret ?_) | (with_reducible refine then_normal ?_) | (with_reducible refine inBlock_normal ?_))); show bodyPost Tryz.prog Tryz.f56 _ Exit.ret a12 w12; obtain ⟨r0, hr0, hs0⟩ := BoxC.load (All.box XL12 0 rfl) aggF (ff_str _); subst hc0; exact bodyPost_ret (res_ct rfl _ (XE12.at 2 rfl) hr0 (XE12.at 3 rfl)) XE12.2.1 ⟨_, rfl, ⟨_, rfl, hs0⟩, XN12.new0⟩
         · have hy := par_bad3 hp1 hp2 (fun h => hx h.2)
           rw [hy.1, hy.2]; refine region_st [[], [0], [1], [2], [2, 3], [2], [2, 4, 5], [2, 6]] [41, 42, 43, 44, 45, 46, 47, 48] [] (tyvC [(41, (iE (mkE Z2))), (42, (bE false)), (43, (bE false)), (44, (ffC (mkV Z1 Z2))), (45, (TyC.eq (Value.string (St (ftx (mkV Z1 Z2)))))), (46, (TyC.eq (Value.string (St l)))), (47, (bE true)), (48, (bE true))]) XE10 XG10 XL10 (fun Q => ⟨sMv 41 (rO 8), sBin 42 (z := Value.int .i64 (mkE Z2)) (z' := Value.int IntKind.i64 0) (u := Value.bool false) (rS 41 0) (rK (Value.int IntKind.i64 0)) (fun h h' => ⟨h, rfl⟩) (eqg_int _ _ _ _ _ _ _ _) (run_as (run_neq _ _ _ _) (by simp [hm])), sMv 43 (rS 42 1), sLb 44 (rO 10) 0 aggF (ff_str _), sC1 45 (rS 44 3) (fun K h0 => k_fstring h0 (env_at henv (XN10.trans K.ext rfl) hc0).1) Tryz.func57, sMv 46 (rO 0), sBin 47 (z := Value.string (St (ftx (mkV Z1 Z2)))) (z' := Value.string (St l)) (u := Value.bool true) (rS 45 4) (rS 46 5) (fun h h' => ⟨h, h'⟩) (eqg_str _ _ _ _ _ _) (run_as (run_neqS _ _ _) (by simp [hx])), sPkf 48 (rS 43 2) (rS 47 6), trivial⟩) ?_; intro bX fX w13 c13 a13 XG13 yx yA yB yV yO yF; have XE13 := XE10.up yF yO (ck (kv (yV 48 rfl) rfl) kn); have XL13 := (yA.pk yB rfl [0, 1]); have XN13 := XN10.trans yx rfl; clear yx yA yB yV yO yF; show Code.wp _ _ _ _ _; refine wp_cond (t := true) (XE13.at 48 rfl) ?_; refine wp_seq ?_; refine region_st [[], [0], []] [3, 49] [21] (tyvC [(3, (iE 2)), (49, (ffC (0)))]) XE13 XG13 (All.stg 1 1 (Fact.box g2_1 52 21 (ffC (0))) XL13) (fun Q => ⟨sB0 49  (fun K => b_ff0), sSto 21 (rO 2) (rS 49 0) aggF (ff_str _) (fun K => BoxC.old (K.fac.sb0 1 rfl K.self) (ff_str _)) (fun K h0 => h0), sMv 3 (rK (Value.int IntKind.i64 2)), trivial⟩) ?_; intro bX fX w14 c14 a14 XG14 yx yA yB yV yO yF; have XE14 := XE13.up yF yO (ck (kv (yV 3 rfl) rfl) kn); have XL14 := (yA.pk yB rfl [0, 1]); have XN14 := XN13.trans yx rfl; clear yx yA yB yV yO yF; show Code.wp _ _ _ _ _; refine wp_ret ?_; (repeat (first | (with_reducible refine then_ret ?_) | (with_reducible refine inBlock_ret ?_) | (with_reducible refine then_normal ?_) | (with_reducible refine inBlock_normal ?_))); show bodyPost Tryz.prog Tryz.f56 _ Exit.ret a14 w14; obtain ⟨r0, hr0, hs0⟩ := BoxC.load (All.box XL14 1 rfl) aggF (ff_str _); subst hc0; exact bodyPost_ret (res_ct rfl _ (XE14.at 2 rfl) hr0 (XE14.at 3 rfl)) XE14.2.1 ⟨_, rfl, ⟨_, rfl, hs0⟩, XN14.new0⟩
       · have hy := par_bad3 hp1 hp2 (fun h => hm h.1)
         rw [hy.1, hy.2]; refine region_st [[], [0], [1], [2], [2], [2], [2], [2]] [41, 42, 43, 44, 45, 46, 47, 48] [] (tyvC [(41, (iE (mkE Z2))), (42, (bE true)), (43, (bE true)), (44, uE), (45, uE), (46, uE), (47, uE), (48, (bE true))]) XE10 XG10 XL10 (fun Q => ⟨sMv 41 (rO 8), sBin 42 (z := Value.int .i64 (mkE Z2)) (z' := Value.int IntKind.i64 0) (u := Value.bool true) (rS 41 0) (rK (Value.int IntKind.i64 0)) (fun h h' => ⟨h, rfl⟩) (eqg_int _ _ _ _ _ _ _ _) (run_as (run_neq _ _ _ _) (by simp [hm])), sMv 43 (rS 42 1), sNo 44, sNo 45, sNo 46, sNo 47, sPkt 48 (rS 43 2) (rK (Value.bool true)), trivial⟩) ?_; intro bX fX w15 c15 a15 XG15 yx yA yB yV yO yF; have XE15 := XE10.up yF yO (ck (kv (yV 48 rfl) rfl) kn); have XL15 := (yA.pk yB rfl [0, 1]); have XN15 := XN10.trans yx rfl; clear yx yA yB yV yO yF; show Code.wp _ _ _ _ _; refine wp_cond (t := true) (XE15.at 48 rfl) ?_; refine wp_seq ?_; refine region_st [[], [0], []] [3, 49] [21] (tyvC [(3, (iE 2)), (49, (ffC (0)))]) XE15 XG15 (All.stg 1 1 (Fact.box g2_1 52 21 (ffC (0))) XL15) (fun Q => ⟨sB0 49  (fun K => b_ff0), sSto 21 (rO 2) (rS 49 0) aggF (ff_str _) (fun K => BoxC.old (K.fac.sb0 1 rfl K.self) (ff_str _)) (fun K h0 => h0), sMv 3 (rK (Value.int IntKind.i64 2)), trivial⟩) ?_; intro bX fX w16 c16 a16 XG16 yx yA yB yV yO yF; have XE16 := XE15.up yF yO (ck (kv (yV 3 rfl) rfl) kn); have XL16 := (yA.pk yB rfl [0, 1]); have XN16 := XN15.trans yx rfl; clear yx yA yB yV yO yF; show Code.wp _ _ _ _ _; refine wp_ret ?_; (repeat (first | (with_reducible refine then_ret ?_) | (with_reducible refine inBlock_ret ?_) | (with_reducible refine then_normal ?_) | (with_reducible refine inBlock_normal ?_))); show bodyPost Tryz.prog Tryz.f56 _ Exit.ret a16 w16; obtain ⟨r0, hr0, hs0⟩ := BoxC.load (All.box XL16 1 rfl) aggF (ff_str _); subst hc0; exact bodyPost_ret (res_ct rfl _ (XE16.at 2 rfl) hr0 (XE16.at 3 rfl)) XE16.2.1 ⟨_, rfl, ⟨_, rfl, hs0⟩, XN16.new0⟩
     · have hy := par_bad2 hp2 he2
       rw [hy.1, hy.2]; refine region_st [[], [0]] [32, 33] [] (tyvC [(32, (iE (E2))), (33, (bE true))]) XE8 XG8 XL8 (fun Q => ⟨sMv 32 (rO 8), sBin 33 (z := Value.int .i64 (E2)) (z' := Value.int IntKind.i64 0) (u := Value.bool true) (rS 32 0) (rK (Value.int IntKind.i64 0)) (fun h h' => ⟨h, rfl⟩) (eqg_int _ _ _ _ _ _ _ _) (run_as (run_neq _ _ _ _) (by simp [he2])), trivial⟩) ?_; intro bX fX w17 c17 a17 XG17 yx yA yB yV yO yF; have XE17 := XE8.up yF yO (ck (kv (yV 33 rfl) rfl) kn); have XL17 := (yA.pk yB rfl [0, 1, 2]); have XN17 := XN8.trans yx rfl; clear yx yA yB yV yO yF; show Code.wp _ _ _ _ _; refine wp_cond (t := true) (XE17.at 33 rfl) ?_; refine wp_seq ?_; refine region_st [[], [0], []] [3, 34] [21] (tyvC [(3, (iE 2)), (34, (ffC (0)))]) XE17 XG17 (All.stg 2 1 (Fact.box g2_1 52 21 (ffC (0))) XL17) (fun Q => ⟨sB0 34  (fun K => b_ff0), sSto 21 (rO 2) (rS 34 0) aggF (ff_str _) (fun K => BoxC.old (K.fac.sb0 2 rfl K.self) (ff_str _)) (fun K h0 => h0), sMv 3 (rK (Value.int IntKind.i64 2)), trivial⟩) ?_; intro bX fX w18 c18 a18 XG18 yx yA yB yV yO yF; have XE18 := XE17.up yF yO (ck (kv (yV 3 rfl) rfl) kn); have XL18 := (yA.pk yB rfl [0, 1, 2]); have XN18 := XN17.trans yx rfl; clear yx yA yB yV yO yF; show Code.wp _ _ _ _ _; refine wp_ret ?_; (repeat (first | (with_reducible refine then_ret ?_) | (with_reducible refine inBlock_ret ?_) | (with_reducible refine then_normal ?_) | (with_reducible refine inBlock_normal ?_))); show bodyPost Tryz.prog Tryz.f56 _ Exit.ret a18 w18; obtain ⟨r0, hr0, hs0⟩ := BoxC.load (All.box XL18 2 rfl) aggF (ff_str _); subst hc0; exact bodyPost_ret (res_ct rfl _ (XE18.at 2 rfl) hr0 (XE18.at 3 rfl)) XE18.2.1 ⟨_, rfl, ⟨_, rfl, hs0⟩, XN18.new0⟩
   · have hy := par_bad1 hp1 he1
     rw [hy.1, hy.2]; refine region_st [[], [0]] [24, 25] [] (tyvC [(24, (iE (E1))), (25, (bE true))]) XE6 XG6 XL6 (fun Q => ⟨sMv 24 (rO 8), sBin 25 (z := Value.int .i64 (E1)) (z' := Value.int IntKind.i64 0) (u := Value.bool true) (rS 24 0) (rK (Value.int IntKind.i64 0)) (fun h h' => ⟨h, rfl⟩) (eqg_int _ _ _ _ _ _ _ _) (run_as (run_neq _ _ _ _) (by simp [he1])), trivial⟩) ?_; intro bX fX w19 c19 a19 XG19 yx yA yB yV yO yF; have XE19 := XE6.up yF yO (ck (kv (yV 25 rfl) rfl) kn); have XL19 := (yA.pk yB rfl [0, 1]); have XN19 := XN6.trans yx rfl; clear yx yA yB yV yO yF; show Code.wp _ _ _ _ _; refine wp_cond (t := true) (XE19.at 25 rfl) ?_; refine wp_seq ?_; refine region_st [[], [0], []] [3, 26] [21] (tyvC [(3, (iE 2)), (26, (ffC (0)))]) XE19 XG19 (All.stg 1 1 (Fact.box g2_1 52 21 (ffC (0))) XL19) (fun Q => ⟨sB0 26  (fun K => b_ff0), sSto 21 (rO 2) (rS 26 0) aggF (ff_str _) (fun K => BoxC.old (K.fac.sb0 1 rfl K.self) (ff_str _)) (fun K h0 => h0), sMv 3 (rK (Value.int IntKind.i64 2)), trivial⟩) ?_; intro bX fX w20 c20 a20 XG20 yx yA yB yV yO yF; have XE20 := XE19.up yF yO (ck (kv (yV 3 rfl) rfl) kn); have XL20 := (yA.pk yB rfl [0, 1]); have XN20 := XN19.trans yx rfl; clear yx yA yB yV yO yF; show Code.wp _ _ _ _ _; refine wp_ret ?_; (repeat (first | (with_reducible refine then_ret ?_) | (with_reducible refine inBlock_ret ?_) | (with_reducible refine then_normal ?_) | (with_reducible refine inBlock_normal ?_))); show bodyPost Tryz.prog Tryz.f56 _ Exit.ret a20 w20; obtain ⟨r0, hr0, hs0⟩ := BoxC.load (All.box XL20 1 rfl) aggF (ff_str _); subst hc0; exact bodyPost_ret (res_ct rfl _ (XE20.at 2 rfl) hr0 (XE20.at 3 rfl)) XE20.2.1 ⟨_, rfl, ⟨_, rfl, hs0⟩, XN20.new0⟩

theorem k_fparse {w : World} {c : Colr} (l : List UInt8) (hl : l.length ≤ 4000) (henv : Env w) : CV Tryz.prog 56 #[.string (St l)] w c ((ffC (parV l)).tup1 (.int .i64 (parE l))) := by
  obtain ⟨Z1, E1, h1, _⟩ := parsR_any (topL l)
  obtain ⟨Z2, E2, h2, _⟩ := parsR_any (botL l)
  exact (t_fparse w l hl Z1 E1 Z2 E2 h1 h2 henv).cv (plain_tup1 (pl_ff _))
end Go.Proofs.YtbocpkjajocpiaaGreatDoor

namespace Go.Proofs.YtbocpkjajocpiaaGreatDoor
set_option linter.unusedVariables false
open Go.RowKit Go.Mem Go.Dig Go.Fr Go.Col
open Go.Lib (decDigits)

theorem low_of {p q : Int} (hq : 0 < q) (hg : Int.gcd p q = 1) : (Rat.divInt p q).num = p ∧ dn (Rat.divInt p q) = q := by
  obtain ⟨h1, h2⟩ := make_pos (p := p) hq
  rw [hg] at h1 h2
  exact ⟨by rw [← h1]; simp, by rw [← h2]; simp⟩
theorem divInt_one' (n : Int) : Rat.divInt n 1 = (n : Rat) := by
  obtain ⟨h1, h2⟩ := low_of (p := n) (q := 1) (by decide) (by simp)
  exact Fr.ext h1 h2
theorem mkV_int (n : Int) : mkV n 1 = (n : Rat) := (if_neg (by omega)).trans (divInt_one' n)
theorem dec_two {a b : Nat} (ha : a < 10) (hb : b < 10) (h0 : 0 < a) : decDigits (a * 10 + b) = [UInt8.ofNat (48 + a), UInt8.ofNat (48 + b)] := by
  rw [Txt.dec_big (by omega), show (a * 10 + b) / 10 = a by omega, show (a * 10 + b) % 10 = b by omega, Txt.dec_small ha]
  rfl
theorem text_nat (n : Nat) : Txt.text (n : Int) = decDigits n := by
  unfold Txt.text
  rw [if_neg (by omega)]
  rfl
theorem text_neg {n : Nat} (h : 0 < n) : Txt.text (-(n : Int)) = 45 :: decDigits n := by
  unfold Txt.text
  rw [if_pos (by omega)]
  simp
theorem ftx_of {x : Rat} {p q : Int} (h1 : x.num = p) (h2 : dn x = q) (hq : q ≠ 1) : ftx x = Txt.text p ++ 47 :: Txt.text q := by
  unfold ftx
  rw [h1, h2, if_neg hq]
def qH : Rat := mkV 1 2
def qT : Rat := mkV 1 3
theorem qH_eq : qH = Rat.divInt 1 2 := show mkV 1 2 = _ from if_neg (by decide)
theorem qT_eq : qT = Rat.divInt 1 3 := show mkV 1 3 = _ from if_neg (by decide)
theorem fb_of {x : Rat} {p q : Int} (h1 : x.num = p) (h2 : dn x = q) (hp : p.natAbs < 4096) (hq : q.natAbs < 4096) : Fb 12 x := ⟨by rw [h1]; exact hp, by rw [h2]; exact hq⟩
theorem fbH : Fb 12 qH := by
  obtain ⟨h1, h2⟩ := low_of (p := 1) (q := 2) (by decide) (by decide)
  rw [qH_eq]
  exact fb_of h1 h2 (by decide) (by decide)
theorem fbT : Fb 12 qT := by
  obtain ⟨h1, h2⟩ := low_of (p := 1) (q := 3) (by decide) (by decide)
  rw [qT_eq]
  exact fb_of h1 h2 (by decide) (by decide)
theorem fb1 : Fb 12 ((1 : Int) : Rat) := fb_of (p := 1) (q := 1) rfl rfl (by decide) (by decide)
theorem sum_HT : addV qH qT = Rat.divInt 5 6 ∧ addE qH qT = 0 := by
  have hok := addOk_of fbH fbT (by omega)
  refine ⟨(if_pos hok).trans ?_, if_pos hok⟩
  rw [qH_eq, qT_eq, Rat.divInt_add_divInt _ _ (by omega) (by omega)]
  rfl
theorem two_T : addV ((1 : Int) : Rat) (-qT) = Rat.divInt 2 3 := by
  have hok := addOk_of fb1 fbT.neg (by omega)
  refine (if_pos hok).trans ?_
  rw [qT_eq, ← divInt_one' 1, Rat.neg_divInt, Rat.divInt_add_divInt _ _ (by omega) (by omega)]
  rfl
theorem cube : powV (Rat.divInt 2 3) 3 = Rat.divInt 8 27 ∧ powE (Rat.divInt 2 3) 3 = 0 := by
  have e : (Rat.divInt 2 3) ^ (3 : Int).toNat = Rat.divInt 8 27 := by
    show (Rat.divInt 2 3) ^ 3 = _
    rw [Rat.pow_succ, Rat.pow_succ, Rat.pow_succ, Rat.pow_zero, Rat.one_mul, Rat.divInt_mul_divInt, Rat.divInt_mul_divInt]
    rfl
  obtain ⟨h1, h2⟩ := low_of (p := 8) (q := 27) (by decide) (by decide)
  have hok : powOk (Rat.divInt 2 3) 3 := powOk_of (by omega) (by omega) (by rw [e]; exact (fb_of h1 h2 (by decide) (by decide)).ft (by omega))
  rw [← e]
  exact pow_yes hok
theorem lv_a : ftx (mkV 6 (-8)) = [45, 51, 47, 52] := by
  have e : mkV 6 (-8) = Rat.divInt (-3) 4 := by
    refine (if_neg (by omega)).trans ?_
    exact (Rat.divInt_mul_left (n := -3) (d := 4) (a := -2) (by omega))
  obtain ⟨h1, h2⟩ := low_of (p := -3) (q := 4) (by decide) (by decide)
  rw [e, ftx_of h1 h2 (by omega), show (-3 : Int) = -((3 : Nat) : Int) from rfl, text_neg (by omega), show (4 : Int) = ((4 : Nat) : Int) from rfl, text_nat, Txt.dec_small (by omega), Txt.dec_small (by omega)]
  rfl
theorem lv_b : ftx (addV qH qT) = [53, 47, 54] := by
  obtain ⟨h1, h2⟩ := low_of (p := 5) (q := 6) (by decide) (by decide)
  rw [sum_HT.1, ftx_of h1 h2 (by omega), show (5 : Int) = ((5 : Nat) : Int) from rfl, text_nat, show (6 : Int) = ((6 : Nat) : Int) from rfl, text_nat, Txt.dec_small (by omega), Txt.dec_small (by omega)]
  rfl
theorem lv_c : ftx (powV (addV ((1 : Int) : Rat) (-qT)) 3) = [56, 47, 50, 55] := by
  obtain ⟨h1, h2⟩ := low_of (p := 8) (q := 27) (by decide) (by decide)
  rw [two_T, cube.1, ftx_of h1 h2 (by omega), show (8 : Int) = ((8 : Nat) : Int) from rfl, text_nat, show (27 : Int) = ((2 * 10 + 7 : Nat) : Int) from rfl, text_nat, Txt.dec_small (by omega), dec_two (by omega) (by omega) (by omega)]
  rfl
theorem lv_h : powE (addV ((1 : Int) : Rat) (-qT)) 3 = 0 := by rw [two_T]; exact cube.2
theorem text_lit {n : Nat} (h : n < 10) : [UInt8.ofNat (48 + n)] = Txt.text (n : Int) := by rw [text_nat, Txt.dec_small h]
theorem lv_i : parE [50, 47, 52] = 2 := (par_no fun x hf hx => by
  obtain ⟨h1, h2⟩ := ftx_top x
  rw [hx] at h1 h2
  have e1 : Txt.text ((2 : Nat) : Int) = Txt.text x.num := (text_lit (by omega)).symm.trans h1
  have e2 : Txt.text ((4 : Nat) : Int) = Txt.text (dn x) := (text_lit (by omega)).symm.trans h2
  have hl := low x
  rw [← Txt.text_inj e1, ← Txt.text_inj e2] at hl
  exact absurd hl (by decide)).2
theorem lv_j : parE [51, 47, 49] = 2 := (par_no fun x hf hx => by
  obtain ⟨h1, h2⟩ := ftx_top x
  rw [hx] at h1 h2
  have e2 : Txt.text ((1 : Nat) : Int) = Txt.text (dn x) := (text_lit (by omega)).symm.trans h2
  have hd := Txt.text_inj e2
  unfold ftx at hx
  rw [if_pos (by omega)] at hx
  have := no47 x.num
  rw [hx] at this
  exact this (by simp)).2
theorem parsR_self {z : Int} (h : fit z) : ParsR (Txt.text z) z 0 := .inl ⟨z, Txt.reads_text z, (rg_in h).1, (rg_in h).2⟩
theorem ftx_beq (x y : Rat) : (ftx x == ftx y) = decide (x = y) := by
  by_cases h : x = y
  · subst h; simp
  · rw [decide_eq_false h]
    have : ftx x ≠ ftx y := fun e => h (ftx_inj e)
    simpa using this
end Go.Proofs.YtbocpkjajocpiaaGreatDoor

namespace Go.Proofs.YtbocpkjajocpiaaGreatDoor
set_option linter.unusedVariables false
open Go.RowKit Go.Mem Go.Dig Go.Fr Go.Col

set_option maxRecDepth 100000 in
set_option maxHeartbeats 4000000 in
theorem t_lnumber (w : World) (v : Value) (z : Int) (h : (rfC z).sat v w (fun _ => 0)) : CT0 Tryz.prog 30 #[v] w (wfC (z)) := by
 have hz := h.2; refine enter_st Tryz.func30 rfl Tryz.ntmps30 [(0, v)] rfl ⟨rfl, trivial⟩ (Nat.le_of_ble_eq_true rfl) ?_; intro a0 XE0; obtain ⟨c0, hc0⟩ : ∃ c0 : Colr, c0 = fun _ => 0 := ⟨_, rfl⟩; have XG0 : GI w c0 := hc0 ▸ GI.zero w; have XN0 : Ext [21, 22, 23] w c0 w c0 := Ext.refl rfl XG0; have XL0 : All [.s (Fact.val (rfC (z)) v)] b0 f0 w c0 := ⟨(hc0 ▸ h), trivial⟩; refine wp_seq ?_; refine region_st [[], []] [1, 2] [21, 22] (tyvC [(1, PT), (2, PT)]) XE0 XG0 (All.cn 1 21 26 0 #[] (rfC (z)) (All.cn 2 22 35 1 #[] (wfC (0)) XL0)) (fun Q => ⟨sBox 1 21 (rO 0) (fun K h0 => bxs (rf_str' _) (K.fac.val 2 rfl)), sAlz 2 22 (zeroI _) (wf_zero), trivial⟩) ?_; intro bX fX w1 c1 a1 XG1 yx yA yB yV yO yF; obtain ⟨g1_1, e1⟩ := kp (yV 1 rfl) rfl; obtain ⟨g2_1, e2⟩ := kp (yV 2 rfl) rfl; have XE1 := XE0.up yF yO (ck e1 (ck e2 kn)); have XL1 := (All.cb (yA.nb 0 rfl e1 (yB 0 (by decide))) (All.cb (yA.nb 1 rfl e2 (yB 1 (by decide))) (yA.pk yB rfl []))); have XN1 := XN0.trans yx rfl; clear yx yA yB yV yO yF; show Code.wp _ _ _ _ _; refine wp_seq ?_; refine region_st [[], [0], [1], [2], [3], [3], [], [4, 6], [5]] [3, 4, 5, 6, 7, 8, 9, 10] [23] (tyvC [(3, PT), (4, (iE 0)), (5, (TyC.tup1 (wfC (z)) (Value.int .i64 0))), (6, (rfC (z))), (7, (TyC.eq (Value.string (St (Txt.text z))))), (8, (TyC.tup1 (wfC (z)) (Value.int .i64 0))), (9, (wfC (z))), (10, (iE 0))]) XE1 XG1 (All.cn 3 23 35 7 #[.bool false, .slice none 0 0] (wfC (z)) XL1) (fun Q => ⟨sLb 6 (rO 1) 1 aggN (rf_str' _), sC1 7 (rS 6 0) (fun K h0 => k_rtext h0) Tryz.func20, sC1 8 (rS 7 1) (fun K h0 => by cases h0; exact k_wparse _ (Txt.text z) rfl (ft_short hz) z 0 (parsR_self hz)) Tryz.func19, sMv 5 (rS 8 2), sEx 9 (rS 5 3) ex10, sEx 10 (rS 5 3) ex11, sAl 3 23 (zeroI _), sStn 3 23 6 0 (rS 9 4) aggInt (wf_str _), sMv 4 (rS 10 5), trivial⟩) ?_; intro bX fX w2 c2 a2 XG2 yx yA yB yV yO yF; obtain ⟨g3_2, e3⟩ := kp (yV 3 rfl) rfl; have XE2 := XE1.up yF yO (ck e3 kn); have XL2 := (All.cb (yA.nb 0 rfl e3 (yB 7 (by decide))) (yA.pk yB rfl [2])); have XN2 := XN1.trans yx rfl; clear yx yA yB yV yO yF; show Code.wp _ _ _ _ _; refine wp_seq ?_; refine region_st [[], [0]] [11] [22] (tyvC [(11, (wfC (z)))]) XE2 XG2 (All.stg 1 1 (Fact.box g2_1 35 22 (wfC (z))) XL2) (fun Q => ⟨sLb 11 (rO 3) 0 aggInt (wf_str _), sSto 22 (rO 2) (rS 11 0) aggInt (wf_str _) (fun K => BoxC.old (K.fac.sb0 1 rfl K.self) (wf_str _)) (fun K h0 => h0), trivial⟩) ?_; intro bX fX w3 c3 a3 XG3 yx yA yB yV yO yF; have XE3 := XE2.up yF yO kn; have XL3 := (yA.pk yB rfl [1]); have XN3 := XN2.trans yx rfl; clear yx yA yB yV yO yF; show Code.wp _ _ _ _ _; refine wp_ret ?_; (repeat (first | (with_reducible refine then_ret ?_) | (with_reducible refine inBlock_ret ?_) | (with_reducible refine then_normal ?_) | (with_reducible refine inBlock_normal ?_))); show bodyPost Tryz.prog Tryz.f30 _ Exit.ret a3 w3; obtain ⟨r0, hr0, hs0⟩ := BoxC.load (All.box XL3 0 rfl) aggInt (wf_str _); subst hc0; exact bodyPost_ret (res_c rfl _ (XE3.at 2 rfl) hr0) XE3.2.1 ⟨_, rfl, hs0, XN3.new0⟩

theorem k_lnumber {w : World} {c : Colr} {v : Value} {z : Int} (h : (rfC z).sat v w c) (he : Env w) : CV Tryz.prog 30 #[v] w c (wfC z) := (t_lnumber w v z h).cv (pl_wf _)
theorem k_make_self {w : World} {c : Colr} {v v' : Value} {x : Rat} (h : (wfC x.num).sat v w c) (h' : (wfC (dn x)).sat v' w c) : CV Tryz.prog 29 #[v, v'] w c ((ffC x).tup1 (.int .i64 0)) := by
  have := k_make h h'
  rwa [(mkV_self x).1, (mkV_self x).2] at this
set_option maxRecDepth 100000 in
set_option maxHeartbeats 4000000 in
theorem t_lof (w : World) (v : Value) (x : Rat) (h : (rffC x).sat v w (fun _ => 0)) (henv : Env w) : CT0 Tryz.prog 39 #[v] w (ffC (x)) := by
 refine enter_st Tryz.func39 rfl Tryz.ntmps39 [(0, v)] rfl ⟨rfl, trivial⟩ (Nat.le_of_ble_eq_true rfl) ?_; intro a0 XE0; obtain ⟨c0, hc0⟩ : ∃ c0 : Colr, c0 = fun _ => 0 := ⟨_, rfl⟩; have XG0 : GI w c0 := hc0 ▸ GI.zero w; have XN0 : Ext [21, 22, 23] w c0 w c0 := Ext.refl rfl XG0; have XL0 : All [.s (Fact.val (rffC (x)) v)] b0 f0 w c0 := ⟨(hc0 ▸ h), trivial⟩; refine wp_seq ?_; refine region_st [[], []] [1, 2] [21, 22] (tyvC [(1, PT), (2, PT)]) XE0 XG0 (All.cn 1 21 57 0 #[] (rffC (x)) (All.cn 2 22 52 1 #[] (ffC (0)) XL0)) (fun Q => ⟨sBox 1 21 (rO 0) (fun K h0 => bxs (rff_str _) (K.fac.val 2 rfl)), sAlz 2 22 (zeroF _) (ff_zero), trivial⟩) ?_; intro bX fX w1 c1 a1 XG1 yx yA yB yV yO yF; obtain ⟨g1_1, e1⟩ := kp (yV 1 rfl) rfl; obtain ⟨g2_1, e2⟩ := kp (yV 2 rfl) rfl; have XE1 := XE0.up yF yO (ck e1 (ck e2 kn)); have XL1 := (All.cb (yA.nb 0 rfl e1 (yB 0 (by decide))) (All.cb (yA.nb 1 rfl e2 (yB 1 (by decide))) (yA.pk yB rfl []))); have XN1 := XN0.trans yx rfl; clear yx yA yB yV yO yF; show Code.wp _ _ _ _ _; refine wp_seq ?_; refine region_st [[], [0], [1], [], [3], [4], [2, 5], [6], [7], [7], [], [8, 10], [9]] [3, 4, 5, 6, 7, 8, 9, 10, 11, 12, 13, 14] [23] (tyvC [(3, PT), (4, (iE 0)), (5, (TyC.tup1 (ffC (x)) (Value.int .i64 0))), (6, (pE g1_1 0)), (7, (rfC ((x).num))), (8, (wfC ((x).num))), (9, (pE g1_1 2)), (10, (rfC (dn (x)))), (11, (wfC (dn (x)))), (12, (TyC.tup1 (ffC (x)) (Value.int .i64 0))), (13, (ffC (x))), (14, (iE 0))]) XE1 XG1 (All.cn 3 23 52 11 #[.bool false, .slice none 0 0, .bool false, .slice none 0 0] (ffC (x)) XL1) (fun Q => ⟨sFa 6 (rO 1) (fld_r0 _), sLf 7 (rS 6 0) (fun K => lr_P (K.fac.box 1 rfl)), sC1 8 (rS 7 1) (fun K h0 => k_lnumber h0 (env_at henv (XN1.trans K.ext rfl) hc0)) Tryz.func30, sFa 9 (rO 1) (fld_r1 _), sLf 10 (rS 9 3) (fun K => lr_Q (K.fac.box 1 rfl)), sC1 11 (rS 10 4) (fun K h0 => k_lnumber h0 (env_at henv (XN1.trans K.ext rfl) hc0)) Tryz.func30, sC2 12 (rS 8 2) (rS 11 5) (fun K h0 h1 => k_make_self h0 h1) Tryz.func29, sMv 5 (rS 12 6), sEx 13 (rS 5 7) ex10, sEx 14 (rS 5 7) ex11, sAl 3 23 (zeroF _), sStn 3 23 10 0 (rS 13 8) aggF (ff_str _), sMv 4 (rS 14 9), trivial⟩) ?_; intro bX fX w2 c2 a2 XG2 yx yA yB yV yO yF; obtain ⟨g3_2, e3⟩ := kp (yV 3 rfl) rfl; have XE2 := XE1.up yF yO (ck e3 kn); have XL2 := (All.cb (yA.nb 0 rfl e3 (yB 11 (by decide))) (yA.pk yB rfl [2])); have XN2 := XN1.trans yx rfl; clear yx yA yB yV yO yF; show Code.wp _ _ _ _ _; refine wp_seq ?_; refine region_st [[], [0]] [15] [22] (tyvC [(15, (ffC (x)))]) XE2 XG2 (All.stg 1 1 (Fact.box g2_1 52 22 (ffC (x))) XL2) (fun Q => ⟨sLb 15 (rO 3) 0 aggF (ff_str _), sSto 22 (rO 2) (rS 15 0) aggF (ff_str _) (fun K => BoxC.old (K.fac.sb0 1 rfl K.self) (ff_str _)) (fun K h0 => h0), trivial⟩) ?_; intro bX fX w3 c3 a3 XG3 yx yA yB yV yO yF; have XE3 := XE2.up yF yO kn; have XL3 := (yA.pk yB rfl [1]); have XN3 := XN2.trans yx rfl; clear yx yA yB yV yO yF; show Code.wp _ _ _ _ _; refine wp_ret ?_; (repeat (first | (with_reducible refine then_ret ?_) | (with_reducible refine inBlock_ret ?_) | (with_reducible refine then_normal ?_) | (with_reducible refine inBlock_normal ?_)))
 show bodyPost Tryz.prog Tryz.f39 _ Exit.ret a3 w3; obtain ⟨r0, hr0, hs0⟩ := BoxC.load (All.box XL3 0 rfl) aggF (ff_str _); subst hc0; exact bodyPost_ret (res_c rfl _ (XE3.at 2 rfl) hr0) XE3.2.1 ⟨_, rfl, hs0, XN3.new0⟩

theorem k_lof {w : World} {c : Colr} {v : Value} {x : Rat} (h : (rffC x).sat v w c) (he : Env w) : CV Tryz.prog 39 #[v] w c (ffC x) := (t_lof w v x h he).cv (pl_ff _)
set_option maxRecDepth 100000 in
set_option maxHeartbeats 4000000 in
theorem t_lwhole (w : World) (n : Int) (hn : I64 n) : CT0 Tryz.prog 34 #[Value.int .i64 n] w (ffC (((n : Int) : Rat))) := by
 rw [← mkV_int n]; refine enter_st Tryz.func34 rfl Tryz.ntmps34 [(0, Value.int .i64 n)] rfl ⟨rfl, trivial⟩ (Nat.le_of_ble_eq_true rfl) ?_; intro a0 XE0; obtain ⟨c0, hc0⟩ : ∃ c0 : Colr, c0 = fun _ => 0 := ⟨_, rfl⟩; have XG0 : GI w c0 := hc0 ▸ GI.zero w; have XN0 : Ext [21, 22] w c0 w c0 := Ext.refl rfl XG0; have XL0 : All [] b0 f0 w c0 := trivial; refine wp_seq ?_; refine region_st [[]] [2] [21] (tyvC [(2, PT)]) XE0 XG0 (All.cn 2 21 52 0 #[] (ffC (0)) XL0) (fun Q => ⟨sAlz 2 21 (zeroF _) (ff_zero), trivial⟩) ?_; intro bX fX w1 c1 a1 XG1 yx yA yB yV yO yF; obtain ⟨g2_1, e2⟩ := kp (yV 2 rfl) rfl; have XE1 := XE0.up yF yO (ck e2 kn); have XL1 := (All.cb (yA.nb 0 rfl e2 (yB 0 (by decide))) (yA.pk yB rfl [])); have XN1 := XN0.trans yx rfl; clear yx yA yB yV yO yF; show Code.wp _ _ _ _ _; refine wp_seq ?_; refine region_st [[], [0], [1], [2], [2], [], [3, 5], [4]] [3, 4, 5, 6, 7, 8, 9] [22] (tyvC [(3, PT), (4, (iE (mkE 1))), (5, (TyC.tup1 (ffC (mkV n 1)) (Value.int .i64 (mkE 1)))), (6, (iE n)), (7, (TyC.tup1 (ffC (mkV n 1)) (Value.int .i64 (mkE 1)))), (8, (ffC (mkV n 1))), (9, (iE (mkE 1)))]) XE1 XG1 (All.cn 3 22 52 6 #[.bool false, .slice none 0 0, .bool false, .slice none 0 0] (ffC (mkV n 1)) XL1) (fun Q => ⟨sMv 6 (rO 0), sC2 7 (rS 6 0) (rK (Value.int IntKind.i64 1)) (fun K h0 h1 => by cases h0; exact k_fof (n) (1) (by first | omega | assumption) (by first | omega | assumption)) Tryz.func33, sMv 5 (rS 7 1), sEx 8 (rS 5 2) ex10, sEx 9 (rS 5 2) ex11, sAl 3 22 (zeroF _), sStn 3 22 5 0 (rS 8 3) aggF (ff_str _), sMv 4 (rS 9 4), trivial⟩) ?_; intro bX fX w2 c2 a2 XG2 yx yA yB yV yO yF; obtain ⟨g3_2, e3⟩ := kp (yV 3 rfl) rfl; have XE2 := XE1.up yF yO (ck e3 kn); have XL2 := (All.cb (yA.nb 0 rfl e3 (yB 6 (by decide))) (yA.pk yB rfl [1])); have XN2 := XN1.trans yx rfl; clear yx yA yB yV yO yF; show Code.wp _ _ _ _ _; refine wp_seq ?_; refine region_st [[], [0]] [10] [21] (tyvC [(10, (ffC (mkV n 1)))]) XE2 XG2 (All.stg 1 1 (Fact.box g2_1 52 21 (ffC (mkV n 1))) XL2) (fun Q => ⟨sLb 10 (rO 3) 0 aggF (ff_str _), sSto 21 (rO 2) (rS 10 0) aggF (ff_str _) (fun K => BoxC.old (K.fac.sb0 1 rfl K.self) (ff_str _)) (fun K h0 => h0), trivial⟩) ?_; intro bX fX w3 c3 a3 XG3 yx yA yB yV yO yF; have XE3 := XE2.up yF yO kn; have XL3 := (yA.pk yB rfl [1]); have XN3 := XN2.trans yx rfl; clear yx yA yB yV yO yF; show Code.wp _ _ _ _ _; refine wp_ret ?_; (repeat (first | (with_reducible refine then_ret ?_) | (with_reducible refine inBlock_ret ?_) | (with_reducible refine then_normal ?_) | (with_reducible refine inBlock_normal ?_))); show bodyPost Tryz.prog Tryz.f34 _ Exit.ret a3 w3; obtain ⟨r0, hr0, hs0⟩ := BoxC.load (All.box XL3 0 rfl) aggF (ff_str _); subst hc0; exact bodyPost_ret (res_c rfl _ (XE3.at 2 rfl) hr0) XE3.2.1 ⟨_, rfl, hs0, XN3.new0⟩

theorem k_lwhole {w : World} {c : Colr} (n : Int) (hn : I64 n) : CV Tryz.prog 34 #[.int .i64 n] w c (ffC ((n : Int) : Rat)) := (t_lwhole w n hn).cv (pl_ff _)
set_option maxRecDepth 100000 in
set_option maxHeartbeats 4000000 in
theorem t_lequal (w : World) (v v' : Value) (x y : Rat) (h : (ffC x).sat v w (fun _ => 0)) (h' : (ffC y).sat v' w (fun _ => 0)) (henv : Env w) : CT0 Tryz.prog 53 #[v, v'] w (TyC.eq (Value.bool (ftx x == ftx y))) := by
 refine enter_st Tryz.func53 rfl Tryz.ntmps53 [(0, v), (1, v')] rfl ⟨rfl, rfl, trivial⟩ (Nat.le_of_ble_eq_true rfl) ?_; intro a0 XE0; obtain ⟨c0, hc0⟩ : ∃ c0 : Colr, c0 = fun _ => 0 := ⟨_, rfl⟩; have XG0 : GI w c0 := hc0 ▸ GI.zero w; have XN0 : Ext [21, 22] w c0 w c0 := Ext.refl rfl XG0; have XL0 : All [.s (Fact.val (ffC (x)) v), .s (Fact.val (ffC (y)) (v'))] b0 f0 w c0 := ⟨(hc0 ▸ h), (hc0 ▸ h'), trivial⟩; refine wp_seq ?_; refine region_st [[], [], []] [2, 3, 4] [21, 22] (tyvC [(2, PT), (3, PT), (4, (bE false))]) XE0 XG0 (All.cn 2 21 52 0 #[] (ffC (x)) (All.cn 3 22 52 1 #[] (ffC (y)) XL0)) (fun Q => ⟨sBox 2 21 (rO 0) (fun K h0 => bxs (ff_str _) (K.fac.val 2 rfl)), sBox 3 22 (rO 1) (fun K h0 => bxs (ff_str _) (K.fac.val 3 rfl)), sMv 4 (rK (Value.bool false)), trivial⟩) ?_; intro bX fX w1 c1 a1 XG1 yx yA yB yV yO yF; obtain ⟨g2_1, e2⟩ := kp (yV 2 rfl) rfl; obtain ⟨g3_1, e3⟩ := kp (yV 3 rfl) rfl; have XE1 := XE0.up yF yO (ck e2 (ck e3 (ck (kv (yV 4 rfl) rfl) kn))); have XL1 := (All.cb (yA.nb 0 rfl e2 (yB 0 (by decide))) (All.cb (yA.nb 1 rfl e3 (yB 1 (by decide))) (yA.pk yB rfl []))); have XN1 := XN0.trans yx rfl; clear yx yA yB yV yO yF; show Code.wp _ _ _ _ _; refine wp_seq ?_; refine region_st [[], [0], [], [2], [1, 3], [4]] [4, 5, 6, 7, 8, 9] [] (tyvC [(4, (TyC.eq (Value.bool (ftx x == ftx y)))), (5, (ffC (x))), (6, (TyC.eq (Value.string (St (ftx x))))), (7, (ffC (y))), (8, (TyC.eq (Value.string (St (ftx y))))), (9, (TyC.eq (Value.bool (ftx x == ftx y))))]) XE1 XG1 XL1 (fun Q => ⟨sLb 5 (rO 2) 0 aggF (ff_str _), sC1 6 (rS 5 0) (fun K h0 => k_fstring h0 (env_at henv (XN1.trans K.ext rfl) hc0).1) Tryz.func57, sLb 7 (rO 3) 1 aggF (ff_str _), sC1 8 (rS 7 2) (fun K h0 => k_fstring h0 (env_at henv (XN1.trans K.ext rfl) hc0).1) Tryz.func57, sBin 9 (rS 6 1) (rS 8 3) (fun h h' => ⟨h, h'⟩) (eqg_str _ _ _ _ _ _) (run_eqlS _ _ _), sMv 4 (rS 9 4), trivial⟩) ?_; intro bX fX w2 c2 a2 XG2 yx yA yB yV yO yF; have XE2 := XE1.up yF yO (ck (kv (yV 4 rfl) rfl) kn); have XL2 := (yA.pk yB rfl []); have XN2 := XN1.trans yx rfl; clear yx yA yB yV yO yF; show Code.wp _ _ _ _ _; refine wp_ret ?_; (repeat (first | (with_reducible refine then_ret ?_) | (with_reducible refine inBlock_ret ?_) | (with_reducible refine then_normal ?_) | (with_reducible refine inBlock_normal ?_))); show bodyPost Tryz.prog Tryz.f53 _ Exit.ret a2 w2; subst hc0; exact bodyPost_ret (res_t rfl _ (XE2.at 4 rfl)) XE2.2.1 ⟨_, rfl, rfl, XN2.new0⟩

theorem k_lequal {w : World} {c : Colr} {v v' : Value} {x y : Rat} (h : (ffC x).sat v w c) (h' : (ffC y).sat v' w c) (he : Env w) : CV Tryz.prog 53 #[v, v'] w c (TyC.eq (.bool (decide (x = y)))) := by
  rw [← ftx_beq]
  exact (t_lequal w v v' x y h h' he).cv (plain_eq _)
theorem k_leq {w : World} {c : Colr} {v v' : Value} {x y : Rat} (h : (ffC x).sat v w c) (h' : (ffC y).sat v' w c) (he : Env w) (e : x = y) : CV Tryz.prog 53 #[v, v'] w c (TyC.eq (.bool true)) := by
  have := k_lequal h h' he
  rwa [decide_eq_true e] at this
set_option maxRecDepth 100000 in
set_option maxHeartbeats 4000000 in
theorem t_llives (w : World) (henv : Env w) : CT0 Tryz.prog 36 #[] w (bE true) := by
 refine enter_st Tryz.func36 rfl Tryz.ntmps36 [] rfl trivial (Nat.le_of_ble_eq_true rfl) ?_; intro a0 XE0; obtain ⟨c0, hc0⟩ : ∃ c0 : Colr, c0 = fun _ => 0 := ⟨_, rfl⟩; have XG0 : GI w c0 := hc0 ▸ GI.zero w; have XN0 : Ext [21, 22, 23, 24, 25, 26, 27, 28, 29] w c0 w c0 := Ext.refl rfl XG0; have XL0 : All [] b0 f0 w c0 := trivial; refine wp_seq ?_; refine region_st [[]] [0] [] (tyvC [(0, (bE false))]) XE0 XG0 XL0 (fun Q => ⟨sMv 0 (rK (Value.bool false)), trivial⟩) ?_; intro bX fX w1 c1 a1 XG1 yx yA yB yV yO yF; have XE1 := XE0.up yF yO (ck (kv (yV 0 rfl) rfl) kn); have XL1 := (yA.pk yB rfl []); have XN1 := XN0.trans yx rfl; clear yx yA yB yV yO yF; show Code.wp _ _ _ _ _; refine wp_seq ?_; refine region_st [[], [0], [1], [1], [], [2, 4], [3]] [1, 2, 19, 20, 21, 22] [21] (tyvC [(1, PT), (2, (iE (mkE (-8)))), (19, (TyC.tup1 (ffC (mkV 6 (-8))) (Value.int .i64 (mkE (-8))))), (20, (TyC.tup1 (ffC (mkV 6 (-8))) (Value.int .i64 (mkE (-8))))), (21, (ffC (mkV 6 (-8)))), (22, (iE (mkE (-8))))]) XE1 XG1 (All.cn 1 21 52 5 #[.bool false, .slice none 0 0, .bool false, .slice none 0 0] (ffC (mkV 6 (-8))) XL1) (fun Q => ⟨sC2 20 (rK (Value.int IntKind.i64 6)) (rK (Value.int IntKind.i64 (-8))) (fun K h0 h1 => k_fof (6) (-8) (by first | omega | assumption) (by first | omega | assumption)) Tryz.func33, sMv 19 (rS 20 0), sEx 21 (rS 19 1) ex10, sEx 22 (rS 19 1) ex11, sAl 1 21 (zeroF _), sStn 1 21 4 0 (rS 21 2) aggF (ff_str _), sMv 2 (rS 22 3), trivial⟩) ?_; intro bX fX w2 c2 a2 XG2 yx yA yB yV yO yF; obtain ⟨g1_2, e1⟩ := kp (yV 1 rfl) rfl; have XE2 := XE1.up yF yO (ck e1 (ck (kv (yV 2 rfl) rfl) kn)); have XL2 := (All.cb (yA.nb 0 rfl e1 (yB 5 (by decide))) (yA.pk yB rfl [])); have XN2 := XN1.trans yx rfl; clear yx yA yB yV yO yF; show Code.wp _ _ _ _ _; refine wp_seq ?_; refine region_st [[], [0], [1], [1], [], [2, 4], [3]] [3, 4, 23, 24, 25, 26] [22] (tyvC [(3, PT), (4, (iE (mkE 2))), (23, (TyC.tup1 (ffC (mkV 1 2)) (Value.int .i64 (mkE 2)))), (24, (TyC.tup1 (ffC (mkV 1 2)) (Value.int .i64 (mkE 2)))), (25, (ffC (mkV 1 2))), (26, (iE (mkE 2)))]) XE2 XG2 (All.cn 3 22 52 5 #[.bool false, .slice none 0 0, .bool false, .slice none 0 0] (ffC (mkV 1 2)) XL2) (fun Q => ⟨sC2 24 (rK (Value.int IntKind.i64 1)) (rK (Value.int IntKind.i64 2)) (fun K h0 h1 => k_fof (1) (2) (by first | omega | assumption) (by first | omega | assumption)) Tryz.func33, sMv 23 (rS 24 0), sEx 25 (rS 23 1) ex10, sEx 26 (rS 23 1) ex11, sAl 3 22 (zeroF _), sStn 3 22 4 0 (rS 25 2) aggF (ff_str _), sMv 4 (rS 26 3), trivial⟩) ?_; intro bX fX w3 c3 a3 XG3 yx yA yB yV yO yF; obtain ⟨g3_3, e3⟩ := kp (yV 3 rfl) rfl; have XE3 := XE2.up yF yO (ck e3 kn); have XL3 := (All.cb (yA.nb 0 rfl e3 (yB 5 (by decide))) (yA.pk yB rfl [1])); have XN3 := XN2.trans yx rfl; clear yx yA yB yV yO yF; show Code.wp _ _ _ _ _; have hU1 := All.put (G := Fact.box g3_3 52 22 (ffC (qH))) 0 XL3 (BoxC.up (All.box XL3 0 rfl) (fun v hv => hv)); refine wp_seq ?_; refine region_st [[], [0], [1], [1], [], [2, 4], [3]] [5, 6, 27, 28, 29, 30] [23] (tyvC [(5, PT), (6, (iE (mkE 3))), (27, (TyC.tup1 (ffC (mkV 1 3)) (Value.int .i64 (mkE 3)))), (28, (TyC.tup1 (ffC (mkV 1 3)) (Value.int .i64 (mkE 3)))), (29, (ffC (mkV 1 3))), (30, (iE (mkE 3)))]) XE3 XG3 (All.cn 5 23 52 5 #[.bool false, .slice none 0 0, .bool false, .slice none 0 0] (ffC (mkV 1 3)) hU1) (fun Q => ⟨sC2 28 (rK (Value.int IntKind.i64 1)) (rK (Value.int IntKind.i64 3)) (fun K h0 h1 => k_fof (1) (3) (by first | omega | assumption) (by first | omega | assumption)) Tryz.func33, sMv 27 (rS 28 0), sEx 29 (rS 27 1) ex10, sEx 30 (rS 27 1) ex11, sAl 5 23 (zeroF _), sStn 5 23 4 0 (rS 29 2) aggF (ff_str _), sMv 6 (rS 30 3), trivial⟩) ?_
 intro bX fX w4 c4 a4 XG4 yx yA yB yV yO yF; obtain ⟨g5_4, e5⟩ := kp (yV 5 rfl) rfl; have XE4 := XE3.up yF yO (ck e5 kn); have XL4 := (All.cb (yA.nb 0 rfl e5 (yB 5 (by decide))) (yA.pk yB rfl [1, 2])); have XN4 := XN3.trans yx rfl; clear yx yA yB yV yO yF; show Code.wp _ _ _ _ _; have hU2 := All.put (G := Fact.box g5_4 52 23 (ffC (qT))) 0 XL4 (BoxC.up (All.box XL4 0 rfl) (fun v hv => hv)); refine wp_seq ?_; refine region_st [[], [], [0, 1], [2], [3], [3], [], [4, 6], [5]] [7, 8, 31, 32, 33, 34, 35, 36] [24] (tyvC [(7, PT), (8, (iE (addE qH qT))), (31, (TyC.tup1 (ffC (addV qH qT)) (Value.int .i64 (addE qH qT)))), (32, (ffC (qH))), (33, (ffC (qT))), (34, (TyC.tup1 (ffC (addV qH qT)) (Value.int .i64 (addE qH qT)))), (35, (ffC (addV qH qT))), (36, (iE (addE qH qT)))]) XE4 XG4 (All.cn 7 24 52 7 #[.bool false, .slice none 0 0, .bool false, .slice none 0 0] (ffC (addV qH qT)) hU2) (fun Q => ⟨sLb 32 (rO 3) 2 aggF (ff_str _), sLb 33 (rO 5) 1 aggF (ff_str _), sC2 34 (rS 32 0) (rS 33 1) (fun K h0 h1 => k_fadd h0 h1) Tryz.func40, sMv 31 (rS 34 2), sEx 35 (rS 31 3) ex10, sEx 36 (rS 31 3) ex11, sAl 7 24 (zeroF _), sStn 7 24 6 0 (rS 35 4) aggF (ff_str _), sMv 8 (rS 36 5), trivial⟩) ?_; intro bX fX w5 c5 a5 XG5 yx yA yB yV yO yF; obtain ⟨g7_5, e7⟩ := kp (yV 7 rfl) rfl; have XE5 := XE4.up yF yO (ck e7 (ck (kv (yV 8 rfl) rfl) kn)); have XL5 := (All.cb (yA.nb 0 rfl e7 (yB 7 (by decide))) (yA.pk yB rfl [1, 3])); have XN5 := XN4.trans yx rfl; clear yx yA yB yV yO yF; show Code.wp _ _ _ _ _; refine wp_seq ?_; refine region_st [[], [], [0, 1], [2], [3], [3], [], [4, 6], [5]] [9, 10, 37, 38, 39, 40, 41, 42] [25] (tyvC [(9, PT), (10, (iE (divE ((1 : Int) : Rat) ((0 : Int) : Rat)))), (37, (TyC.tup1 (ffC (divV ((1 : Int) : Rat) ((0 : Int) : Rat))) (Value.int .i64 (divE ((1 : Int) : Rat) ((0 : Int) : Rat))))), (38, (ffC (((1 : Int) : Rat)))), (39, (ffC (((0 : Int) : Rat)))), (40, (TyC.tup1 (ffC (divV ((1 : Int) : Rat) ((0 : Int) : Rat))) (Value.int .i64 (divE ((1 : Int) : Rat) ((0 : Int) : Rat))))), (41, (ffC (divV ((1 : Int) : Rat) ((0 : Int) : Rat)))), (42, (iE (divE ((1 : Int) : Rat) ((0 : Int) : Rat))))]) XE5 XG5 (All.cn 9 25 52 7 #[.bool false, .slice none 0 0, .bool false, .slice none 0 0] (ffC (divV ((1 : Int) : Rat) ((0 : Int) : Rat))) XL5) (fun Q => ⟨sC1 38 (rK (Value.int IntKind.i64 1)) (fun K h0 => k_lwhole 1 (by first | omega | assumption)) Tryz.func34, sC1 39 (rK (Value.int IntKind.i64 0)) (fun K h0 => k_lwhole 0 (by first | omega | assumption)) Tryz.func34, sC2 40 (rS 38 0) (rS 39 1) (fun K h0 h1 => k_fdiv h0 h1) Tryz.func46, sMv 37 (rS 40 2), sEx 41 (rS 37 3) ex10, sEx 42 (rS 37 3) ex11, sAl 9 25 (zeroF _), sStn 9 25 6 0 (rS 41 4) aggF (ff_str _), sMv 10 (rS 42 5), trivial⟩) ?_; intro bX fX w6 c6 a6 XG6 yx yA yB yV yO yF; have XE6 := XE5.up yF yO (ck (kv (yV 10 rfl) rfl) kn); have XL6 := (yA.pk yB rfl [1, 2, 3]); have XN6 := XN5.trans yx rfl; clear yx yA yB yV yO yF; show Code.wp _ _ _ _ _; refine wp_seq ?_; refine region_st [[], [], [0, 1], [2], [3], [3], [], [4, 6], [5]] [11, 12, 43, 44, 45, 46, 47, 48] [26] (tyvC [(11, PT), (12, (iE (addE ((1 : Int) : Rat) (-qT)))), (43, (TyC.tup1 (ffC (addV ((1 : Int) : Rat) (-qT))) (Value.int .i64 (addE ((1 : Int) : Rat) (-qT))))), (44, (ffC (((1 : Int) : Rat)))), (45, (ffC (qT))), (46, (TyC.tup1 (ffC (addV ((1 : Int) : Rat) (-qT))) (Value.int .i64 (addE ((1 : Int) : Rat) (-qT))))), (47, (ffC (addV ((1 : Int) : Rat) (-qT)))), (48, (iE (addE ((1 : Int) : Rat) (-qT))))]) XE6 XG6 (All.cn 11 26 52 7 #[.bool false, .slice none 0 0, .bool false, .slice none 0 0] (ffC (addV ((1 : Int) : Rat) (-qT))) XL6) (fun Q => ⟨sC1 44 (rK (Value.int IntKind.i64 1)) (fun K h0 => k_lwhole 1 (by first | omega | assumption)) Tryz.func34, sLb 45 (rO 5) 2 aggF (ff_str _), sC2 46 (rS 44 0) (rS 45 1) (fun K h0 h1 => k_fsub h0 h1) Tryz.func42, sMv 43 (rS 46 2), sEx 47 (rS 43 3) ex10, sEx 48 (rS 43 3) ex11, sAl 11 26 (zeroF _), sStn 11 26 6 0 (rS 47 4) aggF (ff_str _), sMv 12 (rS 48 5), trivial⟩) ?_
 intro bX fX w7 c7 a7 XG7 yx yA yB yV yO yF; obtain ⟨g11_7, e11⟩ := kp (yV 11 rfl) rfl; have XE7 := XE6.up yF yO (ck e11 kn); have XL7 := (All.cb (yA.nb 0 rfl e11 (yB 7 (by decide))) (yA.pk yB rfl [1, 3])); have XN7 := XN6.trans yx rfl; clear yx yA yB yV yO yF; show Code.wp _ _ _ _ _; refine wp_seq ?_; refine region_st [[], [0], [1], [2], [2], [], [3, 5], [4]] [13, 14, 49, 50, 51, 52, 53] [27] (tyvC [(13, PT), (14, (iE (powE (addV ((1 : Int) : Rat) (-qT)) 3))), (49, (TyC.tup1 (ffC (powV (addV ((1 : Int) : Rat) (-qT)) 3)) (Value.int .i64 (powE (addV ((1 : Int) : Rat) (-qT)) 3)))), (50, (ffC (addV ((1 : Int) : Rat) (-qT)))), (51, (TyC.tup1 (ffC (powV (addV ((1 : Int) : Rat) (-qT)) 3)) (Value.int .i64 (powE (addV ((1 : Int) : Rat) (-qT)) 3)))), (52, (ffC (powV (addV ((1 : Int) : Rat) (-qT)) 3))), (53, (iE (powE (addV ((1 : Int) : Rat) (-qT)) 3)))]) XE7 XG7 (All.cn 13 27 52 6 #[.bool false, .slice none 0 0, .bool false, .slice none 0 0] (ffC (powV (addV ((1 : Int) : Rat) (-qT)) 3)) XL7) (fun Q => ⟨sLb 50 (rO 11) 1 aggF (ff_str _), sC2 51 (rS 50 0) (rK (Value.int IntKind.i64 3)) (fun K h0 h1 => k_fpow (n := 3) (by first | omega | assumption) h0) Tryz.func51, sMv 49 (rS 51 1), sEx 52 (rS 49 2) ex10, sEx 53 (rS 49 2) ex11, sAl 13 27 (zeroF _), sStn 13 27 5 0 (rS 52 3) aggF (ff_str _), sMv 14 (rS 53 4), trivial⟩) ?_; intro bX fX w8 c8 a8 XG8 yx yA yB yV yO yF; obtain ⟨g13_8, e13⟩ := kp (yV 13 rfl) rfl; have XE8 := XE7.up yF yO (ck e13 (ck (kv (yV 14 rfl) rfl) kn)); have XL8 := (All.cb (yA.nb 0 rfl e13 (yB 6 (by decide))) (yA.pk yB rfl [2, 3])); have XN8 := XN7.trans yx rfl; clear yx yA yB yV yO yF; show Code.wp _ _ _ _ _; refine wp_seq ?_; refine region_st [[], [0], [1], [1], [], [2, 4], [3]] [15, 16, 54, 55, 56, 57] [28] (tyvC [(15, PT), (16, (iE (parE [50, 47, 52]))), (54, (TyC.tup1 (ffC (parV [50, 47, 52])) (Value.int .i64 (parE [50, 47, 52])))), (55, (TyC.tup1 (ffC (parV [50, 47, 52])) (Value.int .i64 (parE [50, 47, 52])))), (56, (ffC (parV [50, 47, 52]))), (57, (iE (parE [50, 47, 52])))]) XE8 XG8 (All.cn 15 28 52 5 #[.bool false, .slice none 0 0, .bool false, .slice none 0 0] (ffC (parV [50, 47, 52])) XL8) (fun Q => ⟨sC1 55 (rK (Value.string { data := #[50, 47, 52] })) (fun K h0 => k_fparse [50, 47, 52] (by decide) (env_at henv (XN8.trans K.ext rfl) hc0)) Tryz.func56, sMv 54 (rS 55 0), sEx 56 (rS 54 1) ex10, sEx 57 (rS 54 1) ex11, sAl 15 28 (zeroF _), sStn 15 28 4 0 (rS 56 2) aggF (ff_str _), sMv 16 (rS 57 3), trivial⟩) ?_; intro bX fX w9 c9 a9 XG9 yx yA yB yV yO yF; have XE9 := XE8.up yF yO (ck (kv (yV 16 rfl) rfl) kn); have XL9 := (yA.pk yB rfl [1, 2, 3]); have XN9 := XN8.trans yx rfl; clear yx yA yB yV yO yF; show Code.wp _ _ _ _ _; refine wp_seq ?_; refine region_st [[], [0], [1], [1], [], [2, 4], [3]] [17, 18, 58, 59, 60, 61] [29] (tyvC [(17, PT), (18, (iE (parE [51, 47, 49]))), (58, (TyC.tup1 (ffC (parV [51, 47, 49])) (Value.int .i64 (parE [51, 47, 49])))), (59, (TyC.tup1 (ffC (parV [51, 47, 49])) (Value.int .i64 (parE [51, 47, 49])))), (60, (ffC (parV [51, 47, 49]))), (61, (iE (parE [51, 47, 49])))]) XE9 XG9 (All.cn 17 29 52 5 #[.bool false, .slice none 0 0, .bool false, .slice none 0 0] (ffC (parV [51, 47, 49])) XL9) (fun Q => ⟨sC1 59 (rK (Value.string { data := #[51, 47, 49] })) (fun K h0 => k_fparse [51, 47, 49] (by decide) (env_at henv (XN9.trans K.ext rfl) hc0)) Tryz.func56, sMv 58 (rS 59 0), sEx 60 (rS 58 1) ex10, sEx 61 (rS 58 1) ex11, sAl 17 29 (zeroF _), sStn 17 29 4 0 (rS 60 2) aggF (ff_str _), sMv 18 (rS 61 3), trivial⟩) ?_
 intro bX fX w10 c10 a10 XG10 yx yA yB yV yO yF; have XE10 := XE9.up yF yO (ck (kv (yV 18 rfl) rfl) kn); have XL10 := (yA.pk yB rfl [1, 2, 3]); have XN10 := XN9.trans yx rfl; clear yx yA yB yV yO yF; show Code.wp _ _ _ _ _; refine wp_seq ?_; refine region_st [[], [0], [1], [2], [2, 3], [2, 4], [5], [6], [6, 7], [6, 8], [9], [10], [10, 11], [10, 12], [13], [14], [14, 15], [14, 16], [17], [18], [18, 19], [18, 20], [21], [22], [22, 23], [22, 24], [22, 25], [26], [27], [27, 28], [27, 29], [27, 30], [31], [32], [32, 33], [32, 34], [32, 35], [36]] [0, 62, 63, 64, 65, 66, 67, 68, 69, 70, 71, 72, 73, 74, 75, 76, 77, 78, 79, 80, 81, 82, 83, 84, 85, 86, 87, 88, 89, 90, 91, 92, 93, 94, 95, 96, 97, 98] [] (tyvC [(0, (bE true)), (62, (iE (mkE (-8)))), (63, (bE true)), (64, (bE true)), (65, (iE (addE qH qT))), (66, (bE true)), (67, (bE true)), (68, (bE true)), (69, (iE (divE ((1 : Int) : Rat) ((0 : Int) : Rat)))), (70, (bE true)), (71, (bE true)), (72, (bE true)), (73, (iE (powE (addV ((1 : Int) : Rat) (-qT)) 3))), (74, (bE true)), (75, (bE true)), (76, (bE true)), (77, (iE (parE [50, 47, 52]))), (78, (bE true)), (79, (bE true)), (80, (bE true)), (81, (iE (parE [51, 47, 49]))), (82, (bE true)), (83, (bE true)), (84, (bE true)), (85, (ffC (mkV 6 (-8)))), (86, (TyC.eq (Value.string (St (ftx (mkV 6 (-8))))))), (87, (bE true)), (88, (bE true)), (89, (bE true)), (90, (ffC (addV qH qT))), (91, (TyC.eq (Value.string (St (ftx (addV qH qT)))))), (92, (bE true)), (93, (bE true)), (94, (bE true)), (95, (ffC (powV (addV ((1 : Int) : Rat) (-qT)) 3))), (96, (TyC.eq (Value.string (St (ftx (powV (addV ((1 : Int) : Rat) (-qT)) 3)))))), (97, (bE true)), (98, (bE true))]) XE10 XG10 XL10 (fun Q => ⟨sMv 62 (rO 2), sBin 63 (z := Value.int .i64 (mkE (-8))) (z' := Value.int IntKind.i64 0) (u := Value.bool true) (rS 62 0) (rK (Value.int IntKind.i64 0)) (fun h h' => ⟨h, rfl⟩) (eqg_int _ _ _ _ _ _ _ _) (run_as (run_eql _ _ _ _) (by rw [show mkE (-8) = 0 from rfl]; rfl)), sMv 64 (rS 63 1), sMv 65 (rO 8), sBin 66 (z := Value.int .i64 (addE qH qT)) (z' := Value.int IntKind.i64 0) (u := Value.bool true) (rS 65 3) (rK (Value.int IntKind.i64 0)) (fun h h' => ⟨h, rfl⟩) (eqg_int _ _ _ _ _ _ _ _) (run_as (run_eql _ _ _ _) (by rw [sum_HT.2]; rfl)), sPkt 67 (rS 64 2) (rS 66 4), sMv 68 (rS 67 5), sMv 69 (rO 10), sBin 70 (z := Value.int .i64 (divE ((1 : Int) : Rat) ((0 : Int) : Rat))) (z' := Value.int IntKind.i64 1) (u := Value.bool true) (rS 69 7) (rK (Value.int IntKind.i64 1)) (fun h h' => ⟨h, rfl⟩) (eqg_int _ _ _ _ _ _ _ _) (run_as (run_eql _ _ _ _) (by rw [show divE ((1 : Int) : Rat) ((0 : Int) : Rat) = 1 from if_pos rfl]; rfl)), sPkt 71 (rS 68 6) (rS 70 8), sMv 72 (rS 71 9), sMv 73 (rO 14), sBin 74 (z := Value.int .i64 (powE (addV ((1 : Int) : Rat) (-qT)) 3)) (z' := Value.int IntKind.i64 0) (u := Value.bool true) (rS 73 11) (rK (Value.int IntKind.i64 0)) (fun h h' => ⟨h, rfl⟩) (eqg_int _ _ _ _ _ _ _ _) (run_as (run_eql _ _ _ _) (by rw [lv_h]; rfl)), sPkt 75 (rS 72 10) (rS 74 12), sMv 76 (rS 75 13), sMv 77 (rO 16), sBin 78 (z := Value.int .i64 (parE [50, 47, 52])) (z' := Value.int IntKind.i64 2) (u := Value.bool true) (rS 77 15) (rK (Value.int IntKind.i64 2)) (fun h h' => ⟨h, rfl⟩) (eqg_int _ _ _ _ _ _ _ _) (run_as (run_eql _ _ _ _) (by rw [lv_i]; rfl)), sPkt 79 (rS 76 14) (rS 78 16), sMv 80 (rS 79 17), sMv 81 (rO 18), sBin 82 (z := Value.int .i64 (parE [51, 47, 49])) (z' := Value.int IntKind.i64 2) (u := Value.bool true) (rS 81 19) (rK (Value.int IntKind.i64 2)) (fun h h' => ⟨h, rfl⟩) (eqg_int _ _ _ _ _ _ _ _) (run_as (run_eql _ _ _ _) (by rw [lv_j]; rfl)), sPkt 83 (rS 80 18) (rS 82 20), sMv 84 (rS 83 21), sLb 85 (rO 1) 2 aggF (ff_str _), sC1 86 (rS 85 23) (fun K h0 => k_fstring h0 (env_at henv (XN10.trans K.ext rfl) hc0).1) Tryz.func57, sBin 87 (z := Value.string (St (ftx (mkV 6 (-8))))) (z' := Value.string { data := #[45, 51, 47, 52] }) (u := Value.bool true) (rS 86 24) (rK (Value.string { data := #[45, 51, 47, 52] })) (fun h h' => ⟨h, rfl⟩) (eqg_str _ _ _ _ _ _) (run_as (run_eqlS _ _ [45, 51, 47, 52]) (by rw [lv_a]; rfl)), sPkt 88 (rS 84 22) (rS 87 25), sMv 89 (rS 88 26), sLb 90 (rO 7) 1 aggF (ff_str _), sC1 91 (rS 90 28) (fun K h0 => k_fstring h0 (env_at henv (XN10.trans K.ext rfl) hc0).1) Tryz.func57, sBin 92 (z := Value.string (St (ftx (addV qH qT)))) (z' := Value.string { data := #[53, 47, 54] }) (u := Value.bool true) (rS 91 29) (rK (Value.string { data := #[53, 47, 54] })) (fun h h' => ⟨h, rfl⟩) (eqg_str _ _ _ _ _ _) (run_as (run_eqlS _ _ [53, 47, 54]) (by rw [lv_b]; rfl)), sPkt 93 (rS 89 27) (rS 92 30), sMv 94 (rS 93 31), sLb 95 (rO 13) 0 aggF (ff_str _), sC1 96 (rS 95 33) (fun K h0 => k_fstring h0 (env_at henv (XN10.trans K.ext rfl) hc0).1) Tryz.func57, sBin 97 (z := Value.string (St (ftx (powV (addV ((1 : Int) : Rat) (-qT)) 3)))) (z' := Value.string { data := #[56, 47, 50, 55] }) (u := Value.bool true) (rS 96 34) (rK (Value.string { data := #[56, 47, 50, 55] })) (fun h h' => ⟨h, rfl⟩) (eqg_str _ _ _ _ _ _) (run_as (run_eqlS _ _ [56, 47, 50, 55]) (by rw [lv_c]; rfl)), sPkt 98 (rS 94 32) (rS 97 35), sMv 0 (rS 98 36), trivial⟩) ?_
 intro bX fX w11 c11 a11 XG11 yx yA yB yV yO yF; have XE11 := XE10.up yF yO (ck (kv (yV 0 rfl) rfl) kn); have XL11 := (yA.pk yB rfl []); have XN11 := XN10.trans yx rfl; clear yx yA yB yV yO yF; show Code.wp _ _ _ _ _; refine wp_ret ?_; (repeat (first | (with_reducible refine then_ret ?_) | (with_reducible refine inBlock_ret ?_) | (with_reducible refine then_normal ?_) | (with_reducible refine inBlock_normal ?_))); show bodyPost Tryz.prog Tryz.f36 _ Exit.ret a11 w11; subst hc0; exact bodyPost_ret (res_t rfl _ (XE11.at 0 rfl)) XE11.2.1 ⟨_, rfl, rfl, XN11.new0⟩

theorem k_llives {w : World} {c : Colr} (he : Env w) : CV Tryz.prog 36 #[] w c (TyC.eq (.bool true)) := (t_llives w he).cv (plain_eq _)
end Go.Proofs.YtbocpkjajocpiaaGreatDoor

namespace Go.Proofs.YtbocpkjajocpiaaGreatDoor
set_option linter.unusedVariables false
open Go.RowKit Go.Mem Go.Dig Go.Fr Go.Col

theorem num_lt {a b : Int} (hb : I64 b) {M : Nat} (hM : 1265 ≤ M) : (numV a b).natAbs < 2 ^ M := by
  have h0 : (2 : Nat) ^ 64 ≤ 2 ^ M := Nat.pow_le_pow_right (by omega) (by omega)
  have h64 : ∀ {z : Int}, z.natAbs < 18446744073709551616 → z.natAbs < 2 ^ M := fun h => Nat.lt_of_lt_of_le h h0
  unfold numV
  split
  · have h1 := Int.tmod_lt_of_pos b (show (0 : Int) < 60 by decide)
    have h2 : -60 < b.tmod 60 := Int.lt_tmod_of_pos b (show (0 : Int) < 60 by decide)
    exact h64 (by omega)
  · split
    · exact h64 (by omega)
    · have hi : ((a.tdiv 7).tmod 40).toNat ≤ 40 := by have := tmod40 (a.tdiv 7); omega
      have hb3 : (b + 3).natAbs < 2 ^ 64 := show (b + 3).natAbs < 18446744073709551616 by omega
      have hm : (mM ^ ((a.tdiv 7).tmod 40).toNat).natAbs < 2 ^ (30 * ((a.tdiv 7).tmod 40).toNat + 1) := by
        rw [Int.natAbs_pow, Nat.pow_succ, Nat.pow_mul]
        have h1 : mM.natAbs ^ ((a.tdiv 7).tmod 40).toNat ≤ (2 ^ 30) ^ ((a.tdiv 7).tmod 40).toNat := Nat.pow_le_pow_left (by decide) _
        have h2 : 0 < (2 ^ 30) ^ ((a.tdiv 7).tmod 40).toNat := Nat.pow_pos (by decide)
        omega
      exact Nat.lt_of_lt_of_le (nmul_lt hb3 hm) (Nat.pow_le_pow_right (by omega) (by omega))
/-- A fraction made from numbers is of at most 1265 bits. -/
theorem fracV_Fb {xs : List Int} (h : ∀ z ∈ xs, I64 z) (i : Int) {M : Nat} (hM : 1265 ≤ M) : Fb M (fracV xs i) := by
  have hn : ∀ j k, (numV (pk xs j) (pk xs k)).natAbs < 2 ^ M := fun j k => num_lt (pk_i64 h k) hM
  have h1 : (1 : Int).natAbs < 2 ^ M := Nat.lt_of_lt_of_le (show (1 : Nat) < 2 ^ 1 by decide) (Nat.pow_le_pow_right (by omega) (by omega))
  unfold fracV mkV
  have hq : (fracQ xs i).natAbs < 2 ^ M := by
    unfold fracQ
    split
    · exact h1
    · exact hn _ _
  split
  · rename_i h0
    exfalso
    unfold fracQ at h0
    split at h0 <;> omega
  · exact Fb.mk (hn _ _) hq (by omega)
section
variable {w : World} {c : Colr} {v v' : Value} {r r' s : Rat}
theorem k_fsubin (h : (ffC r).sat v w c) (h' : (ffC r').sat v' w c) (ho : addOk r (-r')) (e : r + -r' = s) : CV Tryz.prog 42 #[v, v'] w c ((ffC s).tup1 (.int .i64 0)) := by
  have := k_fsub h h'
  rwa [show addV r (-r') = s from (if_pos ho).trans e, show addE r (-r') = 0 from if_pos ho] at this
end
end Go.Proofs.YtbocpkjajocpiaaGreatDoor

namespace Go.Proofs.YtbocpkjajocpiaaGreatDoor
set_option linter.unusedVariables false
open Go.RowKit Go.Mem Go.Dig Go.Fr Go.Col

theorem cmpR_ne {a b : Rat} (h : ¬ a = b) : (cmpR a b == 0) = false := by
  rcases cmpR_cases a b with ⟨h1, e⟩ | ⟨h1, e⟩ | ⟨h1, e⟩
  · rw [e]; rfl
  · exact absurd h1 h
  · rw [e]; rfl
end Go.Proofs.YtbocpkjajocpiaaGreatDoor

namespace Go.Proofs.YtbocpkjajocpiaaGreatDoor
set_option linter.unusedVariables false
open Go.RowKit Go.Mem Go.Dig Go.Fr Go.Col

theorem text_bits {z : Int} {k : Nat} (h : z.natAbs < 2 ^ (3 * k)) (hk : 1 ≤ k) : (Txt.text z).length ≤ k + 1 := by
  refine text_short' (Nat.lt_of_lt_of_le h ?_) hk
  unfold tpow
  rw [Nat.pow_mul]
  exact Nat.pow_le_pow_left (by decide) k
theorem ftx_bits {x : Rat} {k : Nat} (h : Fb (3 * k) x) (hk : 1 ≤ k) : (ftx x).length ≤ 2 * k + 3 := by
  have h1 := text_bits h.1 hk
  have h2 := text_bits h.2 hk
  unfold ftx
  split
  · omega
  · rw [List.length_append, List.length_cons]
    omega
theorem ftx_frac {xs : List Int} (h : ∀ z ∈ xs, I64 z) (i : Int) : (ftx (fracV xs i)).length ≤ 860 := by
  obtain ⟨k, hk⟩ : ∃ k : Nat, k = 422 := ⟨_, rfl⟩
  have h1 := ftx_bits (fracV_Fb h i (M := 3 * k) (by omega)) (by omega)
  omega
end Go.Proofs.YtbocpkjajocpiaaGreatDoor

namespace Go.Mem
set_option linter.unusedVariables false
open Go.RowKit

theorem setCells_row (g : Nat) (t : TypeId) (x : Nat × Nat) : ∀ (vs pre olds post : List Value) (w : World), olds.length = vs.length → w.heap[g]? = some (.cells (pre ++ olds ++ post).toArray t x) → (w.setCells g pre.length vs).heap[g]? = some (.cells (pre ++ vs ++ post).toArray t x)
  | [], pre, olds, post, w, hl, h => by
    obtain rfl : olds = [] := List.eq_nil_of_length_eq_zero (by simpa using hl)
    exact h
  | v :: r, pre, [], post, w, hl, h => by simp at hl
  | v :: r, pre, o :: os, post, w, hl, h => by
    have h1 : (w.setCell ⟨g, pre.length, none⟩ v).heap[g]? = some (.cells ((pre ++ [v]) ++ os ++ post).toArray t x) := by
      simp [World.setCell, Array.getElem?_modify, h]
    have := setCells_row g t x r (pre ++ [v]) os post _ (by simpa using hl) h1
    simp only [World.setCells]
    rw [List.length_append, List.length_singleton] at this
    rw [this]
    simp
theorem setCells_chg (g : Nat) : ∀ (vs : List Value) (o : Nat) (w : World), Chg (fun k => k = g) w (w.setCells g o vs)
  | [], _, w => Chg.refl _ w
  | v :: r, o, w => ((Chg.refl (fun k => k = g) w).setCell (p := ⟨g, o, none⟩) (fun _ => rfl) v).trans (setCells_chg g r (o + 1) _) (fun _ _ h => h)

/-- The block of a slice. -/
def blkV : Value → Option Nat
  | .slice A _ _ => blk A
  | _ => none
/-- A slice that owns its row: its elements are xs; the row's cells are of the kind C. -/
def RowV (w : World) (t : TypeId) (C : Value → Prop) (v : Value) (xs : List Value) : Prop :=
  (v = .slice none 0 0 ∧ xs = []) ∨ ∃ g cp rest, v = .slice (some ⟨g, 0, none⟩) xs.length cp ∧ cp ≤ maxLen ∧ cp = xs.length + rest.length ∧ Blk w g t (xs ++ rest).toArray ∧ ∀ u ∈ xs ++ rest, C u
section
variable {P : Program} {w w' : World} {t e : TypeId} {C : Value → Prop} {v : Value} {xs : List Value}
theorem RowV.nil (w : World) (t : TypeId) (C : Value → Prop) : RowV w t C (.slice none 0 0) [] := .inl ⟨rfl, rfl⟩
theorem RowV.shape (h : RowV w t C v xs) : ∃ A c, v = .slice A xs.length c ∧ xs.length ≤ c ∧ c ≤ maxLen := by
  rcases h with ⟨rfl, rfl⟩ | ⟨g, cp, rest, rfl, h1, h2, _⟩
  · exact ⟨none, 0, rfl, Nat.le_refl _, Nat.zero_le _⟩
  · exact ⟨_, _, rfl, by omega, h1⟩
theorem RowV.rd {A : Option Addr} {n c : Nat} (h : RowV w t C (.slice A n c) xs) : Rd w A n xs := by
  rcases h with ⟨hv, rfl⟩ | ⟨g, cp, rest, hv, h1, h2, h3, _⟩
  · injection hv with _ hn _; subst hn; exact Rd.nil w A
  · injection hv with hA hn hc
    subst hA hn hc
    refine ⟨rfl, fun _ => ⟨_, rfl, fun j u hu => ?_⟩⟩
    rw [Addr.add_lit, Nat.zero_add]
    refine h3.cell j ?_
    have hj : j < xs.length := (List.getElem?_eq_some_iff.1 hu).1
    simpa [List.getElem?_append_left hj] using hu
theorem RowV.lt (h : RowV w t C v xs) {k : Nat} (hk : blkV v = some k) : k < w.heap.size := by
  rcases h with ⟨rfl, rfl⟩ | ⟨g, cp, rest, rfl, h1, h2, h3, _⟩
  · cases hk
  · obtain rfl : g = k := by simpa [blkV, blk] using hk
    exact h3.lt
theorem RowV.chg {S : Nat → Prop} (h : RowV w t C v xs) (hc : Chg S w w') (hs : ∀ k, blkV v = some k → ¬ S k) : RowV w' t C v xs := by
  rcases h with h | ⟨g, cp, rest, rfl, h1, h2, h3, h4⟩
  · exact .inl h
  · exact .inr ⟨g, cp, rest, rfl, h1, h2, h3.chg hc (hs g rfl), h4⟩
theorem RowV.new (h : RowV w t C v xs) (hc : New w w') : RowV w' t C v xs := h.chg hc (fun _ _ hf => hf)
/-- The row's block holds only cells of the kind. -/
theorem RowV.kind (h : RowV w t C v xs) {k : Nat} (hk : blkV v = some k) : ∃ cs : List Value, Blk w k t cs.toArray ∧ ∀ u ∈ cs, C u := by
  rcases h with ⟨rfl, rfl⟩ | ⟨g, cp, rest, rfl, h1, h2, h3, h4⟩
  · cases hk
  · obtain rfl : g = k := by simpa [blkV, blk] using hk
    exact ⟨_, h3, h4⟩
theorem RowV.ne {t' : TypeId} {cs : Array Value} {g : Nat} (h : RowV w t C v xs) (hb : Blk w g t' cs) (hne : t' ≠ t) : blkV v ≠ some g := fun hk => by
  obtain ⟨cs', h1, _⟩ := h.kind hk
  unfold Blk at hb h1
  rw [hb] at h1
  injection h1 with h1
  injection h1 with h1 h2
  exact hne h2
theorem RowV.all (h : RowV w t C v xs) : ∀ u ∈ xs, C u := by
  rcases h with ⟨rfl, rfl⟩ | ⟨g, cp, rest, rfl, h1, h2, h3, h4⟩
  · simp
  · exact fun u hu => h4 u (by simp [hu])
/-- The source of an append: a slice that reads. -/
theorem src_rd {tx e' : TypeId} (hk : P.underlying tx = some (.slice e')) {A : Option Addr} {m c : Nat} {news : List Value} (hr : Rd w A m news) (h1 : ∀ u ∈ news, u.oneCell' = true) : Src P 1 tx (.slice A m c) m news w := by
  cases A with
  | none =>
    have hm : m = 0 := by
      rcases Nat.eq_zero_or_pos m with h0 | h0
      · exact h0
      · obtain ⟨ad, h, _⟩ := hr.2 h0; cases h
    subst hm
    obtain rfl : news = [] := List.eq_nil_of_length_eq_zero hr.1
    exact Src.ofNil w hk c
  | some ad =>
    refine Src.ofSlice w hk ad m c news (by rw [hr.1]; omega) (fun j u hu => ?_) h1
    have hj := (List.getElem?_eq_some_iff.1 hu).1
    obtain ⟨ad', h, hc⟩ := hr.2 (by have := hr.1; omega)
    injection h with h
    subst h
    exact hc j u hu
theorem src_str {tx : TypeId} (hk : P.underlying tx = some .string) (s : ByteArray) : Src P 1 tx (.string s) s.data.toList.length (bs s.data.toList) w := by
  have := Src.ofString (P := P) w hk s
  have e : byteCells s = bs s.data.toList := rfl
  rw [e] at this
  have e2 : s.data.toList.length = s.size := by rw [Array.length_toList]; rfl
  rw [e2]
  exact this
theorem zero_cells1 {z : Value} (hz : z.cells = #[z]) (k : Nat) : (Builtin.zeroCells z.cells k).toList = List.replicate k z := by
  rw [hz]
  apply List.ext_getElem
  · simp [Builtin.zeroCells]
  · intro i h1 h2
    simp [Builtin.zeroCells]
    rw [Nat.mod_one]
    rfl
/-- append to a slice that owns its row. -/
theorem RowV.app {z : Value} {bytes : Nat} (hE : Elem P t e z bytes) (hzc : z.cells = #[z]) (hCz : C z) (tx ty : TypeId) (h : RowV w e C v xs) {x : Value} {m : Nat} {news : List Value} (hs : Src P 1 tx x m news w) (hC : ∀ u ∈ news, C u)
    (h63 : xs.length + m ≤ 4611686018427387904) (hbytes : (xs.length + m) * bytes ≤ 140737488355328) :
    ∃ v' w', (Builtin.append_ #[t, tx] ty #[v, x]).run P w = .ok v' w' ∧ RowV w' e C v' (xs ++ news) ∧ w.grownBy w' (blkV v) ∧ (blkV v' = blkV v ∨ blkV v' = some w.heap.size ∧ New w w') := by
  obtain ⟨ht, ⟨i, hi, hz, hsize, hby⟩, hzs⟩ := hE
  have hnl : news.length = m := by have := hs.newsLen; omega
  have hs' : Src P i.size tx x m news w := by rw [hsize]; exact hs
  by_cases h0 : m = 0
  · subst h0
    obtain rfl : news = [] := List.eq_nil_of_length_eq_zero hnl
    obtain ⟨A, c, rfl, h1, h2⟩ := h.shape
    exact ⟨_, w, run_append_nothing w t tx ty e i ht hi A xs.length c h1 x hs', by simpa using h, World.grownBy.refl w _, .inl rfl⟩
  · -- a new row
    have grow : ∀ (A : Option Addr) (cp : Nat), v = .slice A xs.length cp → cp < xs.length + m → (Builtin.firstCells i.size xs.length (.slice A xs.length cp)).run P w.drew = .ok xs.toArray w.drew →
        ∃ v' w', (Builtin.append_ #[t, tx] ty #[v, x]).run P w = .ok v' w' ∧ RowV w' e C v' (xs ++ news) ∧ w.grownBy w' (blkV v) ∧ (blkV v' = blkV v ∨ blkV v' = some w.heap.size ∧ New w w') := by
      intro A cp hv hlt hf
      subst hv
      have hge := grownCap_ge w (xs.length + m) cp e
      have hrun := run_append_grow_src (P := P) w t tx ty e i z ht hi hz A xs.length cp xs hf x m news hs' hlt (by omega) (by rw [hby]; exact growslice_fits (by omega) hbytes)
      refine ⟨_, _, hrun, .inr ⟨w.heap.size, _, List.replicate (grownCap w (xs.length + m) cp e - (xs.length + m)) z, ?_, grownCap_le_maxLen w (xs.length + m) cp e (by unfold maxLen; omega), ?_, ?_, ?_⟩, ⟨rfl, rfl, rfl, by simp, fun k hk _ => heap_alloc_old w.drew _ hk⟩, .inr ⟨rfl, ((Chg.refl _ w).drew).alloc _⟩⟩
      · rw [List.length_append, hnl]
      · rw [List.length_append, hnl, List.length_replicate]; omega
      · have e1 : (xs ++ news ++ List.replicate (grownCap w (xs.length + m) cp e - (xs.length + m)) z).toArray = (xs ++ news).toArray ++ Builtin.zeroCells z.cells (grownCap w (xs.length + m) cp e - (xs.length + m)) := by
          apply Array.ext'
          rw [Array.toList_append, zero_cells1 hzc]
        rw [e1]
        exact Blk.new w.drew e _
      · intro u hu
        simp only [List.mem_append, List.mem_replicate] at hu
        rcases hu with (hu | hu) | ⟨_, rfl⟩
        · exact h.all u hu
        · exact hC u hu
        · exact hCz
    rcases h with ⟨rfl, rfl⟩ | ⟨g, cp, rest, rfl, h1, h2, h3, h4⟩
    · exact grow none 0 rfl (by simp; omega) (by simp [Builtin.firstCells])
    · by_cases hroom : xs.length + m ≤ cp
      · -- in place
        have hcell : ∀ j, j < news.length → (w.cell? ⟨g, 0 + xs.length * i.size + j, none⟩).isSome = true := by
          intro j hj
          have hlt : xs.length * i.size + j < (xs ++ rest).length := by rw [List.length_append, hsize]; omega
          rw [Nat.zero_add, h3.cell (xs.length * i.size + j) (u := (xs ++ rest)[xs.length * i.size + j]) (by simp)]
          rfl
        have hrun := run_append_room_src (P := P) w t tx ty e i ht hi g 0 xs.length cp x m news hs' hroom hcell (fun j hj => h3.frozen _)
        obtain ⟨r1, r2, hr, hr1⟩ : ∃ r1 r2, rest = r1 ++ r2 ∧ r1.length = news.length := ⟨rest.take news.length, rest.drop news.length, (List.take_append_drop _ _).symm, by rw [List.length_take]; omega⟩
        subst hr
        have hrow := setCells_row g e (0, 0) news xs r1 r2 w hr1 (by simpa [Blk, List.append_assoc] using h3)
        have hoff : 0 + xs.length * i.size = xs.length := by rw [hsize]; omega
        rw [hoff] at hrun
        refine ⟨_, _, hrun, .inr ⟨g, cp, r2, by rw [List.length_append, hnl], h1, ?_, hrow, fun u hu => ?_⟩, ?_, .inl rfl⟩
        · simp only [List.length_append] at h2 ⊢; omega
        · simp only [List.mem_append] at hu
          rcases hu with (hu | hu) | hu
          · exact h4 u (by simp [hu])
          · exact hC u hu
          · exact h4 u (by simp [hu])
        · have hc := setCells_chg g news xs.length w
          exact ⟨hc.os, hc.tape, hc.output, hc.size, fun k hk hne => hc.block k hk (fun e => hne (by rw [e]; rfl))⟩
      · refine grow _ cp rfl (by omega) ?_
        have hl : xs.length = xs.length * i.size := by rw [hsize]; omega
        exact run_firstCells_some (P := P) w.drew i.size xs.length ⟨g, 0, none⟩ xs.length cp xs hl (fun j u hu => by
          rw [Addr.add_lit, Nat.zero_add]
          have hj := (List.getElem?_eq_some_iff.1 hu).1
          exact h3.drew.cell j (by simpa [List.getElem?_append_left hj] using hu))
theorem wpList_appV {z : Value} {bytes : Nat} (hE : Elem P t e z bytes) (hzc : z.cells = #[z]) (hCz : C z) {tx : TypeId} {ops : Array Oper} {rest : List Oper} {o : Oper} {a : Act} {Q : Exit → Act → World → Prop} (hgd : o.guard = none) (s y : Operand)
    (ho : o.op = .call { callee := .builtin .append, args := #[s, y], argTypes := #[t, tx] }) (hsv : a.eval s = v) (h : RowV w e C v xs) {x : Value} {m : Nat} {news : List Value} (hy : a.eval y = x) (hs : Src P 1 tx x m news w) (hC : ∀ u ∈ news, C u)
    (h63 : xs.length + m ≤ 4611686018427387904) (hbytes : (xs.length + m) * bytes ≤ 140737488355328)
    (hk : ∀ A' c' n' w', n' = (xs ++ news).length → RowV w' e C (.slice A' n' c') (xs ++ news) → w.grownBy w' (blkV v) → (blk A' = blkV v ∨ blk A' = some w.heap.size ∧ New w w') → wpList P ops Q rest (a.put o.dst (.slice A' n' c')) w') :
    wpList P ops Q (o :: rest) a w := by
  refine wpList_plain hgd fun K hK => ?_
  obtain ⟨v', w', hrun, h2, h3, h4⟩ := RowV.app (P := P) hE hzc hCz tx o.type h hs hC h63 hbytes
  obtain ⟨A', c', rfl, _⟩ := h2.shape
  unfold Oper.wp execOp
  simp only [ho, resolve, invoke, builtin, Sem.run_bind, Sem.run_pure, Result.andThen_ok, List.map_toArray, List.map_cons, List.map_nil, hsv, hy]
  rw [hrun]
  exact hK _ _ (hk A' c' _ w' rfl h2 h3 h4)
/-- Block k holds cells of the kind alone. -/
def KindB (w : World) (t : TypeId) (C : Value → Prop) (k : Nat) : Prop := ∃ cs : List Value, Blk w k t cs.toArray ∧ ∀ u ∈ cs, C u
theorem KindB.chg {S : Nat → Prop} {k : Nat} (h : KindB w t C k) (hc : Chg S w w') (hs : ¬ S k) : KindB w' t C k := by
  obtain ⟨cs, h1, h2⟩ := h
  exact ⟨cs, h1.chg hc hs, h2⟩
/-- A byte. -/
def IsU8 (u : Value) : Prop := ∃ x : UInt8, u = By x
theorem bs_u8 (l : List UInt8) : ∀ u ∈ bs l, IsU8 u := fun u hu => by
  obtain ⟨x, _, rfl⟩ := List.mem_map.1 hu
  exact ⟨x, rfl⟩
end
end Go.Mem

namespace Go.Pure

/-- The varint of a number. -/
def uvar (n : Nat) : List UInt8 := if h : n < 128 then [UInt8.ofNat n] else UInt8.ofNat (128 + n % 128) :: uvar (n / 128)
termination_by n
decreasing_by omega
theorem uvar_lt {n : Nat} (h : n < 128) : uvar n = [UInt8.ofNat n] := by rw [uvar, dif_pos h]
theorem uvar_ge {n : Nat} (h : 128 ≤ n) : uvar n = UInt8.ofNat (128 + n % 128) :: uvar (n / 128) := by rw [uvar, dif_neg (by omega)]

theorem uvar_pos (n : Nat) : 1 ≤ (uvar n).length := by
  rw [uvar]; split <;> simp
theorem uvar_len_pow (k : Nat) : ∀ n, n < 128 ^ (k + 1) → (uvar n).length ≤ k + 1 := by
  induction k with
  | zero => intro n h; rw [uvar_lt (by simpa using h)]; simp
  | succ k ih =>
    intro n h
    by_cases hn : n < 128
    · rw [uvar_lt hn]; simp
    · rw [uvar_ge (by omega), List.length_cons]
      have := ih (n / 128) (by rw [Nat.div_lt_iff_lt_mul (by omega)]; rw [Nat.pow_succ] at h; exact h)
      omega
theorem uvar_len {n : Nat} (h : n < 18446744073709551616) : (uvar n).length ≤ 10 := uvar_len_pow 9 n (Nat.lt_trans h (by decide))

theorem or128 : ∀ x : Fin 256, (x.val ||| 128) = 128 + x.val % 128 := by decide +kernel
theorem or_byte (m : Nat) : bits .or .u8 ((m : Int) % 256) 128 = ((UInt8.ofNat (128 + m % 128)).toNat : Int) := by
  have h : ((m : Int) % 256) = ((m % 256 : Nat) : Int) := by omega
  rw [h]
  have := u8_or_nat (m % 256) 128 (by omega) (by omega)
  rw [show ((128 : Nat) : Int) = 128 from rfl] at this
  rw [this]
  have h2 := or128 ⟨m % 256, by omega⟩
  simp only at h2
  rw [h2]
  simp
  omega
theorem ofNat_byte {m : Nat} (h : m < 128) : (m : Int) = ((UInt8.ofNat m).toNat : Int) := by simp; omega
end Go.Pure

namespace Go.Proofs.YtbocpkjajocpiaaGreatDoor
set_option linter.unusedVariables false
open Go.RowKit Go.Mem Go.Pure

/-- Block g is a Writer whose bytes are l, in the block bo. -/
def WrV (w : World) (g : Nat) (bo : Option Nat) (l : List UInt8) : Prop :=
  ∃ A n c, Blk w g 92 #[.slice A n c] ∧ RowV w 5 IsU8 (.slice A n c) (bs l) ∧ blk A = bo
/-- The row of old holds bytes alone. -/
def OldB (w : World) (bo : Option Nat) : Prop := ∀ k, bo = some k → KindB w 5 IsU8 k
theorem WrV.old {w : World} {g : Nat} {bo : Option Nat} {l : List UInt8} (h : WrV w g bo l) : OldB w bo := by
  obtain ⟨A, n, c, h1, h2, h3⟩ := h
  exact fun k hk => h2.kind (by rw [← hk, ← h3]; rfl)
theorem WrV.blt {w : World} {g : Nat} {bo : Option Nat} {l : List UInt8} (h : WrV w g bo l) : (∀ k, bo = some k → k < w.heap.size) ∧ bo ≠ some g := by
  obtain ⟨A, n, c, h1, h2, h3⟩ := h
  refine ⟨fun k hk => h2.lt (by rw [← hk, ← h3]; rfl), fun e => h2.ne h1 (by decide) (by rw [← e, ← h3]; rfl)⟩
theorem WrV.len {w : World} {A : Option Addr} {n c : Nat} {l : List UInt8} (h : RowV w 5 IsU8 (.slice A n c) (bs l)) : n = l.length := by
  obtain ⟨A', c', hv, _⟩ := h.shape
  injection hv with _ hn _
  rw [hn, bs_length]

/-- What an append to a Writer's bytes, stored back, leaves. -/
theorem wrv_step {w wr wx w1 : World} {g M c' : Nat} {bo bo' : Option Nat} {A A' : Option Addr} {l' : List UInt8} {v : Value} (hchg : Chg (fun k => k = g ∨ bo = some k) w wr) (hx : New wr wx)
    (hat : bo' = bo ∨ ∃ k, bo' = some k ∧ w.heap.size ≤ k) (hbo : blk A = bo') (hold : OldB wr bo) (hgb : ∀ k, bo = some k → k < w.heap.size) (hgg : bo ≠ some g) (hg1 : wx.grownBy w1 (blk A)) (hat1 : blk A' = blk A ∨ blk A' = some wx.heap.size ∧ New wx w1)
    (hb1 : Blk w1 g 92 #[v]) (hown1 : RowV w1 5 IsU8 (.slice A' M c') (bs l')) :
    WrV (w1.setCell ⟨g, 0, none⟩ (.slice A' M c')) g (blk A') l' ∧ Chg (fun k => k = g ∨ bo = some k) w (w1.setCell ⟨g, 0, none⟩ (.slice A' M c')) ∧ (blk A' = bo ∨ ∃ k, blk A' = some k ∧ w.heap.size ≤ k) ∧ OldB (w1.setCell ⟨g, 0, none⟩ (.slice A' M c')) bo := by
  have hne : blk A' ≠ some g := hown1.ne hb1 (by decide)
  have hc1 : Chg (fun k => k = g ∨ bo = some k) w w1 := (hchg.new hx).grown hg1 (fun k hk hlt => by
    rw [hbo] at hk
    rcases hat with rfl | ⟨k', rfl, hk'⟩
    · exact .inr hk
    · cases hk; omega)
  have hset : Chg (fun k => k = g) w1 (w1.setCell ⟨g, 0, none⟩ (.slice A' M c')) := (Chg.refl (fun k => k = g) w1).setCell (p := ⟨g, 0, none⟩) (fun _ => rfl) _
  refine ⟨⟨A', M, c', ?_, ?_, rfl⟩, hc1.setCell (fun _ => .inl rfl) _, ?_, ?_⟩
  · exact hb1.set_ 0 _
  · exact hown1.chg (S := fun k => k = g) ((Chg.refl (fun k => k = g) w1).setCell (p := ⟨g, 0, none⟩) (fun _ => rfl) _) (fun k hk e => hne (by subst e; exact hk))
  · rcases hat1 with e | ⟨e, _⟩
    · rw [e, hbo]; exact hat
    · exact .inr ⟨_, e, Nat.le_trans hchg.size hx.size⟩
  · intro k hk
    have hkg : k ≠ g := fun e => hgg (by rw [hk, e])
    refine KindB.chg ?_ hset hkg
    rcases hat1 with e | ⟨e, hn⟩
    · by_cases hA : blk A = some k
      · exact hown1.kind (by rw [← hA, ← e]; rfl)
      · exact ((hold k hk).chg hx (fun h => h)).chg ((Chg.refl (fun j => blk A = some j) wx).grown hg1 (fun j hj _ => hj)) hA
    · exact ((hold k hk).chg hx (fun h => h)).chg hn (fun h => h)

set_option maxHeartbeats 1000000 in
set_option maxRecDepth 100000 in
theorem wvUint_any (g : Nat) (bo : Option Nat) (l : List UInt8) (n : Nat) (w : World) (hn : n < 18446744073709551616) (hw : WrV w g bo l) (hl : l.length ≤ 1000000000) :
    Calls Tryz.prog 113 #[.pointer (some ⟨g, 0, none⟩), .int .u64 n] w fun e w' => e = .returned (.tuple #[]) ∧
      ∃ bo', WrV w' g bo' (l ++ uvar n) ∧ Chg (fun k => k = g ∨ bo = some k) w w' ∧ (bo' = bo ∨ ∃ k, bo' = some k ∧ w.heap.size ≤ k) ∧ OldB w' bo := by
  have hu := uvar_len hn
  have HN := Lib.hid hn
  clear hn
  have HGB := Lib.hid hw.blt
  go_enter Tryz.func113, Tryz.ntmps113
  go_wp2
  go_loopw [1] (fun i wr => ∃ m : Nat, m ≤ n ∧ i = .int .u64 m ∧ ∃ (d : List UInt8) (bo' : Option Nat), uvar n = d ++ uvar m ∧ WrV wr g bo' (l ++ d) ∧ Chg (fun k => k = g ∨ bo = some k) w wr ∧ (bo' = bo ∨ ∃ k, bo' = some k ∧ w.heap.size ≤ k) ∧ OldB wr bo) (fun i _ => (intOf i).toNat)
  case atStart => exact ⟨n, Nat.le_refl _, rfl, [], bo, rfl, by simpa using hw, Chg.refl _ w, .inl rfl, hw.old⟩
  case round =>
    obtain ⟨m, hm, rfl, d, bo', hd, ⟨A, N, c, hb, hown, hbo⟩, hchg, hat, hold⟩ := hrel
    have hdl : d.length + 1 ≤ 10 := by
      have := uvar_pos m
      rw [hd, List.length_append] at hu
      omega
    have hNl : N = l.length + d.length := by have := WrV.len hown; simpa using this
    have hN2 : N + 1 ≤ 1000000010 := by omega
    have hN3 : (bs (l ++ d)).length + 1 ≤ 1000000010 := by rw [bs_length, List.length_append]; omega
    have HN2 := Lib.hid hNl
    have HD := Lib.hid hd
    clear hNl
    have HBO := Lib.hid hbo
    clear hd hbo
    by_cases hlt : 128 ≤ m
    · have hc0 := hb.cell 0 rfl
      have hf0 := hb.frozen 0
      have HB := Lib.hid hb
      have HO := Lib.hid hown
      have HNE := Lib.hid (hown.ne hb (by decide))
      clear hb hown
      go_wp2_with (at_builtin; refine wpList_appV elemBytes rfl ⟨0, rfl⟩ rfl _ _ rfl rfl (HO.out.new ((Chg.refl _ wr).alloc _)) rfl (src_rd Tryz.underlying81 Rd.one (by simp [Value.oneCell'])) (fun u hu => by obtain rfl := List.mem_singleton.1 hu; exact ⟨UInt8.ofNat (128 + m % 128), by rw [or_byte]; rfl⟩) (by omega) (by omega) ?_; intro A' c' N' w1 hN' hown1 hg1 hat1; have hb1 := (HB.out.alloc _).grown hg1 HNE.out; have hc1 := hb1.cell 0 rfl; have hf1 := hb1.frozen 0; have HB1 := Lib.hid hb1; have HO1 := Lib.hid hown1; clear hb1 hown1 hN')
      obtain ⟨hw2, hc2, ha2, ho2⟩ := wrv_step (l' := l ++ (d ++ [UInt8.ofNat (128 + m % 128)])) hchg ((Chg.refl _ wr).alloc _) hat HBO.out hold HGB.out.1 HGB.out.2 hg1 hat1 HB1.out (by have := HO1.out; rw [or_byte] at this; simpa [bs_append, bs, By] using this)
      go_roundw
      case rel => exact ⟨m / 128, by omega, by go_num, d ++ [UInt8.ofNat (128 + m % 128)], _, by rw [HD.out, uvar_ge hlt]; simp, hw2, hc2, ha2, ho2⟩
      case measure => simp [intOf]; omega
    · have hc0 := hb.cell 0 rfl
      have hf0 := hb.frozen 0
      have HB := Lib.hid hb
      have HO := Lib.hid hown
      have HNE := Lib.hid (hown.ne hb (by decide))
      clear hb hown
      go_wp2_with (at_builtin; refine wpList_appV elemBytes rfl ⟨0, rfl⟩ rfl _ _ rfl rfl (HO.out.new ((Chg.refl _ wr).alloc _)) rfl (src_rd Tryz.underlying81 Rd.one (by simp [Value.oneCell'])) (fun u hu => by obtain rfl := List.mem_singleton.1 hu; exact ⟨UInt8.ofNat m, by rw [ofNat_byte (show m < 128 by omega)]; rfl⟩) (by omega) (by omega) ?_; intro A' c' N' w1 hN' hown1 hg1 hat1; have hb1 := (HB.out.alloc _).grown hg1 HNE.out; have hc1 := hb1.cell 0 rfl; have hf1 := hb1.frozen 0; have HB1 := Lib.hid hb1; have HO1 := Lib.hid hown1; clear hb1 hown1 hN')
      obtain ⟨hw2, hc2, ha2, ho2⟩ := wrv_step (l' := l ++ (d ++ [UInt8.ofNat m])) hchg ((Chg.refl _ wr).alloc _) hat HBO.out hold HGB.out.1 HGB.out.2 hg1 hat1 HB1.out (by have := HO1.out; rw [ofNat_byte (show m < 128 by omega)] at this; rw [bs_append, bs_append, ← List.append_assoc, ← bs_append]; exact this)
      go_end0
      exact ⟨rfl, _, by rw [HD.out, uvar_lt (by omega)]; exact hw2, hc2, ha2, ho2⟩

set_option maxHeartbeats 1000000 in
set_option maxRecDepth 100000 in
theorem wvText_any (g : Nat) (bo : Option Nat) (l : List UInt8) (s : ByteArray) (w : World) (hs : s.size ≤ 1000000) (hw : WrV w g bo l) (hl : l.length ≤ 900000000) :
    Calls Tryz.prog 65 #[.pointer (some ⟨g, 0, none⟩), .string s] w fun e w' => e = .returned (.tuple #[]) ∧
      ∃ bo', WrV w' g bo' (l ++ (uvar s.size ++ s.data.toList)) ∧ Chg (fun k => k = g ∨ bo = some k) w w' ∧ (bo' = bo ∨ ∃ k, bo' = some k ∧ w.heap.size ≤ k) ∧ OldB w' bo := by
  obtain ⟨n, hn⟩ : ∃ n, s.size = n := ⟨_, rfl⟩
  have hsl : s.data.toList.length = n := by rw [Array.length_toList]; exact hn
  have hn2 : n ≤ 1000000 := by omega
  have HSL := Lib.hid hsl
  have HGB := Lib.hid hw.blt
  have HN := Lib.hid hn
  clear hs hsl
  go_enter Tryz.func65, Tryz.ntmps65
  rw [hn]
  go_wp2_with fail
  refine (wvUint_any g bo l n w (by omega) hw (by omega)).mono ?_
  rintro e w1 ⟨rfl, bo1, hw1, hc1, ha1, ho1⟩
  have hu := uvar_len (n := n) (by omega)
  obtain ⟨A1, N, c1, hb1, hown1, hbo1⟩ := hw1
  have hN : N ≤ 900000010 := by have := WrV.len hown1; simp at this; omega
  have HBO := Lib.hid hbo1
  have HNE := Lib.hid (hown1.ne hb1 (by decide))
  have HB := Lib.hid hb1
  have HO := Lib.hid hown1
  have hN3 : (bs (l ++ uvar n)).length ≤ 900000010 := by rw [bs_length, List.length_append]; omega
  have hcc := hb1.cell 0 rfl
  have hff := hb1.frozen 0
  clear hbo1 hb1 hown1 hn
  go_wp2_with (at_builtin; refine wpList_appV elemBytes rfl ⟨0, rfl⟩ rfl _ _ rfl rfl HO.out rfl (src_str Tryz.underlying9 s) (bs_u8 _) (by rw [HSL.out]; omega) (by rw [HSL.out]; omega) ?_; intro A' c' N' w2 hN' hown2 hg2 hat2; have hb2 := HB.out.grown hg2 HNE.out; have hcc2 := hb2.cell 0 rfl; have hff2 := hb2.frozen 0; have HB2 := Lib.hid hb2; have HO2 := Lib.hid hown2; clear hb2 hown2 hN')
  obtain ⟨hw3, hc3, ha3, ho3⟩ := wrv_step (l' := l ++ (uvar n ++ s.data.toList)) hc1 (Chg.refl _ w1) ha1 HBO.out ho1 HGB.out.1 HGB.out.2 hg2 hat2 HB2.out (by have := HO2.out; rw [← List.append_assoc, bs_append]; exact this)
  go_end0
  exact ⟨rfl, _, hw3, hc3, ha3, ho3⟩

set_option maxHeartbeats 1000000 in
set_option maxRecDepth 100000 in
theorem wvDone_any (g : Nat) (bo : Option Nat) (l : List UInt8) (w : World) (hw : WrV w g bo l) (hl : l.length ≤ 1000000000) :
    Calls Tryz.prog 67 #[.pointer (some ⟨g, 0, none⟩)] w fun e w' => ∃ A c, e = .returned (.slice A l.length c) ∧
      w'.ownsRow w.heap.size 5 1 (.slice A l.length c) l.length (bs l) ∧ New w w' := by
  obtain ⟨A, N, c, hb, hown, hbo⟩ := hw
  have hN : l.length = N := by have := WrV.len hown; omega
  have HN := Lib.hid hN
  have hN2 : N ≤ 1000000000 := by omega
  have hcc := hb.cell 0 rfl
  have hff := hb.frozen 0
  have hgl := hb.lt
  have hrd : Rd w A N (bs l) := hown.rd
  clear hN hbo hown hb
  have HR := Lib.hid hrd
  clear hrd
  go_enter Tryz.func67, Tryz.ntmps67
  go_wp2_with (at_builtin; refine wpList_app elemBytes rfl _ _ rfl rfl (World.ownsRow_made w _ 0 (Nat.le_refl _) (Nat.zero_le _) rfl) rfl (HR.out.new ((Chg.refl _ w).alloc _)) (bs_one _) (by simp only [maxLen]; omega) (by omega) (by simp) ?_; intro A' c' w2 hown2 hg2 hat2)
  go_ret
  rw [HN.out]
  refine ⟨A', c', by simp, by simpa using hown2, ?_⟩
  exact ((Chg.refl _ w).alloc _).grown hg2 (fun k hk hlt => by simp [blk] at hk; omega)

end Go.Proofs.YtbocpkjajocpiaaGreatDoor

namespace Go.Pure

/-- Reading a varint: i bytes have been read, with the value acc; an error (3: more, 2: form), or the value and the rest. -/
def scanU : Nat → Nat → List UInt8 → Except Int (Nat × List UInt8)
  | _, _, [] => .error 3
  | i, acc, c :: t =>
    if (i = 9 ∧ 1 < c.toNat) ∨ (0 < i ∧ c.toNat = 0) then .error 2
    else if c.toNat < 128 then .ok (acc + c.toNat * 128 ^ i, t)
    else scanU (i + 1) (acc + (c.toNat % 128) * 128 ^ i) t
def getU (l : List UInt8) : Except Int (Nat × List UInt8) := scanU 0 0 l

/-- Uint of a reader with the bytes l and the error e: the value, the bytes and the error behind it. -/
def uintR (l : List UInt8) (e : Int) : Nat × List UInt8 × Int :=
  if e = 0 then match getU l with
    | .ok (n, t) => (n, t, 0)
    | .error x => (0, l, x)
  else (0, l, e)

theorem scanU_nil (i acc : Nat) : scanU i acc [] = .error 3 := rfl
theorem scanU_bad {i acc : Nat} {c : UInt8} {t : List UInt8} (h : (i = 9 ∧ 1 < c.toNat) ∨ (0 < i ∧ c.toNat = 0)) : scanU i acc (c :: t) = .error 2 := by
  rw [scanU, if_pos h]
theorem scanU_end {i acc : Nat} {c : UInt8} {t : List UInt8} (h : ¬ ((i = 9 ∧ 1 < c.toNat) ∨ (0 < i ∧ c.toNat = 0))) (hc : c.toNat < 128) : scanU i acc (c :: t) = .ok (acc + c.toNat * 128 ^ i, t) := by
  rw [scanU, if_neg h, if_pos hc]
theorem scanU_on {i acc : Nat} {c : UInt8} {t : List UInt8} (h : ¬ ((i = 9 ∧ 1 < c.toNat) ∨ (0 < i ∧ c.toNat = 0))) (hc : ¬ c.toNat < 128) : scanU i acc (c :: t) = scanU (i + 1) (acc + (c.toNat % 128) * 128 ^ i) t := by
  rw [scanU, if_neg h, if_neg hc]
theorem pow7 (k : Nat) : 2 ^ (7 * k) = 128 ^ k := by rw [Nat.pow_mul]
theorem uint_val {k acc x : Nat} (hk : k ≤ 9) (hacc : acc < 128 ^ k) (hx : x < 256) (h9 : k = 9 → x ≤ 1) :
    bits .or .u64 (acc : Int) (IntKind.u64.wrap (IntKind.u64.wrap (bits .and .u8 (x : Int) 127) * 2 ^ (7 * k))) = ((acc + x % 128 * 128 ^ k : Nat) : Int) := by
  have h1 : bits .and .u8 (x : Int) 127 = ((x % 128 : Nat) : Int) := by
    have := u8_and_nat x 127 hx (by omega)
    rw [show ((127 : Nat) : Int) = 127 from rfl] at this
    rw [this, show (127 : Nat) = 2 ^ 7 - 1 from rfl, Nat.and_two_pow_sub_one_eq_mod]
  have hp : x % 128 * 128 ^ k < 18446744073709551616 := by
    rcases Nat.lt_or_ge k 9 with h | h
    · have h2 : 128 ^ k ≤ 128 ^ 8 := Nat.pow_le_pow_right (by omega) (by omega)
      have h3 : x % 128 * 128 ^ k ≤ 127 * 128 ^ 8 := Nat.mul_le_mul (by omega) h2
      have h4 : 127 * 128 ^ 8 < 18446744073709551616 := by decide
      exact Nat.lt_of_le_of_lt h3 h4
    · obtain rfl : k = 9 := by omega
      have := h9 rfl
      have h4 : x % 128 * 128 ^ 9 ≤ 1 * 128 ^ 9 := Nat.mul_le_mul (by omega) (Nat.le_refl _)
      have h5 : 1 * 128 ^ 9 < 18446744073709551616 := by decide
      exact Nat.lt_of_le_of_lt h4 h5
  have ha : acc < 18446744073709551616 := by
    have h2 : 128 ^ k ≤ 128 ^ 9 := Nat.pow_le_pow_right (by omega) hk
    have h5 : 128 ^ 9 < 18446744073709551616 := by decide
    exact Nat.lt_of_lt_of_le hacc (Nat.le_trans h2 (Nat.le_of_lt h5))
  rw [h1]
  have e1 : IntKind.u64.wrap ((x % 128 : Nat) : Int) = ((x % 128 : Nat) : Int) := by rw [IntKind.wrap_u64]; omega
  have e2 : ((x % 128 : Nat) : Int) * 2 ^ (7 * k) = ((x % 128 * 128 ^ k : Nat) : Int) := by
    rw [← pow7 k]; simp
  have e3 : IntKind.u64.wrap ((x % 128 * 128 ^ k : Nat) : Int) = ((x % 128 * 128 ^ k : Nat) : Int) := by rw [IntKind.wrap_u64]; omega
  rw [e1, e2, e3, u64_or_nat _ _ ha hp]
  have := Nat.shiftLeft_add_eq_or_of_lt (show acc < 2 ^ (7 * k) by rw [pow7]; exact hacc) (x % 128)
  rw [Nat.shiftLeft_eq, pow7] at this
  rw [Nat.or_comm, ← this, Nat.add_comm]
theorem uint_lt {k acc x : Nat} (hacc : acc < 128 ^ k) : acc + x % 128 * 128 ^ k < 128 ^ (k + 1) := by
  have : x % 128 * 128 ^ k ≤ 127 * 128 ^ k := Nat.mul_le_mul (by omega) (Nat.le_refl _)
  rw [Nat.pow_succ]
  omega

theorem uintR_err {l : List UInt8} {x : Int} (h : getU l = .error x) : uintR l 0 = (0, l, x) := by unfold uintR; rw [if_pos rfl, h]
theorem uintR_ok {l t : List UInt8} {n : Nat} (h : getU l = .ok (n, t)) : uintR l 0 = (n, t, 0) := by unfold uintR; rw [if_pos rfl, h]
theorem uintR_bad {l : List UInt8} {e : Int} (h : e ≠ 0) : uintR l e = (0, l, e) := by unfold uintR; rw [if_neg h]
theorem drop_cons {l : List UInt8} {k : Nat} {x : UInt8} (h : l[k]? = some x) : l.drop k = x :: l.drop (k + 1) := by
  obtain ⟨hk, rfl⟩ := List.getElem?_eq_some_iff.1 h
  exact List.drop_eq_getElem_cons hk
/-- A length that the bytes allow. -/
def lengthR (l : List UInt8) (e : Int) : Nat × List UInt8 × Int :=
  if (uintR l e).2.2 = 0 then
    if (uintR l e).2.1.length < (uintR l e).1 then (0, (uintR l e).2.1, 3) else ((uintR l e).1, (uintR l e).2.1, 0)
  else (0, (uintR l e).2.1, (uintR l e).2.2)
theorem lengthR_big {l t : List UInt8} {e : Int} {m : Nat} (h : uintR l e = (m, t, 0)) (hm : t.length < m) : lengthR l e = (0, t, 3) := by
  unfold lengthR; rw [h]; simp [hm]
theorem lengthR_ok {l t : List UInt8} {e : Int} {m : Nat} (h : uintR l e = (m, t, 0)) (hm : ¬ t.length < m) : lengthR l e = (m, t, 0) := by
  unfold lengthR; rw [h]; simp [hm]
theorem lengthR_err {l t : List UInt8} {e x : Int} {m : Nat} (h : uintR l e = (m, t, x)) (hx : x ≠ 0) : lengthR l e = (0, t, x) := by
  unfold lengthR; rw [h]; simp [hx]
/-- Raw of a reader. -/
def rawR (l : List UInt8) (e : Int) : List UInt8 × List UInt8 × Int :=
  ((lengthR l e).2.1.take (lengthR l e).1, (lengthR l e).2.1.drop (lengthR l e).1, (lengthR l e).2.2)
def endR (l : List UInt8) (e : Int) : Int := if e = 0 then (if l = [] then 0 else 2) else e

theorem scanU_lt : ∀ (l : List UInt8) (i acc : Nat), i ≤ 9 → acc < 128 ^ i → ∀ n t, scanU i acc l = .ok (n, t) → n < 18446744073709551616 := by
  intro l
  induction l with
  | nil => intro i acc _ _ n t h; cases h
  | cons c l ih =>
    intro i acc hi hacc n t h
    by_cases hb : (i = 9 ∧ 1 < c.toNat) ∨ (0 < i ∧ c.toNat = 0)
    · rw [scanU_bad hb] at h; cases h
    · by_cases hc : c.toNat < 128
      · rw [scanU_end hb hc] at h
        injection h with h
        injection h with h1 h2
        subst h1
        have hx := c.toNat_lt
        have := uint_val (x := c.toNat) hi hacc hx (fun h => by omega)
        have h2 := bits_hi_u64 .or (acc : Int) (IntKind.u64.wrap (IntKind.u64.wrap (bits .and .u8 (c.toNat : Int) 127) * 2 ^ (7 * i)))
        rw [this, Nat.mod_eq_of_lt hc] at h2
        omega
      · rw [scanU_on hb hc] at h
        exact ih (i + 1) _ (by omega) (uint_lt hacc) n t h
theorem uintR_lt (l : List UInt8) (e : Int) : (uintR l e).1 < 18446744073709551616 := by
  unfold uintR
  split
  · cases h : getU l with
    | error x => simp
    | ok p =>
      obtain ⟨n, t⟩ := p
      exact scanU_lt l 0 0 (by omega) (by simp) n t h
  · simp
theorem scanU_rest : ∀ (l : List UInt8) (i acc n : Nat) (t : List UInt8), scanU i acc l = .ok (n, t) → t.length ≤ l.length := by
  intro l
  induction l with
  | nil => intro i acc n t h; cases h
  | cons c l ih =>
    intro i acc n t h
    by_cases hb : (i = 9 ∧ 1 < c.toNat) ∨ (0 < i ∧ c.toNat = 0)
    · rw [scanU_bad hb] at h; cases h
    · by_cases hc : c.toNat < 128
      · rw [scanU_end hb hc] at h
        injection h with h
        injection h with _ h2
        subst h2
        simp
      · rw [scanU_on hb hc] at h
        have := ih _ _ _ _ h
        simp; omega
theorem uintR_rest (l : List UInt8) (e : Int) : (uintR l e).2.1.length ≤ l.length := by
  unfold uintR
  split
  · cases h : getU l with
    | error x => simp
    | ok p => obtain ⟨n, t⟩ := p; exact scanU_rest l 0 0 n t h
  · simp
theorem lengthR_rest (l : List UInt8) (e : Int) : (lengthR l e).2.1.length ≤ l.length := by
  have := uintR_rest l e
  unfold lengthR
  split
  · split <;> simpa using this
  · simpa using this
theorem lengthR_le (l : List UInt8) (e : Int) : (lengthR l e).1 ≤ (lengthR l e).2.1.length := by
  unfold lengthR
  split
  · split
    · simp
    · rename_i h; simp at h ⊢; omega
  · simp
end Go.Pure
