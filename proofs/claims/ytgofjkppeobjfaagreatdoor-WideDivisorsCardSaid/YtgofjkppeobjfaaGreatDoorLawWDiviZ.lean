/- The walk of refuterlaw03.WideDivisors. -/
import Derived.Test.YtgofjkppeobjfaaGreatDoorB5
import Derived.Deep.CutRange
import Derived.Deep.RegionWith
import Derived.Deep.RegionHeld3
import Derived.Deep.Cut
namespace Go.Proofs.YtgofjkppeobjfaaGreatDoor
set_option linter.unusedVariables false
open Go.RowKit Go.Mem Go.Dig

theorem New.set2 {W W' : World} {g : Nat} (h : New W W') (hg : W.heap.size ≤ g) (a b : Value) : New W ((W'.setCell ⟨g, 0, none⟩ a).setCell ⟨g, 1, none⟩ b) := Chg.owned h (Chg.at2 _ _ _ _) (fun k e => by omega)
def CutR (W : World) (z : Int) (v : Value) (wc : World) : Prop := ∃ g s A n c, v = .pointer (some ⟨g, 0, none⟩) ∧ RX wc g s A n c z ∧ New W wc
def CutW (W : World) (z : Int) (v : Value) (wc : World) : Prop := ∃ g s A n c, v = .pointer (some ⟨g, 0, none⟩) ∧ WX wc g s A n c z ∧ New W wc
theorem wgcd_s (w : World) (v v' : Value) (x y : Int) (hx : WI w v x) (hy : WI w v' y) (bx : Sm x) (bY : Sm y) : Calls Tryz.prog 8 #[v, v'] w (RetW w ((Int.gcd x y : Nat) : Int)) :=
  wgcd_any v v' x y w hx hy bx.p9 bY.p9
theorem rgcd_s (w : World) (v v' : Value) (x y : Int) (hx : RN w v x) (hy : RN w v' y) (bx : Sm x) (bY : Sm y) : Calls Tryz.prog 10 #[v, v'] w (RetR w ((Int.gcd x y : Nat) : Int)) :=
  rgcd_any v v' x y w hx hy bx.p9 bY.p9
theorem from_s (n : Int) (w : World) (h1 : -9223372036854775808 ≤ n) (h2 : n ≤ 9223372036854775807) : Calls Tryz.prog 15 #[.int .i64 n] w (RetW w n) := from_h n w h1 h2
theorem gcd_sm {x y : Int} (hx : Sm x) (hy : Sm y) : Sm ((Int.gcd x y : Nat) : Int) := by
  unfold Sm
  rw [Int.natAbs_natCast]
  rcases Nat.eq_zero_or_pos x.natAbs with h | h
  · rw [Int.gcd, h, Nat.gcd_zero_left]; exact hy
  · exact Nat.lt_of_le_of_lt (Nat.gcd_le_left _ h) hx
theorem gcd_facts (x y : Int) (h : (Int.gcd x y : Int) ≠ 0) : x % (Int.gcd x y : Int) = 0 ∧ y % (Int.gcd x y : Int) = 0 ∧ Int.gcd (x / (Int.gcd x y : Int)) (y / (Int.gcd x y : Int)) = 1 := by
  refine ⟨Int.emod_eq_zero_of_dvd (Int.gcd_dvd_left ..), Int.emod_eq_zero_of_dvd (Int.gcd_dvd_right ..), ?_⟩
  have h1 := Int.gcd_ediv (Int.gcd_dvd_left x y) (Int.gcd_dvd_right x y)
  rw [h1]
  simp
  exact Nat.div_self (by omega)

set_option maxRecDepth 100000 in
set_option maxHeartbeats 4000000 in
theorem wideDivisors_walk (A : Option Addr) (n c : Nat) (l : List Int) (w : World) (hr : Rd w A n (is l)) (hl : ∀ z ∈ l, -9223372036854775808 ≤ z ∧ z ≤ 9223372036854775807) (hn : n ≤ 9223372036854775807) (hpt : PowTab w) :
    Calls Tryz.prog 3 #[.slice A n c] w fun e w' => e = .returned (.bool true) ∧ New w w' := by
  have hnum := fun W (h : New w W) => number_s A n c l hl W (hr.new h) hn
  have HNUM := Lib.hid hnum
  have HT := Lib.hid hpt
  have HSA := Lib.hid (Sm.of (natAbs_mul_lt (num_lt l 0) (num_lt l 12)) (by decide))
  have HSB := Lib.hid (Sm.of (natAbs_mul_lt (num_lt l 6) (num_lt l 12)) (by decide))
  clear hnum hpt hr hl hn
  go_enter Tryz.func3, Tryz.ntmps3
  go_wp2_with fail
  refine ((HNUM.out w (Chg.refl _ _)).2.2).mono ?_
  rintro e u1 ⟨sc, Ac, nc, cc, rfl, K1⟩
  have H101 := Lib.hid K1.out.2
  go_upto_region 2 with fail
  refine Code.new1 ?_
  intro W2 hbc hn2 hz2
  obtain ⟨gc, hgc⟩ : ∃ x, u1.heap.size = x := ⟨_, rfl⟩
  rw [hgc] at hbc
  simp only [hgc]
  have hXc : RX W2 gc sc Ac nc cc (numI l 12) := ⟨hbc, K1.out.1.new hn2⟩
  have H102 := Lib.hid (And.intro hXc (H101.out.new hn2))
  clear H101
  clear hXc hbc hgc hn2 hz2
  go_cut [4] from 19 to 22 (fun v wc => Hid (CutR W2 (numI l 0 * numI l 12) v wc))
  case first =>
    have hq0 : ∀ W', New W2 W' → Calls Tryz.prog 5 #[.slice A n c, .int .i64 0] W' (RetR W' (numI l 0)) := fun W' h => (HNUM.out W' (H102.out.2.new h)).1
    have hq1 : ∀ W' v, New W2 W' → RN W' v (numI l 0) → Calls Tryz.prog 6 #[v, .agg #[.bool sc, .slice Ac nc cc]] W' (RetR W' (numI l 0 * numI l 12)) := fun W' v h h' => rmul_s W' _ _ _ _ h' (H102.out.1.new h).2 (num_sm l 0) (num_sm l 12)
    have HQ0 := Lib.hid hq0
    have HQ1 := Lib.hid hq1
    clear hq0 hq1
    have hzc0 := (H102.out.1).c0
    have hzc1 := (H102.out.1).c1
    have hzc2 := (H102.out.1).1.lt
    have hsk : ∀ w', New W2 w' → w'.cell? ⟨gc, 0, none⟩ = some (.bool sc) ∧ w'.cell? ⟨gc, 1, none⟩ = some (.slice Ac nc cc) := fun w' h => ⟨(H102.out.1.new h).c0, (H102.out.1.new h).c1⟩
    have HSK := Lib.hid hsk
    clear hsk
    have hN0 : New W2 W2.drew := (Chg.refl _ _).drew
    go_region_held3 (fun w' => w'.cell? ⟨gc, 0, none⟩ = some (.bool sc) ∧ w'.cell? ⟨gc, 1, none⟩ = some (.slice Ac nc cc)) (first | exact HSK.out _ (by assumption) | exact HSK.out _ (Chg.refl _ _) | exact HSK.out _ (Chg.alloc (by assumption) _) | (refine HSK.out _ (New.set2 ?_ ?_ _ _) <;> first | assumption | omega))
      (first
      | (go_at_call 5; (with_reducible refine (HQ0.out _ ?_).mono ?_); (first | exact (Chg.refl _ _).drew | exact ((Chg.refl _ _).alloc _).drew); rintro e w5 ⟨s5, A5, n5, c5, rfl, K5⟩; (have HB5 : New W2 w5 := by (first | exact ((Chg.refl _ _).drew).new K5.out.2 | exact (((Chg.refl _ _).alloc _).drew).new K5.out.2)); (have hzc05 := HB5.cell hzc0 (fun h => h)); (have hzc15 := HB5.cell hzc1 (fun h => h)); (have hzc25 := Nat.lt_of_lt_of_le hzc2 HB5.size); obtain ⟨hc5, hf5⟩ := bcell (New.below K5.out.2); (have hy5 := K5.out.2.size); (try simp only [World.size_alloc, World.drew] at hy5); (try have hs51 : W2.heap.size < w5.heap.size := by omega))
      | (go_at_call 6; (with_reducible refine (HQ1.out _ _ ?_ ?_).mono ?_); (first | exact HB5 | exact HB5.alloc _); (first | exact K5.out.1 | exact K5.out.1.new ((Chg.refl _ _).alloc _)); rintro e w6 ⟨s6, A6, n6, c6, rfl, K6⟩; (have HB6 : New W2 w6 := by (first | exact (HB5).new K6.out.2 | exact (HB5.alloc _).new K6.out.2)); (have hzc06 := HB6.cell hzc0 (fun h => h)); (have hzc16 := HB6.cell hzc1 (fun h => h)); (have hzc26 := Nat.lt_of_lt_of_le hzc2 HB6.size); obtain ⟨hc6, hf6⟩ := bcell (New.below K6.out.2); (have hy6 := K6.out.2.size); (try simp only [World.size_alloc, World.drew] at hy6); (try have hs61 : W2.heap.size < w6.heap.size := by omega); (try have hs65 : w5.heap.size < w6.heap.size := by omega)))
    all_goals
      clear hc5 hf5 hc6 hf6
      go_wp2_with fail
      go_meet
      case rel =>
        have hw : W2.heap.size ≤ W2.heap.size := Nat.le_refl _
        refine ⟨_, s6, A6, n6, c6, rfl, ⟨?_, ?_⟩, ?_⟩
        · repeat (first | (refine Blk.new' ?_; (first | rfl | (simp; done))) | refine Blk.alloc ?_ _ | refine Blk.set2 (x := .bool false) (y := .slice none 0 0) ?_ _ _ | refine Blk.chg ?_ K6.out.2 (fun h => h) | refine Blk.chg ?_ K5.out.2 (fun h => h) | refine Blk.drew ?_)
        · first | exact K6.out.1.new ((Chg.refl _ _).alloc _) | (refine K6.out.1.store (t := 24) (cs := #[.bool false, .slice none 0 0]) ?_ (noInt_two' _ _ _ _) (Chg.at2 _ _ _ _); repeat (first | (refine Blk.new' ?_; (first | rfl | (simp; done))) | refine Blk.alloc ?_ _ | refine Blk.set2 (x := .bool false) (y := .slice none 0 0) ?_ _ _ | refine Blk.chg ?_ K6.out.2 (fun h => h) | refine Blk.chg ?_ K5.out.2 (fun h => h) | refine Blk.drew ?_))
        · repeat (first | exact HB6 | refine Chg.alloc ?_ _ | refine Chg.setCell ?_ (fun h => absurd h (by dsimp only; omega)) _)
  case rest =>
    obtain ⟨ga, sa, Aa, na, ca, rfl, hXa, hNa⟩ := Hid.out hcut
    obtain ⟨W3, hwc⟩ : ∃ x : World, x = wc := ⟨_, rfl⟩
    subst hwc
    have H103 := Lib.hid (And.intro (H102.out.1.new hNa) (And.intro hXa (H102.out.2.new hNa)))
    clear H102
    clear hcut hXa hNa
    go_upto_region 3 with fail
    go_cut [5] from 23 to 26 (fun v wc => Hid (CutR W3 (numI l 6 * numI l 12) v wc))
    case first =>
      have hq0 : ∀ W', New W3 W' → Calls Tryz.prog 5 #[.slice A n c, .int .i64 6] W' (RetR W' (numI l 6)) := fun W' h => (HNUM.out W' (H103.out.2.2.new h)).2.1
      have hq1 : ∀ W' v, New W3 W' → RN W' v (numI l 6) → Calls Tryz.prog 6 #[v, .agg #[.bool sc, .slice Ac nc cc]] W' (RetR W' (numI l 6 * numI l 12)) := fun W' v h h' => rmul_s W' _ _ _ _ h' (H103.out.1.new h).2 (num_sm l 6) (num_sm l 12)
      have HQ0 := Lib.hid hq0
      have HQ1 := Lib.hid hq1
      clear hq0 hq1
      have hzc0 := (H103.out.1).c0
      have hzc1 := (H103.out.1).c1
      have hzc2 := (H103.out.1).1.lt
      have hsk : ∀ w', New W3 w' → w'.cell? ⟨gc, 0, none⟩ = some (.bool sc) ∧ w'.cell? ⟨gc, 1, none⟩ = some (.slice Ac nc cc) := fun w' h => ⟨(H103.out.1.new h).c0, (H103.out.1.new h).c1⟩
      have HSK := Lib.hid hsk
      clear hsk
      have hN0 : New W3 W3.drew := (Chg.refl _ _).drew
      go_region_held3 (fun w' => w'.cell? ⟨gc, 0, none⟩ = some (.bool sc) ∧ w'.cell? ⟨gc, 1, none⟩ = some (.slice Ac nc cc)) (first | exact HSK.out _ (by assumption) | exact HSK.out _ (Chg.refl _ _) | exact HSK.out _ (Chg.alloc (by assumption) _) | (refine HSK.out _ (New.set2 ?_ ?_ _ _) <;> first | assumption | omega))
        (first
        | (go_at_call 5; (with_reducible refine (HQ0.out _ ?_).mono ?_); (first | exact (Chg.refl _ _).drew | exact ((Chg.refl _ _).alloc _).drew); rintro e w5 ⟨s5, A5, n5, c5, rfl, K5⟩; (have HB5 : New W3 w5 := by (first | exact ((Chg.refl _ _).drew).new K5.out.2 | exact (((Chg.refl _ _).alloc _).drew).new K5.out.2)); (have hzc05 := HB5.cell hzc0 (fun h => h)); (have hzc15 := HB5.cell hzc1 (fun h => h)); (have hzc25 := Nat.lt_of_lt_of_le hzc2 HB5.size); obtain ⟨hc5, hf5⟩ := bcell (New.below K5.out.2); (have hy5 := K5.out.2.size); (try simp only [World.size_alloc, World.drew] at hy5); (try have hs51 : W3.heap.size < w5.heap.size := by omega))
        | (go_at_call 6; (with_reducible refine (HQ1.out _ _ ?_ ?_).mono ?_); (first | exact HB5 | exact HB5.alloc _); (first | exact K5.out.1 | exact K5.out.1.new ((Chg.refl _ _).alloc _)); rintro e w6 ⟨s6, A6, n6, c6, rfl, K6⟩; (have HB6 : New W3 w6 := by (first | exact (HB5).new K6.out.2 | exact (HB5.alloc _).new K6.out.2)); (have hzc06 := HB6.cell hzc0 (fun h => h)); (have hzc16 := HB6.cell hzc1 (fun h => h)); (have hzc26 := Nat.lt_of_lt_of_le hzc2 HB6.size); obtain ⟨hc6, hf6⟩ := bcell (New.below K6.out.2); (have hy6 := K6.out.2.size); (try simp only [World.size_alloc, World.drew] at hy6); (try have hs61 : W3.heap.size < w6.heap.size := by omega); (try have hs65 : w5.heap.size < w6.heap.size := by omega)))
      all_goals
        clear hc5 hf5 hc6 hf6
        go_wp2_with fail
        go_meet
        case rel =>
          have hw : W3.heap.size ≤ W3.heap.size := Nat.le_refl _
          refine ⟨_, s6, A6, n6, c6, rfl, ⟨?_, ?_⟩, ?_⟩
          · repeat (first | (refine Blk.new' ?_; (first | rfl | (simp; done))) | refine Blk.alloc ?_ _ | refine Blk.set2 (x := .bool false) (y := .slice none 0 0) ?_ _ _ | refine Blk.chg ?_ K6.out.2 (fun h => h) | refine Blk.chg ?_ K5.out.2 (fun h => h) | refine Blk.drew ?_)
          · first | exact K6.out.1.new ((Chg.refl _ _).alloc _) | (refine K6.out.1.store (t := 24) (cs := #[.bool false, .slice none 0 0]) ?_ (noInt_two' _ _ _ _) (Chg.at2 _ _ _ _); repeat (first | (refine Blk.new' ?_; (first | rfl | (simp; done))) | refine Blk.alloc ?_ _ | refine Blk.set2 (x := .bool false) (y := .slice none 0 0) ?_ _ _ | refine Blk.chg ?_ K6.out.2 (fun h => h) | refine Blk.chg ?_ K5.out.2 (fun h => h) | refine Blk.drew ?_))
          · repeat (first | exact HB6 | refine Chg.alloc ?_ _ | refine Chg.setCell ?_ (fun h => absurd h (by dsimp only; omega)) _)
    case rest =>
      obtain ⟨gb, sb, Ab, nb, cb, rfl, hXb, hNb⟩ := Hid.out hcut
      obtain ⟨W4, hwc⟩ : ∃ x : World, x = wc := ⟨_, rfl⟩
      subst hwc
      have H104 := Lib.hid (And.intro (H103.out.1.new hNb) (And.intro (H103.out.2.1.new hNb) (And.intro hXb (H103.out.2.2.new hNb))))
      clear H103
      clear hcut hXb hNb
      have hza0 := (H104.out.2.1).c0
      have hza1 := (H104.out.2.1).c1
      go_wp2_with fail
      clear hza0 hza1
      refine (wider_s W4 _ _ H104.out.2.1.2 HSA.out).mono ?_
      rintro e u5 ⟨sx, Ax, nx, cx, rfl, K5⟩
      have H105 := Lib.hid (And.intro (H104.out.1.new K5.out.2) (And.intro (H104.out.2.1.new K5.out.2) (And.intro (H104.out.2.2.1.new K5.out.2) (H104.out.2.2.2.new K5.out.2))))
      clear H104
      have hzb0 := (H105.out.2.2.1.new ((Chg.refl (fun _ => False) u5).alloc (.cells #[.bool sx, .slice Ax nx cx] 29))).c0
      have hzb1 := (H105.out.2.2.1.new ((Chg.refl (fun _ => False) u5).alloc (.cells #[.bool sx, .slice Ax nx cx] 29))).c1
      go_wp2_with fail
      clear hzb0 hzb1
      refine Calls.new1 ?_
      intro W7 hbx hn7 hz7
      obtain ⟨gx, hgx⟩ : ∃ x, u5.heap.size = x := ⟨_, rfl⟩
      rw [hgx] at hbx
      simp only [hgx]
      have hXx : WX W7 gx sx Ax nx cx (numI l 0 * numI l 12) := ⟨hbx, K5.out.1.new hn7⟩
      have H106 := Lib.hid (And.intro (H105.out.1.new hn7) (And.intro (H105.out.2.1.new hn7) (And.intro (H105.out.2.2.1.new hn7) (And.intro hXx (H105.out.2.2.2.new hn7)))))
      clear H105
      clear hXx hbx hgx hn7 hz7
      refine (wider_s W7 _ _ H106.out.2.2.1.2 HSB.out).mono ?_
      rintro e u6 ⟨sy, Ay, ny, cy, rfl, K6⟩
      have H107 := Lib.hid (And.intro (H106.out.1.new K6.out.2) (And.intro (H106.out.2.1.new K6.out.2) (And.intro (H106.out.2.2.1.new K6.out.2) (And.intro (H106.out.2.2.2.1.new K6.out.2) (H106.out.2.2.2.2.new K6.out.2)))))
      clear H106
      have hzx0 := (H107.out.2.2.2.1.new ((Chg.refl (fun _ => False) u6).alloc (.cells #[.bool sy, .slice Ay ny cy] 29))).c0
      have hzx1 := (H107.out.2.2.2.1.new ((Chg.refl (fun _ => False) u6).alloc (.cells #[.bool sy, .slice Ay ny cy] 29))).c1
      go_wp2_with fail
      clear hzx0 hzx1
      refine Calls.new1 ?_
      intro W9 hby hn9 hz9
      obtain ⟨gy, hgy⟩ : ∃ x, u6.heap.size = x := ⟨_, rfl⟩
      rw [hgy] at hby
      simp only [hgy]
      have hXy : WX W9 gy sy Ay ny cy (numI l 6 * numI l 12) := ⟨hby, K6.out.1.new hn9⟩
      have H108 := Lib.hid (And.intro (H107.out.1.new hn9) (And.intro (H107.out.2.1.new hn9) (And.intro (H107.out.2.2.1.new hn9) (And.intro (H107.out.2.2.2.1.new hn9) (And.intro hXy (H107.out.2.2.2.2.new hn9))))))
      clear H107
      clear hXy hby hgy hn9 hz9
      refine (wgcd_s W9 _ _ _ _ H108.out.2.2.2.1.2 H108.out.2.2.2.2.1.2 HSA.out HSB.out).mono ?_
      rintro e u8 ⟨sg, Ag, ng, cg, rfl, K8⟩
      have H109 := Lib.hid (And.intro (H108.out.1.new K8.out.2) (And.intro (H108.out.2.1.new K8.out.2) (And.intro (H108.out.2.2.1.new K8.out.2) (And.intro (H108.out.2.2.2.1.new K8.out.2) (And.intro (H108.out.2.2.2.2.1.new K8.out.2) (H108.out.2.2.2.2.2.new K8.out.2))))))
      clear H108
      go_upto_region 7 with fail
      refine Code.new1 ?_
      intro W10 hbg hn10 hz10
      obtain ⟨gg, hgg⟩ : ∃ x, u8.heap.size = x := ⟨_, rfl⟩
      rw [hgg] at hbg
      simp only [hgg]
      have hXg : WX W10 gg sg Ag ng cg (((Int.gcd (numI l 0 * numI l 12) (numI l 6 * numI l 12) : Nat) : Int)) := ⟨hbg, K8.out.1.new hn10⟩
      have H110 := Lib.hid (And.intro (H109.out.1.new hn10) (And.intro (H109.out.2.1.new hn10) (And.intro (H109.out.2.2.1.new hn10) (And.intro (H109.out.2.2.2.1.new hn10) (And.intro (H109.out.2.2.2.2.1.new hn10) (And.intro hXg (H109.out.2.2.2.2.2.new hn10)))))))
      clear H109
      clear hXg hbg hgg hn10 hz10
      have hq0 : ∀ W', New W10 W' → Calls Tryz.prog 10 #[.agg #[.bool sa, .slice Aa na ca], .agg #[.bool sb, .slice Ab nb cb]] W' (RetR W' ((Int.gcd (numI l 0 * numI l 12) (numI l 6 * numI l 12) : Nat) : Int)) := fun W' h => rgcd_s W' _ _ _ _ (H110.out.2.1.new h).2 (H110.out.2.2.1.new h).2 HSA.out HSB.out
      have hq1 : ∀ W' v, New W10 W' → RN W' v ((Int.gcd (numI l 0 * numI l 12) (numI l 6 * numI l 12) : Nat) : Int) → Calls Tryz.prog 9 #[.agg #[.bool sg, .slice Ag ng cg], v] W' (RetV W' (.bool true)) := fun W' v h h' => equal_s W' _ _ _ (H110.out.2.2.2.2.2.1.new h).2 h' (HT.out.new (H110.out.2.2.2.2.2.2.new h)) (gcd_sm HSA.out HSB.out)
      have HQ0 := Lib.hid hq0
      have HQ1 := Lib.hid hq1
      clear hq0 hq1
      have hsk : ∀ w', New W10 w' → w'.cell? ⟨gg, 0, none⟩ = some (.bool sg) ∧ w'.cell? ⟨gg, 1, none⟩ = some (.slice Ag ng cg) ∧ w'.cell? ⟨ga, 0, none⟩ = some (.bool sa) ∧ w'.cell? ⟨ga, 1, none⟩ = some (.slice Aa na ca) ∧ w'.cell? ⟨gb, 0, none⟩ = some (.bool sb) ∧ w'.cell? ⟨gb, 1, none⟩ = some (.slice Ab nb cb) := fun w' h => ⟨(H110.out.2.2.2.2.2.1.new h).c0, (H110.out.2.2.2.2.2.1.new h).c1, (H110.out.2.1.new h).c0, (H110.out.2.1.new h).c1, (H110.out.2.2.1.new h).c0, (H110.out.2.2.1.new h).c1⟩
      have HSK := Lib.hid hsk
      clear hsk
      have hN0 : New W10 W10.drew := (Chg.refl _ _).drew
      have hzg0 := (H110.out.2.2.2.2.2.1).c0
      have hzg1 := (H110.out.2.2.2.2.2.1).c1
      have hza0 := (H110.out.2.1).c0
      have hza1 := (H110.out.2.1).c1
      have hzb0 := (H110.out.2.2.1).c0
      have hzb1 := (H110.out.2.2.1).c1
      go_region_held3 (fun w' => w'.cell? ⟨gg, 0, none⟩ = some (.bool sg) ∧ w'.cell? ⟨gg, 1, none⟩ = some (.slice Ag ng cg) ∧ w'.cell? ⟨ga, 0, none⟩ = some (.bool sa) ∧ w'.cell? ⟨ga, 1, none⟩ = some (.slice Aa na ca) ∧ w'.cell? ⟨gb, 0, none⟩ = some (.bool sb) ∧ w'.cell? ⟨gb, 1, none⟩ = some (.slice Ab nb cb)) (first | exact HSK.out _ (by assumption) | exact HSK.out _ (Chg.refl _ _))
        (first
          | (go_at_call 10; (with_reducible refine (HQ0.out _ hN0).mono ?_); rintro e q0 ⟨sq0, Aq0, nq0, cq0, rfl, Q0⟩; have hM0 := hN0.new Q0.out.2)
          | (go_at_call 9; (with_reducible refine (HQ1.out _ _ hM0 Q0.out.1).mono ?_); rintro e q1 ⟨rfl, Q1⟩; have hM1 := hM0.new Q1.out))
      rename_i hHeld
      clear hHeld
      clear hzg0 hzg1 hza0 hza1 hzb0 hzb1 HSK HQ0 HQ1 hN0 hM0 Q0 Q1
      have H111 := Lib.hid (And.intro (H110.out.1.new hM1) (And.intro (H110.out.2.1.new hM1) (And.intro (H110.out.2.2.1.new hM1) (And.intro (H110.out.2.2.2.1.new hM1) (And.intro (H110.out.2.2.2.2.1.new hM1) (And.intro (H110.out.2.2.2.2.2.1.new hM1) (H110.out.2.2.2.2.2.2.new hM1)))))))
      clear H110
      clear hM1
      obtain ⟨cs, hcs⟩ : ∃ c, cmpI ((Int.gcd (numI l 0 * numI l 12) (numI l 6 * numI l 12) : Nat) : Int) 0 = c := ⟨_, rfl⟩
      have HCS := Lib.hid hcs
      have hzg0 := (H111.out.2.2.2.2.2.1).c0
      have hzg1 := (H111.out.2.2.2.2.2.1).c1
      go_wp2_with fail
      clear hzg0 hzg1
      refine (sign_s q1 _ _ cs H111.out.2.2.2.2.2.1.2 HCS.out).mono ?_
      rintro e u11 ⟨rfl, K11⟩
      have H112 := Lib.hid (And.intro (H111.out.1.new K11.out) (And.intro (H111.out.2.1.new K11.out) (And.intro (H111.out.2.2.1.new K11.out) (And.intro (H111.out.2.2.2.1.new K11.out) (And.intro (H111.out.2.2.2.2.1.new K11.out) (And.intro (H111.out.2.2.2.2.2.1.new K11.out) (H111.out.2.2.2.2.2.2.new K11.out)))))))
      clear H111
      clear hcs
      by_cases hG : ((Int.gcd (numI l 0 * numI l 12) (numI l 6 * numI l 12) : Nat) : Int) = 0
      · obtain rfl : cs = 0 := by rw [← HCS.out, hG]; rfl
        obtain ⟨hA0, hB0⟩ := Int.gcd_eq_zero_iff.1 (Int.ofNat_eq_zero.1 hG)
        obtain rfl : na = 0 := (RN.len0' H112.out.2.1.2).2 hA0
        obtain rfl : nb = 0 := (RN.len0' H112.out.2.2.1.2).2 hB0
        clear hG hA0 hB0
        have k1 := (H112.out.2.1).c1
        have k2 := (H112.out.2.2.1).c1
        go_wp2_with fail
        clear k1 k2
        refine (lives_s u11 (HT.out.new H112.out.2.2.2.2.2.2)).mono ?_
        rintro e wl ⟨rfl, KL⟩
        have HE := Lib.hid (H112.out.2.2.2.2.2.2.new KL.out)
        go_wp2
        go_ret
        exact ⟨rfl, HE.out⟩
      · have hcs0 : (cs == 0) = false := by
          rw [beq_eq_false_iff_ne]; intro e; have := HCS.out; unfold cmpI at this; split at this <;> (try split at this) <;> omega
        obtain ⟨gf1, gf2, gf3⟩ := gcd_facts _ _ hG
        have HGF := Lib.hid (And.intro gf1 (And.intro gf2 (And.intro gf3 hG)))
        clear gf1 gf2 gf3 hG HCS
        have hzx0 := (H112.out.2.2.2.1).c0
        have hzg0 := (H112.out.2.2.2.2.2.1).c0
        have hzx1 := (H112.out.2.2.2.1).c1
        have hzg1 := (H112.out.2.2.2.2.2.1).c1
        go_wp2_with fail
        clear hzx0 hzg0 hzx1 hzg1
        refine (wdiv_s u11 _ _ _ _ H112.out.2.2.2.1.2 H112.out.2.2.2.2.2.1.2 HSA.out (gcd_sm HSA.out HSB.out) HGF.out.2.2.2).mono ?_
        rintro e u12 ⟨sq, Aq, nq, cq, sr, Ar, nr, cr, rfl, K12⟩
        have H113 := Lib.hid (And.intro (H112.out.1.new K12.out.2.2) (And.intro (H112.out.2.1.new K12.out.2.2) (And.intro (H112.out.2.2.1.new K12.out.2.2) (And.intro (H112.out.2.2.2.1.new K12.out.2.2) (And.intro (H112.out.2.2.2.2.1.new K12.out.2.2) (And.intro (H112.out.2.2.2.2.2.1.new K12.out.2.2) (H112.out.2.2.2.2.2.2.new K12.out.2.2)))))))
        clear H112
        clear hcs0
        have hzy0 := (H113.out.2.2.2.2.1.new (((Chg.refl (fun _ => False) u12).alloc (.cells #[.bool sq, .slice Aq nq cq] 29)).alloc (.cells #[.bool sr, .slice Ar nr cr] 29))).c0
        have hzy1 := (H113.out.2.2.2.2.1.new (((Chg.refl (fun _ => False) u12).alloc (.cells #[.bool sq, .slice Aq nq cq] 29)).alloc (.cells #[.bool sr, .slice Ar nr cr] 29))).c1
        have hzg0 := (H113.out.2.2.2.2.2.1.new (((Chg.refl (fun _ => False) u12).alloc (.cells #[.bool sq, .slice Aq nq cq] 29)).alloc (.cells #[.bool sr, .slice Ar nr cr] 29))).c0
        have hzg1 := (H113.out.2.2.2.2.2.1.new (((Chg.refl (fun _ => False) u12).alloc (.cells #[.bool sq, .slice Aq nq cq] 29)).alloc (.cells #[.bool sr, .slice Ar nr cr] 29))).c1
        go_wp2_with fail
        clear hzy0 hzy1 hzg0 hzg1
        refine Calls.new2 ?_
        intro W14 hbq hbr hn14 hz14
        obtain ⟨gq, hgq⟩ : ∃ x, u12.heap.size = x := ⟨_, rfl⟩
        obtain ⟨gr, hgr⟩ : ∃ x, u12.heap.size + 1 = x := ⟨_, rfl⟩
        rw [hgq] at hbq
        rw [hgr] at hbr
        simp only [hgr]
        simp only [hgq]
        have hXq : WX W14 gq sq Aq nq cq ((numI l 0 * numI l 12) / ((Int.gcd (numI l 0 * numI l 12) (numI l 6 * numI l 12) : Nat) : Int)) := ⟨hbq, K12.out.1.new hn14⟩
        have hXr : WX W14 gr sr Ar nr cr ((numI l 0 * numI l 12) % ((Int.gcd (numI l 0 * numI l 12) (numI l 6 * numI l 12) : Nat) : Int)) := ⟨hbr, K12.out.2.1.new hn14⟩
        have H114 := Lib.hid (And.intro (H113.out.1.new hn14) (And.intro (H113.out.2.1.new hn14) (And.intro (H113.out.2.2.1.new hn14) (And.intro (H113.out.2.2.2.1.new hn14) (And.intro (H113.out.2.2.2.2.1.new hn14) (And.intro (H113.out.2.2.2.2.2.1.new hn14) (And.intro hXq (And.intro hXr (H113.out.2.2.2.2.2.2.new hn14)))))))))
        clear H113
        clear hXq hbq hgq hXr hbr hgr hn14 hz14
        refine (wdiv_s W14 _ _ _ _ H114.out.2.2.2.2.1.2 H114.out.2.2.2.2.2.1.2 HSB.out (gcd_sm HSA.out HSB.out) HGF.out.2.2.2).mono ?_
        rintro e u13 ⟨ss, As, ns, cs, st, At, nt, ct, rfl, K13⟩
        have H115 := Lib.hid (And.intro (H114.out.1.new K13.out.2.2) (And.intro (H114.out.2.1.new K13.out.2.2) (And.intro (H114.out.2.2.1.new K13.out.2.2) (And.intro (H114.out.2.2.2.1.new K13.out.2.2) (And.intro (H114.out.2.2.2.2.1.new K13.out.2.2) (And.intro (H114.out.2.2.2.2.2.1.new K13.out.2.2) (And.intro (H114.out.2.2.2.2.2.2.1.new K13.out.2.2) (And.intro (H114.out.2.2.2.2.2.2.2.1.new K13.out.2.2) (H114.out.2.2.2.2.2.2.2.2.new K13.out.2.2)))))))))
        clear H114
        have hzr0 := (H115.out.2.2.2.2.2.2.2.1.new (((Chg.refl (fun _ => False) u13).alloc (.cells #[.bool ss, .slice As ns cs] 29)).alloc (.cells #[.bool st, .slice At nt ct] 29))).c0
        have hzr1 := (H115.out.2.2.2.2.2.2.2.1.new (((Chg.refl (fun _ => False) u13).alloc (.cells #[.bool ss, .slice As ns cs] 29)).alloc (.cells #[.bool st, .slice At nt ct] 29))).c1
        go_wp2_with fail
        clear hzr0 hzr1
        refine Calls.new2 ?_
        intro W16 hbs hbt hn16 hz16
        obtain ⟨gs, hgs⟩ : ∃ x, u13.heap.size = x := ⟨_, rfl⟩
        obtain ⟨gt, hgt⟩ : ∃ x, u13.heap.size + 1 = x := ⟨_, rfl⟩
        rw [hgs] at hbs
        rw [hgt] at hbt
        simp only [hgt]
        simp only [hgs]
        have hXs : WX W16 gs ss As ns cs ((numI l 6 * numI l 12) / ((Int.gcd (numI l 0 * numI l 12) (numI l 6 * numI l 12) : Nat) : Int)) := ⟨hbs, K13.out.1.new hn16⟩
        have hXt : WX W16 gt st At nt ct ((numI l 6 * numI l 12) % ((Int.gcd (numI l 0 * numI l 12) (numI l 6 * numI l 12) : Nat) : Int)) := ⟨hbt, K13.out.2.1.new hn16⟩
        have H116 := Lib.hid (And.intro (H115.out.1.new hn16) (And.intro (H115.out.2.1.new hn16) (And.intro (H115.out.2.2.1.new hn16) (And.intro (H115.out.2.2.2.1.new hn16) (And.intro (H115.out.2.2.2.2.1.new hn16) (And.intro (H115.out.2.2.2.2.2.1.new hn16) (And.intro (H115.out.2.2.2.2.2.2.1.new hn16) (And.intro (H115.out.2.2.2.2.2.2.2.1.new hn16) (And.intro hXs (And.intro hXt (H115.out.2.2.2.2.2.2.2.2.new hn16)))))))))))
        clear H115
        clear hXs hbs hgs hXt hbt hgt hn16 hz16
        refine (sign_s W16 _ _ 0 H116.out.2.2.2.2.2.2.2.1.2 (by rw [HGF.out.1]; rfl)).mono ?_
        rintro e u15 ⟨rfl, K15⟩
        have H117 := Lib.hid (And.intro (H116.out.1.new K15.out) (And.intro (H116.out.2.1.new K15.out) (And.intro (H116.out.2.2.1.new K15.out) (And.intro (H116.out.2.2.2.1.new K15.out) (And.intro (H116.out.2.2.2.2.1.new K15.out) (And.intro (H116.out.2.2.2.2.2.1.new K15.out) (And.intro (H116.out.2.2.2.2.2.2.1.new K15.out) (And.intro (H116.out.2.2.2.2.2.2.2.1.new K15.out) (And.intro (H116.out.2.2.2.2.2.2.2.2.1.new K15.out) (And.intro (H116.out.2.2.2.2.2.2.2.2.2.1.new K15.out) (H116.out.2.2.2.2.2.2.2.2.2.2.new K15.out)))))))))))
        clear H116
        have hzt0 := (H117.out.2.2.2.2.2.2.2.2.2.1).c0
        have hzt1 := (H117.out.2.2.2.2.2.2.2.2.2.1).c1
        go_wp2_with fail
        clear hzt0 hzt1
        refine (sign_s u15 _ _ 0 H117.out.2.2.2.2.2.2.2.2.2.1.2 (by rw [HGF.out.2.1]; rfl)).mono ?_
        rintro e u17 ⟨rfl, K17⟩
        have H118 := Lib.hid (And.intro (H117.out.1.new K17.out) (And.intro (H117.out.2.1.new K17.out) (And.intro (H117.out.2.2.1.new K17.out) (And.intro (H117.out.2.2.2.1.new K17.out) (And.intro (H117.out.2.2.2.2.1.new K17.out) (And.intro (H117.out.2.2.2.2.2.1.new K17.out) (And.intro (H117.out.2.2.2.2.2.2.1.new K17.out) (And.intro (H117.out.2.2.2.2.2.2.2.1.new K17.out) (And.intro (H117.out.2.2.2.2.2.2.2.2.1.new K17.out) (And.intro (H117.out.2.2.2.2.2.2.2.2.2.1.new K17.out) (H117.out.2.2.2.2.2.2.2.2.2.2.new K17.out)))))))))))
        clear H117
        have hzq0 := (H118.out.2.2.2.2.2.2.1).c0
        have hzq1 := (H118.out.2.2.2.2.2.2.1).c1
        have hzs0 := (H118.out.2.2.2.2.2.2.2.2.1).c0
        have hzs1 := (H118.out.2.2.2.2.2.2.2.2.1).c1
        go_wp2_with fail
        clear hzq0 hzq1 hzs0 hzs1
        refine (wgcd_s u17 _ _ _ _ H118.out.2.2.2.2.2.2.1.2 H118.out.2.2.2.2.2.2.2.2.1.2 (Sm.of (natAbs_div_le _ _ (natAbs_mul_lt (num_lt l 0) (num_lt l 12))) (by decide)) (Sm.of (natAbs_div_le _ _ (natAbs_mul_lt (num_lt l 6) (num_lt l 12))) (by decide))).mono ?_
        rintro e u18 ⟨sr18, Ar18, nr18, cr18, rfl, K18⟩
        have H119 := Lib.hid (And.intro (H118.out.1.new K18.out.2) (And.intro (H118.out.2.1.new K18.out.2) (And.intro (H118.out.2.2.1.new K18.out.2) (And.intro (H118.out.2.2.2.1.new K18.out.2) (And.intro (H118.out.2.2.2.2.1.new K18.out.2) (And.intro (H118.out.2.2.2.2.2.1.new K18.out.2) (And.intro (H118.out.2.2.2.2.2.2.1.new K18.out.2) (And.intro (H118.out.2.2.2.2.2.2.2.1.new K18.out.2) (And.intro (H118.out.2.2.2.2.2.2.2.2.1.new K18.out.2) (And.intro (H118.out.2.2.2.2.2.2.2.2.2.1.new K18.out.2) (H118.out.2.2.2.2.2.2.2.2.2.2.new K18.out.2)))))))))))
        clear H118
        go_wp2_with fail
        refine (from_s 1 u18 (by omega) (by omega)).mono ?_
        rintro e u19 ⟨sr19, Ar19, nr19, cr19, rfl, K19⟩
        have H120 := Lib.hid (And.intro (H119.out.1.new K19.out.2) (And.intro (H119.out.2.1.new K19.out.2) (And.intro (H119.out.2.2.1.new K19.out.2) (And.intro (H119.out.2.2.2.1.new K19.out.2) (And.intro (H119.out.2.2.2.2.1.new K19.out.2) (And.intro (H119.out.2.2.2.2.2.1.new K19.out.2) (And.intro (H119.out.2.2.2.2.2.2.1.new K19.out.2) (And.intro (H119.out.2.2.2.2.2.2.2.1.new K19.out.2) (And.intro (H119.out.2.2.2.2.2.2.2.2.1.new K19.out.2) (And.intro (H119.out.2.2.2.2.2.2.2.2.2.1.new K19.out.2) (H119.out.2.2.2.2.2.2.2.2.2.2.new K19.out.2)))))))))))
        clear H119
        go_wp2_with fail
        refine (compare_s u19 _ _ _ _ 0 (K18.out.1.new K19.out.2) K19.out.1 (by rw [HGF.out.2.2.1]; rfl)).mono ?_
        rintro e u20 ⟨rfl, K20⟩
        have H121 := Lib.hid (And.intro (H120.out.1.new K20.out) (And.intro (H120.out.2.1.new K20.out) (And.intro (H120.out.2.2.1.new K20.out) (And.intro (H120.out.2.2.2.1.new K20.out) (And.intro (H120.out.2.2.2.2.1.new K20.out) (And.intro (H120.out.2.2.2.2.2.1.new K20.out) (And.intro (H120.out.2.2.2.2.2.2.1.new K20.out) (And.intro (H120.out.2.2.2.2.2.2.2.1.new K20.out) (And.intro (H120.out.2.2.2.2.2.2.2.2.1.new K20.out) (And.intro (H120.out.2.2.2.2.2.2.2.2.2.1.new K20.out) (H120.out.2.2.2.2.2.2.2.2.2.2.new K20.out)))))))))))
        clear H120
        go_wp2_with fail
        refine (lives_s u20 (HT.out.new H121.out.2.2.2.2.2.2.2.2.2.2)).mono ?_
        rintro e u21 ⟨rfl, K21⟩
        have H122 := Lib.hid (And.intro (H121.out.1.new K21.out) (And.intro (H121.out.2.1.new K21.out) (And.intro (H121.out.2.2.1.new K21.out) (And.intro (H121.out.2.2.2.1.new K21.out) (And.intro (H121.out.2.2.2.2.1.new K21.out) (And.intro (H121.out.2.2.2.2.2.1.new K21.out) (And.intro (H121.out.2.2.2.2.2.2.1.new K21.out) (And.intro (H121.out.2.2.2.2.2.2.2.1.new K21.out) (And.intro (H121.out.2.2.2.2.2.2.2.2.1.new K21.out) (And.intro (H121.out.2.2.2.2.2.2.2.2.2.1.new K21.out) (H121.out.2.2.2.2.2.2.2.2.2.2.new K21.out)))))))))))
        clear H121
        have HE := Lib.hid H122.out.2.2.2.2.2.2.2.2.2.2
        clear H122
        go_wp2
        go_ret
        exact ⟨rfl, HE.out⟩
end Go.Proofs.YtgofjkppeobjfaaGreatDoor
