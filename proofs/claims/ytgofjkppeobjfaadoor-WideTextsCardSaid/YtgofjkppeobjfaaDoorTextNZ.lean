/- Contract of refuterref03.Small, whatever the integer; what the laws need of Near. -/
import Derived.Test.YtgofjkppeobjfaaDoorB5
import Derived.Test.YtgofjkppeobjfaaDoorTextMZ
import Derived.Test.YtgofjkppeobjfaaDoorTextIZ
namespace Go.Proofs.YtgofjkppeobjfaaDoor
set_option linter.unusedVariables false
open Go.RowKit Go.Mem Go.Dig

set_option maxRecDepth 100000 in
set_option maxHeartbeats 4000000 in
theorem rsmall_gt (v : Value) (x : Int) (w : World) (hx : RN w v x) (h1 : 9223372036854775807 < x) :
    Calls Tryd.prog 25 #[v] w fun e w' => e = .returned (.tuple #[.int .i64 0, .bool false]) ∧ New w w' := by
  obtain ⟨s, A, n, c, rfl, hs, hm⟩ := hx
  have H0 := Lib.hid (And.intro hs hm)
  have hC1 : cmpI x 9223372036854775807 = 1 := cmpI_gt h1
  clear hs hm h1
  go_enter Tryd.func25, Tryd.ntmps25
  go_wp2_with fail
  refine Code.new1 ?_
  intro W hb1 hnW hzW
  have hc10 := hb1.cell 0 (u := .bool s) rfl
  have hc11 := hb1.cell 1 (u := .slice A n c) rfl
  have hof : ∀ W', Hid (New W W') → Calls Tryd.prog 22 #[.int .i64 9223372036854775807] W' fun e w' => ∃ s5 A5 n5 c5, e = .returned (.agg #[.bool s5, .slice A5 n5 c5]) ∧ Hid (RN w' (.agg #[.bool s5, .slice A5 n5 c5]) 9223372036854775807) ∧ Hid (New W w') := fun W' h =>
    (of_any 9223372036854775807 W' (by omega) (by omega)).mono fun e w' ⟨v, h1, ⟨s5, A5, n5, c5, h2, h3, h4⟩, h5⟩ => ⟨s5, A5, n5, c5, by rw [h1, h2], ⟨s5, A5, n5, c5, rfl, h3, h4⟩, h.out.new h5⟩
  have hcmp : ∀ s5 A5 n5 c5 W', Hid (New W W') → Hid (RN W' (.agg #[.bool s5, .slice A5 n5 c5]) 9223372036854775807) → Calls Tryd.prog 34 #[.agg #[.bool s, .slice A n c], .agg #[.bool s5, .slice A5 n5 c5]] W' fun e w' => e = .returned (.int .i64 1) ∧ Hid (New W w') := fun s5 A5 n5 c5 W' h h' =>
    (rcompare_any _ _ x _ W' ⟨s, A, n, c, rfl, H0.out.1, H0.out.2.new (hnW.new h.out)⟩ h'.out).mono fun e w' ⟨h1, h2⟩ => ⟨by rw [h1, hC1], h.out.new h2⟩
  have HA := Lib.hid hof
  have HC := Lib.hid hcmp
  have HN0 : Hid (New W W.drew) := (Chg.refl _ W).drew
  have HW := Lib.hid (And.intro hb1 hnW)
  clear hof hcmp hb1 hnW hzW hC1
  go_region_with
    (first
      | (go_at_call 22; (with_reducible refine (HA.out _ ?_).mono ?_); exact HN0; rintro e w5 ⟨s5, A5, n5, c5, rfl, HR5, HN5⟩; have hd10 := HN5.out.cell hc10 (fun h => h); have hd11 := HN5.out.cell hc11 (fun h => h))
      | (go_at_call 34; (with_reducible refine (HC.out _ _ _ _ _ HN5 HR5).mono ?_); rintro e w6 ⟨rfl, HN6⟩; have he10 := HN6.out.cell hc10 (fun h => h); have he11 := HN6.out.cell hc11 (fun h => h)))
  all_goals
    have HE := Lib.hid (HW.out.2.new HN6.out)
    clear HA HC HN0 HW HN5 HR5 HN6 hc10 hc11 hd10 hd11
    go_wp2
    go_ret2
    exact ⟨rfl, HE.out⟩
set_option maxRecDepth 100000 in
set_option maxHeartbeats 4000000 in
theorem rsmall_lt (v : Value) (x : Int) (w : World) (hx : RN w v x) (h1 : x < -9223372036854775808) :
    Calls Tryd.prog 25 #[v] w fun e w' => e = .returned (.tuple #[.int .i64 0, .bool false]) ∧ New w w' := by
  obtain ⟨s, A, n, c, rfl, hs, hm⟩ := hx
  have H0 := Lib.hid (And.intro hs hm)
  have hC1 : cmpI x 9223372036854775807 = -1 := cmpI_lt (by omega)
  have hC2 : cmpI x (-9223372036854775808) = -1 := cmpI_lt h1
  clear hs hm h1
  go_enter Tryd.func25, Tryd.ntmps25
  go_wp2_with fail
  refine Code.new1 ?_
  intro W hb1 hnW hzW
  have hc10 := hb1.cell 0 (u := .bool s) rfl
  have hc11 := hb1.cell 1 (u := .slice A n c) rfl
  have hof : ∀ (z : Int), -9223372036854775808 ≤ z → z ≤ 9223372036854775807 → ∀ W', Hid (New W W') → Calls Tryd.prog 22 #[.int .i64 z] W' fun e w' => ∃ s5 A5 n5 c5, e = .returned (.agg #[.bool s5, .slice A5 n5 c5]) ∧ Hid (RN w' (.agg #[.bool s5, .slice A5 n5 c5]) z) ∧ Hid (New W w') := fun z z1 z2 W' h =>
    (of_any z W' z1 z2).mono fun e w' ⟨v, h1, ⟨s5, A5, n5, c5, h2, h3, h4⟩, h5⟩ => ⟨s5, A5, n5, c5, by rw [h1, h2], ⟨s5, A5, n5, c5, rfl, h3, h4⟩, h.out.new h5⟩
  have hcmp : ∀ s5 A5 n5 c5 z W', cmpI x z = -1 → Hid (New W W') → Hid (RN W' (.agg #[.bool s5, .slice A5 n5 c5]) z) → Calls Tryd.prog 34 #[.agg #[.bool s, .slice A n c], .agg #[.bool s5, .slice A5 n5 c5]] W' fun e w' => e = .returned (.int .i64 (-1)) ∧ Hid (New W w') := fun s5 A5 n5 c5 z W' hz h h' =>
    (rcompare_any _ _ x _ W' ⟨s, A, n, c, rfl, H0.out.1, H0.out.2.new (hnW.new h.out)⟩ h'.out).mono fun e w' ⟨h1, h2⟩ => ⟨by rw [h1, hz], h.out.new h2⟩
  have HA := Lib.hid (hof 9223372036854775807 (by omega) (by omega))
  have HB := Lib.hid (hof (-9223372036854775808) (by omega) (by omega))
  have HC := Lib.hid (fun s5 A5 n5 c5 W' => hcmp s5 A5 n5 c5 _ W' hC1)
  have HD := Lib.hid (fun s5 A5 n5 c5 W' => hcmp s5 A5 n5 c5 _ W' hC2)
  have HN0 : Hid (New W W.drew) := (Chg.refl _ W).drew
  have HW := Lib.hid (And.intro hb1 hnW)
  clear hof hcmp hb1 hnW hzW hC1 hC2
  go_region_held3 (fun w' => w'.cell? ⟨w.heap.size, 0, none⟩ = some (.bool s) ∧ w'.cell? ⟨w.heap.size, 1, none⟩ = some (.slice A n c)) (first | exact ⟨by assumption, by assumption⟩)
    (first
      | (go_at_call 22; (with_reducible refine (HA.out _ ?_).mono ?_); exact HN0; rintro e w5 ⟨s5, A5, n5, c5, rfl, HR5, HN5⟩; have hd10 := HN5.out.cell hc10 (fun h => h); have hd11 := HN5.out.cell hc11 (fun h => h))
      | (go_at_call 22; (with_reducible refine (HB.out _ ?_).mono ?_); exact HN6; rintro e w7 ⟨s7, A7, n7, c7, rfl, HR7, HN7⟩; have hf10 := HN7.out.cell hc10 (fun h => h); have hf11 := HN7.out.cell hc11 (fun h => h))
      | (go_at_call 34; (with_reducible refine (HD.out _ _ _ _ _ HN7 HR7).mono ?_); rintro e w8 ⟨rfl, HN8⟩; have hg10 := HN8.out.cell hc10 (fun h => h); have hg11 := HN8.out.cell hc11 (fun h => h))
      | (go_at_call 34; (with_reducible refine (HC.out _ _ _ _ _ HN5 HR5).mono ?_); rintro e w6 ⟨rfl, HN6⟩; have he10 := HN6.out.cell hc10 (fun h => h); have he11 := HN6.out.cell hc11 (fun h => h)))
  all_goals
    have HE := Lib.hid (HW.out.2.new HN8.out)
    clear HA HB HC HD HN0 HW HN5 HR5 HN6 HN7 HR7 HN8 hc10 hc11
    go_wp2
    go_ret2
    exact ⟨rfl, HE.out⟩
theorem rsmall_s (w : World) (v : Value) (x a : Int) (b : Bool) (hx : RN w v x) (ha : intIf x = a) (hb : isInt x = b) : Calls Tryd.prog 25 #[v] w (RetV w (.tuple #[.int .i64 a, .bool b])) := by
  subst ha hb
  unfold intIf isInt
  by_cases h1 : 9223372036854775807 < x
  · rw [decide_eq_false (by omega)]
    exact rsmall_gt v x w hx h1
  · by_cases h2 : x < -9223372036854775808
    · rw [decide_eq_false (by omega)]
      exact rsmall_lt v x w hx h2
    · rw [decide_eq_true (by omega)]
      exact rsmall_any v x w hx (by omega) (by omega)
theorem wsmall_s (w : World) (v : Value) (x a : Int) (b : Bool) (hx : WI w v x) (ha : intIf x = a) (hb : isInt x = b) : Calls Tryd.prog 21 #[v] w (RetV w (.tuple #[.int .i64 a, .bool b])) := by
  subst ha hb; exact wsmall_any v x w hx
theorem near_s (n : Int) (w : World) (h1 : -9223372036854775808 ≤ n) (h2 : n ≤ 9223372036854775807) : Calls Tryd.prog 23 #[.int .i64 n] w (RetR w (nearI n)) := near_any n h1 h2 w
theorem nearP63 (t : Nat) (h : t % 4 = 3) : nearP t = 63 := by unfold nearP; rw [h]; rfl
theorem near63 (a b : Nat) (ha : a < 7) (hb : b < 2) : Sm (nearI (4 * (a : Int) + 3 + 28 * (b : Int))) := by
  have e : 4 * (a : Int) + 3 + 28 * (b : Int) = ((4 * a + 3 + 28 * b : Nat) : Int) := by omega
  have hk : aroundI ((4 * a + 3 + 28 * b : Nat) : Int) 28 = ((4 * a + 3 : Nat) : Int) := by
    rw [aroundI_pos (by omega)]; omega
  have hA : (nearA (4 * a + 3)).natAbs < pw2 65 := by
    unfold nearA
    rw [nearP63 _ (by omega)]
    have : pw2 65 = 36893488147419103232 := rfl
    omega
  rw [e]
  unfold nearI
  rw [hk, Int.toNat_natCast]
  split
  · exact Sm.of (by rw [Int.natAbs_neg]; exact hA) (by decide)
  · exact Sm.of hA (by decide)
end Go.Proofs.YtgofjkppeobjfaaDoor
