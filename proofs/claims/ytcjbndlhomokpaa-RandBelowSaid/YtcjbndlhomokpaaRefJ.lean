/- Contract of refuterref03.Small. -/
import Derived.Test.YtcjbndlhomokpaaRefI
namespace Go.Proofs.Ytcjbndlhomokpaa
set_option linter.unusedVariables false
open Go.RowKit Go.Mem Go.Dig

theorem val_drop_le (B : Nat) (hB : 1 ≤ B) (l : List Nat) (k : Nat) : val B (l.drop k) ≤ val B l := by
  induction k with
  | zero => rw [List.drop_zero]; exact Nat.le_refl _
  | succ k ih =>
    refine Nat.le_trans ?_ ih
    rw [val_drop_dg B l k]
    exact Nat.le_trans (Nat.le_mul_of_pos_left _ hB) (Nat.le_add_left _ _)

set_option maxRecDepth 100000 in
set_option maxHeartbeats 4000000 in
theorem rsmall_any (v : Value) (x : Int) (w : World) (hx : RN w v x) (h1 : -9223372036854775808 ≤ x) (h2 : x ≤ 9223372036854775807) :
    Calls Try.prog 34 #[v] w fun e w' => e = .returned (.tuple #[.int .i64 x, .bool true]) ∧ New w w' := by
  obtain ⟨s, A, n, c, rfl, hs, hm⟩ := hx
  have H0 := Lib.hid (And.intro hs hm)
  have hC1 : ((0 : Int) < cmpI x 9223372036854775807) = False := by
    unfold cmpI
    split
    · simp
    · rw [if_neg (by omega)]; simp
  have hC2 : (cmpI x (-9223372036854775808) < 0) = False := by
    unfold cmpI
    rw [if_neg (by omega)]
    split <;> simp
  clear hs hm
  go_enter Try.func34, Try.ntmps34
  go_wp2_with fail
  refine Code.new1 ?_
  intro W hb1 hnW hzW
  have hc10 := hb1.cell 0 (u := .bool s) rfl
  have hc11 := hb1.cell 1 (u := .slice A n c) rfl
  have hof : ∀ (z : Int), -9223372036854775808 ≤ z → z ≤ 9223372036854775807 → ∀ W', Hid (New W W') → Calls Try.prog 33 #[.int .i64 z] W' fun e w' => ∃ s5 A5 n5 c5, e = .returned (.agg #[.bool s5, .slice A5 n5 c5]) ∧ Hid (RN w' (.agg #[.bool s5, .slice A5 n5 c5]) z) ∧ Hid (New W w') := fun z z1 z2 W' h =>
    (of_any z W' z1 z2).mono fun e w' ⟨v, h1, ⟨s5, A5, n5, c5, h2, h3, h4⟩, h5⟩ => ⟨s5, A5, n5, c5, by rw [h1, h2], ⟨s5, A5, n5, c5, rfl, h3, h4⟩, h.out.new h5⟩
  have hcmp : ∀ s5 A5 n5 c5 z W', Hid (New W W') → Hid (RN W' (.agg #[.bool s5, .slice A5 n5 c5]) z) → Calls Try.prog 56 #[.agg #[.bool s, .slice A n c], .agg #[.bool s5, .slice A5 n5 c5]] W' fun e w' => e = .returned (.int .i64 (cmpI x z)) ∧ Hid (New W w') := fun s5 A5 n5 c5 z W' h h' =>
    (rcompare_any _ _ x z W' ⟨s, A, n, c, rfl, H0.out.1, H0.out.2.new (hnW.new h.out)⟩ h'.out).mono fun e w' ⟨h1, h2⟩ => ⟨h1, h.out.new h2⟩
  have hofA := hof 9223372036854775807 (by omega) (by omega)
  have hofB := hof (-9223372036854775808) (by omega) (by omega)
  have HA := Lib.hid hofA
  have HB := Lib.hid hofB
  have HC := Lib.hid hcmp
  have HN0 : Hid (New W W.drew) := (Chg.refl _ W).drew
  have HW := Lib.hid (And.intro hb1 hnW)
  clear hof hcmp hofA hofB hb1 hnW hzW
  go_region_held3 (fun w' => w'.cell? ⟨w.heap.size, 0, none⟩ = some (.bool s) ∧ w'.cell? ⟨w.heap.size, 1, none⟩ = some (.slice A n c)) (first | exact ⟨by assumption, by assumption⟩)
    (first
      | (go_at_call 33; (with_reducible refine (HA.out _ ?_).mono ?_); exact HN0; rintro e w5 ⟨s5, A5, n5, c5, rfl, HR5, HN5⟩; have hd10 := HN5.out.cell hc10 (fun h => h); have hd11 := HN5.out.cell hc11 (fun h => h))
      | (go_at_call 33; (with_reducible refine (HB.out _ ?_).mono ?_); exact HN6; rintro e w7 ⟨s7, A7, n7, c7, rfl, HR7, HN7⟩; have hf10 := HN7.out.cell hc10 (fun h => h); have hf11 := HN7.out.cell hc11 (fun h => h))
      | (go_at_call 56; (with_reducible refine (HC.out _ _ _ _ _ _ HN7 HR7).mono ?_); rintro e w8 ⟨rfl, HN8⟩; have hg10 := HN8.out.cell hc10 (fun h => h); have hg11 := HN8.out.cell hc11 (fun h => h))
      | (go_at_call 56; (with_reducible refine (HC.out _ _ _ _ _ _ HN5 HR5).mono ?_); rintro e w6 ⟨rfl, HN6⟩; have he10 := HN6.out.cell hc10 (fun h => h); have he11 := HN6.out.cell hc11 (fun h => h)))
  obtain ⟨l, hr, hc1, hc2, hN⟩ := H0.out.2
  have hll : l.length = n := by have := hr.len; rwa [nv_length] at this
  have hx0 : s = true → x = -(x.natAbs : Int) ∧ x.natAbs ≤ 9223372036854775808 := fun h => by
    have : x < 0 := by simpa [h] using H0.out.1
    omega
  have hx1 : s = false → x = (x.natAbs : Int) ∧ x.natAbs ≤ 9223372036854775807 := fun h => by
    have : ¬ x < 0 := by simpa [h] using H0.out.1
    omega
  have hr8 : Rd w8 A n (nv .i64 l) ∧ New w w8 := ⟨hr.new (HW.out.2.new HN8.out), HW.out.2.new HN8.out⟩
  have hHH : True := trivial
  clear HA HB HC HN0 HW HN5 HR5 hd10 hd11 HN6 he10 he11 HN7 HR7 hf10 hf11 HN8 hc10 hc11 hr
  cases s
  · have HL : Hid ((Rd w8 A n (nv .i64 l) ∧ New w w8) ∧ Num 10000 l x.natAbs ∧ l.length = n ∧ x = (x.natAbs : Int) ∧ x.natAbs ≤ 9223372036854775807) := ⟨hr8, hN, hll, hx1 rfl⟩
    clear hx0 hx1 hr8 hN hll H0 hC1 hC2
    go_wp2_with fail
    go_loopw [4, 5] (fun u v wr => ∃ k m : Nat, u = .int .i64 (m : Int) ∧ v = .int .i64 ((k : Int) - 1) ∧ k ≤ n ∧ m ≤ 9223372036854775807 ∧ Hid (val 10000 (l.drop k) = m) ∧ Hid (New w8 wr)) (fun _ v _ => (intOf v + 1).toNat)
    case atStart => exact ⟨n, 0, rfl, rfl, Nat.le_refl _, by omega, by show _ = _; rw [List.drop_of_length_le (by have := HL.out.2.2.1; omega)]; rfl, Chg.refl _ _⟩
    case round =>
      obtain ⟨k, m, rfl, rfl, hk, hmb, HV, HN⟩ := hrel
      have c0 := HN.out.cell hg10 (fun h => h)
      have c1 := HN.out.cell hg11 (fun h => h)
      by_cases h0 : k = 0
      · subst h0
        go_wp2
        go_ret2
        have := HV.out
        rw [List.drop_zero, HL.out.2.1.val] at this
        exact ⟨by rw [show x = (m : Int) by have := HL.out.2.2.2; omega]; rfl, HL.out.1.2.new HN.out⟩
      · obtain ⟨j, rfl⟩ : ∃ j, k = j + 1 := ⟨k - 1, by omega⟩
        have hj1 : (((j + 1 : Nat) : Int) - 1) = (j : Int) := by omega
        rw [hj1]
        obtain ⟨ad, u, rfl, hu, hcu⟩ := (HL.out.1.1.new HN.out).at_ (show j < n by omega)
        obtain ⟨d, hd, rfl⟩ := nv_at hu
        have hdb := HL.out.2.1.digs.at_ hd
        have hst : val 10000 (l.drop j) = m * 10000 + d := by rw [val_drop hd, HV.out]; omega
        have hle := val_drop_le 10000 (by omega) l j
        rw [hst, HL.out.2.1.val] at hle
        have hle2 : m * 10000 + d ≤ 9223372036854775807 := by have := HL.out.2.2.2; omega
        have hmi : (m : Int) * 10000 + (d : Int) = ((m * 10000 + d : Nat) : Int) := by omega
        generalize hq : m * 10000 + d = q at *
        have HS := Lib.hid hst
        clear hj1 hu hd hst hle hq
        go_wp2
        go_roundw
        case rel => exact ⟨j, q, rfl, by go_num, by omega, by omega, HS.out, HN.out⟩
        case measure => simp [intOf]
  · have HL : Hid ((Rd w8 A n (nv .i64 l) ∧ New w w8) ∧ Num 10000 l x.natAbs ∧ l.length = n ∧ x = -(x.natAbs : Int) ∧ x.natAbs ≤ 9223372036854775808) := ⟨hr8, hN, hll, hx0 rfl⟩
    clear hx0 hx1 hr8 hN hll H0 hC1 hC2
    go_wp2_with fail
    go_loopw [4, 5] (fun u v wr => ∃ k m : Nat, u = .int .i64 (-(m : Int)) ∧ v = .int .i64 ((k : Int) - 1) ∧ k ≤ n ∧ m ≤ 9223372036854775808 ∧ Hid (val 10000 (l.drop k) = m) ∧ Hid (New w8 wr)) (fun _ v _ => (intOf v + 1).toNat)
    case atStart => exact ⟨n, 0, rfl, rfl, Nat.le_refl _, by omega, by show _ = _; rw [List.drop_of_length_le (by have := HL.out.2.2.1; omega)]; rfl, Chg.refl _ _⟩
    case round =>
      obtain ⟨k, m, rfl, rfl, hk, hmb, HV, HN⟩ := hrel
      have c0 := HN.out.cell hg10 (fun h => h)
      have c1 := HN.out.cell hg11 (fun h => h)
      by_cases h0 : k = 0
      · subst h0
        go_wp2
        go_ret2
        have := HV.out
        rw [List.drop_zero, HL.out.2.1.val] at this
        exact ⟨by rw [show x = (-(m : Int)) by have := HL.out.2.2.2; omega]; rfl, HL.out.1.2.new HN.out⟩
      · obtain ⟨j, rfl⟩ : ∃ j, k = j + 1 := ⟨k - 1, by omega⟩
        have hj1 : (((j + 1 : Nat) : Int) - 1) = (j : Int) := by omega
        rw [hj1]
        obtain ⟨ad, u, rfl, hu, hcu⟩ := (HL.out.1.1.new HN.out).at_ (show j < n by omega)
        obtain ⟨d, hd, rfl⟩ := nv_at hu
        have hdb := HL.out.2.1.digs.at_ hd
        have hst : val 10000 (l.drop j) = m * 10000 + d := by rw [val_drop hd, HV.out]; omega
        have hle := val_drop_le 10000 (by omega) l j
        rw [hst, HL.out.2.1.val] at hle
        have hle2 : m * 10000 + d ≤ 9223372036854775808 := by have := HL.out.2.2.2; omega
        have hmi : -(m : Int) * 10000 - (d : Int) = -((m * 10000 + d : Nat) : Int) := by omega
        have hb1 : -9223372036854775808 ≤ -(m : Int) * 10000 := by omega
        have hb2 : -9223372036854775808 ≤ -(m : Int) * 10000 - (d : Int) := by omega
        generalize hq : m * 10000 + d = q at *
        have HS := Lib.hid hst
        clear hj1 hu hd hst hle hq
        go_wp2
        go_roundw
        case rel => exact ⟨j, q, rfl, by go_num, by omega, by omega, HS.out, HN.out⟩
        case measure => simp [intOf]
end Go.Proofs.Ytcjbndlhomokpaa
