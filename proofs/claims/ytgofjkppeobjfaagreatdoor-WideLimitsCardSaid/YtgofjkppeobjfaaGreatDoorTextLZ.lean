/- Contracts of refuterref03.Fits and Near. -/
import Derived.Test.YtgofjkppeobjfaaGreatDoorB5
import Derived.Deep.CutRange
namespace Go.Proofs.YtgofjkppeobjfaaGreatDoor
set_option linter.unusedVariables false
open Go.RowKit Go.Mem Go.Dig

theorem ten_two (k j m : Nat) (hm : 196 * k + 64 ≤ m) (hj : j ≤ 59 * k + 19) : tpow j ≤ 2 ^ m := by
  have h1 : tpow (59 * k) ≤ 2 ^ (196 * k) := by
    unfold tpow
    rw [Nat.pow_mul, Nat.pow_mul]
    exact Nat.pow_le_pow_left (by decide) k
  have h2 : tpow 19 ≤ 2 ^ 64 := by decide
  have h3 : tpow (59 * k + 19) ≤ 2 ^ (196 * k + 64) := by
    rw [tpow_add, Nat.pow_add]
    exact Nat.mul_le_mul h1 h2
  exact Nat.le_trans (Nat.pow_le_pow_right (by omega) hj) (Nat.le_trans h3 (Nat.pow_le_pow_right (by omega) hm))
theorem top_two : topN = 2 ^ 16384 := powN_two 512 16384 (by decide)
theorem tpow_4 (k : Nat) : 10000 ^ k = tpow (4 * k) := by
  unfold tpow
  rw [Nat.pow_mul]
theorem few_digits {n k m j : Nat} (h : n < 10000 ^ k) (hk : 4 * k = j) (hj : j ≤ 59 * m + 19) (M : Nat) (hm : 196 * m + 64 ≤ M) : n < 2 ^ M := by
  rw [tpow_4, hk] at h
  exact Nat.lt_of_lt_of_le h (ten_two m j M hm hj)

set_option maxRecDepth 100000 in
set_option maxHeartbeats 1000000 in
theorem fits_any (v : Value) (z : Int) (w : World) (hv : RN w v z) (E : Bool) (hE : decide (z.natAbs < topN) = E) :
    Calls Tryz.prog 28 #[v] w fun e w' => e = .returned (.bool E) ∧ New w w' := by
  obtain ⟨s, A, n, c, rfl, hs, hm⟩ := hv
  by_cases hn : n < 1230
  · have h1 : (n : Int) < 1230 := by omega
    have h2 : z.natAbs < topN := by
      rw [top_two]
      exact few_digits (k := 1229) (hm.lt (k := 1229) (by omega)) (j := 4916) (by decide) (m := 83) (by decide) 16384 (by decide)
    obtain rfl : true = E := by rw [← hE]; simp [h2]
    clear hs hm h2 hE
    go_enter Tryz.func28, Tryz.ntmps28
    go_wp2
    go_ret
    exact ⟨rfl, (Chg.refl _ w).alloc _⟩
  · have h1 : decide ((n : Int) < 1230) = false := by simp; omega
    have H0 := Lib.hid (And.intro hm hE)
    clear hs hm hE hn
    go_enter Tryz.func28, Tryz.ntmps28
    go_wp2_with fail
    refine Calls.new1 ?_
    intro W hb1 hnW hzW
    obtain ⟨K, hK⟩ : ∃ K : Nat, 16384 = K := ⟨_, rfl⟩
    have hpw := power_h K (by omega) W
    rw [show ((K : Nat) : Int) = 16384 by omega] at hpw
    refine hpw.mono ?_
    rintro e w2 ⟨s2, A2, n2, c2, rfl, H2⟩
    have c11 := (hb1.chg (H2.out.2.alloc (.cells #[.bool s2, .slice A2 n2 c2] 24)) (fun h => h)).cell 1 (u := .slice A n c) rfl
    have HW := Lib.hid hnW
    clear hb1 hnW hzW hpw
    go_wp2_with fail
    clear c11
    refine Calls.new1 ?_
    intro W3 hb3 hn3 hz3
    obtain ⟨s', A', n', c', he, hs', hm'⟩ := H2.out.1
    simp only [Value.agg.injEq, Array.mk.injEq, List.cons.injEq, Value.slice.injEq, Value.bool.injEq] at he
    obtain ⟨-, ⟨rfl, rfl, rfl⟩, -⟩ := he
    rw [Int.natAbs_natCast] at hm'
    have hcmp := compared_any A n c A2 n2 c2 _ _ W3 (H0.out.1.new ((HW.out.new H2.out.2).new hn3)) (hm'.new hn3)
    have hc0 : decide (cmpI (z.natAbs : Int) ((2 ^ K : Nat) : Int) < 0) = E := by
      rw [← H0.out.2, top_two, hK]
      generalize 2 ^ K = P
      unfold cmpI
      by_cases h : z.natAbs < P
      · rw [if_pos (by omega)]; simp [h]
      · rw [if_neg (by omega)]
        split <;> simp [h]
    generalize cmpI (z.natAbs : Int) ((2 ^ K : Nat) : Int) = C at hcmp hc0
    have HC := Lib.hid (And.intro hcmp (And.intro hn3 hc0))
    clear hcmp hn3 hz3 hb3 hm' hs' hK hc0
    refine HC.out.1.mono ?_
    rintro e w4 ⟨rfl, q, rfl⟩
    go_wp2
    go_ret
    exact ⟨by rw [HC.out.2.2]; rfl, ((HW.out.new H2.out.2).new HC.out.2.1).drewN _⟩

/-- refuterref03.Near on plain numbers. -/
def nearP (k : Nat) : Nat := match k % 4 with | 0 => 16384 | 1 => 16383 | 2 => 8192 | _ => 63
def nearA (k : Nat) : Int := ((2 ^ nearP k : Nat) : Int) + (((k / 4 : Nat) : Int) - 3)
def nearI (n : Int) : Int := if aroundI (n.tdiv 28) 2 = 1 then -(nearA (aroundI n 28).toNat) else nearA (aroundI n 28).toNat

set_option maxRecDepth 100000 in
set_option maxHeartbeats 1000000 in
theorem near_any (n : Int) (h1 : -9223372036854775808 ≤ n) (h2 : n ≤ 9223372036854775807) (w : World) :
    Calls Tryz.prog 16 #[.int .i64 n] w fun e w' => ∃ s A n' c, e = .returned (.agg #[.bool s, .slice A n' c]) ∧ Hid (RN w' (.agg #[.bool s, .slice A n' c]) (nearI n) ∧ New w w') := by
  have hr := aroundI_range n 28 (by omega)
  obtain ⟨k, hk⟩ : ∃ k : Nat, aroundI n 28 = k := ⟨(aroundI n 28).toNat, by omega⟩
  have har := fun W => around_any n 28 W h1 h2 (by omega) (by omega)
  rw [hk] at har hr
  have hkb : k < 28 := by omega
  obtain ⟨d, hd⟩ : ∃ d : Int, n.tdiv 28 = d := ⟨_, rfl⟩
  have hdb : -9223372036854775808 ≤ d ∧ d ≤ 9223372036854775807 := by
    rw [← hd]
    rcases Int.lt_or_le n 0 with h | h
    · have e : n = -((n.natAbs : Nat) : Int) := by omega
      rw [e, Int.neg_tdiv, Int.tdiv_eq_ediv_of_nonneg (by omega)]
      omega
    · rw [Int.tdiv_eq_ediv_of_nonneg h]; omega
  have har2 := fun W => around_any d 2 W hdb.1 hdb.2 (by omega) (by omega)
  have hr2 := aroundI_range d 2 (by omega)
  obtain ⟨b, hb⟩ : ∃ b : Int, aroundI d 2 = b := ⟨_, rfl⟩
  rw [hb] at har2 hr2
  have hni : nearI n = if b = 1 then -(nearA k) else nearA k := by
    unfold nearI
    rw [hd, hb, hk, Int.toNat_natCast]
  rw [hni]
  have HA := Lib.hid (And.intro har har2)
  clear har har2 hni hk hr hb
  obtain ⟨q, hq⟩ : ∃ q, k / 4 = q := ⟨_, rfl⟩
  obtain ⟨t, ht⟩ : ∃ t : Int, (q : Int) - 3 = t := ⟨_, rfl⟩
  have hqb : q ≤ 6 := by omega
  have htb : -3 ≤ t ∧ t ≤ 3 := by omega
  have i2 : (k : Int) / 4 = (q : Int) := by omega
  obtain ⟨r, hr⟩ : ∃ r, k % 4 = r := ⟨_, rfl⟩
  have i1 : (k : Int) % 4 = (r : Int) := by omega
  obtain ⟨P, hP⟩ : ∃ P, nearP k = P := ⟨_, rfl⟩
  have hPr : (r = 0 ∧ Hid ((P : Int) = 16384)) ∨ (r = 1 ∧ Hid ((P : Int) = 16383)) ∨ (r = 2 ∧ Hid ((P : Int) = 8192)) ∨ (r = 3 ∧ Hid ((P : Int) = 63)) := by
    rw [← hP]
    unfold nearP
    rw [hr]
    rcases (by omega : r = 0 ∨ r = 1 ∨ r = 2 ∨ r = 3) with h | h | h | h <;> subst h <;> simp [Hid]
  have hPb : P ≤ 100000 := by
    rcases hPr with ⟨-, h⟩ | ⟨-, h⟩ | ⟨-, h⟩ | ⟨-, h⟩ <;> have := h.out <;> omega
  have hz : nearA k = ((2 ^ P : Nat) : Int) + t := by unfold nearA; rw [hP, hq, ht]
  rw [hz]
  obtain ⟨Z, hZ⟩ : ∃ Z : Int, (if b = 1 then -(((2 ^ P : Nat) : Int) + t) else ((2 ^ P : Nat) : Int) + t) = Z := ⟨_, rfl⟩
  rw [hZ]
  have HZ := Lib.hid hZ
  clear hZ
  have hpw := fun W => power_h P hPb W
  have hof := fun W => of_h t W (by omega) (by omega)
  have HC := Lib.hid (And.intro hpw hof)
  have HP := Lib.hid hPb
  clear hpw hof hP hr hz hq hPb hkb
  go_enter Tryz.func16, Tryz.ntmps16
  go_wp2_with fail
  refine (HA.out.1 _).mono ?_
  rintro e w1 ⟨rfl, rfl⟩
  rcases hPr with ⟨rfl, hPe⟩ | ⟨rfl, hPe⟩ | ⟨rfl, hPe⟩ | ⟨rfl, hPe⟩
  all_goals
    go_wp2_with fail
    refine Calls.new2 ?_
    intro W hb2 hbl hnW hzW
    obtain ⟨g2, hg2⟩ : ∃ x, w.heap.size = x := ⟨_, rfl⟩
    obtain ⟨gl, hgl⟩ : ∃ x, w.heap.size + 1 = x := ⟨_, rfl⟩
    rw [hg2] at hb2
    simp only [hgl]
    simp only [hg2]
    have HW := Lib.hid (And.intro hb2 (And.intro hnW hg2))
    clear hb2 hbl hnW hzW hg2 hgl
    have hp := HC.out.1 W
    rw [hPe.out] at hp
    have HPW := Lib.hid hp
    clear hp
    refine HPW.out.mono ?_
    rintro e w2 ⟨s2, A2, n2, c2, rfl, H2⟩
    clear HPW hPe
    go_wp2_with fail
    refine (HC.out.2 w2).mono ?_
    rintro e w3 ⟨s3, A3, n3, c3, rfl, H3⟩
    go_wp2_with fail
    refine (radd_h _ _ _ _ w3 (H2.out.1.new H3.out.2) H3.out.1 (pow_big HP.out) (small_big (by omega) (by omega))).mono ?_
    rintro e w4 ⟨s4, A4, n4, c4, rfl, H4⟩
    have HB := Lib.hid (HW.out.1.chg ((H2.out.2.new H3.out.2).new H4.out.2) (fun h => h))
    have HN := Lib.hid (HW.out.2.1.new ((H2.out.2.new H3.out.2).new H4.out.2))
    have HR := Lib.hid H4.out.1
    have HGS := Lib.hid HW.out.2.2
    clear H2 H3 H4 HW
    go_wp2_with fail
    refine Calls.new1 ?_
    intro W5 hb4 hn5 hz5
    obtain ⟨g4, hg4⟩ : ∃ x, w4.heap.size = x := ⟨_, rfl⟩
    rw [hg4] at hb4
    simp only [hg4]
    have hb2 := HB.out.chg hn5 (fun h => h)
    refine (HA.out.2 _).mono ?_
    rintro e w6 ⟨rfl, rfl⟩
    have c40 := hb4.cell 0 (u := .bool s4) rfl
    have c41 := hb4.cell 1 (u := .slice A4 n4 c4) rfl
    have HX := Lib.hid (And.intro hb2 (And.intro (HR.out.new hn5) (HN.out.new hn5)))
    clear hb2 hb4 hn5 hz5 hg4 HB HN HR
    by_cases hb1 : b = 1
    · have hZ := HZ.out
      rw [if_pos hb1] at hZ
      subst hb1
      have HZ2 := Lib.hid hZ
      clear hZ HZ
      go_wp2_with fail
      refine (rneg_any _ _ W5 HX.out.2.1).mono ?_
      rintro e w7 ⟨v7, rfl, ⟨s7, A7, n7, c7, rfl, hs7, hm7⟩, hn7⟩
      have hb7 := HX.out.1.chg hn7 (fun h => h)
      have k20 := hb7.cell 0 rfl
      have k21 := hb7.cell 1 rfl
      have f20 := hb7.frozen 0
      have f21 := hb7.frozen 1
      have hr7 : RN w7 (.agg #[.bool s7, .slice A7 n7 c7]) (-(((2 ^ P : Nat) : Int) + t)) := ⟨s7, A7, n7, c7, rfl, hs7, hm7⟩
      have HY := Lib.hid (And.intro hb7 (And.intro hr7 (HX.out.2.2.new hn7)))
      clear hb7 hr7 hs7 hm7 hn7 c40 c41
      go_wp2
      refine bodyPost_ret (res_c rfl _ rfl (aggN.load (HY.out.1.set2 _ _))) rfl ⟨s7, A7, n7, c7, rfl, HZ2.out ▸ HY.out.2.1.store HY.out.1 (noInt_two' _ _ _ _) (Chg.at2 _ _ _ _), ?_⟩
      exact Chg.owned HY.out.2.2 (Chg.at2 _ _ _ _) (fun k e => by have := HGS.out; omega)
    · have hb0 : b = 0 := by omega
      have hZ := HZ.out
      rw [if_neg hb1] at hZ
      subst hb0
      have HZ2 := Lib.hid hZ
      clear hZ hb1 HZ
      have k20 := HX.out.1.cell 0 rfl
      have k21 := HX.out.1.cell 1 rfl
      have f20 := HX.out.1.frozen 0
      have f21 := HX.out.1.frozen 1
      go_wp2
      refine bodyPost_ret (res_c rfl _ rfl (aggN.load (HX.out.1.set2 _ _))) rfl ⟨s4, A4, n4, c4, rfl, HZ2.out ▸ HX.out.2.1.store HX.out.1 (noInt_two' _ _ _ _) (Chg.at2 _ _ _ _), ?_⟩
      exact Chg.owned HX.out.2.2 (Chg.at2 _ _ _ _) (fun k e => by have := HGS.out; omega)
end Go.Proofs.YtgofjkppeobjfaaGreatDoor
