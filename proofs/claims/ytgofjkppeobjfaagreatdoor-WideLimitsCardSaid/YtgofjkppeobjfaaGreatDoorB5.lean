/- The parts TextG, TextH of the proof, in one text. -/
import Derived.Test.YtgofjkppeobjfaaGreatDoorB4
set_option linter.unusedSimpArgs false
set_option linter.unusedVariables false

namespace Go.Proofs.YtgofjkppeobjfaaGreatDoor
set_option linter.unusedVariables false
open Go.RowKit Go.Mem Go.Dig
open Go.Lib (decDigits)

theorem from_h (n : Int) (w : World) (h1 : -9223372036854775808 ≤ n) (h2 : n ≤ 9223372036854775807) :
    Calls Tryz.prog 15 #[.int .i64 n] w fun e w' => ∃ s A m c, e = .returned (.agg #[.bool s, .slice A m c]) ∧ Hid (WI w' (.agg #[.bool s, .slice A m c]) n ∧ New w w') :=
  (from_any n w h1 h2).mono fun e w' ⟨v, h1, ⟨s, A, m, c, h2, h3, h4⟩, h5⟩ => ⟨s, A, m, c, by rw [h1, h2], ⟨s, A, m, c, rfl, h3, h4⟩, h5⟩
theorem text_pos (l : List UInt8) (z : Nat) (hd : Txt.Formed l) (hv : Txt.decVal l = z) : Txt.text (z : Int) = l := by
  unfold Txt.text
  rw [if_neg (by omega), Int.natAbs_natCast, ← hv, Txt.dec_of_val hd]
theorem text_neg (l : List UInt8) (z : Nat) (hd : Txt.Formed l) (hv : Txt.decVal l = z) (h0 : 0 < z) : Txt.text (-(z : Int)) = 45 :: l := by
  unfold Txt.text
  rw [if_pos (by omega), Int.natAbs_neg, Int.natAbs_natCast, ← hv, Txt.dec_of_val hd]
theorem eq_lit {z : Int} {b : ByteArray} {l : List UInt8} (hb : St (Txt.text z) = b) (h : Txt.text z = l) : (b.toList == l) = true := by
  rw [Lib.toList_data, ← hb, St_dat, h]
  simp
theorem formed_of (l : List UInt8) (c : UInt8) (t : List UInt8) (h : l = c :: t) (hd : l.all (fun c => decide (48 ≤ c.toNat ∧ c.toNat ≤ 57)) = true) (hc : c ≠ 48) : Txt.Formed l := by
  refine ⟨fun x hx => ?_, .inr ⟨c, t, h, hc⟩⟩
  have := List.all_eq_true.1 hd x hx
  unfold Txt.isDig
  simpa using this
theorem small_pow {z : Int} (m : Nat) (hm : 65 ≤ m) (h1 : -18446744073709551617 < z) (h2 : z < 18446744073709551617) : z.natAbs < 2 ^ m :=
  Nat.lt_of_lt_of_le (show z.natAbs < 2 ^ 65 by omega) (Nat.pow_le_pow_right (by omega) hm)
theorem small_900 {z : Int} (h1 : -18446744073709551617 < z) (h2 : z < 18446744073709551617) : z.natAbs < 2 ^ 900000 := small_pow 900000 (by decide) h1 h2
theorem small_1000 {z : Int} (h1 : -18446744073709551617 < z) (h2 : z < 18446744073709551617) : z.natAbs < 2 ^ 1000000 := small_pow 1000000 (by decide) h1 h2
theorem small_top {z : Int} (h1 : -18446744073709551617 < z) (h2 : z < 18446744073709551617) : z.natAbs < topN := by
  have h : ∀ k, 3 ≤ k → 2 ^ 65 ≤ powN k := fun k hk => by
    unfold powN
    refine Nat.le_trans ?_ (Nat.pow_le_pow_right (by omega) hk)
    decide
  exact Nat.lt_of_lt_of_le (show z.natAbs < 2 ^ 65 by omega) (h 512 (by decide))
/-- The text of what Parse refuses. -/
theorem bad_minus_zero : ∀ z, ¬ Txt.Reads [45, 48] z := by
  intro z h
  exact h.2.1 ⟨rfl, rfl⟩
theorem bad_zero_one : ∀ z, ¬ Txt.Reads [48, 49] z := by
  intro z h
  rcases h.1.2 with h1 | ⟨c, t, h1, h2⟩
  · simp [Txt.body] at h1
  · simp [Txt.body] at h1
    exact h2 h1.1.symm

/-- A struct of wide that lies in a block. -/
def WB (w : World) (g : Nat) (z : Int) : Prop := ∃ s A n c, Blk w g 29 #[.bool s, .slice A n c] ∧ WI w (.agg #[.bool s, .slice A n c]) z
theorem WB.new {w w' : World} {g : Nat} {z : Int} (h : WB w g z) (hn : New w w') : WB w' g z := by
  obtain ⟨s, A, n, c, h1, h2⟩ := h
  exact ⟨s, A, n, c, h1.chg hn (fun h => h), h2.new hn⟩

set_option maxRecDepth 100000 in
set_option maxHeartbeats 4000000 in
theorem lives3_any (w : World) (hpt : PowTab w) :
    Calls Tryz.prog 12 #[] w fun e w' => e = .returned (.bool true) ∧ Hid (New w w') := by
  have HT := Lib.hid hpt
  clear hpt
  go_enter Tryz.func12, Tryz.ntmps12
  go_wp2_with fail
  refine (from_h (-7) w (by omega) (by omega)).mono ?_
  rintro e w1 ⟨s1, A1, n1, c1, rfl, H1⟩
  go_wp2_with fail
  refine (from_h 2 w1 (by omega) (by omega)).mono ?_
  rintro e w2 ⟨s2, A2, n2, c2, rfl, H2⟩
  go_wp2_with fail
  refine (wdiv_any _ _ (-7) 2 w2 (H1.out.1.new H2.out.2) H2.out.1 (small_900 (by omega) (by omega)) (small_900 (by omega) (by omega)) (by omega)).mono ?_
  rintro e w3 ⟨s3, A3, n3, c3, t3, B3, m3, d3, rfl, H3⟩
  go_wp2_with fail
  refine Calls.new2 ?_
  intro W3 hbq hbr hn3 hz3
  obtain ⟨gq, hgq⟩ : ∃ x, w3.heap.size = x := ⟨_, rfl⟩
  obtain ⟨gr, hgr⟩ : ∃ x, w3.heap.size + 1 = x := ⟨_, rfl⟩
  rw [hgq] at hbq
  rw [hgr] at hbr
  simp only [hgr]
  simp only [hgq]
  have hQ : WB W3 gq (-4) := ⟨_, _, _, _, hbq, H3.out.1.new hn3⟩
  have hR : WB W3 gr 1 := ⟨_, _, _, _, hbr, H3.out.2.1.new hn3⟩
  have HA := Lib.hid (And.intro hQ (And.intro hR (((H1.out.2.new H2.out.2).new H3.out.2.2).new hn3)))
  clear hQ hR hbq hbr hn3 hz3 hgq hgr H1 H2 H3
  refine (from_h 7 W3 (by omega) (by omega)).mono ?_
  rintro e w4 ⟨s4, A4, n4, c4, rfl, H4⟩
  go_wp2_with fail
  refine (from_h (-2) w4 (by omega) (by omega)).mono ?_
  rintro e w5 ⟨s5, A5, n5, c5, rfl, H5⟩
  go_wp2_with fail
  refine (wdiv_any _ _ 7 (-2) w5 (H4.out.1.new H5.out.2) H5.out.1 (small_900 (by omega) (by omega)) (small_900 (by omega) (by omega)) (by omega)).mono ?_
  rintro e w6 ⟨s6, A6, n6, c6, t6, B6, m6, d6, rfl, H6⟩
  go_wp2_with fail
  refine Calls.new2 ?_
  intro W6 hbs hbt hn6 hz6
  obtain ⟨gs, hgs⟩ : ∃ x, w6.heap.size = x := ⟨_, rfl⟩
  obtain ⟨gt, hgt⟩ : ∃ x, w6.heap.size + 1 = x := ⟨_, rfl⟩
  rw [hgs] at hbs
  rw [hgt] at hbt
  simp only [hgt]
  simp only [hgs]
  have hS : WB W6 gs (-3) := ⟨_, _, _, _, hbs, H6.out.1.new hn6⟩
  have hT : WB W6 gt 1 := ⟨_, _, _, _, hbt, H6.out.2.1.new hn6⟩
  have hN36 : New W3 W6 := ((H4.out.2.new H5.out.2).new H6.out.2.2).new hn6
  have HB := Lib.hid (And.intro (HA.out.1.new hN36) (And.intro (HA.out.2.1.new hN36) (And.intro hS (And.intro hT (HA.out.2.2.new hN36)))))
  clear hS hT hbs hbt hn6 hz6 hgs hgt H4 H5 H6 HA hN36
  refine (from_h 4294967296 W6 (by omega) (by omega)).mono ?_
  rintro e w7 ⟨s7, A7, n7, c7, rfl, H7⟩
  go_wp2_with fail
  refine (from_h 4294967296 w7 (by omega) (by omega)).mono ?_
  rintro e w8 ⟨s8, A8, n8, c8, rfl, H8⟩
  go_wp2_with fail
  have hmul := wmul_any _ _ 4294967296 4294967296 w8 (H7.out.1.new H8.out.2) H8.out.1 (small_1000 (by omega) (by omega)) (small_1000 (by omega) (by omega))
  rw [show (4294967296 : Int) * 4294967296 = 18446744073709551616 by rfl, (rg_in (small_top (z := 18446744073709551616) (by omega) (by omega))).1, (rg_in (small_top (z := 18446744073709551616) (by omega) (by omega))).2] at hmul
  refine hmul.mono ?_
  rintro e w9 ⟨s9, A9, n9, c9, rfl, H9⟩
  clear hmul
  go_wp2_with fail
  refine Calls.new1 ?_
  intro W9 hbx hn9 hz9
  obtain ⟨gx, hgx⟩ : ∃ x, w9.heap.size = x := ⟨_, rfl⟩
  rw [hgx] at hbx
  simp only [hgx]
  have hX : WB W9 gx 18446744073709551616 := ⟨_, _, _, _, hbx, H9.out.1.new hn9⟩
  have hN69 : New W6 W9 := ((H7.out.2.new H8.out.2).new H9.out.2).new hn9
  have HC := Lib.hid (And.intro (HB.out.1.new hN69) (And.intro (HB.out.2.1.new hN69) (And.intro (HB.out.2.2.1.new hN69) (And.intro (HB.out.2.2.2.1.new hN69) (And.intro hX (HB.out.2.2.2.2.new hN69))))))
  have hsm := wsmall_any _ 18446744073709551616 W9 (H9.out.1.new hn9)
  rw [show intIf 18446744073709551616 = 0 by decide, show isInt 18446744073709551616 = false by decide] at hsm
  clear hX hbx hn9 hz9 hgx H7 H8 H9 HB hN69
  refine hsm.mono ?_
  rintro e w10 ⟨rfl, hn10⟩
  have HN10 := Lib.hid hn10
  clear hsm hn10
  go_wp2_with fail
  refine (wparse_bad ⟨#[45, 48]⟩ [45, 48] rfl (by decide) bad_minus_zero w10).mono ?_
  rintro e w11 ⟨rfl, hn11⟩
  have HN11 := Lib.hid (HN10.out.new hn11)
  clear hn11 HN10
  go_wp2_with fail
  refine Calls.new1 ?_
  intro W11 hb11 hn11 hz11
  refine (wparse_bad ⟨#[48, 49]⟩ [48, 49] rfl (by decide) bad_zero_one W11).mono ?_
  rintro e w12 ⟨rfl, hn12⟩
  have hn912 : New W9 (w12.alloc (.cells #[.bool false, .slice none 0 0] 29)) := ((HN11.out.new hn11).new hn12).alloc _
  have HD := Lib.hid (And.intro (HC.out.1.new hn912) (And.intro (HC.out.2.1.new hn912) (And.intro (HC.out.2.2.1.new hn912) (And.intro (HC.out.2.2.2.1.new hn912) (And.intro (HC.out.2.2.2.2.1.new hn912) (HC.out.2.2.2.2.2.new hn912))))))
  clear hn11 hz11 hb11 hn12 hn912 HN11 HC
  obtain ⟨x1, X1, p1, r1, hb1, hw1⟩ := HD.out.1
  have hk10 := hb1.cell 0 (u := .bool x1) rfl
  have hk11 := hb1.cell 1 (u := .slice X1 p1 r1) rfl
  have hs1 := wstring_any _ (-4) _ hw1 (HT.out.new HD.out.2.2.2.2.2) (small_900 (by omega) (by omega))
  obtain ⟨b1, hbb1⟩ : ∃ b, St (Txt.text (-4)) = b := ⟨_, rfl⟩
  rw [hbb1] at hs1
  have he1 := eq_lit hbb1 (text_neg [52] 4 (formed_of _ 52 [] rfl (by decide) (by decide)) (by decide) (by decide))
  have he1' : b1.toList = [45, 52] := by simpa using he1
  have HS1 := Lib.hid hs1
  have HE1 := Lib.hid he1'
  clear hb1 hw1 hs1 hbb1 he1'
  go_wp2_with fail
  refine HS1.out.mono ?_
  rintro e v1 ⟨rfl, hn1⟩
  have HD2 := Lib.hid (And.intro (HD.out.2.1.new hn1) (And.intro (HD.out.2.2.1.new hn1) (And.intro (HD.out.2.2.2.1.new hn1) (And.intro (HD.out.2.2.2.2.1.new hn1) (HD.out.2.2.2.2.2.new hn1)))))
  clear hn1 hk10 hk11 HS1
  obtain ⟨x2, X2, p2, r2, hb2, hw2⟩ := HD2.out.1
  have hk20 := hb2.cell 0 (u := .bool x2) rfl
  have hk21 := hb2.cell 1 (u := .slice X2 p2 r2) rfl
  have hs2 := wstring_any _ (1) _ hw2 (HT.out.new HD2.out.2.2.2.2) (small_900 (by omega) (by omega))
  obtain ⟨b2, hbb2⟩ : ∃ b, St (Txt.text (1)) = b := ⟨_, rfl⟩
  rw [hbb2] at hs2
  have he2 := eq_lit hbb2 (text_pos [49] 1 (formed_of _ 49 [] rfl (by decide) (by decide)) (by decide))
  have he2' : b2.toList = [49] := by simpa using he2
  have HS2 := Lib.hid hs2
  have HE2 := Lib.hid he2'
  clear hb2 hw2 hs2 hbb2 he2'
  go_wp2_with fail
  refine HS2.out.mono ?_
  rintro e v2 ⟨rfl, hn2⟩
  have HD3 := Lib.hid (And.intro (HD2.out.2.1.new hn2) (And.intro (HD2.out.2.2.1.new hn2) (And.intro (HD2.out.2.2.2.1.new hn2) (HD2.out.2.2.2.2.new hn2))))
  clear hn2 hk20 hk21 HS2
  obtain ⟨x3, X3, p3, r3, hb3, hw3⟩ := HD3.out.1
  have hk30 := hb3.cell 0 (u := .bool x3) rfl
  have hk31 := hb3.cell 1 (u := .slice X3 p3 r3) rfl
  have hs3 := wstring_any _ (-3) _ hw3 (HT.out.new HD3.out.2.2.2) (small_900 (by omega) (by omega))
  obtain ⟨b3, hbb3⟩ : ∃ b, St (Txt.text (-3)) = b := ⟨_, rfl⟩
  rw [hbb3] at hs3
  have he3 := eq_lit hbb3 (text_neg [51] 3 (formed_of _ 51 [] rfl (by decide) (by decide)) (by decide) (by decide))
  have he3' : b3.toList = [45, 51] := by simpa using he3
  have HS3 := Lib.hid hs3
  have HE3 := Lib.hid he3'
  clear hb3 hw3 hs3 hbb3 he3'
  go_wp2_with fail
  refine HS3.out.mono ?_
  rintro e v3 ⟨rfl, hn3⟩
  have HD4 := Lib.hid (And.intro (HD3.out.2.1.new hn3) (And.intro (HD3.out.2.2.1.new hn3) (HD3.out.2.2.2.new hn3)))
  clear hn3 hk30 hk31 HS3
  obtain ⟨x4, X4, p4, r4, hb4, hw4⟩ := HD4.out.1
  have hk40 := hb4.cell 0 (u := .bool x4) rfl
  have hk41 := hb4.cell 1 (u := .slice X4 p4 r4) rfl
  have hs4 := wstring_any _ (1) _ hw4 (HT.out.new HD4.out.2.2) (small_900 (by omega) (by omega))
  obtain ⟨b4, hbb4⟩ : ∃ b, St (Txt.text (1)) = b := ⟨_, rfl⟩
  rw [hbb4] at hs4
  have he4 := eq_lit hbb4 (text_pos [49] 1 (formed_of _ 49 [] rfl (by decide) (by decide)) (by decide))
  have he4' : b4.toList = [49] := by simpa using he4
  have HS4 := Lib.hid hs4
  have HE4 := Lib.hid he4'
  clear hb4 hw4 hs4 hbb4 he4'
  go_wp2_with fail
  refine HS4.out.mono ?_
  rintro e v4 ⟨rfl, hn4⟩
  have HD5 := Lib.hid (And.intro (HD4.out.2.1.new hn4) (HD4.out.2.2.new hn4))
  clear hn4 hk40 hk41 HS4
  obtain ⟨x5, X5, p5, r5, hb5, hw5⟩ := HD5.out.1
  have hk50 := hb5.cell 0 (u := .bool x5) rfl
  have hk51 := hb5.cell 1 (u := .slice X5 p5 r5) rfl
  have hs5 := wstring_any _ (18446744073709551616) _ hw5 (HT.out.new HD5.out.2) (small_900 (by omega) (by omega))
  obtain ⟨b5, hbb5⟩ : ∃ b, St (Txt.text (18446744073709551616)) = b := ⟨_, rfl⟩
  rw [hbb5] at hs5
  have he5 := eq_lit hbb5 (text_pos [49, 56, 52, 52, 54, 55, 52, 52, 48, 55, 51, 55, 48, 57, 53, 53, 49, 54, 49, 54] 18446744073709551616 (formed_of _ 49 [56, 52, 52, 54, 55, 52, 52, 48, 55, 51, 55, 48, 57, 53, 53, 49, 54, 49, 54] rfl (by decide) (by decide)) (by decide))
  have he5' : b5.toList = [49, 56, 52, 52, 54, 55, 52, 52, 48, 55, 51, 55, 48, 57, 53, 53, 49, 54, 49, 54] := by simpa using he5
  have HS5 := Lib.hid hs5
  have HE5 := Lib.hid he5'
  clear hb5 hw5 hs5 hbb5 he5'
  go_wp2_with fail
  refine HS5.out.mono ?_
  rintro e v5 ⟨rfl, hn5⟩
  have HF := Lib.hid (HD5.out.2.new hn5)
  clear hn5 hk50 hk51 HS5
  go_wp2
  go_ret
  exact ⟨rfl, HF.out⟩
end Go.Proofs.YtgofjkppeobjfaaGreatDoor

namespace Go.Proofs.YtgofjkppeobjfaaGreatDoor
set_option linter.unusedVariables false
open Go.RowKit Go.Mem Go.Dig

def pw2 (k : Nat) : Nat := 2 ^ k
/-- Far inside the range. -/
def Sm (z : Int) : Prop := z.natAbs < pw2 3000
theorem pw2_le {a b : Nat} (h : a ≤ b) : pw2 a ≤ pw2 b := Nat.pow_le_pow_right (by omega) h
theorem pw2_add (a b : Nat) : pw2 (a + b) = pw2 a * pw2 b := Nat.pow_add 2 a b
theorem powN_pw2 (k : Nat) : powN k = pw2 (32 * k) := powN_two k _ rfl
theorem topN_pw2 : topN = pw2 16384 := powN_pw2 512
theorem Sm.of {z : Int} {k : Nat} (h : z.natAbs < pw2 k) (hk : k ≤ 3000) : Sm z := Nat.lt_of_lt_of_le h (pw2_le hk)
theorem Sm.top {z : Int} (h : Sm z) : z.natAbs < topN := by rw [topN_pw2]; exact Nat.lt_of_lt_of_le h (pw2_le (by decide))
theorem Sm.dmax {z : Int} (h : Sm z) : z.natAbs < dmax := Nat.lt_of_lt_of_le h.top (Nat.le_trans (Nat.le_add_right _ _) top_dmax)
theorem Sm.pk {z : Int} (h : Sm z) (k : Nat) (hk : 3000 ≤ k) : z.natAbs < 2 ^ k := Nat.lt_of_lt_of_le h (pw2_le hk)
theorem Sm.p9 {z : Int} (h : Sm z) : z.natAbs < 2 ^ 900000 := h.pk 900000 (by decide)
theorem Sm.p10 {z : Int} (h : Sm z) : z.natAbs < 2 ^ 1000000 := h.pk 1000000 (by decide)
theorem natAbs_add_lt {x y : Int} {a : Nat} (hx : x.natAbs < pw2 a) (hy : y.natAbs < pw2 a) : (x + y).natAbs < pw2 (a + 1) := by
  have : pw2 (a + 1) = pw2 a * 2 := pw2_add a 1
  omega
theorem natAbs_sub_lt {x y : Int} {a : Nat} (hx : x.natAbs < pw2 a) (hy : y.natAbs < pw2 a) : (x - y).natAbs < pw2 (a + 1) := by
  have : pw2 (a + 1) = pw2 a * 2 := pw2_add a 1
  omega
theorem natAbs_mul_lt {x y : Int} {a b : Nat} (hx : x.natAbs < pw2 a) (hy : y.natAbs < pw2 b) : (x * y).natAbs < pw2 (a + b) := by
  rw [Int.natAbs_mul, pw2_add]
  exact Nat.mul_lt_mul'' hx hy
theorem num_lt (l : List Int) (at_ : Nat) : (numI l at_).natAbs < pw2 230 := numI_bnd l at_
theorem num_sm (l : List Int) (at_ : Nat) : Sm (numI l at_) := Sm.of (num_lt l at_) (by decide)
theorem rgE_sm {z : Int} (h : Sm z) : rg z = z ∧ rgE z = 0 := rg_in h.top

/-- A struct of the reference, of package wide, in a block. -/
def RX (w : World) (g : Nat) (s : Bool) (A : Option Addr) (n c : Nat) (z : Int) : Prop := Blk w g 24 #[.bool s, .slice A n c] ∧ RN w (.agg #[.bool s, .slice A n c]) z
def WX (w : World) (g : Nat) (s : Bool) (A : Option Addr) (n c : Nat) (z : Int) : Prop := Blk w g 29 #[.bool s, .slice A n c] ∧ WI w (.agg #[.bool s, .slice A n c]) z
theorem RX.new {w w' : World} {g : Nat} {s : Bool} {A : Option Addr} {n c : Nat} {z : Int} (h : RX w g s A n c z) (hn : New w w') : RX w' g s A n c z := ⟨h.1.chg hn (fun h => h), h.2.new hn⟩
theorem WX.new {w w' : World} {g : Nat} {s : Bool} {A : Option Addr} {n c : Nat} {z : Int} (h : WX w g s A n c z) (hn : New w w') : WX w' g s A n c z := ⟨h.1.chg hn (fun h => h), h.2.new hn⟩
theorem RX.c0 {w : World} {g : Nat} {s : Bool} {A : Option Addr} {n c : Nat} {z : Int} (h : RX w g s A n c z) : w.cell? ⟨g, 0, none⟩ = some (.bool s) := h.1.cell 0 rfl
theorem RX.c1 {w : World} {g : Nat} {s : Bool} {A : Option Addr} {n c : Nat} {z : Int} (h : RX w g s A n c z) : w.cell? ⟨g, 1, none⟩ = some (.slice A n c) := h.1.cell 1 rfl
theorem WX.c0 {w : World} {g : Nat} {s : Bool} {A : Option Addr} {n c : Nat} {z : Int} (h : WX w g s A n c z) : w.cell? ⟨g, 0, none⟩ = some (.bool s) := h.1.cell 0 rfl
theorem WX.c1 {w : World} {g : Nat} {s : Bool} {A : Option Addr} {n c : Nat} {z : Int} (h : WX w g s A n c z) : w.cell? ⟨g, 1, none⟩ = some (.slice A n c) := h.1.cell 1 rfl

/-- A call that returns a struct of the reference; of package wide; the latter with a number or a bool behind it. -/
def RetR (w : World) (z : Int) (e : Ending) (w' : World) : Prop := ∃ s A n c, e = .returned (.agg #[.bool s, .slice A n c]) ∧ Hid (RN w' (.agg #[.bool s, .slice A n c]) z ∧ New w w')
def RetW (w : World) (z : Int) (e : Ending) (w' : World) : Prop := ∃ s A n c, e = .returned (.agg #[.bool s, .slice A n c]) ∧ Hid (WI w' (.agg #[.bool s, .slice A n c]) z ∧ New w w')
def RetWV (w : World) (z : Int) (u : Value) (e : Ending) (w' : World) : Prop := ∃ s A n c, e = .returned (.tuple #[.agg #[.bool s, .slice A n c], u]) ∧ Hid (WI w' (.agg #[.bool s, .slice A n c]) z ∧ New w w')
def RetWW (w : World) (z z' : Int) (u : Value) (e : Ending) (w' : World) : Prop := ∃ s A n c s' A' n' c', e = .returned (.tuple #[.agg #[.bool s, .slice A n c], .agg #[.bool s', .slice A' n' c'], u]) ∧ Hid (WI w' (.agg #[.bool s, .slice A n c]) z ∧ WI w' (.agg #[.bool s', .slice A' n' c']) z' ∧ New w w')
def RetV (w : World) (u : Value) (e : Ending) (w' : World) : Prop := e = .returned u ∧ Hid (New w w')

variable {w : World} {v v' : Value} {x y z : Int}
theorem wider_s (w : World) (v : Value) (z : Int) (hv : RN w v z) (hz : Sm z) : Calls Tryz.prog 7 #[v] w (RetWV w z (.bool true)) := by
  have h := wider_any v z w hv hz.dmax true (by rw [(rgE_sm hz).2]; rfl)
  rwa [(rgE_sm hz).1] at h
theorem equal_s (w : World) (v v' : Value) (x : Int) (hx : WI w v x) (ha : RN w v' x) (hpt : PowTab w) (hz : Sm x) : Calls Tryz.prog 9 #[v, v'] w (RetV w (.bool true)) :=
  equal_any v v' x x w hx ha hpt hz.dmax hz.dmax true (by simp)
theorem lives_s (w : World) (hpt : PowTab w) : Calls Tryz.prog 12 #[] w (RetV w (.bool true)) := lives3_any w hpt
theorem wadd_s (w : World) (v v' : Value) (x y : Int) (hx : WI w v x) (hy : WI w v' y) (bx : Sm x) (bY : Sm y) (bz : Sm (x + y)) : Calls Tryz.prog 23 #[v, v'] w (RetWV w (x + y) (.int .i64 0)) := by
  have h := wadd_any v v' x y w hx hy bx.p10 bY.p10
  rwa [(rgE_sm bz).1, (rgE_sm bz).2] at h
theorem wsub_s (w : World) (v v' : Value) (x y : Int) (hx : WI w v x) (hy : WI w v' y) (bx : Sm x) (bY : Sm y) (bz : Sm (x - y)) : Calls Tryz.prog 24 #[v, v'] w (RetWV w (x - y) (.int .i64 0)) := by
  have h := wsub_any v v' x y w hx hy bx.p10 bY.p10
  rwa [(rgE_sm bz).1, (rgE_sm bz).2] at h
theorem wmul_s (w : World) (v v' : Value) (x y : Int) (hx : WI w v x) (hy : WI w v' y) (bx : Sm x) (bY : Sm y) (bz : Sm (x * y)) : Calls Tryz.prog 25 #[v, v'] w (RetWV w (x * y) (.int .i64 0)) := by
  have h := wmul_any v v' x y w hx hy bx.p10 bY.p10
  rwa [(rgE_sm bz).1, (rgE_sm bz).2] at h
theorem wdiv_s (w : World) (v v' : Value) (x y : Int) (hx : WI w v x) (hy : WI w v' y) (bx : Sm x) (bY : Sm y) (h0 : y ≠ 0) : Calls Tryz.prog 13 #[v, v'] w (RetWW w (x / y) (x % y) (.int .i64 0)) :=
  wdiv_any v v' x y w hx hy bx.p9 bY.p9 h0
theorem number_s (A : Option Addr) (n c : Nat) (l : List Int) (hl : ∀ z ∈ l, -9223372036854775808 ≤ z ∧ z ≤ 9223372036854775807) (w : World) (hr : Rd w A n (is l)) (hn : n ≤ 9223372036854775807) :
    Calls Tryz.prog 5 #[.slice A n c, .int .i64 0] w (RetR w (numI l 0)) ∧ Calls Tryz.prog 5 #[.slice A n c, .int .i64 6] w (RetR w (numI l 6)) ∧ Calls Tryz.prog 5 #[.slice A n c, .int .i64 12] w (RetR w (numI l 12)) :=
  ⟨number_any A n c l hl 0 (by omega) w hr hn, number_any A n c l hl 6 (by omega) w hr hn, number_any A n c l hl 12 (by omega) w hr hn⟩
theorem radd_s (w : World) (v v' : Value) (x y : Int) (hx : RN w v x) (hy : RN w v' y) (bx : Sm x) (bY : Sm y) : Calls Tryz.prog 26 #[v, v'] w (RetR w (x + y)) := radd_h v v' x y w hx hy bx.p10 bY.p10
theorem rmul_s (w : World) (v v' : Value) (x y : Int) (hx : RN w v x) (hy : RN w v' y) (bx : Sm x) (bY : Sm y) : Calls Tryz.prog 6 #[v, v'] w (RetR w (x * y)) := rmul_h v v' x y w hx hy bx.p10 bY.p10
theorem rsub_s (w : World) (v v' : Value) (x y : Int) (hx : RN w v x) (hy : RN w v' y) (bx : Sm x) (bY : Sm y) : Calls Tryz.prog 27 #[v, v'] w (RetR w (x - y)) :=
  (rsub_any v v' x y w hx hy bx.p10 bY.p10).mono fun e w' ⟨v, h1, ⟨s, A, n, c, h2, h3, h4⟩, h5⟩ => ⟨s, A, n, c, by rw [h1, h2], ⟨s, A, n, c, rfl, h3, h4⟩, h5⟩
end Go.Proofs.YtgofjkppeobjfaaGreatDoor
