/- The parts TextG, TextH, TextI, TextJ, TextK, TextL, PureParse, TextM of the proof, in one text. -/
import Derived.Deep.LoopGhost
import Derived.Deep.CutRange
import Derived.Test.YtgofjkppeobjfaaGreatDoorB4
set_option linter.unusedSimpArgs false
set_option linter.unusedVariables false

namespace Go.Proofs.YtgofjkppeobjfaaGreatDoor
set_option linter.unusedVariables false
open Go.RowKit Go.Mem Go.Dig
open Go.Lib (decDigits)

theorem from_h (n : Int) (w : World) (h1 : -9223372036854775808 ≤ n) (h2 : n ≤ 9223372036854775807) :
    Calls Tryz.prog 15 #[.int .i64 n] w fun e w' => ∃ s A m c, e = .returned (.agg #[.bool s, .slice A m c]) ∧ Hid (WI w' (.agg #[.bool s, .slice A m c]) n ∧ New w w') :=
  (from_any n w h1 h2).mono fun e w' ⟨v, h1, ⟨s, A, m, c, h2, h3, h4⟩, h5⟩ => ⟨s, A, m, c, by rw [h1, h2], ⟨s, A, m, c, rfl, h3, h4⟩, h5⟩
theorem text_pos (l : List UInt8) (z : Nat) (hd : Txt.Formed l) (hv : Txt.decVal l = z) : Txt.text (z : Int) = l := by
  unfold Txt.text
  rw [if_neg (by omega), Int.natAbs_natCast, ← hv, Txt.dec_of_val hd]
theorem text_neg (l : List UInt8) (z : Nat) (hd : Txt.Formed l) (hv : Txt.decVal l = z) (h0 : 0 < z) : Txt.text (-(z : Int)) = 45 :: l := by
  unfold Txt.text
  rw [if_pos (by omega), Int.natAbs_neg, Int.natAbs_natCast, ← hv, Txt.dec_of_val hd]
theorem eq_lit {z : Int} {b : ByteArray} {l : List UInt8} (hb : St (Txt.text z) = b) (h : Txt.text z = l) : (b.toList == l) = true := by
  rw [Lib.toList_data, ← hb, St_dat, h]
  simp
theorem formed_of (l : List UInt8) (c : UInt8) (t : List UInt8) (h : l = c :: t) (hd : l.all (fun c => decide (48 ≤ c.toNat ∧ c.toNat ≤ 57)) = true) (hc : c ≠ 48) : Txt.Formed l := by
  refine ⟨fun x hx => ?_, .inr ⟨c, t, h, hc⟩⟩
  have := List.all_eq_true.1 hd x hx
  unfold Txt.isDig
  simpa using this
theorem small_pow {z : Int} (m : Nat) (hm : 65 ≤ m) (h1 : -18446744073709551617 < z) (h2 : z < 18446744073709551617) : z.natAbs < 2 ^ m :=
  Nat.lt_of_lt_of_le (show z.natAbs < 2 ^ 65 by omega) (Nat.pow_le_pow_right (by omega) hm)
theorem small_900 {z : Int} (h1 : -18446744073709551617 < z) (h2 : z < 18446744073709551617) : z.natAbs < 2 ^ 900000 := small_pow 900000 (by decide) h1 h2
theorem small_1000 {z : Int} (h1 : -18446744073709551617 < z) (h2 : z < 18446744073709551617) : z.natAbs < 2 ^ 1000000 := small_pow 1000000 (by decide) h1 h2
theorem small_top {z : Int} (h1 : -18446744073709551617 < z) (h2 : z < 18446744073709551617) : z.natAbs < topN := by
  have h : ∀ k, 3 ≤ k → 2 ^ 65 ≤ powN k := fun k hk => by
    unfold powN
    refine Nat.le_trans ?_ (Nat.pow_le_pow_right (by omega) hk)
    decide
  exact Nat.lt_of_lt_of_le (show z.natAbs < 2 ^ 65 by omega) (h 512 (by decide))
/-- The text of what Parse refuses. -/
theorem bad_minus_zero : ∀ z, ¬ Txt.Reads [45, 48] z := by
  intro z h
  exact h.2.1 ⟨rfl, rfl⟩
theorem bad_zero_one : ∀ z, ¬ Txt.Reads [48, 49] z := by
  intro z h
  rcases h.1.2 with h1 | ⟨c, t, h1, h2⟩
  · simp [Txt.body] at h1
  · simp [Txt.body] at h1
    exact h2 h1.1.symm

/-- A struct of wide that lies in a block. -/
def WB (w : World) (g : Nat) (z : Int) : Prop := ∃ s A n c, Blk w g 29 #[.bool s, .slice A n c] ∧ WI w (.agg #[.bool s, .slice A n c]) z
theorem WB.new {w w' : World} {g : Nat} {z : Int} (h : WB w g z) (hn : New w w') : WB w' g z := by
  obtain ⟨s, A, n, c, h1, h2⟩ := h
  exact ⟨s, A, n, c, h1.chg hn (fun h => h), h2.new hn⟩

set_option maxRecDepth 100000 in
set_option maxHeartbeats 4000000 in
theorem lives3_any (w : World) (hpt : PowTab w) :
    Calls Tryz.prog 12 #[] w fun e w' => e = .returned (.bool true) ∧ Hid (New w w') := by
  have HT := Lib.hid hpt
  clear hpt
  go_enter Tryz.func12, Tryz.ntmps12
  go_wp2_with fail
  refine (from_h (-7) w (by omega) (by omega)).mono ?_
  rintro e w1 ⟨s1, A1, n1, c1, rfl, H1⟩
  go_wp2_with fail
  refine (from_h 2 w1 (by omega) (by omega)).mono ?_
  rintro e w2 ⟨s2, A2, n2, c2, rfl, H2⟩
  go_wp2_with fail
  refine (wdiv_any _ _ (-7) 2 w2 (H1.out.1.new H2.out.2) H2.out.1 (small_900 (by omega) (by omega)) (small_900 (by omega) (by omega)) (by omega)).mono ?_
  rintro e w3 ⟨s3, A3, n3, c3, t3, B3, m3, d3, rfl, H3⟩
  go_wp2_with fail
  refine Calls.new2 ?_
  intro W3 hbq hbr hn3 hz3
  obtain ⟨gq, hgq⟩ : ∃ x, w3.heap.size = x := ⟨_, rfl⟩
  obtain ⟨gr, hgr⟩ : ∃ x, w3.heap.size + 1 = x := ⟨_, rfl⟩
  rw [hgq] at hbq
  rw [hgr] at hbr
  simp only [hgr]
  simp only [hgq]
  have hQ : WB W3 gq (-4) := ⟨_, _, _, _, hbq, H3.out.1.new hn3⟩
  have hR : WB W3 gr 1 := ⟨_, _, _, _, hbr, H3.out.2.1.new hn3⟩
  have HA := Lib.hid (And.intro hQ (And.intro hR (((H1.out.2.new H2.out.2).new H3.out.2.2).new hn3)))
  clear hQ hR hbq hbr hn3 hz3 hgq hgr H1 H2 H3
  refine (from_h 7 W3 (by omega) (by omega)).mono ?_
  rintro e w4 ⟨s4, A4, n4, c4, rfl, H4⟩
  go_wp2_with fail
  refine (from_h (-2) w4 (by omega) (by omega)).mono ?_
  rintro e w5 ⟨s5, A5, n5, c5, rfl, H5⟩
  go_wp2_with fail
  refine (wdiv_any _ _ 7 (-2) w5 (H4.out.1.new H5.out.2) H5.out.1 (small_900 (by omega) (by omega)) (small_900 (by omega) (by omega)) (by omega)).mono ?_
  rintro e w6 ⟨s6, A6, n6, c6, t6, B6, m6, d6, rfl, H6⟩
  go_wp2_with fail
  refine Calls.new2 ?_
  intro W6 hbs hbt hn6 hz6
  obtain ⟨gs, hgs⟩ : ∃ x, w6.heap.size = x := ⟨_, rfl⟩
  obtain ⟨gt, hgt⟩ : ∃ x, w6.heap.size + 1 = x := ⟨_, rfl⟩
  rw [hgs] at hbs
  rw [hgt] at hbt
  simp only [hgt]
  simp only [hgs]
  have hS : WB W6 gs (-3) := ⟨_, _, _, _, hbs, H6.out.1.new hn6⟩
  have hT : WB W6 gt 1 := ⟨_, _, _, _, hbt, H6.out.2.1.new hn6⟩
  have hN36 : New W3 W6 := ((H4.out.2.new H5.out.2).new H6.out.2.2).new hn6
  have HB := Lib.hid (And.intro (HA.out.1.new hN36) (And.intro (HA.out.2.1.new hN36) (And.intro hS (And.intro hT (HA.out.2.2.new hN36)))))
  clear hS hT hbs hbt hn6 hz6 hgs hgt H4 H5 H6 HA hN36
  refine (from_h 4294967296 W6 (by omega) (by omega)).mono ?_
  rintro e w7 ⟨s7, A7, n7, c7, rfl, H7⟩
  go_wp2_with fail
  refine (from_h 4294967296 w7 (by omega) (by omega)).mono ?_
  rintro e w8 ⟨s8, A8, n8, c8, rfl, H8⟩
  go_wp2_with fail
  have hmul := wmul_any _ _ 4294967296 4294967296 w8 (H7.out.1.new H8.out.2) H8.out.1 (small_1000 (by omega) (by omega)) (small_1000 (by omega) (by omega))
  rw [show (4294967296 : Int) * 4294967296 = 18446744073709551616 by rfl, (rg_in (small_top (z := 18446744073709551616) (by omega) (by omega))).1, (rg_in (small_top (z := 18446744073709551616) (by omega) (by omega))).2] at hmul
  refine hmul.mono ?_
  rintro e w9 ⟨s9, A9, n9, c9, rfl, H9⟩
  clear hmul
  go_wp2_with fail
  refine Calls.new1 ?_
  intro W9 hbx hn9 hz9
  obtain ⟨gx, hgx⟩ : ∃ x, w9.heap.size = x := ⟨_, rfl⟩
  rw [hgx] at hbx
  simp only [hgx]
  have hX : WB W9 gx 18446744073709551616 := ⟨_, _, _, _, hbx, H9.out.1.new hn9⟩
  have hN69 : New W6 W9 := ((H7.out.2.new H8.out.2).new H9.out.2).new hn9
  have HC := Lib.hid (And.intro (HB.out.1.new hN69) (And.intro (HB.out.2.1.new hN69) (And.intro (HB.out.2.2.1.new hN69) (And.intro (HB.out.2.2.2.1.new hN69) (And.intro hX (HB.out.2.2.2.2.new hN69))))))
  have hsm := wsmall_any _ 18446744073709551616 W9 (H9.out.1.new hn9)
  rw [show intIf 18446744073709551616 = 0 by decide, show isInt 18446744073709551616 = false by decide] at hsm
  clear hX hbx hn9 hz9 hgx H7 H8 H9 HB hN69
  refine hsm.mono ?_
  rintro e w10 ⟨rfl, hn10⟩
  have HN10 := Lib.hid hn10
  clear hsm hn10
  go_wp2_with fail
  refine (wparse_bad ⟨#[45, 48]⟩ [45, 48] rfl (by decide) bad_minus_zero w10).mono ?_
  rintro e w11 ⟨rfl, hn11⟩
  have HN11 := Lib.hid (HN10.out.new hn11)
  clear hn11 HN10
  go_wp2_with fail
  refine Calls.new1 ?_
  intro W11 hb11 hn11 hz11
  refine (wparse_bad ⟨#[48, 49]⟩ [48, 49] rfl (by decide) bad_zero_one W11).mono ?_
  rintro e w12 ⟨rfl, hn12⟩
  have hn912 : New W9 (w12.alloc (.cells #[.bool false, .slice none 0 0] 29)) := ((HN11.out.new hn11).new hn12).alloc _
  have HD := Lib.hid (And.intro (HC.out.1.new hn912) (And.intro (HC.out.2.1.new hn912) (And.intro (HC.out.2.2.1.new hn912) (And.intro (HC.out.2.2.2.1.new hn912) (And.intro (HC.out.2.2.2.2.1.new hn912) (HC.out.2.2.2.2.2.new hn912))))))
  clear hn11 hz11 hb11 hn12 hn912 HN11 HC
  obtain ⟨x1, X1, p1, r1, hb1, hw1⟩ := HD.out.1
  have hk10 := hb1.cell 0 (u := .bool x1) rfl
  have hk11 := hb1.cell 1 (u := .slice X1 p1 r1) rfl
  have hs1 := wstring_any _ (-4) _ hw1 (HT.out.new HD.out.2.2.2.2.2) (small_900 (by omega) (by omega))
  obtain ⟨b1, hbb1⟩ : ∃ b, St (Txt.text (-4)) = b := ⟨_, rfl⟩
  rw [hbb1] at hs1
  have he1 := eq_lit hbb1 (text_neg [52] 4 (formed_of _ 52 [] rfl (by decide) (by decide)) (by decide) (by decide))
  have he1' : b1.toList = [45, 52] := by simpa using he1
  have HS1 := Lib.hid hs1
  have HE1 := Lib.hid he1'
  clear hb1 hw1 hs1 hbb1 he1'
  go_wp2_with fail
  refine HS1.out.mono ?_
  rintro e v1 ⟨rfl, hn1⟩
  have HD2 := Lib.hid (And.intro (HD.out.2.1.new hn1) (And.intro (HD.out.2.2.1.new hn1) (And.intro (HD.out.2.2.2.1.new hn1) (And.intro (HD.out.2.2.2.2.1.new hn1) (HD.out.2.2.2.2.2.new hn1)))))
  clear hn1 hk10 hk11 HS1
  obtain ⟨x2, X2, p2, r2, hb2, hw2⟩ := HD2.out.1
  have hk20 := hb2.cell 0 (u := .bool x2) rfl
  have hk21 := hb2.cell 1 (u := .slice X2 p2 r2) rfl
  have hs2 := wstring_any _ (1) _ hw2 (HT.out.new HD2.out.2.2.2.2) (small_900 (by omega) (by omega))
  obtain ⟨b2, hbb2⟩ : ∃ b, St (Txt.text (1)) = b := ⟨_, rfl⟩
  rw [hbb2] at hs2
  have he2 := eq_lit hbb2 (text_pos [49] 1 (formed_of _ 49 [] rfl (by decide) (by decide)) (by decide))
  have he2' : b2.toList = [49] := by simpa using he2
  have HS2 := Lib.hid hs2
  have HE2 := Lib.hid he2'
  clear hb2 hw2 hs2 hbb2 he2'
  go_wp2_with fail
  refine HS2.out.mono ?_
  rintro e v2 ⟨rfl, hn2⟩
  have HD3 := Lib.hid (And.intro (HD2.out.2.1.new hn2) (And.intro (HD2.out.2.2.1.new hn2) (And.intro (HD2.out.2.2.2.1.new hn2) (HD2.out.2.2.2.2.new hn2))))
  clear hn2 hk20 hk21 HS2
  obtain ⟨x3, X3, p3, r3, hb3, hw3⟩ := HD3.out.1
  have hk30 := hb3.cell 0 (u := .bool x3) rfl
  have hk31 := hb3.cell 1 (u := .slice X3 p3 r3) rfl
  have hs3 := wstring_any _ (-3) _ hw3 (HT.out.new HD3.out.2.2.2) (small_900 (by omega) (by omega))
  obtain ⟨b3, hbb3⟩ : ∃ b, St (Txt.text (-3)) = b := ⟨_, rfl⟩
  rw [hbb3] at hs3
  have he3 := eq_lit hbb3 (text_neg [51] 3 (formed_of _ 51 [] rfl (by decide) (by decide)) (by decide) (by decide))
  have he3' : b3.toList = [45, 51] := by simpa using he3
  have HS3 := Lib.hid hs3
  have HE3 := Lib.hid he3'
  clear hb3 hw3 hs3 hbb3 he3'
  go_wp2_with fail
  refine HS3.out.mono ?_
  rintro e v3 ⟨rfl, hn3⟩
  have HD4 := Lib.hid (And.intro (HD3.out.2.1.new hn3) (And.intro (HD3.out.2.2.1.new hn3) (HD3.out.2.2.2.new hn3)))
  clear hn3 hk30 hk31 HS3
  obtain ⟨x4, X4, p4, r4, hb4, hw4⟩ := HD4.out.1
  have hk40 := hb4.cell 0 (u := .bool x4) rfl
  have hk41 := hb4.cell 1 (u := .slice X4 p4 r4) rfl
  have hs4 := wstring_any _ (1) _ hw4 (HT.out.new HD4.out.2.2) (small_900 (by omega) (by omega))
  obtain ⟨b4, hbb4⟩ : ∃ b, St (Txt.text (1)) = b := ⟨_, rfl⟩
  rw [hbb4] at hs4
  have he4 := eq_lit hbb4 (text_pos [49] 1 (formed_of _ 49 [] rfl (by decide) (by decide)) (by decide))
  have he4' : b4.toList = [49] := by simpa using he4
  have HS4 := Lib.hid hs4
  have HE4 := Lib.hid he4'
  clear hb4 hw4 hs4 hbb4 he4'
  go_wp2_with fail
  refine HS4.out.mono ?_
  rintro e v4 ⟨rfl, hn4⟩
  have HD5 := Lib.hid (And.intro (HD4.out.2.1.new hn4) (HD4.out.2.2.new hn4))
  clear hn4 hk40 hk41 HS4
  obtain ⟨x5, X5, p5, r5, hb5, hw5⟩ := HD5.out.1
  have hk50 := hb5.cell 0 (u := .bool x5) rfl
  have hk51 := hb5.cell 1 (u := .slice X5 p5 r5) rfl
  have hs5 := wstring_any _ (18446744073709551616) _ hw5 (HT.out.new HD5.out.2) (small_900 (by omega) (by omega))
  obtain ⟨b5, hbb5⟩ : ∃ b, St (Txt.text (18446744073709551616)) = b := ⟨_, rfl⟩
  rw [hbb5] at hs5
  have he5 := eq_lit hbb5 (text_pos [49, 56, 52, 52, 54, 55, 52, 52, 48, 55, 51, 55, 48, 57, 53, 53, 49, 54, 49, 54] 18446744073709551616 (formed_of _ 49 [56, 52, 52, 54, 55, 52, 52, 48, 55, 51, 55, 48, 57, 53, 53, 49, 54, 49, 54] rfl (by decide) (by decide)) (by decide))
  have he5' : b5.toList = [49, 56, 52, 52, 54, 55, 52, 52, 48, 55, 51, 55, 48, 57, 53, 53, 49, 54, 49, 54] := by simpa using he5
  have HS5 := Lib.hid hs5
  have HE5 := Lib.hid he5'
  clear hb5 hw5 hs5 hbb5 he5'
  go_wp2_with fail
  refine HS5.out.mono ?_
  rintro e v5 ⟨rfl, hn5⟩
  have HF := Lib.hid (HD5.out.2.new hn5)
  clear hn5 hk50 hk51 HS5
  go_wp2
  go_ret
  exact ⟨rfl, HF.out⟩
end Go.Proofs.YtgofjkppeobjfaaGreatDoor

namespace Go.Proofs.YtgofjkppeobjfaaGreatDoor
set_option linter.unusedVariables false
open Go.RowKit Go.Mem Go.Dig

def pw2 (k : Nat) : Nat := 2 ^ k
/-- Far inside the range. -/
def Sm (z : Int) : Prop := z.natAbs < pw2 3000
theorem pw2_le {a b : Nat} (h : a ≤ b) : pw2 a ≤ pw2 b := Nat.pow_le_pow_right (by omega) h
theorem pw2_add (a b : Nat) : pw2 (a + b) = pw2 a * pw2 b := Nat.pow_add 2 a b
theorem powN_pw2 (k : Nat) : powN k = pw2 (32 * k) := powN_two k _ rfl
theorem topN_pw2 : topN = pw2 16384 := powN_pw2 512
theorem Sm.of {z : Int} {k : Nat} (h : z.natAbs < pw2 k) (hk : k ≤ 3000) : Sm z := Nat.lt_of_lt_of_le h (pw2_le hk)
theorem Sm.top {z : Int} (h : Sm z) : z.natAbs < topN := by rw [topN_pw2]; exact Nat.lt_of_lt_of_le h (pw2_le (by decide))
theorem Sm.dmax {z : Int} (h : Sm z) : z.natAbs < dmax := Nat.lt_of_lt_of_le h.top (Nat.le_trans (Nat.le_add_right _ _) top_dmax)
theorem Sm.pk {z : Int} (h : Sm z) (k : Nat) (hk : 3000 ≤ k) : z.natAbs < 2 ^ k := Nat.lt_of_lt_of_le h (pw2_le hk)
theorem Sm.p9 {z : Int} (h : Sm z) : z.natAbs < 2 ^ 900000 := h.pk 900000 (by decide)
theorem Sm.p10 {z : Int} (h : Sm z) : z.natAbs < 2 ^ 1000000 := h.pk 1000000 (by decide)
theorem natAbs_add_lt {x y : Int} {a : Nat} (hx : x.natAbs < pw2 a) (hy : y.natAbs < pw2 a) : (x + y).natAbs < pw2 (a + 1) := by
  have : pw2 (a + 1) = pw2 a * 2 := pw2_add a 1
  omega
theorem natAbs_sub_lt {x y : Int} {a : Nat} (hx : x.natAbs < pw2 a) (hy : y.natAbs < pw2 a) : (x - y).natAbs < pw2 (a + 1) := by
  have : pw2 (a + 1) = pw2 a * 2 := pw2_add a 1
  omega
theorem natAbs_mul_lt {x y : Int} {a b : Nat} (hx : x.natAbs < pw2 a) (hy : y.natAbs < pw2 b) : (x * y).natAbs < pw2 (a + b) := by
  rw [Int.natAbs_mul, pw2_add]
  exact Nat.mul_lt_mul'' hx hy
theorem num_lt (l : List Int) (at_ : Nat) : (numI l at_).natAbs < pw2 230 := numI_bnd l at_
theorem num_sm (l : List Int) (at_ : Nat) : Sm (numI l at_) := Sm.of (num_lt l at_) (by decide)
theorem rgE_sm {z : Int} (h : Sm z) : rg z = z ∧ rgE z = 0 := rg_in h.top

/-- A struct of the reference, of package wide, in a block. -/
def RX (w : World) (g : Nat) (s : Bool) (A : Option Addr) (n c : Nat) (z : Int) : Prop := Blk w g 24 #[.bool s, .slice A n c] ∧ RN w (.agg #[.bool s, .slice A n c]) z
def WX (w : World) (g : Nat) (s : Bool) (A : Option Addr) (n c : Nat) (z : Int) : Prop := Blk w g 29 #[.bool s, .slice A n c] ∧ WI w (.agg #[.bool s, .slice A n c]) z
theorem RX.new {w w' : World} {g : Nat} {s : Bool} {A : Option Addr} {n c : Nat} {z : Int} (h : RX w g s A n c z) (hn : New w w') : RX w' g s A n c z := ⟨h.1.chg hn (fun h => h), h.2.new hn⟩
theorem WX.new {w w' : World} {g : Nat} {s : Bool} {A : Option Addr} {n c : Nat} {z : Int} (h : WX w g s A n c z) (hn : New w w') : WX w' g s A n c z := ⟨h.1.chg hn (fun h => h), h.2.new hn⟩
theorem RX.c0 {w : World} {g : Nat} {s : Bool} {A : Option Addr} {n c : Nat} {z : Int} (h : RX w g s A n c z) : w.cell? ⟨g, 0, none⟩ = some (.bool s) := h.1.cell 0 rfl
theorem RX.c1 {w : World} {g : Nat} {s : Bool} {A : Option Addr} {n c : Nat} {z : Int} (h : RX w g s A n c z) : w.cell? ⟨g, 1, none⟩ = some (.slice A n c) := h.1.cell 1 rfl
theorem WX.c0 {w : World} {g : Nat} {s : Bool} {A : Option Addr} {n c : Nat} {z : Int} (h : WX w g s A n c z) : w.cell? ⟨g, 0, none⟩ = some (.bool s) := h.1.cell 0 rfl
theorem WX.c1 {w : World} {g : Nat} {s : Bool} {A : Option Addr} {n c : Nat} {z : Int} (h : WX w g s A n c z) : w.cell? ⟨g, 1, none⟩ = some (.slice A n c) := h.1.cell 1 rfl

/-- A call that returns a struct of the reference; of package wide; the latter with a number or a bool behind it. -/
def RetR (w : World) (z : Int) (e : Ending) (w' : World) : Prop := ∃ s A n c, e = .returned (.agg #[.bool s, .slice A n c]) ∧ Hid (RN w' (.agg #[.bool s, .slice A n c]) z ∧ New w w')
def RetW (w : World) (z : Int) (e : Ending) (w' : World) : Prop := ∃ s A n c, e = .returned (.agg #[.bool s, .slice A n c]) ∧ Hid (WI w' (.agg #[.bool s, .slice A n c]) z ∧ New w w')
def RetWV (w : World) (z : Int) (u : Value) (e : Ending) (w' : World) : Prop := ∃ s A n c, e = .returned (.tuple #[.agg #[.bool s, .slice A n c], u]) ∧ Hid (WI w' (.agg #[.bool s, .slice A n c]) z ∧ New w w')
def RetWW (w : World) (z z' : Int) (u : Value) (e : Ending) (w' : World) : Prop := ∃ s A n c s' A' n' c', e = .returned (.tuple #[.agg #[.bool s, .slice A n c], .agg #[.bool s', .slice A' n' c'], u]) ∧ Hid (WI w' (.agg #[.bool s, .slice A n c]) z ∧ WI w' (.agg #[.bool s', .slice A' n' c']) z' ∧ New w w')
def RetV (w : World) (u : Value) (e : Ending) (w' : World) : Prop := e = .returned u ∧ Hid (New w w')

variable {w : World} {v v' : Value} {x y z : Int}
theorem wider_s (w : World) (v : Value) (z : Int) (hv : RN w v z) (hz : Sm z) : Calls Tryz.prog 7 #[v] w (RetWV w z (.bool true)) := by
  have h := wider_any v z w hv hz.dmax true (by rw [(rgE_sm hz).2]; rfl)
  rwa [(rgE_sm hz).1] at h
theorem equal_s (w : World) (v v' : Value) (x : Int) (hx : WI w v x) (ha : RN w v' x) (hpt : PowTab w) (hz : Sm x) : Calls Tryz.prog 9 #[v, v'] w (RetV w (.bool true)) :=
  equal_any v v' x x w hx ha hpt hz.dmax hz.dmax true (by simp)
theorem lives_s (w : World) (hpt : PowTab w) : Calls Tryz.prog 12 #[] w (RetV w (.bool true)) := lives3_any w hpt
theorem wadd_s (w : World) (v v' : Value) (x y : Int) (hx : WI w v x) (hy : WI w v' y) (bx : Sm x) (bY : Sm y) (bz : Sm (x + y)) : Calls Tryz.prog 23 #[v, v'] w (RetWV w (x + y) (.int .i64 0)) := by
  have h := wadd_any v v' x y w hx hy bx.p10 bY.p10
  rwa [(rgE_sm bz).1, (rgE_sm bz).2] at h
theorem wsub_s (w : World) (v v' : Value) (x y : Int) (hx : WI w v x) (hy : WI w v' y) (bx : Sm x) (bY : Sm y) (bz : Sm (x - y)) : Calls Tryz.prog 24 #[v, v'] w (RetWV w (x - y) (.int .i64 0)) := by
  have h := wsub_any v v' x y w hx hy bx.p10 bY.p10
  rwa [(rgE_sm bz).1, (rgE_sm bz).2] at h
theorem wmul_s (w : World) (v v' : Value) (x y : Int) (hx : WI w v x) (hy : WI w v' y) (bx : Sm x) (bY : Sm y) (bz : Sm (x * y)) : Calls Tryz.prog 25 #[v, v'] w (RetWV w (x * y) (.int .i64 0)) := by
  have h := wmul_any v v' x y w hx hy bx.p10 bY.p10
  rwa [(rgE_sm bz).1, (rgE_sm bz).2] at h
theorem wdiv_s (w : World) (v v' : Value) (x y : Int) (hx : WI w v x) (hy : WI w v' y) (bx : Sm x) (bY : Sm y) (h0 : y ≠ 0) : Calls Tryz.prog 13 #[v, v'] w (RetWW w (x / y) (x % y) (.int .i64 0)) :=
  wdiv_any v v' x y w hx hy bx.p9 bY.p9 h0
theorem number_s (A : Option Addr) (n c : Nat) (l : List Int) (hl : ∀ z ∈ l, -9223372036854775808 ≤ z ∧ z ≤ 9223372036854775807) (w : World) (hr : Rd w A n (is l)) (hn : n ≤ 9223372036854775807) :
    Calls Tryz.prog 5 #[.slice A n c, .int .i64 0] w (RetR w (numI l 0)) ∧ Calls Tryz.prog 5 #[.slice A n c, .int .i64 6] w (RetR w (numI l 6)) ∧ Calls Tryz.prog 5 #[.slice A n c, .int .i64 12] w (RetR w (numI l 12)) :=
  ⟨number_any A n c l hl 0 (by omega) w hr hn, number_any A n c l hl 6 (by omega) w hr hn, number_any A n c l hl 12 (by omega) w hr hn⟩
theorem radd_s (w : World) (v v' : Value) (x y : Int) (hx : RN w v x) (hy : RN w v' y) (bx : Sm x) (bY : Sm y) : Calls Tryz.prog 26 #[v, v'] w (RetR w (x + y)) := radd_h v v' x y w hx hy bx.p10 bY.p10
theorem rmul_s (w : World) (v v' : Value) (x y : Int) (hx : RN w v x) (hy : RN w v' y) (bx : Sm x) (bY : Sm y) : Calls Tryz.prog 6 #[v, v'] w (RetR w (x * y)) := rmul_h v v' x y w hx hy bx.p10 bY.p10
theorem rsub_s (w : World) (v v' : Value) (x y : Int) (hx : RN w v x) (hy : RN w v' y) (bx : Sm x) (bY : Sm y) : Calls Tryz.prog 27 #[v, v'] w (RetR w (x - y)) :=
  (rsub_any v v' x y w hx hy bx.p10 bY.p10).mono fun e w' ⟨v, h1, ⟨s, A, n, c, h2, h3, h4⟩, h5⟩ => ⟨s, A, n, c, by rw [h1, h2], ⟨s, A, n, c, rfl, h3, h4⟩, h5⟩
end Go.Proofs.YtgofjkppeobjfaaGreatDoor

namespace Go.Proofs.YtgofjkppeobjfaaGreatDoor
set_option linter.unusedVariables false
open Go.RowKit Go.Mem Go.Dig

theorem compare_s (w : World) (v v' : Value) (x y c : Int) (hx : WI w v x) (hy : WI w v' y) (hc : cmpI x y = c) : Calls Tryz.prog 14 #[v, v'] w (RetV w (.int .i64 c)) := by
  subst hc; exact compare_any v v' x y w hx hy
theorem sign_s (w : World) (v : Value) (x c : Int) (hx : WI w v x) (hc : cmpI x 0 = c) : Calls Tryz.prog 11 #[v] w (RetV w (.int .i64 c)) := by
  subst hc; exact sign_any v x w hx
theorem neg_s (w : World) (v : Value) (x : Int) (hx : WI w v x) : Calls Tryz.prog 48 #[v] w (RetW w (-x)) :=
  (neg_any v x w hx).mono fun e w' ⟨v, h1, ⟨s, A, n, c, h2, h3, h4⟩, h5⟩ => ⟨s, A, n, c, by rw [h1, h2], ⟨s, A, n, c, rfl, h3, h4⟩, h5⟩
theorem string_s (w : World) (v : Value) (z : Int) (b : ByteArray) (hb : St (Txt.text z) = b) (hv : WI w v z) (hpt : PowTab w) (hz : Sm z) : Calls Tryz.prog 34 #[v] w (RetV w (.string b)) := by
  subst hb; exact wstring_any v z w hv hpt hz.p9
theorem wdiv0_s (w : World) (v v' : Value) (x : Int) (hx : WI w v x) (hy : WI w v' 0) : Calls Tryz.prog 13 #[v, v'] w (RetWW w 0 0 (.int .i64 1)) :=
  (wdiv_zero v v' x w hx hy).mono fun e w' ⟨h1, h2⟩ => ⟨_, _, _, _, _, _, _, _, h1, WI.zero _, WI.zero _, h2⟩
theorem Sm.quo {x y : Int} (hx : Sm x) : Sm (x / y) ∨ y = 0 ∨ True := .inr (.inr trivial)
theorem natAbs_div_le (x y : Int) {a : Nat} (hx : x.natAbs < pw2 a) : (x / y).natAbs < pw2 (a + 1) := by
  have : pw2 (a + 1) = pw2 a * 2 := pw2_add a 1
  have h1 : 1 ≤ pw2 a := Nat.one_le_two_pow
  have h := Int.natAbs_ediv_le_natAbs x y
  omega
theorem natAbs_mod_lt (x y : Int) (h0 : y ≠ 0) {a : Nat} (hy : y.natAbs < pw2 a) : (x % y).natAbs < pw2 a := by
  have h1 := Int.emod_nonneg x h0
  have h2 := Int.emod_lt x h0
  omega
end Go.Proofs.YtgofjkppeobjfaaGreatDoor

namespace Go.Proofs.YtgofjkppeobjfaaGreatDoor
set_option linter.unusedVariables false
open Go.RowKit Go.Mem Go.Dig Go.Pure

theorem pw900 (m : Nat) {k : Nat} (h : m < 2 ^ k) : m < 4294967296 ^ k :=
  Nat.lt_of_lt_of_le h (Nat.pow_le_pow_left (by omega) k)

set_option maxRecDepth 100000 in
set_option maxHeartbeats 1000000 in
theorem wgcd_any (v v' : Value) (x y : Int) (w : World) (hx : WI w v x) (hy : WI w v' y) (bx : x.natAbs < 2 ^ 900000) (bY : y.natAbs < 2 ^ 900000) :
    Calls Tryz.prog 8 #[v, v'] w fun e w' => ∃ s A n c, e = .returned (.agg #[.bool s, .slice A n c]) ∧ Hid (WI w' (.agg #[.bool s, .slice A n c]) ((Int.gcd x y : Nat) : Int) ∧ New w w') := by
  obtain ⟨s, A, n, c, rfl, hs, hm⟩ := hx
  obtain ⟨t, A', n', c', rfl, ht, hm'⟩ := hy
  have H0 := Lib.hid (And.intro hm (And.intro hm' (And.intro bx bY)))
  clear hs hm ht hm' bx bY
  go_enter Tryz.func8, Tryz.ntmps8
  go_upto_region 1 with fail
  refine Code.new3 ?_
  intro W hb1 hb2 hb3 hnW hzW
  have c20 := hb1.cell 1 (u := .slice A n c) rfl
  have c30 := hb2.cell 1 (u := .slice A' n' c') rfl
  have HW := Lib.hid (And.intro hb3 hnW)
  clear hb1 hb2 hb3 hnW hzW
  go_quiet (fail)
  clear c20 c30
  go_wp2_with fail
  go_loopg [5, 6, 7, 8] y.natAbs (fun k s5 s6 _ _ wr => ∃ (B : Option Addr) (m d : Nat) (B' : Option Addr) (m' d' : Nat), s5 = .slice B m d ∧ s6 = .slice B' m' d' ∧ Hid (∃ X, WM wr B m d X ∧ WM wr B' m' d' k ∧ X < 2 ^ 900000 ∧ k < 2 ^ 900000 ∧ Nat.gcd X k = Nat.gcd x.natAbs y.natAbs) ∧ Hid (New W wr))
  case atStart => exact ⟨A, n, c, A', n', c', rfl, rfl, ⟨x.natAbs, (H0.out.1.new HW.out.2).new ((Chg.refl _ _).drewN _), (H0.out.2.1.new HW.out.2).new ((Chg.refl _ _).drewN _), H0.out.2.2.1, H0.out.2.2.2, rfl⟩, (Chg.refl _ _).drewN _⟩
  case round =>
    obtain ⟨B, m, d, B', m', d', rfl, rfl, HI, HN⟩ := hrel
    obtain ⟨wo, rfl⟩ : ∃ wo : World, wo = wr := ⟨_, rfl⟩
    obtain ⟨X, hX, hk, bX, bk, hg⟩ := HI.out
    by_cases h0 : m' = 0
    · subst h0
      obtain rfl : gk = 0 := hk.pos.1 rfl
      rw [Nat.gcd_zero_right] at hg
      obtain ⟨l, hr, hnc, hcc, hNum⟩ := hX
      have hmade := made_wi false B m d l wo hr hNum.digs hnc hcc
      rw [hNum.val, hg] at hmade
      have HM := Lib.hid (hmade)
      have HB := HW.out.1.chg HN.out (fun h => h)
      clear hmade hr hnc hcc hNum hg hk HI bX bk
      go_wp2_with fail
      refine HM.out.mono ?_
      rintro e w5 ⟨v5, rfl, ⟨s5, A5, n5, c5, rfl, hs5, hm5⟩, hn5⟩
      have hb5 := HB.chg hn5 (fun h => h)
      have g0 := hb5.cell 0 rfl
      have g1 := hb5.cell 1 rfl
      have f0 := hb5.frozen 0
      have f1 := hb5.frozen 1
      have hw5 : WI w5 (.agg #[.bool s5, .slice A5 n5 c5]) ((Int.gcd x y : Nat) : Int) := ⟨s5, A5, n5, c5, rfl, hs5, hm5⟩
      have H5 := Lib.hid (And.intro hb5 (And.intro hw5 hn5))
      clear hb5 hw5 hs5 hm5 hn5 HM HB
      go_wp2
      refine bodyPost_ret (res_c rfl _ rfl (aggInt.load (H5.out.1.set2 _ _))) rfl ⟨s5, A5, n5, c5, rfl, H5.out.2.1.store H5.out.1 (noInt_two _ _ _ _) (Chg.at2 _ _ _ _), ?_⟩
      exact Chg.owned ((HW.out.2.new HN.out).new H5.out.2.2) (Chg.at2 _ _ _ _) (fun k e => by omega)
    · have hpos : (0 : Int) < (m' : Int) := by omega
      have hk0 : 1 ≤ gk := by have := hk.pos; omega
      have hdiv := divMag_any B m d B' m' d' X gk wo hX hk (hX.len (k := 900000) (pw900 (k := 900000) X bX)) hk0
      have HD := Lib.hid hdiv
      have HK := Lib.hid (And.intro hk (And.intro hk0 (And.intro bk hg)))
      clear hdiv hX hk hk0 bX bk hg HI h0
      go_wp2_with fail
      refine HD.out.mono ?_
      rintro e w5 ⟨Q, nq', cq, R, nr, cr, rfl, H5⟩
      go_wp2_with fail
      go_roundg (X % gk)
      case measure => exact Nat.mod_lt _ HK.out.2.1
      case rel =>
        refine ⟨B', m', d', R, nr, cr, rfl, rfl, ⟨gk, HK.out.1.new H5.out.2.2, H5.out.2.1, HK.out.2.2.1, Nat.lt_trans (m := gk) (Nat.mod_lt _ HK.out.2.1) HK.out.2.2.1, ?_⟩, HN.out.new H5.out.2.2⟩
        rw [← HK.out.2.2.2, Nat.gcd_comm X gk, Nat.gcd_rec gk X, Nat.gcd_comm]
end Go.Proofs.YtgofjkppeobjfaaGreatDoor

namespace Go.Proofs.YtgofjkppeobjfaaGreatDoor
set_option linter.unusedVariables false
open Go.RowKit Go.Mem Go.Dig

theorem normal_h (A : Option Addr) (n c m : Nat) (W : World) (hm : DM W A n c m) :
    Calls Tryz.prog 31 #[.bool false, .slice A n c] W fun e w' => ∃ A n c, e = .returned (.agg #[.bool false, .slice A n c]) ∧ Hid (RN w' (.agg #[.bool false, .slice A n c]) (m : Int) ∧ New W w') := by
  obtain ⟨l, hr, h1, h2, hN⟩ := hm
  refine (normal_dm A n c l W hr hN.digs h1 h2).mono ?_
  rintro e w' ⟨T, rfl, hd, -, hn⟩
  rw [hN.val] at hd
  exact ⟨_, _, _, rfl, ⟨false, _, _, _, rfl, by simp, by simpa using hd⟩, hn⟩
theorem rdiv_h (v v' : Value) (x y : Int) (W : World) (hx : RN W v x) (hy : RN W v' y) (bx : x.natAbs < 2 ^ 1000000) (bY : y.natAbs < 2 ^ 900000) (h0 : y ≠ 0) :
    Calls Tryz.prog 35 #[v, v'] W fun e w' => ∃ s A n c s' A' n' c', e = .returned (.tuple #[.agg #[.bool s, .slice A n c], .agg #[.bool s', .slice A' n' c']]) ∧ Hid (RN w' (.agg #[.bool s, .slice A n c]) (x / y) ∧ RN w' (.agg #[.bool s', .slice A' n' c']) (x % y) ∧ New W w') :=
  (rdiv_any v v' x y W hx hy bx bY h0).mono fun e w' ⟨v, v', h1, ⟨s, A, n, c, h2, h3, h4⟩, ⟨s', A', n', c', h2', h3', h4'⟩, h5⟩ => ⟨s, A, n, c, s', A', n', c', by rw [h1, h2, h2'], ⟨s, A, n, c, rfl, h3, h4⟩, ⟨s', A', n', c', rfl, h3', h4'⟩, h5⟩
theorem pow_le900 {x k : Nat} (h : x < 2 ^ k) (m : Nat) (hk : k ≤ m) : x < 2 ^ m := Nat.lt_of_lt_of_le h (Nat.pow_le_pow_right (by omega) hk)
theorem RN.len0' {w : World} {s : Bool} {A : Option Addr} {n c : Nat} {z : Int} (h : RN w (.agg #[.bool s, .slice A n c]) z) : n = 0 ↔ z = 0 := by
  obtain ⟨s', A', n', c', he, hs, hm⟩ := h
  simp only [Value.agg.injEq, Array.mk.injEq, List.cons.injEq, Value.slice.injEq, Value.bool.injEq] at he
  obtain ⟨-, ⟨-, rfl, -⟩, -⟩ := he
  have := hm.pos
  omega

theorem RN.store22 {W : World} {v : Value} {z : Int} {g g' : Nat} {t t' : TypeId} {a b c d : Value} (hm : RN W v z) (h : Blk W g t #[a, b]) (h' : Blk W g' t' #[c, d]) (hne : g ≠ g') (hi : NoInt [a, b]) (hi' : NoInt [c, d]) (p q r u : Value) : RN (set22 W g g' p q r u) v z := by
  obtain ⟨s, A, n, k, h1, h2, h3⟩ := hm
  exact ⟨s, A, n, k, h1, h2, h3.store22 h h' hne hi hi' p q r u⟩

/-- What the loop of Gcd holds: the boxes g5, g6, and the one of the result. -/
def GcW (w : World) (g4 g5 g6 : Nat) (x y : Int) (k : Nat) (wr : World) : Prop :=
  ∃ s A n c s' A' n' c' X, Blk wr g5 24 #[.bool s, .slice A n c] ∧ RN wr (.agg #[.bool s, .slice A n c]) ((X : Nat) : Int) ∧ Blk wr g6 24 #[.bool s', .slice A' n' c'] ∧ RN wr (.agg #[.bool s', .slice A' n' c']) (k : Int) ∧
    Blk wr g4 24 #[.bool false, .slice none 0 0] ∧ New w wr ∧ X < 2 ^ 900000 ∧ k < 2 ^ 900000 ∧ Nat.gcd X k = Nat.gcd x.natAbs y.natAbs

set_option maxRecDepth 100000 in
set_option maxHeartbeats 1000000 in
theorem rgcd_any (v v' : Value) (x y : Int) (w : World) (hx : RN w v x) (hy : RN w v' y) (bx : x.natAbs < 2 ^ 900000) (bY : y.natAbs < 2 ^ 900000) :
    Calls Tryz.prog 10 #[v, v'] w fun e w' => ∃ s A n c, e = .returned (.agg #[.bool s, .slice A n c]) ∧ Hid (RN w' (.agg #[.bool s, .slice A n c]) ((Int.gcd x y : Nat) : Int) ∧ New w w') := by
  obtain ⟨s, A, n, c, rfl, hs, hm⟩ := hx
  obtain ⟨t, A', n', c', rfl, ht, hm'⟩ := hy
  have H0 := Lib.hid (And.intro hm (And.intro hm' (And.intro bx bY)))
  clear hs hm ht hm' bx bY
  go_enter Tryz.func10, Tryz.ntmps10
  go_wp2_with fail
  refine Calls.new3 ?_
  intro W hb2 hb3 hb4 hnW hzW
  obtain ⟨g2, hg2⟩ : ∃ x, w.heap.size = x := ⟨_, rfl⟩
  obtain ⟨g3, hg3⟩ : ∃ x, w.heap.size + 1 = x := ⟨_, rfl⟩
  obtain ⟨g4, hg4⟩ : ∃ x, w.heap.size + 1 + 1 = x := ⟨_, rfl⟩
  rw [hg3] at hb3
  rw [hg4] at hb4
  simp only [hg4]
  simp only [hg3]
  simp only [hg2]
  have HW := Lib.hid (And.intro hb3 (And.intro hb4 (And.intro hnW (show w.heap.size ≤ g4 by omega))))
  clear hb2 hb3 hb4 hnW hzW hg2 hg3 hg4
  refine (normal_h A n c x.natAbs W (H0.out.1.new HW.out.2.2.1)).mono ?_
  rintro e w1 ⟨A1, n1, c1, rfl, H1⟩
  have c31 := (HW.out.1.chg (H1.out.2.alloc (.cells #[.bool false, .slice A1 n1 c1] 24)) (fun h => h)).cell 1 (u := .slice A' n' c') rfl
  go_wp2_with fail
  clear c31
  refine Calls.new1 ?_
  intro W2 hb5 hn2 hz2
  obtain ⟨g5, hg5⟩ : ∃ x, w1.heap.size = x := ⟨_, rfl⟩
  rw [hg5] at hb5
  simp only [hg5]
  have hnw : New w W2 := (HW.out.2.2.1.new H1.out.2).new hn2
  refine (normal_h A' n' c' y.natAbs W2 (H0.out.2.1.new hnw)).mono ?_
  rintro e w3 ⟨A3, n3, c3, rfl, H3⟩
  have h45 : g4 < g5 := by
    have := (HW.out.2.1.chg H1.out.2 (fun h => h)).lt
    omega
  have HX := Lib.hid (And.intro hb5 (And.intro hn2 hnw))
  clear hb5 hn2 hz2 hg5 hnw
  go_wp2_with fail
  refine Code.new1 ?_
  intro W4 hb6 hn4 hz4
  obtain ⟨g6, hg6⟩ : ∃ x, w3.heap.size = x := ⟨_, rfl⟩
  rw [hg6] at hb6
  simp only [hg6]
  have h56 : g5 < g6 := by
    have := (HX.out.1.chg H3.out.2 (fun h => h)).lt
    omega
  have hN4 : New W2 W4 := H3.out.2.new hn4
  have hS : GcW w g4 g5 g6 x y y.natAbs W4 := ⟨_, _, _, _, _, _, _, _, x.natAbs, HX.out.1.chg hN4 (fun h => h), (H1.out.1.new HX.out.2.1).new hN4, hb6, H3.out.1.new hn4, HW.out.2.1.chg ((H1.out.2.new HX.out.2.1).new hN4) (fun h => h), HX.out.2.2.new hN4, H0.out.2.2.1, H0.out.2.2.2, rfl⟩
  have HS := Lib.hid hS
  have HG := Lib.hid (And.intro h45 (And.intro h56 HW.out.2.2.2))
  clear hS hb6 hn4 hz4 hg6 hN4 h45 h56 HX H1 H3 HW H0
  go_loopg [7, 8] y.natAbs (fun k _ _ wr => Hid (GcW w g4 g5 g6 x y k wr))
  case atStart => exact HS.out
  case round =>
    obtain ⟨wo, rfl⟩ : ∃ wo : World, wo = wr := ⟨_, rfl⟩
    obtain ⟨sa, Aa, na, ca, sb, Ab, nb, cb, X, hb5, hX, hb6, hk, hb4, hnw, bX, bk, hg⟩ := Hid.out hrel
    by_cases h0 : nb = 0
    · subst h0
      obtain rfl : gk = 0 := by have := hk.len0'; omega
      rw [Nat.gcd_zero_right] at hg
      have k60 := hb6.cell 1 (u := .slice Ab 0 cb) rfl
      have k50 := hb5.cell 0 (u := .bool sa) rfl
      have k51 := hb5.cell 1 (u := .slice Aa na ca) rfl
      have k40 := hb4.cell 0 rfl
      have k41 := hb4.cell 1 rfl
      have f40 := hb4.frozen 0
      have f41 := hb4.frozen 1
      have HK := Lib.hid (And.intro hb4 (And.intro hX (And.intro hnw hg)))
      clear hb4 hX hnw hg hb5 hb6 hk bX bk hrel
      go_wp2
      refine bodyPost_ret (res_c rfl _ rfl (aggN.load (HK.out.1.set2 _ _))) rfl ⟨sa, Aa, na, ca, rfl, ?_, ?_⟩
      · have := HK.out.2.1.store HK.out.1 (noInt_two' _ _ _ _) (Chg.at2 _ g4 (.bool sa) (.slice Aa na ca))
        rwa [HK.out.2.2.2] at this
      · exact Chg.owned HK.out.2.2.1 (Chg.at2 _ _ _ _) (fun k e => by have := HG.out; omega)
    · have hpos : (0 : Int) < (nb : Int) := by omega
      have hgk : (gk : Int) ≠ 0 := by have := hk.len0'; omega
      have hdv := rdiv_h _ _ _ _ wo hX hk (pow_le900 (k := 900000) bX 1000000 (by decide)) bk hgk
      have k60 := hb6.cell 0 (u := .bool sb) rfl
      have k61 := hb6.cell 1 (u := .slice Ab nb cb) rfl
      have k50 := hb5.cell 0 (u := .bool sa) rfl
      have k51 := hb5.cell 1 (u := .slice Aa na ca) rfl
      have HD := Lib.hid hdv
      have HK := Lib.hid (And.intro hb5 (And.intro hb6 (And.intro hb4 (And.intro hk (And.intro hnw (And.intro bk (And.intro hg (show 1 ≤ gk by omega))))))))
      clear hdv hb5 hb6 hb4 hX hk hnw bX bk hg hgk hrel h0
      go_wp2_with fail
      refine HD.out.mono ?_
      rintro e w5 ⟨s5, A5, n5, c5, s6, A6, n6, c6, rfl, H5⟩
      clear k60 k61 k50 k51 HD
      go_upto_region 5 with fail
      refine Code.new2 ?_
      intro W7 hb7 hb8 hn7 hz7
      obtain ⟨g7, hg7⟩ : ∃ x, w5.heap.size = x := ⟨_, rfl⟩
      obtain ⟨g8, hg8⟩ : ∃ x, w5.heap.size + 1 = x := ⟨_, rfl⟩
      rw [hg8] at hb8
      simp only [hg8]
      simp only [hg7]
      have hn07 : New wo W7 := H5.out.2.2.new hn7
      have hb5 := HK.out.1.chg hn07 (fun h => h)
      have hb6 := HK.out.2.1.chg hn07 (fun h => h)
      have h68 : g6 < g8 := by
        have := (HK.out.2.1.chg H5.out.2.2 (fun h => h)).lt
        omega
      obtain ⟨h45, h56, h4w⟩ := HG.out
      have k80 := hb8.cell 0 (u := .bool s6) rfl
      have k81 := hb8.cell 1 (u := .slice A6 n6 c6) rfl
      have k60 := hb6.cell 0 (u := .bool sb) rfl
      have k61 := hb6.cell 1 (u := .slice Ab nb cb) rfl
      have k50 := hb5.cell 0 (u := .bool sa) rfl
      have k51 := hb5.cell 1 (u := .slice Aa na ca) rfl
      have f50 := hb5.frozen 0
      have f51 := hb5.frozen 1
      have f60 := hb6.frozen 0
      have f61 := hb6.frozen 1
      have n56 : ¬ g5 = g6 := by omega
      have n65 : ¬ g6 = g5 := by omega
      have n58 : ¬ g5 = g8 := by omega
      have n85 : ¬ g8 = g5 := by omega
      have HL := Lib.hid (And.intro hb5 (And.intro hb6 (And.intro (H5.out.2.1.new hn7) hn07)))
      clear hb5 hb6 hb7 hb8 hn7 hz7 hg7 hg8 hn07 H5
      go_wp2
      go_roundg (X % gk)
      case measure => exact Nat.mod_lt _ HK.out.2.2.2.2.2.2.2
      case rel =>
        have hbb := blk22 HL.out.1 HL.out.2.1 n56 (.bool sb) (.slice Ab nb cb) (.bool s6) (.slice A6 n6 c6)
        have hch := chg22 W7 g5 g6 (.bool sb) (.slice Ab nb cb) (.bool s6) (.slice A6 n6 c6)
        have hr6 := HL.out.2.2.1
        rw [← Int.natCast_emod] at hr6
        refine ⟨sb, Ab, nb, cb, s6, A6, n6, c6, gk, hbb.1, (HK.out.2.2.2.1.new HL.out.2.2.2).store22 HL.out.1 HL.out.2.1 n56 (noInt_two' _ _ _ _) (noInt_two' _ _ _ _) _ _ _ _, hbb.2, hr6.store22 HL.out.1 HL.out.2.1 n56 (noInt_two' _ _ _ _) (noInt_two' _ _ _ _) _ _ _ _, ?_, ?_, HK.out.2.2.2.2.2.1, Nat.lt_trans (m := gk) (Nat.mod_lt _ HK.out.2.2.2.2.2.2.2) HK.out.2.2.2.2.2.1, ?_⟩
        · exact (HK.out.2.2.1.chg HL.out.2.2.2 (fun h => h)).chg hch (by omega)
        · exact Chg.owned (HK.out.2.2.2.2.1.new HL.out.2.2.2) hch (fun k e => by omega)
        · rw [← HK.out.2.2.2.2.2.2.1, Nat.gcd_comm X gk, Nat.gcd_rec gk X, Nat.gcd_comm]
end Go.Proofs.YtgofjkppeobjfaaGreatDoor

namespace Go.Proofs.YtgofjkppeobjfaaGreatDoor
set_option linter.unusedVariables false
open Go.RowKit Go.Mem Go.Dig

theorem ten_two (k j m : Nat) (hm : 196 * k + 64 ≤ m) (hj : j ≤ 59 * k + 19) : tpow j ≤ 2 ^ m := by
  have h1 : tpow (59 * k) ≤ 2 ^ (196 * k) := by
    unfold tpow
    rw [Nat.pow_mul, Nat.pow_mul]
    exact Nat.pow_le_pow_left (by decide) k
  have h2 : tpow 19 ≤ 2 ^ 64 := by decide
  have h3 : tpow (59 * k + 19) ≤ 2 ^ (196 * k + 64) := by
    rw [tpow_add, Nat.pow_add]
    exact Nat.mul_le_mul h1 h2
  exact Nat.le_trans (Nat.pow_le_pow_right (by omega) hj) (Nat.le_trans h3 (Nat.pow_le_pow_right (by omega) hm))
theorem top_two : topN = 2 ^ 16384 := powN_two 512 16384 (by decide)
theorem tpow_4 (k : Nat) : 10000 ^ k = tpow (4 * k) := by
  unfold tpow
  rw [Nat.pow_mul]
theorem few_digits {n k m j : Nat} (h : n < 10000 ^ k) (hk : 4 * k = j) (hj : j ≤ 59 * m + 19) (M : Nat) (hm : 196 * m + 64 ≤ M) : n < 2 ^ M := by
  rw [tpow_4, hk] at h
  exact Nat.lt_of_lt_of_le h (ten_two m j M hm hj)

set_option maxRecDepth 100000 in
set_option maxHeartbeats 1000000 in
theorem fits_any (v : Value) (z : Int) (w : World) (hv : RN w v z) (E : Bool) (hE : decide (z.natAbs < topN) = E) :
    Calls Tryz.prog 28 #[v] w fun e w' => e = .returned (.bool E) ∧ New w w' := by
  obtain ⟨s, A, n, c, rfl, hs, hm⟩ := hv
  by_cases hn : n < 1230
  · have h1 : (n : Int) < 1230 := by omega
    have h2 : z.natAbs < topN := by
      rw [top_two]
      exact few_digits (k := 1229) (hm.lt (k := 1229) (by omega)) (j := 4916) (by decide) (m := 83) (by decide) 16384 (by decide)
    obtain rfl : true = E := by rw [← hE]; simp [h2]
    clear hs hm h2 hE
    go_enter Tryz.func28, Tryz.ntmps28
    go_wp2
    go_ret
    exact ⟨rfl, (Chg.refl _ w).alloc _⟩
  · have h1 : decide ((n : Int) < 1230) = false := by simp; omega
    have H0 := Lib.hid (And.intro hm hE)
    clear hs hm hE hn
    go_enter Tryz.func28, Tryz.ntmps28
    go_wp2_with fail
    refine Calls.new1 ?_
    intro W hb1 hnW hzW
    obtain ⟨K, hK⟩ : ∃ K : Nat, 16384 = K := ⟨_, rfl⟩
    have hpw := power_h K (by omega) W
    rw [show ((K : Nat) : Int) = 16384 by omega] at hpw
    refine hpw.mono ?_
    rintro e w2 ⟨s2, A2, n2, c2, rfl, H2⟩
    have c11 := (hb1.chg (H2.out.2.alloc (.cells #[.bool s2, .slice A2 n2 c2] 24)) (fun h => h)).cell 1 (u := .slice A n c) rfl
    have HW := Lib.hid hnW
    clear hb1 hnW hzW hpw
    go_wp2_with fail
    clear c11
    refine Calls.new1 ?_
    intro W3 hb3 hn3 hz3
    obtain ⟨s', A', n', c', he, hs', hm'⟩ := H2.out.1
    simp only [Value.agg.injEq, Array.mk.injEq, List.cons.injEq, Value.slice.injEq, Value.bool.injEq] at he
    obtain ⟨-, ⟨rfl, rfl, rfl⟩, -⟩ := he
    rw [Int.natAbs_natCast] at hm'
    have hcmp := compared_any A n c A2 n2 c2 _ _ W3 (H0.out.1.new ((HW.out.new H2.out.2).new hn3)) (hm'.new hn3)
    have hc0 : decide (cmpI (z.natAbs : Int) ((2 ^ K : Nat) : Int) < 0) = E := by
      rw [← H0.out.2, top_two, hK]
      generalize 2 ^ K = P
      unfold cmpI
      by_cases h : z.natAbs < P
      · rw [if_pos (by omega)]; simp [h]
      · rw [if_neg (by omega)]
        split <;> simp [h]
    generalize cmpI (z.natAbs : Int) ((2 ^ K : Nat) : Int) = C at hcmp hc0
    have HC := Lib.hid (And.intro hcmp (And.intro hn3 hc0))
    clear hcmp hn3 hz3 hb3 hm' hs' hK hc0
    refine HC.out.1.mono ?_
    rintro e w4 ⟨rfl, q, rfl⟩
    go_wp2
    go_ret
    exact ⟨by rw [HC.out.2.2]; rfl, ((HW.out.new H2.out.2).new HC.out.2.1).drewN _⟩

/-- refuterref03.Near on plain numbers. -/
def nearP (k : Nat) : Nat := match k % 4 with | 0 => 16384 | 1 => 16383 | 2 => 8192 | _ => 63
def nearA (k : Nat) : Int := ((2 ^ nearP k : Nat) : Int) + (((k / 4 : Nat) : Int) - 3)
def nearI (n : Int) : Int := if aroundI (n.tdiv 28) 2 = 1 then -(nearA (aroundI n 28).toNat) else nearA (aroundI n 28).toNat

set_option maxRecDepth 100000 in
set_option maxHeartbeats 1000000 in
theorem near_any (n : Int) (h1 : -9223372036854775808 ≤ n) (h2 : n ≤ 9223372036854775807) (w : World) :
    Calls Tryz.prog 16 #[.int .i64 n] w fun e w' => ∃ s A n' c, e = .returned (.agg #[.bool s, .slice A n' c]) ∧ Hid (RN w' (.agg #[.bool s, .slice A n' c]) (nearI n) ∧ New w w') := by
  have hr := aroundI_range n 28 (by omega)
  obtain ⟨k, hk⟩ : ∃ k : Nat, aroundI n 28 = k := ⟨(aroundI n 28).toNat, by omega⟩
  have har := fun W => around_any n 28 W h1 h2 (by omega) (by omega)
  rw [hk] at har hr
  have hkb : k < 28 := by omega
  obtain ⟨d, hd⟩ : ∃ d : Int, n.tdiv 28 = d := ⟨_, rfl⟩
  have hdb : -9223372036854775808 ≤ d ∧ d ≤ 9223372036854775807 := by
    rw [← hd]
    rcases Int.lt_or_le n 0 with h | h
    · have e : n = -((n.natAbs : Nat) : Int) := by omega
      rw [e, Int.neg_tdiv, Int.tdiv_eq_ediv_of_nonneg (by omega)]
      omega
    · rw [Int.tdiv_eq_ediv_of_nonneg h]; omega
  have har2 := fun W => around_any d 2 W hdb.1 hdb.2 (by omega) (by omega)
  have hr2 := aroundI_range d 2 (by omega)
  obtain ⟨b, hb⟩ : ∃ b : Int, aroundI d 2 = b := ⟨_, rfl⟩
  rw [hb] at har2 hr2
  have hni : nearI n = if b = 1 then -(nearA k) else nearA k := by
    unfold nearI
    rw [hd, hb, hk, Int.toNat_natCast]
  rw [hni]
  have HA := Lib.hid (And.intro har har2)
  clear har har2 hni hk hr hb
  obtain ⟨q, hq⟩ : ∃ q, k / 4 = q := ⟨_, rfl⟩
  obtain ⟨t, ht⟩ : ∃ t : Int, (q : Int) - 3 = t := ⟨_, rfl⟩
  have hqb : q ≤ 6 := by omega
  have htb : -3 ≤ t ∧ t ≤ 3 := by omega
  have i2 : (k : Int) / 4 = (q : Int) := by omega
  obtain ⟨r, hr⟩ : ∃ r, k % 4 = r := ⟨_, rfl⟩
  have i1 : (k : Int) % 4 = (r : Int) := by omega
  obtain ⟨P, hP⟩ : ∃ P, nearP k = P := ⟨_, rfl⟩
  have hPr : (r = 0 ∧ Hid ((P : Int) = 16384)) ∨ (r = 1 ∧ Hid ((P : Int) = 16383)) ∨ (r = 2 ∧ Hid ((P : Int) = 8192)) ∨ (r = 3 ∧ Hid ((P : Int) = 63)) := by
    rw [← hP]
    unfold nearP
    rw [hr]
    rcases (by omega : r = 0 ∨ r = 1 ∨ r = 2 ∨ r = 3) with h | h | h | h <;> subst h <;> simp [Hid]
  have hPb : P ≤ 100000 := by
    rcases hPr with ⟨-, h⟩ | ⟨-, h⟩ | ⟨-, h⟩ | ⟨-, h⟩ <;> have := h.out <;> omega
  have hz : nearA k = ((2 ^ P : Nat) : Int) + t := by unfold nearA; rw [hP, hq, ht]
  rw [hz]
  obtain ⟨Z, hZ⟩ : ∃ Z : Int, (if b = 1 then -(((2 ^ P : Nat) : Int) + t) else ((2 ^ P : Nat) : Int) + t) = Z := ⟨_, rfl⟩
  rw [hZ]
  have HZ := Lib.hid hZ
  clear hZ
  have hpw := fun W => power_h P hPb W
  have hof := fun W => of_h t W (by omega) (by omega)
  have HC := Lib.hid (And.intro hpw hof)
  have HP := Lib.hid hPb
  clear hpw hof hP hr hz hq hPb hkb
  go_enter Tryz.func16, Tryz.ntmps16
  go_wp2_with fail
  refine (HA.out.1 _).mono ?_
  rintro e w1 ⟨rfl, rfl⟩
  rcases hPr with ⟨rfl, hPe⟩ | ⟨rfl, hPe⟩ | ⟨rfl, hPe⟩ | ⟨rfl, hPe⟩
  all_goals
    go_wp2_with fail
    refine Calls.new2 ?_
    intro W hb2 hbl hnW hzW
    obtain ⟨g2, hg2⟩ : ∃ x, w.heap.size = x := ⟨_, rfl⟩
    obtain ⟨gl, hgl⟩ : ∃ x, w.heap.size + 1 = x := ⟨_, rfl⟩
    rw [hg2] at hb2
    simp only [hgl]
    simp only [hg2]
    have HW := Lib.hid (And.intro hb2 (And.intro hnW hg2))
    clear hb2 hbl hnW hzW hg2 hgl
    have hp := HC.out.1 W
    rw [hPe.out] at hp
    have HPW := Lib.hid hp
    clear hp
    refine HPW.out.mono ?_
    rintro e w2 ⟨s2, A2, n2, c2, rfl, H2⟩
    clear HPW hPe
    go_wp2_with fail
    refine (HC.out.2 w2).mono ?_
    rintro e w3 ⟨s3, A3, n3, c3, rfl, H3⟩
    go_wp2_with fail
    refine (radd_h _ _ _ _ w3 (H2.out.1.new H3.out.2) H3.out.1 (pow_big HP.out) (small_big (by omega) (by omega))).mono ?_
    rintro e w4 ⟨s4, A4, n4, c4, rfl, H4⟩
    have HB := Lib.hid (HW.out.1.chg ((H2.out.2.new H3.out.2).new H4.out.2) (fun h => h))
    have HN := Lib.hid (HW.out.2.1.new ((H2.out.2.new H3.out.2).new H4.out.2))
    have HR := Lib.hid H4.out.1
    have HGS := Lib.hid HW.out.2.2
    clear H2 H3 H4 HW
    go_wp2_with fail
    refine Calls.new1 ?_
    intro W5 hb4 hn5 hz5
    obtain ⟨g4, hg4⟩ : ∃ x, w4.heap.size = x := ⟨_, rfl⟩
    rw [hg4] at hb4
    simp only [hg4]
    have hb2 := HB.out.chg hn5 (fun h => h)
    refine (HA.out.2 _).mono ?_
    rintro e w6 ⟨rfl, rfl⟩
    have c40 := hb4.cell 0 (u := .bool s4) rfl
    have c41 := hb4.cell 1 (u := .slice A4 n4 c4) rfl
    have HX := Lib.hid (And.intro hb2 (And.intro (HR.out.new hn5) (HN.out.new hn5)))
    clear hb2 hb4 hn5 hz5 hg4 HB HN HR
    by_cases hb1 : b = 1
    · have hZ := HZ.out
      rw [if_pos hb1] at hZ
      subst hb1
      have HZ2 := Lib.hid hZ
      clear hZ HZ
      go_wp2_with fail
      refine (rneg_any _ _ W5 HX.out.2.1).mono ?_
      rintro e w7 ⟨v7, rfl, ⟨s7, A7, n7, c7, rfl, hs7, hm7⟩, hn7⟩
      have hb7 := HX.out.1.chg hn7 (fun h => h)
      have k20 := hb7.cell 0 rfl
      have k21 := hb7.cell 1 rfl
      have f20 := hb7.frozen 0
      have f21 := hb7.frozen 1
      have hr7 : RN w7 (.agg #[.bool s7, .slice A7 n7 c7]) (-(((2 ^ P : Nat) : Int) + t)) := ⟨s7, A7, n7, c7, rfl, hs7, hm7⟩
      have HY := Lib.hid (And.intro hb7 (And.intro hr7 (HX.out.2.2.new hn7)))
      clear hb7 hr7 hs7 hm7 hn7 c40 c41
      go_wp2
      refine bodyPost_ret (res_c rfl _ rfl (aggN.load (HY.out.1.set2 _ _))) rfl ⟨s7, A7, n7, c7, rfl, HZ2.out ▸ HY.out.2.1.store HY.out.1 (noInt_two' _ _ _ _) (Chg.at2 _ _ _ _), ?_⟩
      exact Chg.owned HY.out.2.2 (Chg.at2 _ _ _ _) (fun k e => by have := HGS.out; omega)
    · have hb0 : b = 0 := by omega
      have hZ := HZ.out
      rw [if_neg hb1] at hZ
      subst hb0
      have HZ2 := Lib.hid hZ
      clear hZ hb1 HZ
      have k20 := HX.out.1.cell 0 rfl
      have k21 := HX.out.1.cell 1 rfl
      have f20 := HX.out.1.frozen 0
      have f21 := HX.out.1.frozen 1
      go_wp2
      refine bodyPost_ret (res_c rfl _ rfl (aggN.load (HX.out.1.set2 _ _))) rfl ⟨s4, A4, n4, c4, rfl, HZ2.out ▸ HX.out.2.1.store HX.out.1 (noInt_two' _ _ _ _) (Chg.at2 _ _ _ _), ?_⟩
      exact Chg.owned HX.out.2.2 (Chg.at2 _ _ _ _) (fun k e => by have := HGS.out; omega)
end Go.Proofs.YtgofjkppeobjfaaGreatDoor

namespace Go.Txt
set_option linter.unusedVariables false
open Go.Dig

theorem decVal_split (t : List UInt8) (a z : Nat) (haz : a ≤ z) (hz : z ≤ t.length) : decVal (t.take z) = decVal (t.take a) * 10 ^ (z - a) + decVal ((t.drop a).take (z - a)) := by
  have h : t.take z = t.take a ++ (t.drop a).take (z - a) := by rw [← List.take_add]; congr 1; omega
  rw [h, decVal_append]
  congr 3
  simp; omega

/-- What the loop of the reference's Parse holds: the text t, the end z of what is left, the digits d so far. -/
def PrI (t : List UInt8) (z : Int) (d : List Nat) : Prop :=
  Digs 10000 d ∧ z = (t.length : Int) - 4 * (d.length : Int) ∧ val 10000 d + 10000 ^ d.length * decVal (t.take z.toNat) = decVal t
theorem PrI.start (t : List UInt8) : PrI t (t.length : Int) [] := by
  refine ⟨Digs.nil _, by simp, ?_⟩
  rw [Int.toNat_natCast, List.take_length]
  simp [val]
theorem PrI.step {t : List UInt8} {z : Nat} {d : List Nat} (ht : AllDig t) (h : PrI t z d) (hz : 0 < z) :
    PrI t ((z : Int) - 4) (d ++ [decVal ((t.drop (z - 4)).take (z - (z - 4)))]) := by
  obtain ⟨h1, h2, h3⟩ := h
  have hzl : z ≤ t.length := by omega
  have hv := decVal_split t (z - 4) z (by omega) hzl
  have hlt := decVal_lt ((ht.drop (z - 4)).take (z - (z - 4)))
  generalize hd : decVal ((t.drop (z - 4)).take (z - (z - 4))) = v at *
  have hvb : v < 10000 := by
    refine Nat.lt_of_lt_of_le hlt ?_
    exact Nat.le_trans (Nat.pow_le_pow_right (by omega) (show _ ≤ 4 by simp; omega)) (by decide)
  have hv2 : decVal (t.take z) = decVal (t.take (z - 4)) * 10000 + v := by
    by_cases h4 : 4 ≤ z
    · rw [hv, show z - (z - 4) = 4 by omega]
    · rw [hv, show z - 4 = 0 by omega, List.take_zero, decVal_nil]; omega
  refine ⟨h1.snoc hvb, by simp; omega, ?_⟩
  rw [Int.toNat_natCast, hv2] at h3
  rw [show ((z : Int) - 4).toNat = z - 4 by omega, val_snoc, ← h3, List.length_append, List.length_singleton, Nat.pow_succ]
  rw [Nat.mul_add, Nat.mul_assoc, Nat.add_assoc, Nat.mul_comm (decVal (t.take (z - 4))) 10000, Nat.add_comm (10000 ^ d.length * v)]
theorem PrI.done {t : List UInt8} {z : Int} {d : List Nat} (h : PrI t z d) (hz : z ≤ 0) : Digs 10000 d ∧ val 10000 d = decVal t := by
  obtain ⟨h1, h2, h3⟩ := h
  rw [show z.toNat = 0 by omega, List.take_zero, decVal_nil] at h3
  exact ⟨h1, by omega⟩
theorem PrI.len {t : List UInt8} {z : Int} {d : List Nat} (h : PrI t z d) (hz : -4 < z) : d.length ≤ t.length := by
  have := h.2.1
  omega
/-- The inner loop: the value of some digits. -/
theorem decVal_next {t : List UInt8} {a j : Nat} {c : UInt8} (h : t[a + j]? = some c) : decVal ((t.drop a).take (j + 1)) = decVal ((t.drop a).take j) * 10 + (c.toNat - 48) := by
  rw [List.take_add_one, List.getElem?_drop, h]
  exact decVal_snoc _ _
end Go.Txt

namespace Go.Proofs.YtgofjkppeobjfaaGreatDoor
set_option linter.unusedVariables false
open Go.RowKit Go.Mem Go.Dig

set_option maxHeartbeats 1000000 in
set_option maxRecDepth 100000 in
theorem rparse_long (b : ByteArray) (hn : 5000 < b.size) (w : World) :
    Calls Tryz.prog 22 #[.string b] w fun e w' => e = .returned (.tuple #[.agg #[.bool false, .slice none 0 0], .int .i64 4]) ∧ New w w' := by
  have h1 : (5000 : Int) < (b.size : Int) := by omega
  go_enter Tryz.func22, Tryz.ntmps22
  go_wp2
  exact bodyPost_ret (res_ct rfl _ rfl (aggN.load (Blk.new _ _ _)) rfl) rfl ⟨rfl, (Chg.refl _ w).alloc _⟩

/-- A call that returns a struct of the reference, and a value behind it. -/
def RetRV (w : World) (z : Int) (u : Value) (e : Ending) (w' : World) : Prop := ∃ s A n c, e = .returned (.tuple #[.agg #[.bool s, .slice A n c], u]) ∧ Hid (RN w' (.agg #[.bool s, .slice A n c]) z ∧ New w w')

/-- What Parse returns for the text l. -/
def ParsR (l : List UInt8) (Z E : Int) : Prop := (∃ z, Txt.Reads l z ∧ rg z = Z ∧ rgE z = E) ∨ ((∀ z, ¬ Txt.Reads l z) ∧ Z = 0 ∧ E = 2)
theorem ParsR.bad {l : List UInt8} {Z E : Int} (h : ParsR l Z E) (hb : ∀ z, ¬ Txt.Reads l z) : Z = 0 ∧ E = 2 := by
  rcases h with ⟨z, h1, -⟩ | ⟨-, h⟩
  · exact absurd h1 (hb z)
  · exact h
theorem ParsR.ok {l : List UInt8} {Z E z : Int} (h : ParsR l Z E) (hz : Txt.Reads l z) : Z = rg z ∧ E = rgE z := by
  rcases h with ⟨z', h1, h2, h3⟩ | ⟨h, -⟩
  · have := h1.uniq hz
    subst this
    exact ⟨h2.symm, h3.symm⟩
  · exact absurd hz (h z)
/-- The checks ahead of the digits: they let l pass. -/
def Pass (g : Bool) (t : List UInt8) : Prop := t ≠ [] ∧ (t.head? = some 48 → g = false ∧ t.length = 1)
theorem pass_reads {l t : List UInt8} {g : Bool} (ht : Txt.body l = t) (hg : decide (l.head? = some 45) = g) (hp : Pass g t) (ha : Txt.AllDig t) : Txt.Reads l (sg g (Txt.decVal t)) := by
  subst ht hg
  refine ⟨⟨ha, ?_⟩, ?_, ?_⟩
  · generalize ht : Txt.body l = t at *
    cases t with
    | nil => exact absurd rfl hp.1
    | cons c u =>
      by_cases h : c = 48
      · have := (hp.2 (by simp [h])).2
        left
        rw [h, List.eq_nil_of_length_eq_zero (show u.length = 0 by simpa using this)]
      · exact .inr ⟨c, u, rfl, h⟩
  · rintro ⟨h1, h2⟩
    have := (hp.2 (by rw [h2]; rfl)).1
    simp [h1] at this
  · unfold sg
    by_cases h : l.head? = some 45 <;> simp [h]
theorem not_pass {l t : List UInt8} {g : Bool} (ht : Txt.body l = t) (hg : decide (l.head? = some 45) = g) (hp : ¬ Pass g t) : ∀ z, ¬ Txt.Reads l z := by
  rintro z ⟨⟨h1, h2⟩, h3, -⟩
  subst ht hg
  refine hp ⟨fun e => ?_, fun e => ?_⟩
  · rcases h2 with h | ⟨c, t, h, -⟩ <;> rw [h] at e <;> simp at e
  · rcases h2 with h | ⟨c, t, h, hc⟩
    · refine ⟨?_, by rw [h]; rfl⟩
      simp
      intro h45
      exact h3 ⟨h45, h⟩
    · rw [h] at e
      simp at e
      exact absurd e hc
theorem not_dig {l t : List UInt8} {c : UInt8} {k : Nat} (ht : Txt.body l = t) (hc : t[k]? = some c) (hd : ¬ Txt.isDig c) : ∀ z, ¬ Txt.Reads l z := by
  rintro z ⟨⟨h1, -⟩, -, -⟩
  rw [ht] at h1
  exact hd (h1 c (List.mem_of_getElem? hc))
theorem body45 {l : List UInt8} (h : l.head? = some 45) : Txt.body l = l.tail := by unfold Txt.body; rw [if_pos h]
theorem body_same {l : List UInt8} (h : ¬ l.head? = some 45) : Txt.body l = l := by unfold Txt.body; rw [if_neg h]
theorem St_tail (l : List UInt8) : (St l).extract 1 (St l).size = St l.tail := by rw [St_drop, List.drop_one]
theorem head_at {b : ByteArray} {l : List UInt8} (h : b = St l) (hk : 0 < b.size) : l.head? = some b[0] := by
  rw [← str_at h hk, List.head?_eq_getElem?]

set_option maxHeartbeats 4000000 in
set_option maxRecDepth 100000 in
theorem rparse_any (b : ByteArray) (l : List UInt8) (hb : b = St l) (hn : b.size ≤ 5000) (Z E : Int) (hr : ParsR l Z E) (w : World) :
    Calls Tryz.prog 22 #[.string b] w (RetRV w Z (.int .i64 E)) := by
  have h1 : decide ((5000 : Int) < (b.size : Int)) = false := by simp; omega
  have h1' : decide (5000 < b.size) = false := by simp; omega
  obtain ⟨t, ht⟩ : ∃ t, Txt.body l = t := ⟨_, rfl⟩
  obtain ⟨g, hg⟩ : ∃ g, decide (l.head? = some 45) = g := ⟨_, rfl⟩
  obtain ⟨c, hc⟩ : ∃ c, St t = c := ⟨_, rfl⟩
  have hcs : c.size ≤ 5000 := by rw [← hc, St_size, ← ht]; have := Txt.Reads.body_len l; rw [hb, St_size] at hn; omega
  have htl : t.length = c.size := by rw [← hc, St_size]
  have hfront : (b.size = 0 ∧ g = false ∧ c = b) ∨ (∃ h : 0 < b.size, b[0] = 45 ∧ g = true ∧ (∀ W, (Instr.slice 9 (.string b) (some (.int .i64 1)) none none).run Tryz.prog W = .ok (.string c) W)) ∨ (∃ h : 0 < b.size, ∃ a, b[0] = a ∧ ((a.toNat : Int) == 45) = false ∧ g = false ∧ c = b) := by
    by_cases h0 : b.size = 0
    · have hl0 : l = [] := by rw [hb, St_size] at h0; exact List.eq_nil_of_length_eq_zero h0
      refine .inl ⟨h0, by rw [← hg, hl0]; rfl, ?_⟩
      rw [← hc, ← ht, body_same (by rw [hl0]; simp), hb]
    · have hp : 0 < b.size := by omega
      have hh := head_at hb hp
      by_cases h45 : b[0] = 45
      · rw [h45] at hh
        refine .inr (.inl ⟨hp, h45, by rw [← hg]; simp [hh], fun W => ?_⟩)
        rw [run_slice_string_l W 9 b Tryz.underlying9 .i64 1 (by omega) (by omega)]
        rw [show (1 : Int).toNat = 1 by rfl, hb, St_tail, ← body45 hh, ht, hc]
      · have hh' : ¬ l.head? = some 45 := by rw [hh]; simpa using h45
        refine .inr (.inr ⟨hp, b[0], rfl, ?_, by rw [← hg]; simp [hh'], ?_⟩)
        · simp
          intro e
          exact h45 (UInt8.toNat_inj.1 (by simpa using (by omega : b[0].toNat = 45)))
        · rw [← hc, ← ht, body_same hh', hb]
  have H0 := Lib.hid (And.intro hc (And.intro ht (And.intro hg (And.intro htl hr))))
  clear hc ht hg htl hr hb
  go_enter Tryz.func22, Tryz.ntmps22
  rcases hfront with ⟨h0, rfl, rfl⟩ | ⟨hp, h45, rfl, hsl⟩ | ⟨hp, a, ha, h45, rfl, rfl⟩
  · have hs0 : ((c.size : Int) == 0) = true := by rw [h0]; rfl
    go_upto_region 7 with fail
    refine Code.new1 ?_
    intro W hb2 hnW hzW
    obtain ⟨g2, hg2⟩ : ∃ x, w.heap.size = x := ⟨_, rfl⟩
    rw [hg2] at hb2
    simp only [hg2]
    have HW := Lib.hid (And.intro hb2 (And.intro hnW hg2))
    have k20 := hb2.cell 0 rfl
    have k21 := hb2.cell 1 rfl
    have f20 := hb2.frozen 0
    have f21 := hb2.frozen 1
    clear hb2 hnW hzW hg2
    obtain ⟨rfl, rfl⟩ := H0.out.2.2.2.2.bad (not_pass H0.out.2.1 H0.out.2.2.1 (fun hpp => hpp.1 (List.eq_nil_of_length_eq_zero (by have := H0.out.2.2.2.1; omega))))
    go_wp2
    refine bodyPost_ret (res_ct rfl _ rfl (aggN.load (HW.out.1.set2 _ _)) rfl) rfl ⟨false, none, 0, 0, rfl, RN.zero _, ?_⟩
    exact Chg.owned HW.out.2.1 (Chg.at2 _ _ _ _) (fun k e => by have := HW.out.2.2; omega)
  · go_upto_region 7 with fail
    clear hsl h45
    refine Code.new1 ?_
    intro W hb2 hnW hzW
    obtain ⟨g2, hg2⟩ : ∃ x, w.heap.size = x := ⟨_, rfl⟩
    rw [hg2] at hb2
    simp only [hg2]
    have HW := Lib.hid (And.intro hb2 (And.intro hnW hg2))
    have k20 := hb2.cell 0 rfl
    have k21 := hb2.cell 1 rfl
    have f20 := hb2.frozen 0
    have f21 := hb2.frozen 1
    clear hb2 hnW hzW hg2
    by_cases h0 : c.size = 0
    · have hs0 : ((c.size : Int) == 0) = true := by rw [h0]; rfl
      obtain ⟨rfl, rfl⟩ := H0.out.2.2.2.2.bad (not_pass H0.out.2.1 H0.out.2.2.1 (fun hpp => hpp.1 (List.eq_nil_of_length_eq_zero (by have := H0.out.2.2.2.1; omega))))
      go_wp2
      refine bodyPost_ret (res_ct rfl _ rfl (aggN.load (HW.out.1.set2 _ _)) rfl) rfl ⟨false, none, 0, 0, rfl, RN.zero _, ?_⟩
      exact Chg.owned HW.out.2.1 (Chg.at2 _ _ _ _) (fun k e => by have := HW.out.2.2; omega)
    · have hs0 : ((c.size : Int) == 0) = false := beq_eq_false_iff_ne.2 (by omega)
      have hs0' : (c.size == 0) = false := beq_eq_false_iff_ne.2 (by omega)
      have hpos : 0 < c.size := by omega
      have hhd := head_at H0.out.1.symm hpos
      obtain ⟨a, ha⟩ : ∃ a, c[0] = a := ⟨_, rfl⟩
      rw [ha] at hhd
      have HH := Lib.hid hhd
      clear hhd h0
      by_cases h48 : a = 48
      · subst h48
        obtain ⟨rfl, rfl⟩ := H0.out.2.2.2.2.bad (not_pass H0.out.2.1 H0.out.2.2.1 (fun hpp => by have := (hpp.2 HH.out).1; simp at this))
        go_wp2
        refine bodyPost_ret (res_ct rfl _ rfl (aggN.load (HW.out.1.set2 _ _)) rfl) rfl ⟨false, none, 0, 0, rfl, RN.zero _, ?_⟩
        exact Chg.owned HW.out.2.1 (Chg.at2 _ _ _ _) (fun k e => by have := HW.out.2.2; omega)
      · have h48i : ((a.toNat : Int) == 48) = false := by
          rw [beq_eq_false_iff_ne]
          intro e
          exact h48 (UInt8.toNat_inj.1 (by simpa using (by omega : a.toNat = 48)))
        have HP : Hid (Pass true t) := ⟨fun e => by have := H0.out.2.2.2.1; rw [e] at this; simp at this; omega, fun e => by rw [HH.out] at e; simp at e; exact absurd e h48⟩
        go_upto_region 9 with fail
        clear hs0 hs0' hpos ha h48 h48i HH
        go_wp2_with fail
        clear h1 h1' hn
        go_loop [6] (fun i => ∃ k : Nat, i = .int .i64 (k : Int) ∧ k ≤ c.size ∧ Hid (Txt.AllDig (t.take k))) (fun i => c.size - (intOf i).toNat)
        case atStart => exact ⟨0, rfl, by omega, by show Txt.AllDig _; rw [List.take_zero]; exact Txt.AllDig.nil⟩
        case round =>
          obtain ⟨k, rfl, hk, HA⟩ := hrel
          by_cases hlt : k < c.size
          · have hc := str_at H0.out.1.symm hlt
            obtain ⟨e, hcc⟩ : ∃ e, c[k] = e := ⟨_, rfl⟩
            rw [hcc] at hc
            by_cases hd : Txt.isDig e
            · have hd' := hd
              unfold Txt.isDig at hd
              have h1 : decide ((e.toNat : Int) < 48) = false := by simp; omega
              have h2 : decide (57 < (e.toNat : Int)) = false := by simp; omega
              have HN : Hid (Txt.AllDig (t.take (k + 1))) := by
                show Txt.AllDig _
                rw [List.take_add_one, hc]
                refine HA.out.append (fun x hx => ?_)
                rw [show (some e).toList = [e] by rfl, List.mem_singleton] at hx
                subst hx
                exact hd'
              clear hc hd hd' HA
              go_wp2
              go_round
              case rel => exact ⟨k + 1, by go_num, by omega, HN⟩
              case measure => simp [intOf]; omega
            · obtain ⟨rfl, rfl⟩ := H0.out.2.2.2.2.bad (not_dig H0.out.2.1 hc hd)
              unfold Txt.isDig at hd
              by_cases h1 : e.toNat < 48
              · have h1' : (e.toNat : Int) < 48 := by omega
                clear hc hd HA
                go_wp2
                refine bodyPost_ret (res_ct rfl _ rfl (aggN.load (HW.out.1.set2 _ _)) rfl) rfl ⟨false, none, 0, 0, rfl, RN.zero _, ?_⟩
                exact Chg.owned HW.out.2.1 (Chg.at2 _ _ _ _) (fun k e => by have := HW.out.2.2; omega)
              · have h1' : decide ((e.toNat : Int) < 48) = false := by simp; omega
                have h2' : 57 < (e.toNat : Int) := by omega
                clear hc hd HA
                go_wp2
                refine bodyPost_ret (res_ct rfl _ rfl (aggN.load (HW.out.1.set2 _ _)) rfl) rfl ⟨false, none, 0, 0, rfl, RN.zero _, ?_⟩
                exact Chg.owned HW.out.2.1 (Chg.at2 _ _ _ _) (fun k e => by have := HW.out.2.2; omega)
          · obtain rfl : c.size = k := by omega
            have hall : Txt.AllDig t := by have := HA.out; rwa [List.take_of_length_le (by have := H0.out.2.2.2.1; omega)] at this
            have hge : decide (((c.size : Nat) : Int) < ((c.size : Nat) : Int)) = false := by simp
            have hrd := pass_reads H0.out.2.1 H0.out.2.2.1 HP.out hall
            obtain ⟨hZ, hE⟩ := H0.out.2.2.2.2.ok hrd
            have HR := Lib.hid (And.intro hall (And.intro H0.out.2.2.2.1 (And.intro hZ (And.intro hE H0.out.1))))
            clear hall hrd hZ hE HA hk hlt HP H0
            go_wp2_with fail
            clear hge
            go_loopw [7, 8, 9, 10] (fun s7 s8 _ _ wr => ∃ (R : Option Addr) (m d : Nat) (z : Int) (o : List Nat), s7 = .slice R m d ∧ s8 = .int .i64 z ∧ -4 < z ∧ z ≤ (c.size : Int) ∧ m ≤ 5000 ∧ Hid (Txt.PrI t z o ∧ wr.ownsRow W.heap.size 3 1 (.slice R m d) m (nv .i64 o) ∧ o.length = m ∧ New W wr)) (fun _ s8 _ _ _ => (intOf s8 + 4).toNat)
            case atStart => exact ⟨none, 0, 0, (c.size : Int), [], rfl, rfl, by omega, by omega, by omega, by have := Txt.PrI.start t; rwa [HR.out.2.1] at this, World.ownsRow_nil _ _ _ _, rfl, Chg.refl _ _⟩
            case round =>
              obtain ⟨R, m, d, z, o, rfl, rfl, hz1, hz2, hm, HO⟩ := hrel
              obtain ⟨wo, rfl⟩ : ∃ wo : World, wo = wr := ⟨_, rfl⟩
              by_cases h0 : 0 < z
              · obtain ⟨zn, rfl⟩ : ∃ zn : Nat, z = zn := ⟨z.toNat, by omega⟩
                obtain ⟨z4, hz4⟩ : ∃ z4 : Int, (zn : Int) - 4 = z4 := ⟨_, rfl⟩
                obtain ⟨p, hp⟩ : ∃ p : Nat, zn - 4 = p := ⟨_, rfl⟩
                have hmx : ∀ ts t W, (Builtin.max_ ts t #[.int .i64 0, .int .i64 z4]).run Tryz.prog W = .ok (.int .i64 (p : Int)) W := fun ts t W => run_max2 (P := Tryz.prog) 0 z4 (p : Int) (by omega) ts t W
                have hst := HO.out.1.step HR.out.1 (by omega)
                rw [hp, hz4] at hst
                have hz4b : -4 < z4 := by omega
                have hz4c : z4 < (zn : Int) := by omega
                have hpz : p < zn := by omega
                have hp4 : zn ≤ p + 4 := by omega
                have HS := Lib.hid hst
                have HZ := Lib.hid hz4
                clear hst hp
                go_wp2_with fail
                clear hmx hz4
                go_loop [9, 10] (fun s9 s10 => ∃ v i : Nat, s9 = .int .i64 (v : Int) ∧ s10 = .int .i64 (i : Int) ∧ p ≤ i ∧ i ≤ zn ∧ v < 10000 ∧ Hid (Txt.decVal ((t.drop p).take (i - p)) = v)) (fun _ s10 => zn - (intOf s10).toNat)
                case atStart => exact ⟨0, p, rfl, rfl, by omega, by omega, by omega, by show _ = _; rw [Nat.sub_self, List.take_zero]; rfl⟩
                case round =>
                  obtain ⟨v, i, rfl, rfl, hi1, hi2, hv, HV⟩ := hrel
                  by_cases hlt : i < zn
                  · have hic : i < c.size := by omega
                    have hc := str_at HR.out.2.2.2.2.symm hic
                    obtain ⟨e, hcc⟩ : ∃ e, c[i] = e := ⟨_, rfl⟩
                    rw [hcc] at hc
                    have hdg := HR.out.1 e (List.mem_of_getElem? hc)
                    unfold Txt.isDig at hdg
                    obtain ⟨j, hj⟩ : ∃ j, i = p + j := ⟨i - p, by omega⟩
                    have hnx := Txt.decVal_next (t := t) (a := p) (j := j) (c := e) (by rw [← hj]; exact hc)
                    have hlt4 := Txt.decVal_lt ((HR.out.1.drop p).take (j + 1))
                    have hV := HV.out
                    rw [show i - p = j by omega] at hV
                    rw [hnx, hV] at hlt4
                    rw [hV] at hnx
                    have hb4 : v * 10 + (e.toNat - 48) < 10000 := Nat.lt_of_lt_of_le hlt4 (Nat.le_trans (Nat.pow_le_pow_right (by omega) (show _ ≤ 4 by simp; omega)) (by decide))
                    obtain ⟨x, hx⟩ : ∃ x : Nat, e.toNat - 48 = x := ⟨_, rfl⟩
                    have hxi : (e.toNat : Int) - 48 = (x : Int) := by omega
                    have hxb : x ≤ 9 := by omega
                    rw [hx] at hb4 hnx
                    obtain ⟨y, hy⟩ : ∃ y : Nat, v * 10 + x = y := ⟨_, rfl⟩
                    have hyi : 10 * (v : Int) + (x : Int) = (y : Int) := by omega
                    have HN : Hid (Txt.decVal ((t.drop p).take (i + 1 - p)) = y) := by
                      show _ = _
                      rw [show i + 1 - p = j + 1 by omega, hnx, hy]
                    have hyb : y < 10000 := by omega
                    clear hc hj hnx hlt4 hV hb4 hx hy HV hdg
                    go_wp2
                    go_round
                    case rel => exact ⟨y, i + 1, rfl, by go_num, by omega, by omega, by omega, HN⟩
                    case measure => simp [intOf]; omega
                  · obtain rfl : i = zn := by omega
                    have hge : decide ((i : Int) < (i : Int)) = false := by simp
                    clear hlt hi2
                    go_wp2_with (at_builtin; refine wpList_app elemInts rfl _ _ rfl rfl (HO.out.2.1.alloc _) rfl (Rd.lit (nv .i64 [v]) rfl) (nv_one _) (by simp only [maxLen]; omega) (by omega) (by have := HO.out.2.2.2.size; simp; omega) ?_; intro R' d' w1 hown hg hat; have HA := Lib.hid (And.intro hown hg); clear hown hg hat; have hz4 := HZ.out)
                    go_roundw
                    case rel =>
                      obtain ⟨hown, hg⟩ := HA.out
                      rw [← nv_append] at hown
                      have hS := HS.out
                      rw [HV.out] at hS
                      have hl5 := hS.len hz4b
                      have htl := HR.out.2.1
                      have hol := HO.out.2.2.1
                      rw [List.length_append, List.length_singleton] at hl5
                      refine ⟨R', m + 1, d', z4, o ++ [v], rfl, rfl, hz4b, by omega, by omega, hS, hown, by rw [List.length_append, List.length_singleton, hol], ?_⟩
                      exact (HO.out.2.2.2.alloc _).grown hg (fun k hk hlt => by have := own_blk_le HO.out.2.1 hk; omega)
                    case measure => simp [intOf]; omega
              · have hge : decide ((0 : Int) < z) = false := by simp; omega
                obtain ⟨hdg, hvl⟩ := HO.out.1.done (by omega)
                have hnr := normal_rn true R m d o wo (Rd.of_own HO.out.2.1) hdg (own_cap HO.out.2.1).1 (own_cap HO.out.2.1).2
                rw [hvl] at hnr
                obtain ⟨V, hV⟩ : ∃ V : Int, sg true (Txt.decVal t) = V := ⟨_, rfl⟩
                rw [hV] at hnr
                have hZV := HR.out.2.2.1
                have hEV := HR.out.2.2.2.1
                rw [hV] at hZV hEV
                have HX := Lib.hid (And.intro hnr (And.intro (HO.out.2.2.2) (And.intro hZV hEV)))
                clear hdg hvl hnr hV hZV hEV HO
                go_wp2_with fail
                clear hge
                refine HX.out.1.mono ?_
                rintro e w5 ⟨v5, rfl, ⟨s5, A5, n5, c5, rfl, hs5, hm5⟩, hn5⟩
                have hr5 : RN w5 (.agg #[.bool s5, .slice A5 n5 c5]) V := ⟨s5, A5, n5, c5, rfl, hs5, hm5⟩
                have H5 := Lib.hid (And.intro hr5 hn5)
                clear hr5 hs5 hm5 hn5
                go_wp2_with fail
                refine Calls.new1 ?_
                intro W6 hb6 hn6 hz6
                obtain ⟨g6, hg6⟩ : ∃ x, w5.heap.size = x := ⟨_, rfl⟩
                rw [hg6] at hb6
                simp only [hg6]
                have hNW : New W W6 := (HX.out.2.1.new H5.out.2).new hn6
                obtain ⟨F, hF⟩ : ∃ F, decide (V.natAbs < topN) = F := ⟨_, rfl⟩
                refine (fits_any _ V W6 (H5.out.1.new hn6) F hF).mono ?_
                rintro e w7 ⟨rfl, hn7⟩
                have hb2 := HW.out.1.chg (hNW.new hn7) (fun h => h)
                have hb67 := hb6.chg hn7 (fun h => h)
                have q20 := hb2.cell 0 rfl
                have q21 := hb2.cell 1 rfl
                have p20 := hb2.frozen 0
                have p21 := hb2.frozen 1
                have q60 := hb67.cell 0 (u := .bool s5) rfl
                have q61 := hb67.cell 1 (u := .slice A5 n5 c5) rfl
                have HY := Lib.hid (And.intro hb2 (And.intro ((H5.out.1.new hn6).new hn7) (And.intro (HW.out.2.1.new (hNW.new hn7)) hF)))
                clear hb2 hb67 hb6 hn6 hz6 hg6 hNW hn7 hF k20 k21 f20 f21
                by_cases hf : V.natAbs < topN
                · obtain rfl : F = true := by rw [← HY.out.2.2.2]; simp [hf]
                  have hin := rg_in hf
                  obtain rfl : E = 0 := by rw [HX.out.2.2.2, hin.2]
                  obtain rfl : Z = V := by rw [HX.out.2.2.1, hin.1]
                  have HYY := Lib.hid (And.intro HY.out.1 (And.intro HY.out.2.1 HY.out.2.2.1))
                  clear hin hf HX HY HR
                  go_wp2
                  refine bodyPost_ret (res_ct rfl _ rfl (aggN.load (HYY.out.1.set2 _ _)) rfl) rfl ⟨s5, A5, n5, c5, rfl, HYY.out.2.1.store HYY.out.1 (noInt_two' _ _ _ _) (Chg.at2 _ _ _ _), ?_⟩
                  exact Chg.owned HYY.out.2.2 (Chg.at2 _ _ _ _) (fun k e => by have := HW.out.2.2; omega)
                · obtain rfl : F = false := by rw [← HY.out.2.2.2]; simp [hf]
                  have hout := rg_out hf
                  obtain rfl : E = 4 := by rw [HX.out.2.2.2, hout.2]
                  obtain rfl : Z = 0 := by rw [HX.out.2.2.1, hout.1]
                  clear hout hf HX HR
                  go_wp2
                  refine bodyPost_ret (res_ct rfl _ rfl (aggN.load (HY.out.1.set2 _ _)) rfl) rfl ⟨false, none, 0, 0, rfl, RN.zero _, ?_⟩
                  exact Chg.owned HY.out.2.2.1 (Chg.at2 _ _ _ _) (fun k e => by have := HW.out.2.2; omega)
  · go_upto_region 7 with fail
    clear h45
    refine Code.new1 ?_
    intro W hb2 hnW hzW
    obtain ⟨g2, hg2⟩ : ∃ x, w.heap.size = x := ⟨_, rfl⟩
    rw [hg2] at hb2
    simp only [hg2]
    have HW := Lib.hid (And.intro hb2 (And.intro hnW hg2))
    have k20 := hb2.cell 0 rfl
    have k21 := hb2.cell 1 rfl
    have f20 := hb2.frozen 0
    have f21 := hb2.frozen 1
    clear hb2 hnW hzW hg2
    by_cases h0 : c.size = 0
    · omega
    · have hs0 : ((c.size : Int) == 0) = false := beq_eq_false_iff_ne.2 (by omega)
      have hs0' : (c.size == 0) = false := beq_eq_false_iff_ne.2 (by omega)
      have hpos : 0 < c.size := by omega
      have hhd := head_at H0.out.1.symm hpos
      rw [ha] at hhd
      have HH := Lib.hid hhd
      clear hhd h0
      by_cases h48 : a = 48
      · subst h48
        by_cases hl1 : 1 < c.size
        · have hl1i : (1 : Int) < (c.size : Int) := by omega
          obtain ⟨rfl, rfl⟩ := H0.out.2.2.2.2.bad (not_pass H0.out.2.1 H0.out.2.2.1 (fun hpp => by have := (hpp.2 HH.out).2; have := H0.out.2.2.2.1; omega))
          go_wp2
          refine bodyPost_ret (res_ct rfl _ rfl (aggN.load (HW.out.1.set2 _ _)) rfl) rfl ⟨false, none, 0, 0, rfl, RN.zero _, ?_⟩
          exact Chg.owned HW.out.2.1 (Chg.at2 _ _ _ _) (fun k e => by have := HW.out.2.2; omega)
        · have hl1i : decide ((1 : Int) < (c.size : Int)) = false := by simp; omega
          have hl1n : decide (1 < c.size) = false := by simp; omega
          have HP : Hid (Pass false t) := ⟨fun e => by have := H0.out.2.2.2.1; rw [e] at this; simp at this; omega, fun _ => ⟨rfl, by have := H0.out.2.2.2.1; omega⟩⟩
          go_upto_region 9 with fail
          clear hs0 hs0' hpos ha hl1 hl1i hl1n HH
          go_wp2_with fail
          clear h1 h1' hn
          go_loop [6] (fun i => ∃ k : Nat, i = .int .i64 (k : Int) ∧ k ≤ c.size ∧ Hid (Txt.AllDig (t.take k))) (fun i => c.size - (intOf i).toNat)
          case atStart => exact ⟨0, rfl, by omega, by show Txt.AllDig _; rw [List.take_zero]; exact Txt.AllDig.nil⟩
          case round =>
            obtain ⟨k, rfl, hk, HA⟩ := hrel
            by_cases hlt : k < c.size
            · have hc := str_at H0.out.1.symm hlt
              obtain ⟨e, hcc⟩ : ∃ e, c[k] = e := ⟨_, rfl⟩
              rw [hcc] at hc
              by_cases hd : Txt.isDig e
              · have hd' := hd
                unfold Txt.isDig at hd
                have h1 : decide ((e.toNat : Int) < 48) = false := by simp; omega
                have h2 : decide (57 < (e.toNat : Int)) = false := by simp; omega
                have HN : Hid (Txt.AllDig (t.take (k + 1))) := by
                  show Txt.AllDig _
                  rw [List.take_add_one, hc]
                  refine HA.out.append (fun x hx => ?_)
                  rw [show (some e).toList = [e] by rfl, List.mem_singleton] at hx
                  subst hx
                  exact hd'
                clear hc hd hd' HA
                go_wp2
                go_round
                case rel => exact ⟨k + 1, by go_num, by omega, HN⟩
                case measure => simp [intOf]; omega
              · obtain ⟨rfl, rfl⟩ := H0.out.2.2.2.2.bad (not_dig H0.out.2.1 hc hd)
                unfold Txt.isDig at hd
                by_cases h1 : e.toNat < 48
                · have h1' : (e.toNat : Int) < 48 := by omega
                  clear hc hd HA
                  go_wp2
                  refine bodyPost_ret (res_ct rfl _ rfl (aggN.load (HW.out.1.set2 _ _)) rfl) rfl ⟨false, none, 0, 0, rfl, RN.zero _, ?_⟩
                  exact Chg.owned HW.out.2.1 (Chg.at2 _ _ _ _) (fun k e => by have := HW.out.2.2; omega)
                · have h1' : decide ((e.toNat : Int) < 48) = false := by simp; omega
                  have h2' : 57 < (e.toNat : Int) := by omega
                  clear hc hd HA
                  go_wp2
                  refine bodyPost_ret (res_ct rfl _ rfl (aggN.load (HW.out.1.set2 _ _)) rfl) rfl ⟨false, none, 0, 0, rfl, RN.zero _, ?_⟩
                  exact Chg.owned HW.out.2.1 (Chg.at2 _ _ _ _) (fun k e => by have := HW.out.2.2; omega)
            · obtain rfl : c.size = k := by omega
              have hall : Txt.AllDig t := by have := HA.out; rwa [List.take_of_length_le (by have := H0.out.2.2.2.1; omega)] at this
              have hge : decide (((c.size : Nat) : Int) < ((c.size : Nat) : Int)) = false := by simp
              have hrd := pass_reads H0.out.2.1 H0.out.2.2.1 HP.out hall
              obtain ⟨hZ, hE⟩ := H0.out.2.2.2.2.ok hrd
              have HR := Lib.hid (And.intro hall (And.intro H0.out.2.2.2.1 (And.intro hZ (And.intro hE H0.out.1))))
              clear hall hrd hZ hE HA hk hlt HP H0
              go_wp2_with fail
              clear hge
              go_loopw [7, 8, 9, 10] (fun s7 s8 _ _ wr => ∃ (R : Option Addr) (m d : Nat) (z : Int) (o : List Nat), s7 = .slice R m d ∧ s8 = .int .i64 z ∧ -4 < z ∧ z ≤ (c.size : Int) ∧ m ≤ 5000 ∧ Hid (Txt.PrI t z o ∧ wr.ownsRow W.heap.size 3 1 (.slice R m d) m (nv .i64 o) ∧ o.length = m ∧ New W wr)) (fun _ s8 _ _ _ => (intOf s8 + 4).toNat)
              case atStart => exact ⟨none, 0, 0, (c.size : Int), [], rfl, rfl, by omega, by omega, by omega, by have := Txt.PrI.start t; rwa [HR.out.2.1] at this, World.ownsRow_nil _ _ _ _, rfl, Chg.refl _ _⟩
              case round =>
                obtain ⟨R, m, d, z, o, rfl, rfl, hz1, hz2, hm, HO⟩ := hrel
                obtain ⟨wo, rfl⟩ : ∃ wo : World, wo = wr := ⟨_, rfl⟩
                by_cases h0 : 0 < z
                · obtain ⟨zn, rfl⟩ : ∃ zn : Nat, z = zn := ⟨z.toNat, by omega⟩
                  obtain ⟨z4, hz4⟩ : ∃ z4 : Int, (zn : Int) - 4 = z4 := ⟨_, rfl⟩
                  obtain ⟨p, hp⟩ : ∃ p : Nat, zn - 4 = p := ⟨_, rfl⟩
                  have hmx : ∀ ts t W, (Builtin.max_ ts t #[.int .i64 0, .int .i64 z4]).run Tryz.prog W = .ok (.int .i64 (p : Int)) W := fun ts t W => run_max2 (P := Tryz.prog) 0 z4 (p : Int) (by omega) ts t W
                  have hst := HO.out.1.step HR.out.1 (by omega)
                  rw [hp, hz4] at hst
                  have hz4b : -4 < z4 := by omega
                  have hz4c : z4 < (zn : Int) := by omega
                  have hpz : p < zn := by omega
                  have hp4 : zn ≤ p + 4 := by omega
                  have HS := Lib.hid hst
                  have HZ := Lib.hid hz4
                  clear hst hp
                  go_wp2_with fail
                  clear hmx hz4
                  go_loop [9, 10] (fun s9 s10 => ∃ v i : Nat, s9 = .int .i64 (v : Int) ∧ s10 = .int .i64 (i : Int) ∧ p ≤ i ∧ i ≤ zn ∧ v < 10000 ∧ Hid (Txt.decVal ((t.drop p).take (i - p)) = v)) (fun _ s10 => zn - (intOf s10).toNat)
                  case atStart => exact ⟨0, p, rfl, rfl, by omega, by omega, by omega, by show _ = _; rw [Nat.sub_self, List.take_zero]; rfl⟩
                  case round =>
                    obtain ⟨v, i, rfl, rfl, hi1, hi2, hv, HV⟩ := hrel
                    by_cases hlt : i < zn
                    · have hic : i < c.size := by omega
                      have hc := str_at HR.out.2.2.2.2.symm hic
                      obtain ⟨e, hcc⟩ : ∃ e, c[i] = e := ⟨_, rfl⟩
                      rw [hcc] at hc
                      have hdg := HR.out.1 e (List.mem_of_getElem? hc)
                      unfold Txt.isDig at hdg
                      obtain ⟨j, hj⟩ : ∃ j, i = p + j := ⟨i - p, by omega⟩
                      have hnx := Txt.decVal_next (t := t) (a := p) (j := j) (c := e) (by rw [← hj]; exact hc)
                      have hlt4 := Txt.decVal_lt ((HR.out.1.drop p).take (j + 1))
                      have hV := HV.out
                      rw [show i - p = j by omega] at hV
                      rw [hnx, hV] at hlt4
                      rw [hV] at hnx
                      have hb4 : v * 10 + (e.toNat - 48) < 10000 := Nat.lt_of_lt_of_le hlt4 (Nat.le_trans (Nat.pow_le_pow_right (by omega) (show _ ≤ 4 by simp; omega)) (by decide))
                      obtain ⟨x, hx⟩ : ∃ x : Nat, e.toNat - 48 = x := ⟨_, rfl⟩
                      have hxi : (e.toNat : Int) - 48 = (x : Int) := by omega
                      have hxb : x ≤ 9 := by omega
                      rw [hx] at hb4 hnx
                      obtain ⟨y, hy⟩ : ∃ y : Nat, v * 10 + x = y := ⟨_, rfl⟩
                      have hyi : 10 * (v : Int) + (x : Int) = (y : Int) := by omega
                      have HN : Hid (Txt.decVal ((t.drop p).take (i + 1 - p)) = y) := by
                        show _ = _
                        rw [show i + 1 - p = j + 1 by omega, hnx, hy]
                      have hyb : y < 10000 := by omega
                      clear hc hj hnx hlt4 hV hb4 hx hy HV hdg
                      go_wp2
                      go_round
                      case rel => exact ⟨y, i + 1, rfl, by go_num, by omega, by omega, by omega, HN⟩
                      case measure => simp [intOf]; omega
                    · obtain rfl : i = zn := by omega
                      have hge : decide ((i : Int) < (i : Int)) = false := by simp
                      clear hlt hi2
                      go_wp2_with (at_builtin; refine wpList_app elemInts rfl _ _ rfl rfl (HO.out.2.1.alloc _) rfl (Rd.lit (nv .i64 [v]) rfl) (nv_one _) (by simp only [maxLen]; omega) (by omega) (by have := HO.out.2.2.2.size; simp; omega) ?_; intro R' d' w1 hown hg hat; have HA := Lib.hid (And.intro hown hg); clear hown hg hat; have hz4 := HZ.out)
                      go_roundw
                      case rel =>
                        obtain ⟨hown, hg⟩ := HA.out
                        rw [← nv_append] at hown
                        have hS := HS.out
                        rw [HV.out] at hS
                        have hl5 := hS.len hz4b
                        have htl := HR.out.2.1
                        have hol := HO.out.2.2.1
                        rw [List.length_append, List.length_singleton] at hl5
                        refine ⟨R', m + 1, d', z4, o ++ [v], rfl, rfl, hz4b, by omega, by omega, hS, hown, by rw [List.length_append, List.length_singleton, hol], ?_⟩
                        exact (HO.out.2.2.2.alloc _).grown hg (fun k hk hlt => by have := own_blk_le HO.out.2.1 hk; omega)
                      case measure => simp [intOf]; omega
                · have hge : decide ((0 : Int) < z) = false := by simp; omega
                  obtain ⟨hdg, hvl⟩ := HO.out.1.done (by omega)
                  have hnr := normal_rn false R m d o wo (Rd.of_own HO.out.2.1) hdg (own_cap HO.out.2.1).1 (own_cap HO.out.2.1).2
                  rw [hvl] at hnr
                  obtain ⟨V, hV⟩ : ∃ V : Int, sg false (Txt.decVal t) = V := ⟨_, rfl⟩
                  rw [hV] at hnr
                  have hZV := HR.out.2.2.1
                  have hEV := HR.out.2.2.2.1
                  rw [hV] at hZV hEV
                  have HX := Lib.hid (And.intro hnr (And.intro (HO.out.2.2.2) (And.intro hZV hEV)))
                  clear hdg hvl hnr hV hZV hEV HO
                  go_wp2_with fail
                  clear hge
                  refine HX.out.1.mono ?_
                  rintro e w5 ⟨v5, rfl, ⟨s5, A5, n5, c5, rfl, hs5, hm5⟩, hn5⟩
                  have hr5 : RN w5 (.agg #[.bool s5, .slice A5 n5 c5]) V := ⟨s5, A5, n5, c5, rfl, hs5, hm5⟩
                  have H5 := Lib.hid (And.intro hr5 hn5)
                  clear hr5 hs5 hm5 hn5
                  go_wp2_with fail
                  refine Calls.new1 ?_
                  intro W6 hb6 hn6 hz6
                  obtain ⟨g6, hg6⟩ : ∃ x, w5.heap.size = x := ⟨_, rfl⟩
                  rw [hg6] at hb6
                  simp only [hg6]
                  have hNW : New W W6 := (HX.out.2.1.new H5.out.2).new hn6
                  obtain ⟨F, hF⟩ : ∃ F, decide (V.natAbs < topN) = F := ⟨_, rfl⟩
                  refine (fits_any _ V W6 (H5.out.1.new hn6) F hF).mono ?_
                  rintro e w7 ⟨rfl, hn7⟩
                  have hb2 := HW.out.1.chg (hNW.new hn7) (fun h => h)
                  have hb67 := hb6.chg hn7 (fun h => h)
                  have q20 := hb2.cell 0 rfl
                  have q21 := hb2.cell 1 rfl
                  have p20 := hb2.frozen 0
                  have p21 := hb2.frozen 1
                  have q60 := hb67.cell 0 (u := .bool s5) rfl
                  have q61 := hb67.cell 1 (u := .slice A5 n5 c5) rfl
                  have HY := Lib.hid (And.intro hb2 (And.intro ((H5.out.1.new hn6).new hn7) (And.intro (HW.out.2.1.new (hNW.new hn7)) hF)))
                  clear hb2 hb67 hb6 hn6 hz6 hg6 hNW hn7 hF k20 k21 f20 f21
                  by_cases hf : V.natAbs < topN
                  · obtain rfl : F = true := by rw [← HY.out.2.2.2]; simp [hf]
                    have hin := rg_in hf
                    obtain rfl : E = 0 := by rw [HX.out.2.2.2, hin.2]
                    obtain rfl : Z = V := by rw [HX.out.2.2.1, hin.1]
                    have HYY := Lib.hid (And.intro HY.out.1 (And.intro HY.out.2.1 HY.out.2.2.1))
                    clear hin hf HX HY HR
                    go_wp2
                    refine bodyPost_ret (res_ct rfl _ rfl (aggN.load (HYY.out.1.set2 _ _)) rfl) rfl ⟨s5, A5, n5, c5, rfl, HYY.out.2.1.store HYY.out.1 (noInt_two' _ _ _ _) (Chg.at2 _ _ _ _), ?_⟩
                    exact Chg.owned HYY.out.2.2 (Chg.at2 _ _ _ _) (fun k e => by have := HW.out.2.2; omega)
                  · obtain rfl : F = false := by rw [← HY.out.2.2.2]; simp [hf]
                    have hout := rg_out hf
                    obtain rfl : E = 4 := by rw [HX.out.2.2.2, hout.2]
                    obtain rfl : Z = 0 := by rw [HX.out.2.2.1, hout.1]
                    clear hout hf HX HR
                    go_wp2
                    refine bodyPost_ret (res_ct rfl _ rfl (aggN.load (HY.out.1.set2 _ _)) rfl) rfl ⟨false, none, 0, 0, rfl, RN.zero _, ?_⟩
                    exact Chg.owned HY.out.2.2.1 (Chg.at2 _ _ _ _) (fun k e => by have := HW.out.2.2; omega)
      · have h48i : ((a.toNat : Int) == 48) = false := by
          rw [beq_eq_false_iff_ne]
          intro e
          exact h48 (UInt8.toNat_inj.1 (by simpa using (by omega : a.toNat = 48)))
        have HP : Hid (Pass false t) := ⟨fun e => by have := H0.out.2.2.2.1; rw [e] at this; simp at this; omega, fun e => by rw [HH.out] at e; simp at e; exact absurd e h48⟩
        go_upto_region 9 with fail
        clear hs0 hs0' hpos ha h48 h48i HH
        go_wp2_with fail
        clear h1 h1' hn
        go_loop [6] (fun i => ∃ k : Nat, i = .int .i64 (k : Int) ∧ k ≤ c.size ∧ Hid (Txt.AllDig (t.take k))) (fun i => c.size - (intOf i).toNat)
        case atStart => exact ⟨0, rfl, by omega, by show Txt.AllDig _; rw [List.take_zero]; exact Txt.AllDig.nil⟩
        case round =>
          obtain ⟨k, rfl, hk, HA⟩ := hrel
          by_cases hlt : k < c.size
          · have hc := str_at H0.out.1.symm hlt
            obtain ⟨e, hcc⟩ : ∃ e, c[k] = e := ⟨_, rfl⟩
            rw [hcc] at hc
            by_cases hd : Txt.isDig e
            · have hd' := hd
              unfold Txt.isDig at hd
              have h1 : decide ((e.toNat : Int) < 48) = false := by simp; omega
              have h2 : decide (57 < (e.toNat : Int)) = false := by simp; omega
              have HN : Hid (Txt.AllDig (t.take (k + 1))) := by
                show Txt.AllDig _
                rw [List.take_add_one, hc]
                refine HA.out.append (fun x hx => ?_)
                rw [show (some e).toList = [e] by rfl, List.mem_singleton] at hx
                subst hx
                exact hd'
              clear hc hd hd' HA
              go_wp2
              go_round
              case rel => exact ⟨k + 1, by go_num, by omega, HN⟩
              case measure => simp [intOf]; omega
            · obtain ⟨rfl, rfl⟩ := H0.out.2.2.2.2.bad (not_dig H0.out.2.1 hc hd)
              unfold Txt.isDig at hd
              by_cases h1 : e.toNat < 48
              · have h1' : (e.toNat : Int) < 48 := by omega
                clear hc hd HA
                go_wp2
                refine bodyPost_ret (res_ct rfl _ rfl (aggN.load (HW.out.1.set2 _ _)) rfl) rfl ⟨false, none, 0, 0, rfl, RN.zero _, ?_⟩
                exact Chg.owned HW.out.2.1 (Chg.at2 _ _ _ _) (fun k e => by have := HW.out.2.2; omega)
              · have h1' : decide ((e.toNat : Int) < 48) = false := by simp; omega
                have h2' : 57 < (e.toNat : Int) := by omega
                clear hc hd HA
                go_wp2
                refine bodyPost_ret (res_ct rfl _ rfl (aggN.load (HW.out.1.set2 _ _)) rfl) rfl ⟨false, none, 0, 0, rfl, RN.zero _, ?_⟩
                exact Chg.owned HW.out.2.1 (Chg.at2 _ _ _ _) (fun k e => by have := HW.out.2.2; omega)
          · obtain rfl : c.size = k := by omega
            have hall : Txt.AllDig t := by have := HA.out; rwa [List.take_of_length_le (by have := H0.out.2.2.2.1; omega)] at this
            have hge : decide (((c.size : Nat) : Int) < ((c.size : Nat) : Int)) = false := by simp
            have hrd := pass_reads H0.out.2.1 H0.out.2.2.1 HP.out hall
            obtain ⟨hZ, hE⟩ := H0.out.2.2.2.2.ok hrd
            have HR := Lib.hid (And.intro hall (And.intro H0.out.2.2.2.1 (And.intro hZ (And.intro hE H0.out.1))))
            clear hall hrd hZ hE HA hk hlt HP H0
            go_wp2_with fail
            clear hge
            go_loopw [7, 8, 9, 10] (fun s7 s8 _ _ wr => ∃ (R : Option Addr) (m d : Nat) (z : Int) (o : List Nat), s7 = .slice R m d ∧ s8 = .int .i64 z ∧ -4 < z ∧ z ≤ (c.size : Int) ∧ m ≤ 5000 ∧ Hid (Txt.PrI t z o ∧ wr.ownsRow W.heap.size 3 1 (.slice R m d) m (nv .i64 o) ∧ o.length = m ∧ New W wr)) (fun _ s8 _ _ _ => (intOf s8 + 4).toNat)
            case atStart => exact ⟨none, 0, 0, (c.size : Int), [], rfl, rfl, by omega, by omega, by omega, by have := Txt.PrI.start t; rwa [HR.out.2.1] at this, World.ownsRow_nil _ _ _ _, rfl, Chg.refl _ _⟩
            case round =>
              obtain ⟨R, m, d, z, o, rfl, rfl, hz1, hz2, hm, HO⟩ := hrel
              obtain ⟨wo, rfl⟩ : ∃ wo : World, wo = wr := ⟨_, rfl⟩
              by_cases h0 : 0 < z
              · obtain ⟨zn, rfl⟩ : ∃ zn : Nat, z = zn := ⟨z.toNat, by omega⟩
                obtain ⟨z4, hz4⟩ : ∃ z4 : Int, (zn : Int) - 4 = z4 := ⟨_, rfl⟩
                obtain ⟨p, hp⟩ : ∃ p : Nat, zn - 4 = p := ⟨_, rfl⟩
                have hmx : ∀ ts t W, (Builtin.max_ ts t #[.int .i64 0, .int .i64 z4]).run Tryz.prog W = .ok (.int .i64 (p : Int)) W := fun ts t W => run_max2 (P := Tryz.prog) 0 z4 (p : Int) (by omega) ts t W
                have hst := HO.out.1.step HR.out.1 (by omega)
                rw [hp, hz4] at hst
                have hz4b : -4 < z4 := by omega
                have hz4c : z4 < (zn : Int) := by omega
                have hpz : p < zn := by omega
                have hp4 : zn ≤ p + 4 := by omega
                have HS := Lib.hid hst
                have HZ := Lib.hid hz4
                clear hst hp
                go_wp2_with fail
                clear hmx hz4
                go_loop [9, 10] (fun s9 s10 => ∃ v i : Nat, s9 = .int .i64 (v : Int) ∧ s10 = .int .i64 (i : Int) ∧ p ≤ i ∧ i ≤ zn ∧ v < 10000 ∧ Hid (Txt.decVal ((t.drop p).take (i - p)) = v)) (fun _ s10 => zn - (intOf s10).toNat)
                case atStart => exact ⟨0, p, rfl, rfl, by omega, by omega, by omega, by show _ = _; rw [Nat.sub_self, List.take_zero]; rfl⟩
                case round =>
                  obtain ⟨v, i, rfl, rfl, hi1, hi2, hv, HV⟩ := hrel
                  by_cases hlt : i < zn
                  · have hic : i < c.size := by omega
                    have hc := str_at HR.out.2.2.2.2.symm hic
                    obtain ⟨e, hcc⟩ : ∃ e, c[i] = e := ⟨_, rfl⟩
                    rw [hcc] at hc
                    have hdg := HR.out.1 e (List.mem_of_getElem? hc)
                    unfold Txt.isDig at hdg
                    obtain ⟨j, hj⟩ : ∃ j, i = p + j := ⟨i - p, by omega⟩
                    have hnx := Txt.decVal_next (t := t) (a := p) (j := j) (c := e) (by rw [← hj]; exact hc)
                    have hlt4 := Txt.decVal_lt ((HR.out.1.drop p).take (j + 1))
                    have hV := HV.out
                    rw [show i - p = j by omega] at hV
                    rw [hnx, hV] at hlt4
                    rw [hV] at hnx
                    have hb4 : v * 10 + (e.toNat - 48) < 10000 := Nat.lt_of_lt_of_le hlt4 (Nat.le_trans (Nat.pow_le_pow_right (by omega) (show _ ≤ 4 by simp; omega)) (by decide))
                    obtain ⟨x, hx⟩ : ∃ x : Nat, e.toNat - 48 = x := ⟨_, rfl⟩
                    have hxi : (e.toNat : Int) - 48 = (x : Int) := by omega
                    have hxb : x ≤ 9 := by omega
                    rw [hx] at hb4 hnx
                    obtain ⟨y, hy⟩ : ∃ y : Nat, v * 10 + x = y := ⟨_, rfl⟩
                    have hyi : 10 * (v : Int) + (x : Int) = (y : Int) := by omega
                    have HN : Hid (Txt.decVal ((t.drop p).take (i + 1 - p)) = y) := by
                      show _ = _
                      rw [show i + 1 - p = j + 1 by omega, hnx, hy]
                    have hyb : y < 10000 := by omega
                    clear hc hj hnx hlt4 hV hb4 hx hy HV hdg
                    go_wp2
                    go_round
                    case rel => exact ⟨y, i + 1, rfl, by go_num, by omega, by omega, by omega, HN⟩
                    case measure => simp [intOf]; omega
                  · obtain rfl : i = zn := by omega
                    have hge : decide ((i : Int) < (i : Int)) = false := by simp
                    clear hlt hi2
                    go_wp2_with (at_builtin; refine wpList_app elemInts rfl _ _ rfl rfl (HO.out.2.1.alloc _) rfl (Rd.lit (nv .i64 [v]) rfl) (nv_one _) (by simp only [maxLen]; omega) (by omega) (by have := HO.out.2.2.2.size; simp; omega) ?_; intro R' d' w1 hown hg hat; have HA := Lib.hid (And.intro hown hg); clear hown hg hat; have hz4 := HZ.out)
                    go_roundw
                    case rel =>
                      obtain ⟨hown, hg⟩ := HA.out
                      rw [← nv_append] at hown
                      have hS := HS.out
                      rw [HV.out] at hS
                      have hl5 := hS.len hz4b
                      have htl := HR.out.2.1
                      have hol := HO.out.2.2.1
                      rw [List.length_append, List.length_singleton] at hl5
                      refine ⟨R', m + 1, d', z4, o ++ [v], rfl, rfl, hz4b, by omega, by omega, hS, hown, by rw [List.length_append, List.length_singleton, hol], ?_⟩
                      exact (HO.out.2.2.2.alloc _).grown hg (fun k hk hlt => by have := own_blk_le HO.out.2.1 hk; omega)
                    case measure => simp [intOf]; omega
              · have hge : decide ((0 : Int) < z) = false := by simp; omega
                obtain ⟨hdg, hvl⟩ := HO.out.1.done (by omega)
                have hnr := normal_rn false R m d o wo (Rd.of_own HO.out.2.1) hdg (own_cap HO.out.2.1).1 (own_cap HO.out.2.1).2
                rw [hvl] at hnr
                obtain ⟨V, hV⟩ : ∃ V : Int, sg false (Txt.decVal t) = V := ⟨_, rfl⟩
                rw [hV] at hnr
                have hZV := HR.out.2.2.1
                have hEV := HR.out.2.2.2.1
                rw [hV] at hZV hEV
                have HX := Lib.hid (And.intro hnr (And.intro (HO.out.2.2.2) (And.intro hZV hEV)))
                clear hdg hvl hnr hV hZV hEV HO
                go_wp2_with fail
                clear hge
                refine HX.out.1.mono ?_
                rintro e w5 ⟨v5, rfl, ⟨s5, A5, n5, c5, rfl, hs5, hm5⟩, hn5⟩
                have hr5 : RN w5 (.agg #[.bool s5, .slice A5 n5 c5]) V := ⟨s5, A5, n5, c5, rfl, hs5, hm5⟩
                have H5 := Lib.hid (And.intro hr5 hn5)
                clear hr5 hs5 hm5 hn5
                go_wp2_with fail
                refine Calls.new1 ?_
                intro W6 hb6 hn6 hz6
                obtain ⟨g6, hg6⟩ : ∃ x, w5.heap.size = x := ⟨_, rfl⟩
                rw [hg6] at hb6
                simp only [hg6]
                have hNW : New W W6 := (HX.out.2.1.new H5.out.2).new hn6
                obtain ⟨F, hF⟩ : ∃ F, decide (V.natAbs < topN) = F := ⟨_, rfl⟩
                refine (fits_any _ V W6 (H5.out.1.new hn6) F hF).mono ?_
                rintro e w7 ⟨rfl, hn7⟩
                have hb2 := HW.out.1.chg (hNW.new hn7) (fun h => h)
                have hb67 := hb6.chg hn7 (fun h => h)
                have q20 := hb2.cell 0 rfl
                have q21 := hb2.cell 1 rfl
                have p20 := hb2.frozen 0
                have p21 := hb2.frozen 1
                have q60 := hb67.cell 0 (u := .bool s5) rfl
                have q61 := hb67.cell 1 (u := .slice A5 n5 c5) rfl
                have HY := Lib.hid (And.intro hb2 (And.intro ((H5.out.1.new hn6).new hn7) (And.intro (HW.out.2.1.new (hNW.new hn7)) hF)))
                clear hb2 hb67 hb6 hn6 hz6 hg6 hNW hn7 hF k20 k21 f20 f21
                by_cases hf : V.natAbs < topN
                · obtain rfl : F = true := by rw [← HY.out.2.2.2]; simp [hf]
                  have hin := rg_in hf
                  obtain rfl : E = 0 := by rw [HX.out.2.2.2, hin.2]
                  obtain rfl : Z = V := by rw [HX.out.2.2.1, hin.1]
                  have HYY := Lib.hid (And.intro HY.out.1 (And.intro HY.out.2.1 HY.out.2.2.1))
                  clear hin hf HX HY HR
                  go_wp2
                  refine bodyPost_ret (res_ct rfl _ rfl (aggN.load (HYY.out.1.set2 _ _)) rfl) rfl ⟨s5, A5, n5, c5, rfl, HYY.out.2.1.store HYY.out.1 (noInt_two' _ _ _ _) (Chg.at2 _ _ _ _), ?_⟩
                  exact Chg.owned HYY.out.2.2 (Chg.at2 _ _ _ _) (fun k e => by have := HW.out.2.2; omega)
                · obtain rfl : F = false := by rw [← HY.out.2.2.2]; simp [hf]
                  have hout := rg_out hf
                  obtain rfl : E = 4 := by rw [HX.out.2.2.2, hout.2]
                  obtain rfl : Z = 0 := by rw [HX.out.2.2.1, hout.1]
                  clear hout hf HX HR
                  go_wp2
                  refine bodyPost_ret (res_ct rfl _ rfl (aggN.load (HY.out.1.set2 _ _)) rfl) rfl ⟨false, none, 0, 0, rfl, RN.zero _, ?_⟩
                  exact Chg.owned HY.out.2.2.1 (Chg.at2 _ _ _ _) (fun k e => by have := HW.out.2.2; omega)
end Go.Proofs.YtgofjkppeobjfaaGreatDoor
