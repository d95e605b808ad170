/- Contract of refuterref03.Gcd. -/
import Derived.Test.YtgofjkppeobjfaaGreatDoorB5
import Derived.Deep.LoopGhost
import Derived.Deep.CutRange
namespace Go.Proofs.YtgofjkppeobjfaaGreatDoor
set_option linter.unusedVariables false
open Go.RowKit Go.Mem Go.Dig

theorem normal_h (A : Option Addr) (n c m : Nat) (W : World) (hm : DM W A n c m) :
    Calls Tryz.prog 31 #[.bool false, .slice A n c] W fun e w' => ∃ A n c, e = .returned (.agg #[.bool false, .slice A n c]) ∧ Hid (RN w' (.agg #[.bool false, .slice A n c]) (m : Int) ∧ New W w') := by
  obtain ⟨l, hr, h1, h2, hN⟩ := hm
  refine (normal_dm A n c l W hr hN.digs h1 h2).mono ?_
  rintro e w' ⟨T, rfl, hd, -, hn⟩
  rw [hN.val] at hd
  exact ⟨_, _, _, rfl, ⟨false, _, _, _, rfl, by simp, by simpa using hd⟩, hn⟩
theorem rdiv_h (v v' : Value) (x y : Int) (W : World) (hx : RN W v x) (hy : RN W v' y) (bx : x.natAbs < 2 ^ 1000000) (bY : y.natAbs < 2 ^ 900000) (h0 : y ≠ 0) :
    Calls Tryz.prog 35 #[v, v'] W fun e w' => ∃ s A n c s' A' n' c', e = .returned (.tuple #[.agg #[.bool s, .slice A n c], .agg #[.bool s', .slice A' n' c']]) ∧ Hid (RN w' (.agg #[.bool s, .slice A n c]) (x / y) ∧ RN w' (.agg #[.bool s', .slice A' n' c']) (x % y) ∧ New W w') :=
  (rdiv_any v v' x y W hx hy bx bY h0).mono fun e w' ⟨v, v', h1, ⟨s, A, n, c, h2, h3, h4⟩, ⟨s', A', n', c', h2', h3', h4'⟩, h5⟩ => ⟨s, A, n, c, s', A', n', c', by rw [h1, h2, h2'], ⟨s, A, n, c, rfl, h3, h4⟩, ⟨s', A', n', c', rfl, h3', h4'⟩, h5⟩
theorem pow_le900 {x k : Nat} (h : x < 2 ^ k) (m : Nat) (hk : k ≤ m) : x < 2 ^ m := Nat.lt_of_lt_of_le h (Nat.pow_le_pow_right (by omega) hk)
theorem RN.len0' {w : World} {s : Bool} {A : Option Addr} {n c : Nat} {z : Int} (h : RN w (.agg #[.bool s, .slice A n c]) z) : n = 0 ↔ z = 0 := by
  obtain ⟨s', A', n', c', he, hs, hm⟩ := h
  simp only [Value.agg.injEq, Array.mk.injEq, List.cons.injEq, Value.slice.injEq, Value.bool.injEq] at he
  obtain ⟨-, ⟨-, rfl, -⟩, -⟩ := he
  have := hm.pos
  omega

theorem RN.store22 {W : World} {v : Value} {z : Int} {g g' : Nat} {t t' : TypeId} {a b c d : Value} (hm : RN W v z) (h : Blk W g t #[a, b]) (h' : Blk W g' t' #[c, d]) (hne : g ≠ g') (hi : NoInt [a, b]) (hi' : NoInt [c, d]) (p q r u : Value) : RN (set22 W g g' p q r u) v z := by
  obtain ⟨s, A, n, k, h1, h2, h3⟩ := hm
  exact ⟨s, A, n, k, h1, h2, h3.store22 h h' hne hi hi' p q r u⟩

/-- What the loop of Gcd holds: the boxes g5, g6, and the one of the result. -/
def GcW (w : World) (g4 g5 g6 : Nat) (x y : Int) (k : Nat) (wr : World) : Prop :=
  ∃ s A n c s' A' n' c' X, Blk wr g5 24 #[.bool s, .slice A n c] ∧ RN wr (.agg #[.bool s, .slice A n c]) ((X : Nat) : Int) ∧ Blk wr g6 24 #[.bool s', .slice A' n' c'] ∧ RN wr (.agg #[.bool s', .slice A' n' c']) (k : Int) ∧
    Blk wr g4 24 #[.bool false, .slice none 0 0] ∧ New w wr ∧ X < 2 ^ 900000 ∧ k < 2 ^ 900000 ∧ Nat.gcd X k = Nat.gcd x.natAbs y.natAbs

set_option maxRecDepth 100000 in
set_option maxHeartbeats 1000000 in
theorem rgcd_any (v v' : Value) (x y : Int) (w : World) (hx : RN w v x) (hy : RN w v' y) (bx : x.natAbs < 2 ^ 900000) (bY : y.natAbs < 2 ^ 900000) :
    Calls Tryz.prog 10 #[v, v'] w fun e w' => ∃ s A n c, e = .returned (.agg #[.bool s, .slice A n c]) ∧ Hid (RN w' (.agg #[.bool s, .slice A n c]) ((Int.gcd x y : Nat) : Int) ∧ New w w') := by
  obtain ⟨s, A, n, c, rfl, hs, hm⟩ := hx
  obtain ⟨t, A', n', c', rfl, ht, hm'⟩ := hy
  have H0 := Lib.hid (And.intro hm (And.intro hm' (And.intro bx bY)))
  clear hs hm ht hm' bx bY
  go_enter Tryz.func10, Tryz.ntmps10
  go_wp2_with fail
  refine Calls.new3 ?_
  intro W hb2 hb3 hb4 hnW hzW
  obtain ⟨g2, hg2⟩ : ∃ x, w.heap.size = x := ⟨_, rfl⟩
  obtain ⟨g3, hg3⟩ : ∃ x, w.heap.size + 1 = x := ⟨_, rfl⟩
  obtain ⟨g4, hg4⟩ : ∃ x, w.heap.size + 1 + 1 = x := ⟨_, rfl⟩
  rw [hg3] at hb3
  rw [hg4] at hb4
  simp only [hg4]
  simp only [hg3]
  simp only [hg2]
  have HW := Lib.hid (And.intro hb3 (And.intro hb4 (And.intro hnW (show w.heap.size ≤ g4 by omega))))
  clear hb2 hb3 hb4 hnW hzW hg2 hg3 hg4
  refine (normal_h A n c x.natAbs W (H0.out.1.new HW.out.2.2.1)).mono ?_
  rintro e w1 ⟨A1, n1, c1, rfl, H1⟩
  have c31 := (HW.out.1.chg (H1.out.2.alloc (.cells #[.bool false, .slice A1 n1 c1] 24)) (fun h => h)).cell 1 (u := .slice A' n' c') rfl
  go_wp2_with fail
  clear c31
  refine Calls.new1 ?_
  intro W2 hb5 hn2 hz2
  obtain ⟨g5, hg5⟩ : ∃ x, w1.heap.size = x := ⟨_, rfl⟩
  rw [hg5] at hb5
  simp only [hg5]
  have hnw : New w W2 := (HW.out.2.2.1.new H1.out.2).new hn2
  refine (normal_h A' n' c' y.natAbs W2 (H0.out.2.1.new hnw)).mono ?_
  rintro e w3 ⟨A3, n3, c3, rfl, H3⟩
  have h45 : g4 < g5 := by
    have := (HW.out.2.1.chg H1.out.2 (fun h => h)).lt
    omega
  have HX := Lib.hid (And.intro hb5 (And.intro hn2 hnw))
  clear hb5 hn2 hz2 hg5 hnw
  go_wp2_with fail
  refine Code.new1 ?_
  intro W4 hb6 hn4 hz4
  obtain ⟨g6, hg6⟩ : ∃ x, w3.heap.size = x := ⟨_, rfl⟩
  rw [hg6] at hb6
  simp only [hg6]
  have h56 : g5 < g6 := by
    have := (HX.out.1.chg H3.out.2 (fun h => h)).lt
    omega
  have hN4 : New W2 W4 := H3.out.2.new hn4
  have hS : GcW w g4 g5 g6 x y y.natAbs W4 := ⟨_, _, _, _, _, _, _, _, x.natAbs, HX.out.1.chg hN4 (fun h => h), (H1.out.1.new HX.out.2.1).new hN4, hb6, H3.out.1.new hn4, HW.out.2.1.chg ((H1.out.2.new HX.out.2.1).new hN4) (fun h => h), HX.out.2.2.new hN4, H0.out.2.2.1, H0.out.2.2.2, rfl⟩
  have HS := Lib.hid hS
  have HG := Lib.hid (And.intro h45 (And.intro h56 HW.out.2.2.2))
  clear hS hb6 hn4 hz4 hg6 hN4 h45 h56 HX H1 H3 HW H0
  go_loopg [7, 8] y.natAbs (fun k _ _ wr => Hid (GcW w g4 g5 g6 x y k wr))
  case atStart => exact HS.out
  case round =>
    obtain ⟨wo, rfl⟩ : ∃ wo : World, wo = wr := ⟨_, rfl⟩
    obtain ⟨sa, Aa, na, ca, sb, Ab, nb, cb, X, hb5, hX, hb6, hk, hb4, hnw, bX, bk, hg⟩ := Hid.out hrel
    by_cases h0 : nb = 0
    · subst h0
      obtain rfl : gk = 0 := by have := hk.len0'; omega
      rw [Nat.gcd_zero_right] at hg
      have k60 := hb6.cell 1 (u := .slice Ab 0 cb) rfl
      have k50 := hb5.cell 0 (u := .bool sa) rfl
      have k51 := hb5.cell 1 (u := .slice Aa na ca) rfl
      have k40 := hb4.cell 0 rfl
      have k41 := hb4.cell 1 rfl
      have f40 := hb4.frozen 0
      have f41 := hb4.frozen 1
      have HK := Lib.hid (And.intro hb4 (And.intro hX (And.intro hnw hg)))
      clear hb4 hX hnw hg hb5 hb6 hk bX bk hrel
      go_wp2
      refine bodyPost_ret (res_c rfl _ rfl (aggN.load (HK.out.1.set2 _ _))) rfl ⟨sa, Aa, na, ca, rfl, ?_, ?_⟩
      · have := HK.out.2.1.store HK.out.1 (noInt_two' _ _ _ _) (Chg.at2 _ g4 (.bool sa) (.slice Aa na ca))
        rwa [HK.out.2.2.2] at this
      · exact Chg.owned HK.out.2.2.1 (Chg.at2 _ _ _ _) (fun k e => by have := HG.out; omega)
    · have hpos : (0 : Int) < (nb : Int) := by omega
      have hgk : (gk : Int) ≠ 0 := by have := hk.len0'; omega
      have hdv := rdiv_h _ _ _ _ wo hX hk (pow_le900 (k := 900000) bX 1000000 (by decide)) bk hgk
      have k60 := hb6.cell 0 (u := .bool sb) rfl
      have k61 := hb6.cell 1 (u := .slice Ab nb cb) rfl
      have k50 := hb5.cell 0 (u := .bool sa) rfl
      have k51 := hb5.cell 1 (u := .slice Aa na ca) rfl
      have HD := Lib.hid hdv
      have HK := Lib.hid (And.intro hb5 (And.intro hb6 (And.intro hb4 (And.intro hk (And.intro hnw (And.intro bk (And.intro hg (show 1 ≤ gk by omega))))))))
      clear hdv hb5 hb6 hb4 hX hk hnw bX bk hg hgk hrel h0
      go_wp2_with fail
      refine HD.out.mono ?_
      rintro e w5 ⟨s5, A5, n5, c5, s6, A6, n6, c6, rfl, H5⟩
      clear k60 k61 k50 k51 HD
      go_upto_region 5 with fail
      refine Code.new2 ?_
      intro W7 hb7 hb8 hn7 hz7
      obtain ⟨g7, hg7⟩ : ∃ x, w5.heap.size = x := ⟨_, rfl⟩
      obtain ⟨g8, hg8⟩ : ∃ x, w5.heap.size + 1 = x := ⟨_, rfl⟩
      rw [hg8] at hb8
      simp only [hg8]
      simp only [hg7]
      have hn07 : New wo W7 := H5.out.2.2.new hn7
      have hb5 := HK.out.1.chg hn07 (fun h => h)
      have hb6 := HK.out.2.1.chg hn07 (fun h => h)
      have h68 : g6 < g8 := by
        have := (HK.out.2.1.chg H5.out.2.2 (fun h => h)).lt
        omega
      obtain ⟨h45, h56, h4w⟩ := HG.out
      have k80 := hb8.cell 0 (u := .bool s6) rfl
      have k81 := hb8.cell 1 (u := .slice A6 n6 c6) rfl
      have k60 := hb6.cell 0 (u := .bool sb) rfl
      have k61 := hb6.cell 1 (u := .slice Ab nb cb) rfl
      have k50 := hb5.cell 0 (u := .bool sa) rfl
      have k51 := hb5.cell 1 (u := .slice Aa na ca) rfl
      have f50 := hb5.frozen 0
      have f51 := hb5.frozen 1
      have f60 := hb6.frozen 0
      have f61 := hb6.frozen 1
      have n56 : ¬ g5 = g6 := by omega
      have n65 : ¬ g6 = g5 := by omega
      have n58 : ¬ g5 = g8 := by omega
      have n85 : ¬ g8 = g5 := by omega
      have HL := Lib.hid (And.intro hb5 (And.intro hb6 (And.intro (H5.out.2.1.new hn7) hn07)))
      clear hb5 hb6 hb7 hb8 hn7 hz7 hg7 hg8 hn07 H5
      go_wp2
      go_roundg (X % gk)
      case measure => exact Nat.mod_lt _ HK.out.2.2.2.2.2.2.2
      case rel =>
        have hbb := blk22 HL.out.1 HL.out.2.1 n56 (.bool sb) (.slice Ab nb cb) (.bool s6) (.slice A6 n6 c6)
        have hch := chg22 W7 g5 g6 (.bool sb) (.slice Ab nb cb) (.bool s6) (.slice A6 n6 c6)
        have hr6 := HL.out.2.2.1
        rw [← Int.natCast_emod] at hr6
        refine ⟨sb, Ab, nb, cb, s6, A6, n6, c6, gk, hbb.1, (HK.out.2.2.2.1.new HL.out.2.2.2).store22 HL.out.1 HL.out.2.1 n56 (noInt_two' _ _ _ _) (noInt_two' _ _ _ _) _ _ _ _, hbb.2, hr6.store22 HL.out.1 HL.out.2.1 n56 (noInt_two' _ _ _ _) (noInt_two' _ _ _ _) _ _ _ _, ?_, ?_, HK.out.2.2.2.2.2.1, Nat.lt_trans (m := gk) (Nat.mod_lt _ HK.out.2.2.2.2.2.2.2) HK.out.2.2.2.2.2.1, ?_⟩
        · exact (HK.out.2.2.1.chg HL.out.2.2.2 (fun h => h)).chg hch (by omega)
        · exact Chg.owned (HK.out.2.2.2.2.1.new HL.out.2.2.2) hch (fun k e => by omega)
        · rw [← HK.out.2.2.2.2.2.2.1, Nat.gcd_comm X gk, Nat.gcd_rec gk X, Nat.gcd_comm]
end Go.Proofs.YtgofjkppeobjfaaGreatDoor
