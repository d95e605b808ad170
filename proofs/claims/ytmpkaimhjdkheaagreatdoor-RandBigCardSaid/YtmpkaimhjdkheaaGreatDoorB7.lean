/- The parts RefL, RefM, RefBig of the proof, in one text. -/
import Derived.Deep.RegionWith
import Derived.Deep.RegionHeld3
import Derived.Test.YtmpkaimhjdkheaaGreatDoorB6
set_option linter.unusedSimpArgs false
set_option linter.unusedVariables false

namespace Go.Proofs.YtmpkaimhjdkheaaGreatDoor
set_option linter.unusedVariables false
open Go.RowKit Go.Mem Go.Dig Go.Pure

theorem power64_h (W : World) :
    Calls Tryz.prog 9 #[.int .i64 64] W fun e w' => ∃ s A n c, e = .returned (.agg #[.bool s, .slice A n c]) ∧ Hid (RN w' (.agg #[.bool s, .slice A n c]) ((2 ^ 64 : Nat) : Int) ∧ New W w') := by
  have h := power_h 64 (by omega) W
  rw [show ((64 : Nat) : Int) = 64 from rfl] at h
  exact h

set_option maxRecDepth 100000 in
set_option maxHeartbeats 4000000 in
theorem rdigits_any (seed : Int) (lab : ByteArray) (hlab : lab.size ≤ 1000000) (at_ : Int) (hat : 0 ≤ at_ ∧ at_ ≤ 10000000000) (k : Nat) (hk : k ≤ 300) (w : World) :
    Calls Tryz.prog 65 #[.int .u64 seed, .string lab, .int .i64 at_, .int .i64 k] w fun e w' => ∃ s A n c, e = .returned (.agg #[.bool s, .slice A n c]) ∧ Hid (RN w' (.agg #[.bool s, .slice A n c]) ((val 18446744073709551616 (wordsL seed lab.data.toList at_ k) : Nat) : Int) ∧ New w w') := by
  obtain ⟨L, hL⟩ : ∃ L, wordsL seed lab.data.toList at_ k = L := ⟨_, rfl⟩
  rw [hL]
  have hLl : L.length = k := by rw [← hL]; exact wordsL_len _ _ _ _
  have hLd : Digs 18446744073709551616 L := by rw [← hL]; exact wordsL_digs _ _ _ _
  have hLa : ∀ e, e < k → L[e]? = some (wordI seed lab.data.toList (at_ + e)).toNat := fun e he => by rw [← hL]; exact wordsL_at _ _ _ he
  have HL := Lib.hid (And.intro hLl (And.intro hLd hLa))
  obtain ⟨hat1, hat2⟩ := hat
  clear hL hLl hLd hLa
  go_enter Tryz.func65, Tryz.ntmps65
  go_wp2_with fail
  refine Code.new2 ?_
  intro W0 hb1 hb2 hn0 hz0
  have H0 := Lib.hid (And.intro hb1 (And.intro hb2 hn0))
  clear hb1 hb2 hn0 hz0
  go_loopw [10] (fun v wr => ∃ j : Nat, ∃ s A n c, v = .int .i64 ((j : Int) - 1) ∧ j ≤ k ∧ Hid (Blk wr w.heap.size 26 #[.bool false, .slice none 0 0] ∧ Blk wr (w.heap.size + 1) 26 #[.bool s, .slice A n c] ∧ RN wr (.agg #[.bool s, .slice A n c]) ((val 18446744073709551616 (L.drop j) : Nat) : Int) ∧ New w wr)) (fun v _ => (intOf v + 1).toNat)
  case atStart =>
    refine ⟨k, false, none, 0, 0, rfl, Nat.le_refl _, H0.out.1, H0.out.2.1, ?_, H0.out.2.2⟩
    rw [List.drop_of_length_le (by rw [HL.out.1]; exact Nat.le_refl _)]
    exact RN.zero _
  case round =>
    clear H0
    obtain ⟨j, s, A, n, c, rfl, hj, HI⟩ := hrel
    have hc10 := HI.out.2.1.cell 0 (u := .bool s) rfl
    have hc11 := HI.out.2.1.cell 1 (u := .slice A n c) rfl
    by_cases h0 : j = 0
    · subst h0
      have x0 := HI.out.1.cell 0 (u := .bool false) rfl
      have x1 := HI.out.1.cell 1 (u := .slice none 0 0) rfl
      have f0 := HI.out.1.frozen 0
      have f1 := HI.out.1.frozen 1
      go_wp2
      obtain ⟨i1, i2, i3, i4⟩ := HI.out
      rw [List.drop_zero] at i3
      refine bodyPost_ret (res_c rfl _ rfl (aggN.load (i1.set2 _ _))) rfl ⟨s, A, n, c, rfl, i3.store i1 (noInt_two' _ _ _ _) (Chg.at2 _ _ _ _), ?_⟩
      exact Chg.owned i4 (Chg.at2 _ _ _ _) (fun k e => by omega)
    · obtain ⟨i, rfl⟩ : ∃ i, j = i + 1 := ⟨j - 1, by omega⟩
      have hij : (((i + 1 : Nat) : Int) - 1) = (i : Int) := by omega
      rw [hij]
      obtain ⟨wo, rfl⟩ : ∃ wo : World, wo = wr := ⟨_, rfl⟩
      have hLi := HL.out.2.2 i (by omega)
      have hwr := wordI_range seed lab.data.toList (at_ + i)
      obtain ⟨d, hd⟩ : ∃ d : Nat, wordI seed lab.data.toList (at_ + i) = (d : Int) := ⟨(wordI seed lab.data.toList (at_ + i)).toNat, by omega⟩
      rw [hd, Int.toNat_natCast] at hLi
      have hdb : d < 18446744073709551616 := by omega
      have b1 := words_big (HL.out.2.1.drop (i + 1)) (by rw [List.length_drop, HL.out.1]; omega)
      have b3 := words_big64 (HL.out.2.1.drop (i + 1)) (by rw [List.length_drop, HL.out.1]; omega)
      have b4 : ((d : Nat) : Int).natAbs < 2 ^ 1000000 := small_big (by omega) (by omega)
      have hst : (val 18446744073709551616 (L.drop (i + 1)) : Int) * ((2 ^ 64 : Nat) : Int) + (d : Int) = ((val 18446744073709551616 (L.drop i) : Nat) : Int) := by
        rw [val_drop hLi, Int.natCast_add, Int.natCast_mul]
        rw [show ((2 ^ 64 : Nat) : Int) = ((18446744073709551616 : Nat) : Int) from rfl, Int.mul_comm]
        omega
      have HS := Lib.hid (And.intro hd (And.intro b1 (And.intro b3 (And.intro b4 hst))))
      have g1 : IntKind.i64.wrap (at_ + (i : Int)) = at_ + (i : Int) := IntWalk.i64_in _ (by omega)
      have HN0 : Hid (New wo wo.drew) := (Chg.refl _ wo).drew
      have hwd := fun W => word_any seed lab hlab (at_ + (i : Int)) W
      have HWD := Lib.hid (fun W => (rword_any seed lab hlab (at_ + (i : Int)) W))
      clear hij hLi hwr hd b1 b3 b4 hst hwd
      go_wp2_with fail
      go_region_with (first
        | (go_at_call 9; (with_reducible refine (power64_h _).mono ?_); rintro e w5 ⟨s5, A5, n5, c5, rfl, H5⟩; have HN5 : Hid (New wo w5) := HN0.out.new H5.out.2; have hd10 := HN5.out.cell hc10 (fun h => h); have hd11 := HN5.out.cell hc11 (fun h => h))
        | (go_at_call 10; (with_reducible refine (rmul_h _ _ _ _ _ (HI.out.2.2.1.new HN5.out) H5.out.1 HS.out.2.1 (pow_big (t := 64) (by omega))).mono ?_); rintro e w6 ⟨s6, A6, n6, c6, rfl, H6⟩; have HN6 : Hid (New wo w6) := HN5.out.new H6.out.2)
        | (go_at_call 90; (with_reducible refine (HWD.out _).mono ?_); rw [HS.out.1]; rintro e w7 ⟨rfl, HN7⟩)
        | (go_at_call 89; (with_reducible refine (rdigit_any d hdb _).mono ?_); rintro e w8 ⟨s8, A8, n8, c8, rfl, H8⟩; have HN8 : Hid (New wo w8) := (HN6.out.new HN7).new H8.out.2)
        | (go_at_call 19; (with_reducible refine (radd_h _ _ _ _ _ ((H6.out.1.new HN7).new H8.out.2) H8.out.1 HS.out.2.2.1 HS.out.2.2.2.1).mono ?_); rintro e w9 ⟨s9, A9, n9, c9, rfl, H9⟩; have HN9 : Hid (New wo w9) := HN8.out.new H9.out.2; have he10 := HN9.out.cell hc10 (fun h => h); have he11 := HN9.out.cell hc11 (fun h => h); have hf10 := (HI.out.2.1.chg HN9.out (fun h => h)).frozen 0; have hf11 := (HI.out.2.1.chg HN9.out (fun h => h)).frozen 1))
      all_goals
        clear hc10 hc11 g1
        go_wp2
        go_roundw
        case rel =>
          obtain ⟨i1, i2, i3, i4⟩ := HI.out
          have hbb := i2.chg HN9.out (fun h => h)
          have hcs : Chg (fun k => k = w.heap.size + 1) w9 ((w9.setCell ⟨w.heap.size + 1, 0, none⟩ (.bool s9)).setCell ⟨w.heap.size + 1, 1, none⟩ (.slice A9 n9 c9)) := Chg.at2 _ _ _ _
          have hr9 := H9.out.1
          rw [HS.out.2.2.2.2] at hr9
          exact ⟨i, s9, A9, n9, c9, by go_num, by omega, (i1.chg HN9.out (fun h => h)).chg hcs (by omega), hbb.set2 _ _, hr9.store hbb (noInt_two' _ _ _ _) hcs, Chg.owned (i4.new HN9.out) hcs (fun k e => by omega)⟩
        case measure => simp [intOf]
end Go.Proofs.YtmpkaimhjdkheaaGreatDoor

namespace Go.Proofs.YtmpkaimhjdkheaaGreatDoor
set_option linter.unusedVariables false
open Go.RowKit Go.Mem Go.Dig Go.Pure

set_option maxRecDepth 100000 in
set_option maxHeartbeats 4000000 in
theorem rbig_any (seed : Int) (lab : ByteArray) (hlab : lab.size ≤ 1000000) (i : Int) (hi : 0 ≤ i ∧ i ≤ 1000000000) (v : Value) (N : Nat) (hN1 : 1 ≤ N) (bN : N < 2 ^ 900000) (k : Nat) (hk : k ≤ 300) (w : World) (hv : RN w v (N : Int)) :
    Calls Tryz.prog 34 #[.int .u64 seed, .string lab, .int .i64 i, v, .int .i64 k] w fun e w' => ∃ s A n c t, e = .returned (.tuple #[.agg #[.bool s, .slice A n c], .int .i64 (i + (t * k : Nat) + (k : Int))]) ∧ Hid (Taken (tryN seed lab.data.toList i k) (2 ^ (64 * k) - 2 ^ (64 * k) % N) t ∧ RN w' (.agg #[.bool s, .slice A n c]) ((tryN seed lab.data.toList i k t % N : Nat) : Int) ∧ New w w') := by
  obtain ⟨s0, A0, n0, c0, rfl, hs0, hm0⟩ := hv
  obtain ⟨M, hM⟩ : ∃ M, 2 ^ (64 * k) = M := ⟨_, rfl⟩
  rw [hM]
  have bM : M < 2 ^ 1000000 := by rw [← hM]; exact pow_lt_K (64 * k) 1000000 (Nat.lt_of_le_of_lt (Nat.mul_le_mul_left 64 hk) (by decide))
  have bM' : ((M : Nat) : Int).natAbs < 2 ^ 1000000 := by rw [Int.natAbs_natCast]; exact bM
  have bO : ((M % N : Nat) : Int).natAbs < 2 ^ 1000000 := by rw [Int.natAbs_natCast]; exact Nat.lt_of_le_of_lt (Nat.mod_le _ _) bM
  have bN' : ((N : Nat) : Int).natAbs < 2 ^ 900000 := by rw [Int.natAbs_natCast]; exact bN
  have hpw := fun W => power_any (64 * k) (Nat.le_trans (Nat.mul_le_mul_left 64 hk) (by decide)) W
  rw [hM] at hpw
  obtain ⟨K6, hK6⟩ : ∃ K6, 64 * k = K6 := ⟨_, rfl⟩
  rw [hK6] at hpw
  have hpwi : (64 : Int) * (k : Int) = (K6 : Int) := by omega
  have hK6b : K6 ≤ 19200 := by omega
  obtain ⟨X, hX⟩ : ∃ X, tryN seed lab.data.toList i k = X := ⟨_, rfl⟩
  rw [hX]
  have bX : ∀ t, ((X t : Nat) : Int).natAbs < 2 ^ 1000000 := fun t => by rw [← hX]; exact tryN_big _ _ _ hk t
  obtain ⟨hi1, hi2⟩ := hi
  have hdg : ∀ (t : Nat), t ≤ 63 → ∀ W, Calls Tryz.prog 65 #[.int .u64 seed, .string lab, .int .i64 (i + (t * k : Nat)), .int .i64 k] W fun e w' => ∃ s A n c, e = .returned (.agg #[.bool s, .slice A n c]) ∧ Hid (RN w' (.agg #[.bool s, .slice A n c]) ((X t : Nat) : Int) ∧ New W w') := fun t ht W => by
    have htk : t * k ≤ 63 * 300 := Nat.mul_le_mul ht hk
    have := rdigits_any seed lab hlab (i + (t * k : Nat)) ⟨by omega, by omega⟩ k hk W
    rw [← hX]
    exact this
  have H0 := Lib.hid (And.intro hs0 (And.intro hm0 (And.intro bM' (And.intro bO (And.intro bN' (And.intro bX (And.intro hpw hdg)))))))
  clear hs0 hm0 bM bM' bO bN bN' hpw bX hX hM hdg hK6
  go_enter Tryz.func34, Tryz.ntmps34
  go_wp2_with fail
  refine Calls.new2 ?_
  intro W1 hb1 hb2 hn1 hz1
  refine (H0.out.2.2.2.2.2.2.1 W1).mono ?_
  rintro e w2 ⟨v2, rfl, ⟨s2, A2, n2, c2, rfl, hs2, hm2⟩, hn2⟩
  have hd1 := hb1.chg hn2 (fun h => h)
  have hc10 := hd1.cell 0 (u := .bool s0) rfl
  have hc11 := hd1.cell 1 (u := .slice A0 n0 c0) rfl
  have hz2 : w.heap.size < w2.heap.size := hd1.lt
  have H2 := Lib.hid (And.intro hd1 (And.intro (hb2.chg hn2 (fun h => h)) (And.intro (hn1.new hn2) (And.intro hs2 hm2))))
  clear hb1 hb2 hn1 hz1 hs2 hm2 hn2 hd1 hpwi
  go_wp2_with fail
  refine Calls.new1 ?_
  intro W3 hb3 hn3 hz3
  obtain ⟨hd1, hd2, hn2, hs2, hm2⟩ := H2.out
  obtain ⟨hs0, hm0, bM, bO, bN, _⟩ := H0.out
  refine (rdiv_any _ _ (M : Int) (N : Int) W3 ⟨s2, A2, n2, c2, rfl, hs2, hm2.new hn3⟩ ⟨s0, A0, n0, c0, rfl, hs0, hm0.new (hn2.new hn3)⟩ bM bN (by omega)).mono ?_
  rintro e w4 ⟨vq, vr, rfl, ⟨sq, Aq, nq, cq, rfl, hsq, hmq⟩, ⟨sr, Ar, nr, cr, rfl, hsr, hmr⟩, hn4⟩
  rw [← Int.natCast_emod] at hsr hmr
  have hn34 := hn3.new hn4
  have e3 := hb3.chg hn4 (fun h => h)
  have k30 := e3.cell 0 (u := .bool s2) rfl
  have k31 := e3.cell 1 (u := .slice A2 n2 c2) rfl
  have hz4 : w2.heap.size < w4.heap.size := e3.lt
  have H4 := Lib.hid (And.intro (hd1.chg hn34 (fun h => h)) (And.intro (hd2.chg hn34 (fun h => h)) (And.intro (hn2.new hn34) (And.intro hs2 (And.intro (hm2.new hn34) (And.intro hsr hmr))))))
  clear hb3 hn3 hz3 hd1 hd2 hn2 hs2 hm2 hs0 hm0 bM bO bN hsq hmq hsr hmr hn4 hn34 e3 H2 hc10 hc11
  go_wp2_with fail
  refine Calls.new2 ?_
  intro W5 hb5 hb6 hn5 hz5
  obtain ⟨hd1, hd2, hn2, hs2, hm2, hsr, hmr⟩ := H4.out
  refine (rsub_any _ _ (M : Int) ((M % N : Nat) : Int) W5 ⟨s2, A2, n2, c2, rfl, hs2, hm2.new hn5⟩ ⟨sr, Ar, nr, cr, rfl, hsr, hmr.new hn5⟩ H0.out.2.2.1 H0.out.2.2.2.1).mono ?_
  rintro e w6 ⟨v6, rfl, ⟨s6, A6, n6, c6, rfl, hs6, hm6⟩, hn6⟩
  rw [show ((M : Nat) : Int) - ((M % N : Nat) : Int) = ((M - M % N : Nat) : Int) by rw [Int.ofNat_sub (Nat.mod_le _ _)]] at hs6 hm6
  obtain ⟨bd, hbd⟩ : ∃ bd, M - M % N = bd := ⟨_, rfl⟩
  rw [hbd] at hs6 hm6
  have hn56 := hn5.new hn6
  have H6 := Lib.hid (And.intro (hd1.chg hn56 (fun h => h)) (And.intro (hd2.chg hn56 (fun h => h)) (And.intro (hn2.new hn56) (And.intro hs6 (And.intro hm6 hbd)))))
  clear hb5 hb6 hn5 hz5 hd1 hd2 hn2 hs2 hm2 hsr hmr hs6 hm6 hn6 hn56 hbd H4 k30 k31
  go_wp2_with fail
  refine Calls.new1 ?_
  intro W7 hb7 hn7 hz7
  have hdg0 := H0.out.2.2.2.2.2.2.2 0 (by omega) W7
  rw [show i + ((0 * k : Nat) : Int) = i by simp] at hdg0
  refine hdg0.mono ?_
  rintro e w8 ⟨s8, A8, n8, c8, rfl, H8⟩
  obtain ⟨g4, hg4⟩ : ∃ g, w6.heap.size = g := ⟨_, rfl⟩
  obtain ⟨g5, hg5⟩ : ∃ g, w8.heap.size = g := ⟨_, rfl⟩
  obtain ⟨hd1, hd2, hn6, hs6, hm6, hbd⟩ := H6.out
  have hn78 := hn7.new H8.out.2
  have e7 := hb7.chg H8.out.2 (fun h => h)
  rw [hg4] at e7
  have hl1 : w.heap.size + 1 < g4 := by have := hd2.lt; omega
  have hl2 : g4 < g5 := by have := e7.lt; omega
  obtain ⟨W9, hW9⟩ : ∃ W9, w8.alloc (.cells #[.bool s8, .slice A8 n8 c8] 26) = W9 := ⟨_, rfl⟩
  have hn9 : New w8 W9 := by rw [← hW9]; exact (Chg.refl _ _).alloc _
  have hb9 : Blk W9 g5 26 #[.bool s8, .slice A8 n8 c8] := by rw [← hW9, ← hg5]; exact Blk.new _ _ _
  have H9 := Lib.hid (And.intro ((hd1.chg hn78 (fun h => h)).chg hn9 (fun h => h)) (And.intro ((hd2.chg hn78 (fun h => h)).chg hn9 (fun h => h)) (And.intro (e7.chg hn9 (fun h => h)) (And.intro hb9 (And.intro (hn6.new (hn78.new hn9)) (And.intro (show RN W9 (.agg #[.bool s6, .slice A6 n6 c6]) (bd : Int) from ⟨s6, A6, n6, c6, rfl, hs6, (hm6.new hn78).new hn9⟩) (And.intro (H8.out.1.new hn9) hbd)))))))
  have HW9 := Lib.hid hW9
  clear hb7 hn7 hz7 hdg0 hd1 hd2 hn6 hs6 hm6 hbd hn78 e7 hW9 hn9 hb9 H6 H8
  go_wp2_with fail
  rw [HW9.out]
  clear HW9 hg4 hg5
  go_loopw [16, 18] (fun a u wr => ∃ t : Nat, ∃ s A n c, a = .int .i64 (i + (t * k : Nat)) ∧ u = .int .i64 ((t : Int) + 1) ∧ t ≤ 63 ∧ Hid ((∀ j, j < t → ¬ X j < bd) ∧ Blk wr w.heap.size 26 #[.bool s0, .slice A0 n0 c0] ∧ Blk wr (w.heap.size + 1) 26 #[.bool false, .slice none 0 0] ∧ Blk wr g4 26 #[.bool s6, .slice A6 n6 c6] ∧ Blk wr g5 26 #[.bool s, .slice A n c] ∧ New w wr ∧ RN wr (.agg #[.bool s6, .slice A6 n6 c6]) (bd : Int) ∧ RN wr (.agg #[.bool s, .slice A n c]) ((X t : Nat) : Int))) (fun _ u _ => 65 - (intOf u).toNat)
  case atStart =>
    obtain ⟨h1, h2, h3, h4, h5, h6, h7, h8⟩ := H9.out
    exact ⟨0, s8, A8, n8, c8, by simp, rfl, by omega, fun j hj => by omega, h1, h2, h3, h4, h5, h6, h7⟩
  case round =>
    obtain ⟨t, s, A, n, c, rfl, rfl, ht, HI⟩ := hrel
    have HBD := Lib.hid H9.out.2.2.2.2.2.2.2
    clear H9
    have htk : t * k ≤ 63 * 300 := Nat.mul_le_mul ht hk
    obtain ⟨q, hq⟩ : ∃ q, t * k = q := ⟨_, rfl⟩
    have hqb : q ≤ 18900 := by omega
    have x0 := HI.out.2.2.2.2.1.cell 0 (u := .bool s) rfl
    have x1 := HI.out.2.2.2.2.1.cell 1 (u := .slice A n c) rfl
    have y0 := HI.out.2.2.2.1.cell 0 (u := .bool s6) rfl
    have y1 := HI.out.2.2.2.1.cell 1 (u := .slice A6 n6 c6) rfl
    have z0 := HI.out.2.1.cell 0 (u := .bool s0) rfl
    have z1 := HI.out.2.1.cell 1 (u := .slice A0 n0 c0) rfl
    rw [hq]
    have HQ := Lib.hid hq
    clear hq htk
    by_cases ht63 : t = 63
    · have hge : decide (((t : Int) + 1) < 64) = false := by simp; omega
      have HT := Lib.hid ht63
      clear ht63
      have HJ := Lib.hid HI.out.2
      go_wp2_with fail
      refine (rdiv_any _ _ ((X t : Nat) : Int) (N : Int) wr HJ.out.2.2.2.2.2.2 ⟨s0, A0, n0, c0, rfl, H0.out.1, H0.out.2.1.new HJ.out.2.2.2.2.1⟩ (H0.out.2.2.2.2.2.1 t) H0.out.2.2.2.2.1 (by omega)).mono ?_
      rintro e wa ⟨va, vb, rfl, ⟨sa, Aa, na, ca, rfl, hsa, hma⟩, ⟨sb, Ab, nb, cb, rfl, hsb, hmb⟩, hna⟩
      rw [← Int.natCast_emod] at hsb hmb
      have hr2 := HJ.out.2.1.chg hna (fun h => h)
      have r0 := hr2.cell 0 (u := .bool false) rfl
      have r1 := hr2.cell 1 (u := .slice none 0 0) rfl
      have f0 := hr2.frozen 0
      have f1 := hr2.frozen 1
      have hrl : w.heap.size + 1 < wa.heap.size := hr2.lt
      have hrl0 : w.heap.size < wa.heap.size := by omega
      have HZ := Lib.hid (And.intro hr2 (And.intro (HJ.out.2.2.2.2.1.new hna) (And.intro hsb hmb)))
      clear hsa hma hsb hmb hna hr2
      go_wp2
      obtain ⟨hr2, hn2, hsb, hmb⟩ := HZ.out
      have hfin := (((hr2.set2 (.bool sb) (.slice Ab nb cb)).alloc (.cells #[.bool sa, .slice Aa na ca] 26)).alloc (.cells #[.bool sb, .slice Ab nb cb] 26))
      have hq' := HQ.out
      refine bodyPost_ret (res_ct rfl _ rfl (aggN.load hfin) rfl) rfl ⟨sb, Ab, nb, cb, t, by rw [hq']; rfl, ⟨by rw [HBD.out]; exact ⟨by omega, HI.out.1, .inr HT.out⟩, ⟨sb, Ab, nb, cb, rfl, hsb, ?_⟩, ?_⟩⟩
      · exact ((hmb.store hr2 (noInt_two' _ _ _ _) (Chg.at2 _ _ _ _)).new ((Chg.refl _ _).alloc _)).new ((Chg.refl _ _).alloc _)
      · exact ((Chg.owned hn2 (Chg.at2 _ _ _ _) (fun k e => by omega)).alloc _).alloc _
    · have hlt : ((t : Int) + 1) < 64 := by omega
      go_wp2_with fail
      refine (rcompare_any _ _ ((X t : Nat) : Int) (bd : Int) wr HI.out.2.2.2.2.2.2.2 HI.out.2.2.2.2.2.2.1).mono ?_
      rintro e w3 ⟨rfl, hn3⟩
      obtain ⟨j1, j2, j3, j4, j5, j6, j7⟩ := HI.out.2
      have HJ := Lib.hid (And.intro (j1.chg hn3 (fun h => h)) (And.intro (j2.chg hn3 (fun h => h)) (And.intro (j3.chg hn3 (fun h => h)) (And.intro (j4.chg hn3 (fun h => h)) (And.intro (j5.new hn3) (And.intro (j6.new hn3) (j7.new hn3)))))))
      have x0 := HJ.out.2.2.2.1.cell 0 (u := .bool s) rfl
      have x1 := HJ.out.2.2.2.1.cell 1 (u := .slice A n c) rfl
      have z0 := HJ.out.1.cell 0 (u := .bool s0) rfl
      have z1 := HJ.out.1.cell 1 (u := .slice A0 n0 c0) rfl
      clear j1 j2 j3 j4 j5 j6 j7 hn3 y0 y1
      by_cases hc : X t < bd
      · rw [cmpI_lt (show ((X t : Nat) : Int) < (bd : Int) by omega)]
        have HC := Lib.hid hc
        clear hc
        go_wp2_with fail
        refine (rdiv_any _ _ ((X t : Nat) : Int) (N : Int) w3 HJ.out.2.2.2.2.2.2 ⟨s0, A0, n0, c0, rfl, H0.out.1, H0.out.2.1.new HJ.out.2.2.2.2.1⟩ (H0.out.2.2.2.2.2.1 t) H0.out.2.2.2.2.1 (by omega)).mono ?_
        rintro e wa ⟨va, vb, rfl, ⟨sa, Aa, na, ca, rfl, hsa, hma⟩, ⟨sb, Ab, nb, cb, rfl, hsb, hmb⟩, hna⟩
        rw [← Int.natCast_emod] at hsb hmb
        have hr2 := HJ.out.2.1.chg hna (fun h => h)
        have r0 := hr2.cell 0 (u := .bool false) rfl
        have r1 := hr2.cell 1 (u := .slice none 0 0) rfl
        have f0 := hr2.frozen 0
        have f1 := hr2.frozen 1
        have hrl : w.heap.size + 1 < wa.heap.size := hr2.lt
        have hrl0 : w.heap.size < wa.heap.size := by omega
        have HZ := Lib.hid (And.intro hr2 (And.intro (HJ.out.2.2.2.2.1.new hna) (And.intro hsb hmb)))
        clear hsa hma hsb hmb hna hr2
        go_wp2
        obtain ⟨hr2, hn2, hsb, hmb⟩ := HZ.out
        have hfin := (((hr2.set2 (.bool sb) (.slice Ab nb cb)).alloc (.cells #[.bool sa, .slice Aa na ca] 26)).alloc (.cells #[.bool sb, .slice Ab nb cb] 26))
        have hq' := HQ.out
        refine bodyPost_ret (res_ct rfl _ rfl (aggN.load hfin) rfl) rfl ⟨sb, Ab, nb, cb, t, by rw [hq']; rfl, ⟨by rw [HBD.out]; exact ⟨by omega, HI.out.1, .inl HC.out⟩, ⟨sb, Ab, nb, cb, rfl, hsb, ?_⟩, ?_⟩⟩
        · exact ((hmb.store hr2 (noInt_two' _ _ _ _) (Chg.at2 _ _ _ _)).new ((Chg.refl _ _).alloc _)).new ((Chg.refl _ _).alloc _)
        · exact ((Chg.owned hn2 (Chg.at2 _ _ _ _) (fun k e => by omega)).alloc _).alloc _
      · have hcv : decide ((0 : Int) ≤ cmpI ((X t : Nat) : Int) (bd : Int)) = true := by
          unfold cmpI
          rw [if_neg (by omega)]
          split <;> decide
        generalize cmpI ((X t : Nat) : Int) (bd : Int) = cv at *
        have HC := Lib.hid hc
        clear hc
        have hqk : i + (q : Int) + (k : Int) = i + (((t + 1) * k : Nat) : Int) := by
          rw [Nat.add_mul, HQ.out]; omega
        have hdg := H0.out.2.2.2.2.2.2.2 (t + 1) (by omega)
        rw [← hqk] at hdg
        have HDG := Lib.hid (And.intro hdg hqk)
        have f0 := HJ.out.2.2.2.1.frozen 0
        have f1 := HJ.out.2.2.2.1.frozen 1
        clear hdg hqk
        go_wp2_with fail
        refine (HDG.out.1 w3).mono ?_
        rintro e wa ⟨sa, Aa, na, ca, rfl, HA⟩
        have hba := HJ.out.2.2.2.1.chg HA.out.2 (fun h => h)
        have x0 := hba.cell 0 (u := .bool s) rfl
        have x1 := hba.cell 1 (u := .slice A n c) rfl
        have f0 := hba.frozen 0
        have f1 := hba.frozen 1
        clear hba
        go_wp2
        go_roundw
        case rel =>
          obtain ⟨j1, j2, j3, j4, j5, j6, j7⟩ := HJ.out
          have hna := HA.out.2
          have hba := j4.chg hna (fun h => h)
          have hcs : Chg (fun k => k = g5) wa ((wa.setCell ⟨g5, 0, none⟩ (.bool sa)).setCell ⟨g5, 1, none⟩ (.slice Aa na ca)) := Chg.at2 _ _ _ _
          refine ⟨t + 1, sa, Aa, na, ca, by rw [HDG.out.2], by go_num, by omega, ?_, (j1.chg hna (fun h => h)).chg hcs (by omega), (j2.chg hna (fun h => h)).chg hcs (by omega), (j3.chg hna (fun h => h)).chg hcs (by omega), hba.set2 _ _, Chg.owned (j5.new hna) hcs (fun k e => by omega), (j6.new hna).store hba (noInt_two' _ _ _ _) hcs, HA.out.1.store hba (noInt_two' _ _ _ _) hcs⟩
          intro j hj
          rcases Nat.lt_or_ge j t with h | h
          · exact HI.out.1 j h
          · obtain rfl : j = t := by omega
            exact HC.out
        case measure => simp [intOf]; omega
end Go.Proofs.YtmpkaimhjdkheaaGreatDoor

namespace Go.Proofs.YtmpkaimhjdkheaaGreatDoor
set_option linter.unusedVariables false
open Go.RowKit Go.Mem Go.Dig Go.Pure

theorem least_k (N : Nat) : ∀ K, N ≤ p64 K → ∃ k, k ≤ K ∧ N ≤ p64 k ∧ ∀ j, j < k → p64 j < N := by
  intro K
  induction K with
  | zero => intro h; exact ⟨0, Nat.le_refl _, h, fun j hj => by omega⟩
  | succ K ih =>
    intro h
    by_cases h1 : N ≤ p64 K
    · obtain ⟨k, a, b, c⟩ := ih h1
      exact ⟨k, by omega, b, c⟩
    · refine ⟨K + 1, Nat.le_refl _, h, fun j hj => ?_⟩
      exact Nat.lt_of_le_of_lt (p64_le (show j ≤ K by omega)) (by omega)
/-- What Big returns for the bound z. -/
def BigR (seed : Int) (lab : List UInt8) (i z X Y E : Int) : Prop :=
  (z < 1 ∧ X = 0 ∧ Y = i ∧ E = 1) ∨ (z = 1 ∧ X = 0 ∧ Y = i ∧ E = 0) ∨
  ∃ N k t : Nat, z = (N : Int) ∧ 2 ≤ N ∧ 1 ≤ k ∧ N ≤ p64 k ∧ (∀ j, j < k → p64 j < N) ∧ Taken (tryN seed lab i k) (p64 k - p64 k % N) t ∧ X = ((tryN seed lab i k t % N : Nat) : Int) ∧ Y = i + ((t * k : Nat) : Int) + (k : Int) ∧ E = 0
theorem BigR.uniq {seed : Int} {lab : List UInt8} {i z X Y E X' Y' E' : Int} (h : BigR seed lab i z X Y E) (h' : BigR seed lab i z X' Y' E') : X = X' ∧ Y = Y' ∧ E = E' := by
  rcases h with ⟨a, rfl, rfl, rfl⟩ | ⟨a, rfl, rfl, rfl⟩ | ⟨N, k, t, rfl, n2, k1, b1, b2, ht, rfl, rfl, rfl⟩
  · rcases h' with ⟨a', rfl, rfl, rfl⟩ | ⟨a', _⟩ | ⟨N, k, t, e, n2, _⟩
    · exact ⟨rfl, rfl, rfl⟩
    · omega
    · omega
  · rcases h' with ⟨a', _⟩ | ⟨a', rfl, rfl, rfl⟩ | ⟨N, k, t, e, n2, _⟩
    · omega
    · exact ⟨rfl, rfl, rfl⟩
    · omega
  · rcases h' with ⟨a', _⟩ | ⟨a', _⟩ | ⟨N', k', t', e, n2', k1', b1', b2', ht', rfl, rfl, rfl⟩
    · omega
    · omega
    · obtain rfl : N = N' := by omega
      obtain rfl : k = k' := by
        rcases Nat.lt_trichotomy k k' with h | h | h
        · have := b2' k h; omega
        · exact h
        · have := b2 k' h; omega
      obtain rfl := ht.uniq ht'
      exact ⟨rfl, rfl, rfl⟩
theorem BigR.ok {seed : Int} {lab : List UInt8} {i z X Y E : Int} (h : BigR seed lab i z X Y E) : (E = 0 ∧ 0 ≤ X ∧ X < z) ∨ E = 1 := by
  rcases h with ⟨a, rfl, rfl, rfl⟩ | ⟨a, rfl, rfl, rfl⟩ | ⟨N, k, t, rfl, n2, k1, b1, b2, ht, rfl, rfl, rfl⟩
  · exact .inr rfl
  · exact .inl ⟨rfl, by omega, by omega⟩
  · have := Nat.mod_lt (tryN seed lab i k t) (show 0 < N by omega)
    exact .inl ⟨rfl, by omega, by omega⟩
theorem BigR.small {seed : Int} {lab : List UInt8} {i z X Y E : Int} (h : BigR seed lab i z X Y E) : X.natAbs ≤ z.natAbs := by
  rcases h with ⟨a, rfl, rfl, rfl⟩ | ⟨a, rfl, rfl, rfl⟩ | ⟨N, k, t, rfl, n2, k1, b1, b2, ht, rfl, rfl, rfl⟩
  · simp
  · simp
  · rw [Int.natAbs_natCast, Int.natAbs_natCast]
    exact Nat.le_of_lt (Nat.mod_lt _ (by omega))

theorem wbig_r (seed : Int) (s : ByteArray) (hs : s.size ≤ 1000000) (i : Int) (hi : 0 ≤ i ∧ i ≤ 100000000) (v : Value) (z : Int) (hz : z ≤ ((p64 255 : Nat) : Int)) (w : World) (hv : WI w v z) :
    Calls Tryz.prog 13 #[.int .u64 seed, .string s, .int .i64 i, v] w fun e w' => ∃ sr Ar nr cr X Y E, e = .returned (.tuple #[.agg #[.bool sr, .slice Ar nr cr], .int .i64 Y, .int .i64 E]) ∧ Hid (BigR seed s.data.toList i z X Y E ∧ WI w' (.agg #[.bool sr, .slice Ar nr cr]) X ∧ New w w') := by
  by_cases h1 : z < 1
  · refine (big_neg seed s i v z h1 w hv).mono ?_
    rintro e w1 ⟨rfl, hn⟩
    exact ⟨_, _, _, _, 0, i, 1, rfl, .inl ⟨h1, rfl, rfl, rfl⟩, WI.zero _, hn⟩
  · by_cases h2 : z = 1
    · subst h2
      refine (big_one seed s i v w hv).mono ?_
      rintro e w1 ⟨rfl, hn⟩
      exact ⟨_, _, _, _, 0, i, 0, rfl, .inr (.inl ⟨rfl, rfl, rfl, rfl⟩), WI.zero _, hn⟩
    · obtain ⟨N, rfl⟩ : ∃ N : Nat, z = (N : Int) := ⟨z.toNat, by omega⟩
      obtain ⟨k, hk, hb, hl⟩ := least_k N 255 (by omega)
      have hk1 : 1 ≤ k := by
        rcases Nat.eq_zero_or_pos k with h | h
        · subst h; rw [p64_zero] at hb; omega
        · exact h
      refine (big_ok seed s hs i hi v N k hk1 hk (by omega) hb hl w hv).mono ?_
      rintro e w1 ⟨sr, Ar, nr, cr, t, rfl, H⟩
      exact ⟨sr, Ar, nr, cr, _, _, 0, rfl, .inr (.inr ⟨N, k, t, rfl, by omega, hk1, hb, hl, H.out.1, rfl, rfl, rfl⟩), H.out.2.1, H.out.2.2⟩

theorem res_ctt {P : Program} {fn : Func} {p q r : Tmp} {ty : TypeId} {w : World} {g : Nat} (h : fn.results = #[.cell p ty, .tmp q, .tmp r]) (tmps : Array Value) (hp : tmps.getD p undef = .pointer (some ⟨g, 0, none⟩)) {v u u2 : Value} (hl : (loadVar ty ⟨g, 0, none⟩).run P w = .ok v w) (hq : tmps.getD q undef = u) (hr : tmps.getD r undef = u2) :
    (results fn tmps).run P w = .ok (.tuple #[v, u, u2]) w := by
  have hp' : tmps[p]?.getD undef = .pointer (some ⟨g, 0, none⟩) := by simpa using hp
  have hq' : tmps[q]?.getD undef = u := by simpa using hq
  have hr' : tmps[r]?.getD undef = u2 := by simpa using hr
  simp [results, h, hp', hq', hr', asAddr, hl]

set_option maxRecDepth 100000 in
set_option maxHeartbeats 2000000 in
theorem rbigT_bad (seed : Int) (s : ByteArray) (i : Int) (v : Value) (z : Int) (hz : z < 1) (w : World) (hv : RN w v z) :
    Calls Tryz.prog 14 #[.int .u64 seed, .string s, .int .i64 i, v] w fun e w' => e = .returned (.tuple #[.agg #[.bool false, .slice none 0 0], .int .i64 i, .int .i64 1]) ∧ New w w' := by
  obtain ⟨s0, A0, n0, c0, rfl, hs0, hm0⟩ := hv
  by_cases h0 : z < 0
  · obtain rfl : s0 = true := by rw [hs0]; simpa using h0
    clear hs0 hm0
    go_enter Tryz.func14, Tryz.ntmps14
    go_wp2
    have hb : Blk ((w.alloc (.cells #[.bool true, .slice A0 n0 c0] 26)).alloc (.cells #[.bool false, .slice none 0 0] 26)) (w.heap.size + 1) 26 #[.bool false, .slice none 0 0] := by
      have := Blk.new (w.alloc (.cells #[.bool true, .slice A0 n0 c0] 26)) 26 #[.bool false, .slice none 0 0]
      rwa [World.size_alloc] at this
    exact bodyPost_ret (res_ctt rfl _ rfl (aggN.load hb) rfl rfl) rfl ⟨rfl, ((Chg.refl _ w).alloc _).alloc _⟩
  · obtain rfl : z = 0 := by omega
    obtain rfl : s0 = false := by rw [hs0]; rfl
    have hn0 : n0 = 0 := by
      have := hm0.len (k := 0) (by simp)
      omega
    subst hn0
    clear hs0 hm0
    go_enter Tryz.func14, Tryz.ntmps14
    go_wp2
    have hb : Blk ((w.alloc (.cells #[.bool false, .slice A0 0 c0] 26)).alloc (.cells #[.bool false, .slice none 0 0] 26)) (w.heap.size + 1) 26 #[.bool false, .slice none 0 0] := by
      have := Blk.new (w.alloc (.cells #[.bool false, .slice A0 0 c0] 26)) 26 #[.bool false, .slice none 0 0]
      rwa [World.size_alloc] at this
    exact bodyPost_ret (res_ctt rfl _ rfl (aggN.load hb) rfl rfl) rfl ⟨rfl, ((Chg.refl _ w).alloc _).alloc _⟩

set_option maxRecDepth 100000 in
set_option maxHeartbeats 4000000 in
theorem rbigT_ok (seed : Int) (s : ByteArray) (hs : s.size ≤ 1000000) (i : Int) (hi : 0 ≤ i ∧ i ≤ 1000000000) (v : Value) (N k : Nat) (hk : k ≤ 255) (hN1 : 1 ≤ N) (hN : N ≤ p64 k) (hl : ∀ j, j < k → p64 j < N) (w : World) (hv : RN w v (N : Int)) :
    Calls Tryz.prog 14 #[.int .u64 seed, .string s, .int .i64 i, v] w fun e w' => ∃ sr Ar nr cr X Y, e = .returned (.tuple #[.agg #[.bool sr, .slice Ar nr cr], .int .i64 Y, .int .i64 0]) ∧ Hid (BigR seed s.data.toList i N X Y 0 ∧ RN w' (.agg #[.bool sr, .slice Ar nr cr]) X ∧ New w w') := by
  have hv0 := hv
  obtain ⟨s0, A0, n0, c0, rfl, hs0, hm0⟩ := hv
  obtain rfl : s0 = false := by rw [hs0]; simp
  have hn0 : ((n0 : Int) == 0) = false := by
    have : n0 ≠ 0 := fun e => by
      subst e
      have := hm0.lt (k := 0) (Nat.le_refl _)
      simp at this
      omega
    simp; omega
  have HV := Lib.hid (And.intro hv0 (And.intro hN hl))
  have HI := Lib.hid hi
  clear hs0 hm0 hv0 hN hl hi
  go_enter Tryz.func14, Tryz.ntmps14
  go_wp2_with fail
  clear hn0
  refine Code.new2 ?_
  intro W hb7 hb8 hn hz
  obtain ⟨g7, hg7⟩ : ∃ x, w.heap.size = x := ⟨_, rfl⟩
  obtain ⟨g8, hg8⟩ : ∃ x, w.heap.size + 1 = x := ⟨_, rfl⟩
  rw [hg7] at hb7
  rw [hg8] at hb8
  simp only [hg8]
  simp only [hg7]
  have hgs : w.heap.size ≤ g7 ∧ g7 < g8 := by omega
  have HG := Lib.hid hgs
  have HB := Lib.hid (And.intro hb7 (And.intro hb8 hn))
  clear hb7 hb8 hn hz hg7 hg8 hgs
  go_loopw [11] (fun u wr => ∃ j : Nat, u = .int .i64 (j : Int) ∧ j ≤ k ∧ Hid (Blk wr g7 26 #[.bool false, .slice A0 n0 c0] ∧ Blk wr g8 26 #[.bool false, .slice none 0 0] ∧ New w wr)) (fun u _ => 300 - (intOf u).toNat)
  case atStart => exact ⟨0, rfl, by omega, HB.out⟩
  case round =>
    clear HB
    obtain ⟨j, rfl, hj, HJ⟩ := hrel
    obtain ⟨wo, rfl⟩ : ∃ wo : World, wo = wr := ⟨_, rfl⟩
    obtain ⟨K, hK⟩ : ∃ K, 64 * j = K := ⟨_, rfl⟩
    have hKi : IntKind.i64.wrap (64 * (j : Int)) = (K : Int) := by rw [IntWalk.i64_in _ (by omega)]; omega
    have hpw := fun W => power_h K (by omega) W
    rw [← hK, ← p64_two, hK] at hpw
    have hcp : ∀ W' v, New wo W' → RN W' v ((p64 j : Nat) : Int) → Calls Tryz.prog 33 #[v, .agg #[.bool false, .slice A0 n0 c0]] W' fun e w' => e = .returned (.int .i64 (cmpI ((p64 j : Nat) : Int) (N : Int))) ∧ New W' w' := fun W' v h hv' => rcompare_any v _ _ _ W' hv' (HV.out.1.new (HJ.out.2.2.new h))
    obtain ⟨C, hC⟩ : ∃ C, cmpI ((p64 j : Nat) : Int) (N : Int) = C := ⟨_, rfl⟩
    rw [hC] at hcp
    have hCl : decide (C < 0) = decide (p64 j < N) := by
      rw [← hC]
      unfold cmpI
      by_cases h : p64 j < N
      · rw [if_pos (by omega)]; simp [h]
      · rw [if_neg (by omega)]
        split <;> simp [h]
    have HC := Lib.hid (And.intro hpw hcp)
    clear hpw hcp hC hK
    have hc0 := HJ.out.1.cell 0 (u := .bool false) rfl
    have hc1 := HJ.out.1.cell 1 (u := .slice A0 n0 c0) rfl
    have hN0 : New wo wo.drew := (Chg.refl _ _).drew
    have hsk : ∀ w', New wo w' → w'.cell? ⟨g7, 0, none⟩ = some (.bool false) ∧ w'.cell? ⟨g7, 1, none⟩ = some (.slice A0 n0 c0) := fun w' h => ⟨(HJ.out.1.chg h (fun h => h)).cell 0 rfl, (HJ.out.1.chg h (fun h => h)).cell 1 rfl⟩
    have HSK := Lib.hid hsk
    clear hsk
    by_cases hjk : j < k
    · have hCt : C < 0 := by have := HV.out.2.2 j hjk; simpa [this] using hCl
      clear hCl
      go_wp2_with fail
      go_region_held3 (fun w' => w'.cell? ⟨g7, 0, none⟩ = some (.bool false) ∧ w'.cell? ⟨g7, 1, none⟩ = some (.slice A0 n0 c0)) (first | exact HSK.out _ (by assumption) | exact HSK.out _ (Chg.refl _ _))
        (first
          | (go_at_call 9; (with_reducible refine (HC.out.1 _).mono ?_); rintro e q1 ⟨s1, A1, n1, c1, rfl, Q1⟩; have hM1 := hN0.new Q1.out.2)
          | (go_at_call 33; (with_reducible refine (HC.out.2 _ _ hM1 Q1.out.1).mono ?_); rintro e q2 ⟨rfl, Q2⟩; have hM2 := hM1.new Q2))
      have HE := Lib.hid hM2
      clear hc0 hc1 hN0 hM1 hM2 Q1 Q2 HSK
      go_wp2
      go_roundw
      case rel => exact ⟨j + 1, by go_num, by omega, HJ.out.1.chg HE.out (fun h => h), HJ.out.2.1.chg HE.out (fun h => h), HJ.out.2.2.new HE.out⟩
      case measure => simp [intOf]; omega
    · obtain rfl : j = k := by omega
      have hCt : decide (C < 0) = false := by have := HV.out.2.1; rw [hCl]; simpa using this
      have hk255 : decide ((255 : Int) < (j : Int)) = false := by simp; omega
      clear hCl
      go_wp2_with fail
      go_region_held3 (fun w' => w'.cell? ⟨g7, 0, none⟩ = some (.bool false) ∧ w'.cell? ⟨g7, 1, none⟩ = some (.slice A0 n0 c0)) (first | exact HSK.out _ (by assumption) | exact HSK.out _ (Chg.refl _ _))
        (first
          | (go_at_call 9; (with_reducible refine (HC.out.1 _).mono ?_); rintro e q1 ⟨s1, A1, n1, c1, rfl, Q1⟩; have hM1 := hN0.new Q1.out.2)
          | (go_at_call 33; (with_reducible refine (HC.out.2 _ _ hM1 Q1.out.1).mono ?_); rintro e q2 ⟨rfl, Q2⟩; have hM2 := hM1.new Q2))
      have HE := Lib.hid (And.intro (HJ.out.1.chg hM2 (fun h => h)) (And.intro (HJ.out.2.1.chg hM2 (fun h => h)) (HJ.out.2.2.new hM2)))
      clear hc0 hc1 hN0 hM1 hM2 Q1 Q2 HSK HJ HC
      have c80 := HE.out.2.1.cell 0 (u := .bool false) rfl
      have c81 := HE.out.2.1.cell 1 (u := .slice none 0 0) rfl
      have f80 := HE.out.2.1.frozen 0
      have f81 := HE.out.2.1.frozen 1
      by_cases h0 : j = 0
      · subst h0
        go_wp2
        obtain ⟨e7, e8, hn⟩ := HE.out
        have hN' := HV.out.2.1
        rw [p64_zero] at hN'
        refine bodyPost_ret (res_ctt rfl _ rfl (aggN.load (e8.set2 _ _)) rfl rfl) rfl ⟨_, _, _, _, 0, i, rfl, .inr (.inl ⟨by omega, rfl, rfl, rfl⟩), RN.zero _, ?_⟩
        exact Chg.owned hn (Chg.at2 _ _ _ _) (fun b e => by have := HG.out; omega)
      · have hj0 : ((j : Int) == 0) = false := by simp; omega
        have c70 := HE.out.1.cell 0 (u := .bool false) rfl
        have c71 := HE.out.1.cell 1 (u := .slice A0 n0 c0) rfl
        clear c80 c81 f80 f81
        go_wp2_with fail
        have hNt : N < 2 ^ 900000 := by have := top_big (Nat.lt_of_le_of_lt HV.out.2.1 (p64_top hk)) 900000 (by decide); rwa [Int.natAbs_natCast] at this
        refine (rbig_any seed s hs i HI.out _ N hN1 hNt j (by omega) q2 (HV.out.1.new HE.out.2.2)).mono ?_
        clear hNt
        rintro e w3 ⟨s3, A3, n3, c3, t, rfl, H3⟩
        have hnn : New q2 ((w3.alloc (.cells #[.bool s3, .slice A3 n3 c3] 26))) := H3.out.2.2.alloc _
        have e8 := HE.out.2.1.chg hnn (fun h => h)
        have c80 := e8.cell 0 (u := .bool false) rfl
        have c81 := e8.cell 1 (u := .slice none 0 0) rfl
        have f80 := e8.frozen 0
        have f81 := e8.frozen 1
        have l8 := e8.lt
        have hr3 : RN (w3.alloc (.cells #[.bool s3, .slice A3 n3 c3] 26)) (.agg #[.bool s3, .slice A3 n3 c3]) ((tryN seed s.data.toList i j t % N : Nat) : Int) := H3.out.2.1.new ((Chg.refl (fun _ => False) w3).alloc _)
        have HF := Lib.hid (And.intro e8 (And.intro (HE.out.2.2.new hnn) hr3))
        clear c70 c71 hnn e8 hr3
        go_wp2
        obtain ⟨e8, hn, hr3⟩ := HF.out
        generalize w3.alloc (.cells #[.bool s3, .slice A3 n3 c3] 26) = V at *
        have hch := Chg.at2 V g8 (.bool s3) (.slice A3 n3 c3)
        have htk := H3.out.1
        rw [← p64_two] at htk
        have hN2 : 2 ≤ N := by have := HV.out.2.2 0 (by omega); rw [p64_zero] at this; omega
        refine bodyPost_ret (res_ctt rfl _ rfl (aggN.load (e8.set2 _ _)) rfl rfl) rfl ⟨s3, A3, n3, c3, _, _, rfl, .inr (.inr ⟨N, j, t, rfl, hN2, by omega, HV.out.2.1, HV.out.2.2, htk, rfl, rfl, rfl⟩), hr3.store e8 (noInt_two' _ _ _ _) hch, ?_⟩
        exact Chg.owned hn hch (fun b e => by have := HG.out; omega)

theorem rbig_r (seed : Int) (s : ByteArray) (hs : s.size ≤ 1000000) (i : Int) (hi : 0 ≤ i ∧ i ≤ 1000000000) (v : Value) (z : Int) (hz : z ≤ ((p64 255 : Nat) : Int)) (w : World) (hv : RN w v z) :
    Calls Tryz.prog 14 #[.int .u64 seed, .string s, .int .i64 i, v] w fun e w' => ∃ sr Ar nr cr X Y E, e = .returned (.tuple #[.agg #[.bool sr, .slice Ar nr cr], .int .i64 Y, .int .i64 E]) ∧ Hid (BigR seed s.data.toList i z X Y E ∧ RN w' (.agg #[.bool sr, .slice Ar nr cr]) X ∧ New w w') := by
  by_cases h1 : z < 1
  · refine (rbigT_bad seed s i v z h1 w hv).mono ?_
    rintro e w1 ⟨rfl, hn⟩
    exact ⟨_, _, _, _, 0, i, 1, rfl, .inl ⟨h1, rfl, rfl, rfl⟩, RN.zero _, hn⟩
  · obtain ⟨N, rfl⟩ : ∃ N : Nat, z = (N : Int) := ⟨z.toNat, by omega⟩
    obtain ⟨k, hk, hb, hl⟩ := least_k N 255 (by omega)
    refine (rbigT_ok seed s hs i hi v N k hk (by omega) hb hl w hv).mono ?_
    rintro e w1 ⟨sr, Ar, nr, cr, X, Y, rfl, H⟩
    exact ⟨sr, Ar, nr, cr, X, Y, 0, rfl, H.out⟩
end Go.Proofs.YtmpkaimhjdkheaaGreatDoor
