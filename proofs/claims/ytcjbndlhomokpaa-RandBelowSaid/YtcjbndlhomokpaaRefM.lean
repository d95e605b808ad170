/- Contract of refuterref05.big. -/
import Derived.Test.YtcjbndlhomokpaaRefL
namespace Go.Proofs.Ytcjbndlhomokpaa
set_option linter.unusedVariables false
open Go.RowKit Go.Mem Go.Dig Go.Pure

/-- Which try is taken: the first whose number is below the bound, at most 64 of them. -/
structure Taken (X : Nat → Nat) (bound t : Nat) : Prop where
  le : t ≤ 63
  skip : ∀ j, j < t → ¬ X j < bound
  stop : X t < bound ∨ t = 63
theorem Taken.uniq {X : Nat → Nat} {b t u : Nat} (h : Taken X b t) (h' : Taken X b u) : t = u := by
  rcases Nat.lt_trichotomy t u with h1 | h1 | h1
  · rcases h.stop with h2 | h2
    · exact absurd h2 (h'.skip t h1)
    · have := h'.le; omega
  · exact h1
  · rcases h'.stop with h2 | h2
    · exact absurd h2 (h.skip u h1)
    · have := h.le; omega
/-- The number that k words from try t on lead to. -/
def tryN (seed : Int) (lab : List UInt8) (i : Int) (k : Nat) (t : Nat) : Nat := val 18446744073709551616 (wordsL seed lab (i + (t * k : Nat)) k)
theorem pow_lt_K (a K : Nat) (h : a < K) : 2 ^ a < 2 ^ K := Nat.pow_lt_pow_right (by omega) h
theorem tryN_big (seed : Int) (lab : List UInt8) (i : Int) {k : Nat} (hk : k ≤ 300) (t : Nat) : ((tryN seed lab i k t : Nat) : Int).natAbs < 2 ^ 1000000 := words_big (wordsL_digs _ _ _ _) (by rw [wordsL_len]; exact hk)

set_option maxRecDepth 100000 in
set_option maxHeartbeats 4000000 in
theorem rbig_any (seed : Int) (lab : ByteArray) (hlab : lab.size ≤ 1000000) (i : Int) (hi : 0 ≤ i ∧ i ≤ 1000000000) (v : Value) (N : Nat) (hN1 : 1 ≤ N) (bN : N < 2 ^ 900000) (k : Nat) (hk : k ≤ 300) (w : World) (hv : RN w v (N : Int)) :
    Calls Try.prog 32 #[.int .u64 seed, .string lab, .int .i64 i, v, .int .i64 k] w fun e w' => ∃ s A n c t, e = .returned (.tuple #[.agg #[.bool s, .slice A n c], .int .i64 (i + (t * k : Nat) + (k : Int))]) ∧ Hid (Taken (tryN seed lab.data.toList i k) (2 ^ (64 * k) - 2 ^ (64 * k) % N) t ∧ RN w' (.agg #[.bool s, .slice A n c]) ((tryN seed lab.data.toList i k t % N : Nat) : Int) ∧ New w w') := by
  obtain ⟨s0, A0, n0, c0, rfl, hs0, hm0⟩ := hv
  obtain ⟨M, hM⟩ : ∃ M, 2 ^ (64 * k) = M := ⟨_, rfl⟩
  rw [hM]
  have bM : M < 2 ^ 1000000 := by rw [← hM]; exact pow_lt_K (64 * k) 1000000 (Nat.lt_of_le_of_lt (Nat.mul_le_mul_left 64 hk) (by decide))
  have bM' : ((M : Nat) : Int).natAbs < 2 ^ 1000000 := by rw [Int.natAbs_natCast]; exact bM
  have bO : ((M % N : Nat) : Int).natAbs < 2 ^ 1000000 := by rw [Int.natAbs_natCast]; exact Nat.lt_of_le_of_lt (Nat.mod_le _ _) bM
  have bN' : ((N : Nat) : Int).natAbs < 2 ^ 900000 := by rw [Int.natAbs_natCast]; exact bN
  have hpw := fun W => power_any (64 * k) (Nat.le_trans (Nat.mul_le_mul_left 64 hk) (by decide)) W
  rw [hM] at hpw
  obtain ⟨K6, hK6⟩ : ∃ K6, 64 * k = K6 := ⟨_, rfl⟩
  rw [hK6] at hpw
  have hpwi : (64 : Int) * (k : Int) = (K6 : Int) := by omega
  have hK6b : K6 ≤ 19200 := by omega
  obtain ⟨X, hX⟩ : ∃ X, tryN seed lab.data.toList i k = X := ⟨_, rfl⟩
  rw [hX]
  have bX : ∀ t, ((X t : Nat) : Int).natAbs < 2 ^ 1000000 := fun t => by rw [← hX]; exact tryN_big _ _ _ hk t
  obtain ⟨hi1, hi2⟩ := hi
  have hdg : ∀ (t : Nat), t ≤ 63 → ∀ W, Calls Try.prog 55 #[.int .u64 seed, .string lab, .int .i64 (i + (t * k : Nat)), .int .i64 k] W fun e w' => ∃ s A n c, e = .returned (.agg #[.bool s, .slice A n c]) ∧ Hid (RN w' (.agg #[.bool s, .slice A n c]) ((X t : Nat) : Int) ∧ New W w') := fun t ht W => by
    have htk : t * k ≤ 63 * 300 := Nat.mul_le_mul ht hk
    have := rdigits_any seed lab hlab (i + (t * k : Nat)) ⟨by omega, by omega⟩ k hk W
    rw [← hX]
    exact this
  have H0 := Lib.hid (And.intro hs0 (And.intro hm0 (And.intro bM' (And.intro bO (And.intro bN' (And.intro bX (And.intro hpw hdg)))))))
  clear hs0 hm0 bM bM' bO bN bN' hpw bX hX hM hdg hK6
  go_enter Try.func32, Try.ntmps32
  go_wp2_with fail
  refine Calls.new2 ?_
  intro W1 hb1 hb2 hn1 hz1
  refine (H0.out.2.2.2.2.2.2.1 W1).mono ?_
  rintro e w2 ⟨v2, rfl, ⟨s2, A2, n2, c2, rfl, hs2, hm2⟩, hn2⟩
  have hd1 := hb1.chg hn2 (fun h => h)
  have hc10 := hd1.cell 0 (u := .bool s0) rfl
  have hc11 := hd1.cell 1 (u := .slice A0 n0 c0) rfl
  have hz2 : w.heap.size < w2.heap.size := hd1.lt
  have H2 := Lib.hid (And.intro hd1 (And.intro (hb2.chg hn2 (fun h => h)) (And.intro (hn1.new hn2) (And.intro hs2 hm2))))
  clear hb1 hb2 hn1 hz1 hs2 hm2 hn2 hd1 hpwi
  go_wp2_with fail
  refine Calls.new1 ?_
  intro W3 hb3 hn3 hz3
  obtain ⟨hd1, hd2, hn2, hs2, hm2⟩ := H2.out
  obtain ⟨hs0, hm0, bM, bO, bN, _⟩ := H0.out
  refine (rdiv_any _ _ (M : Int) (N : Int) W3 ⟨s2, A2, n2, c2, rfl, hs2, hm2.new hn3⟩ ⟨s0, A0, n0, c0, rfl, hs0, hm0.new (hn2.new hn3)⟩ bM bN (by omega)).mono ?_
  rintro e w4 ⟨vq, vr, rfl, ⟨sq, Aq, nq, cq, rfl, hsq, hmq⟩, ⟨sr, Ar, nr, cr, rfl, hsr, hmr⟩, hn4⟩
  rw [← Int.natCast_emod] at hsr hmr
  have hn34 := hn3.new hn4
  have e3 := hb3.chg hn4 (fun h => h)
  have k30 := e3.cell 0 (u := .bool s2) rfl
  have k31 := e3.cell 1 (u := .slice A2 n2 c2) rfl
  have hz4 : w2.heap.size < w4.heap.size := e3.lt
  have H4 := Lib.hid (And.intro (hd1.chg hn34 (fun h => h)) (And.intro (hd2.chg hn34 (fun h => h)) (And.intro (hn2.new hn34) (And.intro hs2 (And.intro (hm2.new hn34) (And.intro hsr hmr))))))
  clear hb3 hn3 hz3 hd1 hd2 hn2 hs2 hm2 hs0 hm0 bM bO bN hsq hmq hsr hmr hn4 hn34 e3 H2 hc10 hc11
  go_wp2_with fail
  refine Calls.new2 ?_
  intro W5 hb5 hb6 hn5 hz5
  obtain ⟨hd1, hd2, hn2, hs2, hm2, hsr, hmr⟩ := H4.out
  refine (rsub_any _ _ (M : Int) ((M % N : Nat) : Int) W5 ⟨s2, A2, n2, c2, rfl, hs2, hm2.new hn5⟩ ⟨sr, Ar, nr, cr, rfl, hsr, hmr.new hn5⟩ H0.out.2.2.1 H0.out.2.2.2.1).mono ?_
  rintro e w6 ⟨v6, rfl, ⟨s6, A6, n6, c6, rfl, hs6, hm6⟩, hn6⟩
  rw [show ((M : Nat) : Int) - ((M % N : Nat) : Int) = ((M - M % N : Nat) : Int) by rw [Int.ofNat_sub (Nat.mod_le _ _)]] at hs6 hm6
  obtain ⟨bd, hbd⟩ : ∃ bd, M - M % N = bd := ⟨_, rfl⟩
  rw [hbd] at hs6 hm6
  have hn56 := hn5.new hn6
  have H6 := Lib.hid (And.intro (hd1.chg hn56 (fun h => h)) (And.intro (hd2.chg hn56 (fun h => h)) (And.intro (hn2.new hn56) (And.intro hs6 (And.intro hm6 hbd)))))
  clear hb5 hb6 hn5 hz5 hd1 hd2 hn2 hs2 hm2 hsr hmr hs6 hm6 hn6 hn56 hbd H4 k30 k31
  go_wp2_with fail
  refine Calls.new1 ?_
  intro W7 hb7 hn7 hz7
  have hdg0 := H0.out.2.2.2.2.2.2.2 0 (by omega) W7
  rw [show i + ((0 * k : Nat) : Int) = i by simp] at hdg0
  refine hdg0.mono ?_
  rintro e w8 ⟨s8, A8, n8, c8, rfl, H8⟩
  obtain ⟨g4, hg4⟩ : ∃ g, w6.heap.size = g := ⟨_, rfl⟩
  obtain ⟨g5, hg5⟩ : ∃ g, w8.heap.size = g := ⟨_, rfl⟩
  obtain ⟨hd1, hd2, hn6, hs6, hm6, hbd⟩ := H6.out
  have hn78 := hn7.new H8.out.2
  have e7 := hb7.chg H8.out.2 (fun h => h)
  rw [hg4] at e7
  have hl1 : w.heap.size + 1 < g4 := by have := hd2.lt; omega
  have hl2 : g4 < g5 := by have := e7.lt; omega
  obtain ⟨W9, hW9⟩ : ∃ W9, w8.alloc (.cells #[.bool s8, .slice A8 n8 c8] 58) = W9 := ⟨_, rfl⟩
  have hn9 : New w8 W9 := by rw [← hW9]; exact (Chg.refl _ _).alloc _
  have hb9 : Blk W9 g5 58 #[.bool s8, .slice A8 n8 c8] := by rw [← hW9, ← hg5]; exact Blk.new _ _ _
  have H9 := Lib.hid (And.intro ((hd1.chg hn78 (fun h => h)).chg hn9 (fun h => h)) (And.intro ((hd2.chg hn78 (fun h => h)).chg hn9 (fun h => h)) (And.intro (e7.chg hn9 (fun h => h)) (And.intro hb9 (And.intro (hn6.new (hn78.new hn9)) (And.intro (show RN W9 (.agg #[.bool s6, .slice A6 n6 c6]) (bd : Int) from ⟨s6, A6, n6, c6, rfl, hs6, (hm6.new hn78).new hn9⟩) (And.intro (H8.out.1.new hn9) hbd)))))))
  have HW9 := Lib.hid hW9
  clear hb7 hn7 hz7 hdg0 hd1 hd2 hn6 hs6 hm6 hbd hn78 e7 hW9 hn9 hb9 H6 H8
  go_wp2_with fail
  rw [HW9.out]
  clear HW9 hg4 hg5
  go_loopw [16, 18] (fun a u wr => ∃ t : Nat, ∃ s A n c, a = .int .i64 (i + (t * k : Nat)) ∧ u = .int .i64 ((t : Int) + 1) ∧ t ≤ 63 ∧ Hid ((∀ j, j < t → ¬ X j < bd) ∧ Blk wr w.heap.size 58 #[.bool s0, .slice A0 n0 c0] ∧ Blk wr (w.heap.size + 1) 58 #[.bool false, .slice none 0 0] ∧ Blk wr g4 58 #[.bool s6, .slice A6 n6 c6] ∧ Blk wr g5 58 #[.bool s, .slice A n c] ∧ New w wr ∧ RN wr (.agg #[.bool s6, .slice A6 n6 c6]) (bd : Int) ∧ RN wr (.agg #[.bool s, .slice A n c]) ((X t : Nat) : Int))) (fun _ u _ => 65 - (intOf u).toNat)
  case atStart =>
    obtain ⟨h1, h2, h3, h4, h5, h6, h7, h8⟩ := H9.out
    exact ⟨0, s8, A8, n8, c8, by simp, rfl, by omega, fun j hj => by omega, h1, h2, h3, h4, h5, h6, h7⟩
  case round =>
    obtain ⟨t, s, A, n, c, rfl, rfl, ht, HI⟩ := hrel
    have HBD := Lib.hid H9.out.2.2.2.2.2.2.2
    clear H9
    have htk : t * k ≤ 63 * 300 := Nat.mul_le_mul ht hk
    obtain ⟨q, hq⟩ : ∃ q, t * k = q := ⟨_, rfl⟩
    have hqb : q ≤ 18900 := by omega
    have x0 := HI.out.2.2.2.2.1.cell 0 (u := .bool s) rfl
    have x1 := HI.out.2.2.2.2.1.cell 1 (u := .slice A n c) rfl
    have y0 := HI.out.2.2.2.1.cell 0 (u := .bool s6) rfl
    have y1 := HI.out.2.2.2.1.cell 1 (u := .slice A6 n6 c6) rfl
    have z0 := HI.out.2.1.cell 0 (u := .bool s0) rfl
    have z1 := HI.out.2.1.cell 1 (u := .slice A0 n0 c0) rfl
    rw [hq]
    have HQ := Lib.hid hq
    clear hq htk
    by_cases ht63 : t = 63
    · have hge : decide (((t : Int) + 1) < 64) = false := by simp; omega
      have HT := Lib.hid ht63
      clear ht63
      have HJ := Lib.hid HI.out.2
      go_wp2_with fail
      refine (rdiv_any _ _ ((X t : Nat) : Int) (N : Int) wr HJ.out.2.2.2.2.2.2 ⟨s0, A0, n0, c0, rfl, H0.out.1, H0.out.2.1.new HJ.out.2.2.2.2.1⟩ (H0.out.2.2.2.2.2.1 t) H0.out.2.2.2.2.1 (by omega)).mono ?_
      rintro e wa ⟨va, vb, rfl, ⟨sa, Aa, na, ca, rfl, hsa, hma⟩, ⟨sb, Ab, nb, cb, rfl, hsb, hmb⟩, hna⟩
      rw [← Int.natCast_emod] at hsb hmb
      have hr2 := HJ.out.2.1.chg hna (fun h => h)
      have r0 := hr2.cell 0 (u := .bool false) rfl
      have r1 := hr2.cell 1 (u := .slice none 0 0) rfl
      have f0 := hr2.frozen 0
      have f1 := hr2.frozen 1
      have hrl : w.heap.size + 1 < wa.heap.size := hr2.lt
      have hrl0 : w.heap.size < wa.heap.size := by omega
      have HZ := Lib.hid (And.intro hr2 (And.intro (HJ.out.2.2.2.2.1.new hna) (And.intro hsb hmb)))
      clear hsa hma hsb hmb hna hr2
      go_wp2
      obtain ⟨hr2, hn2, hsb, hmb⟩ := HZ.out
      have hfin := (((hr2.set2 (.bool sb) (.slice Ab nb cb)).alloc (.cells #[.bool sa, .slice Aa na ca] 58)).alloc (.cells #[.bool sb, .slice Ab nb cb] 58))
      have hq' := HQ.out
      refine bodyPost_ret (res_ct rfl _ rfl (aggN.load hfin) rfl) rfl ⟨sb, Ab, nb, cb, t, by rw [hq']; rfl, ⟨by rw [HBD.out]; exact ⟨by omega, HI.out.1, .inr HT.out⟩, ⟨sb, Ab, nb, cb, rfl, hsb, ?_⟩, ?_⟩⟩
      · exact ((hmb.store hr2 (noInt_two' _ _ _ _) (Chg.at2 _ _ _ _)).new ((Chg.refl _ _).alloc _)).new ((Chg.refl _ _).alloc _)
      · exact ((Chg.owned hn2 (Chg.at2 _ _ _ _) (fun k e => by omega)).alloc _).alloc _
    · have hlt : ((t : Int) + 1) < 64 := by omega
      go_wp2_with fail
      refine (rcompare_any _ _ ((X t : Nat) : Int) (bd : Int) wr HI.out.2.2.2.2.2.2.2 HI.out.2.2.2.2.2.2.1).mono ?_
      rintro e w3 ⟨rfl, hn3⟩
      obtain ⟨j1, j2, j3, j4, j5, j6, j7⟩ := HI.out.2
      have HJ := Lib.hid (And.intro (j1.chg hn3 (fun h => h)) (And.intro (j2.chg hn3 (fun h => h)) (And.intro (j3.chg hn3 (fun h => h)) (And.intro (j4.chg hn3 (fun h => h)) (And.intro (j5.new hn3) (And.intro (j6.new hn3) (j7.new hn3)))))))
      have x0 := HJ.out.2.2.2.1.cell 0 (u := .bool s) rfl
      have x1 := HJ.out.2.2.2.1.cell 1 (u := .slice A n c) rfl
      have z0 := HJ.out.1.cell 0 (u := .bool s0) rfl
      have z1 := HJ.out.1.cell 1 (u := .slice A0 n0 c0) rfl
      clear j1 j2 j3 j4 j5 j6 j7 hn3 y0 y1
      by_cases hc : X t < bd
      · rw [cmpI_lt (show ((X t : Nat) : Int) < (bd : Int) by omega)]
        have HC := Lib.hid hc
        clear hc
        go_wp2_with fail
        refine (rdiv_any _ _ ((X t : Nat) : Int) (N : Int) w3 HJ.out.2.2.2.2.2.2 ⟨s0, A0, n0, c0, rfl, H0.out.1, H0.out.2.1.new HJ.out.2.2.2.2.1⟩ (H0.out.2.2.2.2.2.1 t) H0.out.2.2.2.2.1 (by omega)).mono ?_
        rintro e wa ⟨va, vb, rfl, ⟨sa, Aa, na, ca, rfl, hsa, hma⟩, ⟨sb, Ab, nb, cb, rfl, hsb, hmb⟩, hna⟩
        rw [← Int.natCast_emod] at hsb hmb
        have hr2 := HJ.out.2.1.chg hna (fun h => h)
        have r0 := hr2.cell 0 (u := .bool false) rfl
        have r1 := hr2.cell 1 (u := .slice none 0 0) rfl
        have f0 := hr2.frozen 0
        have f1 := hr2.frozen 1
        have hrl : w.heap.size + 1 < wa.heap.size := hr2.lt
        have hrl0 : w.heap.size < wa.heap.size := by omega
        have HZ := Lib.hid (And.intro hr2 (And.intro (HJ.out.2.2.2.2.1.new hna) (And.intro hsb hmb)))
        clear hsa hma hsb hmb hna hr2
        go_wp2
        obtain ⟨hr2, hn2, hsb, hmb⟩ := HZ.out
        have hfin := (((hr2.set2 (.bool sb) (.slice Ab nb cb)).alloc (.cells #[.bool sa, .slice Aa na ca] 58)).alloc (.cells #[.bool sb, .slice Ab nb cb] 58))
        have hq' := HQ.out
        refine bodyPost_ret (res_ct rfl _ rfl (aggN.load hfin) rfl) rfl ⟨sb, Ab, nb, cb, t, by rw [hq']; rfl, ⟨by rw [HBD.out]; exact ⟨by omega, HI.out.1, .inl HC.out⟩, ⟨sb, Ab, nb, cb, rfl, hsb, ?_⟩, ?_⟩⟩
        · exact ((hmb.store hr2 (noInt_two' _ _ _ _) (Chg.at2 _ _ _ _)).new ((Chg.refl _ _).alloc _)).new ((Chg.refl _ _).alloc _)
        · exact ((Chg.owned hn2 (Chg.at2 _ _ _ _) (fun k e => by omega)).alloc _).alloc _
      · have hcv : decide ((0 : Int) ≤ cmpI ((X t : Nat) : Int) (bd : Int)) = true := by
          unfold cmpI
          rw [if_neg (by omega)]
          split <;> decide
        generalize cmpI ((X t : Nat) : Int) (bd : Int) = cv at *
        have HC := Lib.hid hc
        clear hc
        have hqk : i + (q : Int) + (k : Int) = i + (((t + 1) * k : Nat) : Int) := by
          rw [Nat.add_mul, HQ.out]; omega
        have hdg := H0.out.2.2.2.2.2.2.2 (t + 1) (by omega)
        rw [← hqk] at hdg
        have HDG := Lib.hid (And.intro hdg hqk)
        have f0 := HJ.out.2.2.2.1.frozen 0
        have f1 := HJ.out.2.2.2.1.frozen 1
        clear hdg hqk
        go_wp2_with fail
        refine (HDG.out.1 w3).mono ?_
        rintro e wa ⟨sa, Aa, na, ca, rfl, HA⟩
        have hba := HJ.out.2.2.2.1.chg HA.out.2 (fun h => h)
        have x0 := hba.cell 0 (u := .bool s) rfl
        have x1 := hba.cell 1 (u := .slice A n c) rfl
        have f0 := hba.frozen 0
        have f1 := hba.frozen 1
        clear hba
        go_wp2
        go_roundw
        case rel =>
          obtain ⟨j1, j2, j3, j4, j5, j6, j7⟩ := HJ.out
          have hna := HA.out.2
          have hba := j4.chg hna (fun h => h)
          have hcs : Chg (fun k => k = g5) wa ((wa.setCell ⟨g5, 0, none⟩ (.bool sa)).setCell ⟨g5, 1, none⟩ (.slice Aa na ca)) := Chg.at2 _ _ _ _
          refine ⟨t + 1, sa, Aa, na, ca, by rw [HDG.out.2], by go_num, by omega, ?_, (j1.chg hna (fun h => h)).chg hcs (by omega), (j2.chg hna (fun h => h)).chg hcs (by omega), (j3.chg hna (fun h => h)).chg hcs (by omega), hba.set2 _ _, Chg.owned (j5.new hna) hcs (fun k e => by omega), (j6.new hna).store hba (noInt_two' _ _ _ _) hcs, HA.out.1.store hba (noInt_two' _ _ _ _) hcs⟩
          intro j hj
          rcases Nat.lt_or_ge j t with h | h
          · exact HI.out.1 j h
          · obtain rfl : j = t := by omega
            exact HC.out
        case measure => simp [intOf]; omega
end Go.Proofs.Ytcjbndlhomokpaa
