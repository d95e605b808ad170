/- The walk of refuterlaw05.RandBounds. -/
import Derived.Test.YtgofjkppeobjfaaDoorB6
import Derived.Test.YtgofjkppeobjfaaDoorArgsZ
namespace Go.Proofs.YtgofjkppeobjfaaDoor
set_option linter.unusedVariables false
open Go.RowKit Go.Mem Go.Dig Go.Pure

theorem p64_gap (k : Nat) : p64 k + 4 ≤ p64 (k + 1) := by
  have := p64_pos k
  rw [p64_succ]
  omega
set_option maxRecDepth 100000 in
set_option maxHeartbeats 4000000 in
theorem randBounds_walk (seed k : Int) (hk : -9223372036854775808 ≤ k ∧ k ≤ 9223372036854775807) (w : World) :
    Calls Tryd.prog 9 #[.int .u64 seed, .int .i64 k] w fun e w' => e = .returned (.bool true) ∧ New w w' := by
  have hbo := fun W => bound1_any k 3 hk.1 hk.2 (by omega) (by omega) W
  have hr := aroundI_range k 7 (by omega)
  obtain ⟨d, hd⟩ : ∃ d, aroundI k (2 * 3 + 1) - 3 = d := ⟨_, rfl⟩
  rw [hd] at hbo
  have hd1 : -3 ≤ d ∧ d ≤ 3 := by rw [show (2 * 3 + 1 : Int) = 7 by decide] at hd; omega
  obtain ⟨K, hK⟩ : ∃ K, K = 255 := ⟨_, rfl⟩
  have g1 := p64_gap 254
  have g2 := p64_gap K
  have hp1 := p64_pos 254
  rw [show 254 + 1 = K by omega] at g1
  obtain ⟨N, hN⟩ : ∃ N : Nat, ((p64 K : Nat) : Int) + d = (N : Int) := ⟨(((p64 K : Nat) : Int) + d).toNat, by omega⟩
  have hNt : N < topN := by rw [top_p64 (K + 1) (by omega)]; omega
  have hN1 : 1 ≤ N := by omega
  have hN254 : p64 254 < N := by omega
  have hNz : (N : Int).natAbs < topN := by rw [Int.natAbs_natCast]; exact hNt
  have hNd : (N : Int).natAbs < dmax := Nat.lt_of_lt_of_le hNz (Nat.le_trans (Nat.le_add_right _ _) top_dmax)
  obtain ⟨b, hb⟩ : ∃ b, St (Txt.text (N : Int)) = b := ⟨_, rfl⟩
  have htx := fun W v (h : RN W v (N : Int)) => rtext_any v (N : Int) W h (top_big hNt 1000000 (by decide))
  have hps := fun W => wparse_text (N : Int) hNd W
  rw [hb] at htx hps
  rw [(rg_in hNz).1, (rg_in hNz).2] at hps
  have hpw : ∀ W, Calls Tryd.prog 40 #[.int .i64 16320] W fun e w' => ∃ s A n c, e = .returned (.agg #[.bool s, .slice A n c]) ∧ Hid (RN w' (.agg #[.bool s, .slice A n c]) ((p64 K : Nat) : Int) ∧ New W w') := fun W => by
    obtain ⟨M, hM⟩ : ∃ M : Nat, M = 16320 := ⟨_, rfl⟩
    have h := power_h M (by omega) W
    rw [show M = 64 * K by omega, ← p64_two, show (((64 * K : Nat)) : Int) = 16320 by omega] at h
    exact h
  have had := fun W v v' (h : RN W v ((p64 K : Nat) : Int)) (h' : RN W v' d) => radd_h v v' _ _ W h h' (top_big (p64_top (by omega)) 1000000 (by decide)) (small_big (by omega) (by omega))
  rw [hN] at had
  have HC := Lib.hid (And.intro hbo (And.intro htx (And.intro hps (And.intro hpw had))))
  have HF := Lib.hid (And.intro hN (And.intro hN254 (And.intro hN1 hK)))
  obtain ⟨b0, hb0⟩ : ∃ b0 : ByteArray, ByteArray.mk #[116, 101, 115, 116] = b0 := ⟨_, rfl⟩
  have hb0s : b0.size ≤ 1000000 := by rw [← hb0]; decide
  have HB0 := Lib.hid hb0
  clear hbo hr hd g1 g2 hp1 hN hNt hN1 hN254 hNz hNd hb htx hps hpw had hk hK hb0
  go_enter Tryd.func9, Tryd.ntmps9
  go_wp2_with fail
  refine (HC.out.1 w).mono ?_
  rintro e w1 ⟨rfl, rfl⟩
  go_wp2_with fail
  refine (HC.out.2.2.2.1 w).mono ?_
  rintro e w1 ⟨s1, A1, n1, c1, rfl, H1⟩
  go_wp2_with fail
  refine (of_h d w1 (by omega) (by omega)).mono ?_
  rintro e w2 ⟨s2, A2, n2, c2, rfl, H2⟩
  go_wp2_with fail
  refine (HC.out.2.2.2.2 w2 _ _ (H1.out.1.new H2.out.2) H2.out.1).mono ?_
  rintro e w3 ⟨s3, A3, n3, c3, rfl, H3⟩
  have HN3 := Lib.hid (H1.out.2.new (H2.out.2.new H3.out.2))
  clear H1 H2
  go_wp2_with fail
  refine Calls.new1 ?_
  intro W4 hb4 hn4 hz4
  refine (HC.out.2.1 W4 _ (H3.out.1.new hn4)).mono ?_
  rintro e w5 ⟨rfl, hn5⟩
  have HN5 := Lib.hid (HN3.out.new (hn4.new hn5))
  clear hb4 hn4 hz4 hn5 HN3 H3
  go_wp2_with fail
  refine (HC.out.2.2.1 w5).mono ?_
  rintro e w6 ⟨s6, A6, n6, c6, rfl, H6⟩
  go_wp2_with fail
  refine Calls.new1 ?_
  intro W7 hb7 hn7 hz7
  obtain ⟨g7, hg7⟩ : ∃ x, w6.heap.size = x := ⟨_, rfl⟩
  rw [hg7] at hb7
  simp only [hg7]
  have H7 := Lib.hid (And.intro hb7 (And.intro (H6.out.1.new hn7) (HN5.out.new (H6.out.2.new hn7))))
  clear hb7 hn7 hz7 hg7 H6 HN5
  rw [HB0.out]
  by_cases hdp : 0 < d
  · refine (big_limit seed b0 0 _ N (by have := HF.out; rw [← this.2.2.2]; omega) W7 H7.out.2.1).mono ?_
    rintro e w8 ⟨rfl, hn8⟩
    have H8 := Lib.hid hn8
    clear hn8
    go_wp2_with fail
    refine Calls.new1 ?_
    intro W9 hb9 hn9 hz9
    refine (sign_any _ 0 W9 (WI.zero _)).mono ?_
    rintro e w10 ⟨rfl, hn10⟩
    rw [show cmpI 0 0 = 0 by decide]
    have H10 := Lib.hid (H7.out.2.2.new (H8.out.new (hn9.new hn10)))
    clear hb9 hn9 hz9 hn10
    go_wp2_with fail
    refine (lives_any w10).mono ?_
    rintro e w11 ⟨rfl, hn11⟩
    have H11 := Lib.hid (H10.out.new hn11)
    clear hn11
    go_wp2
    go_ret
    exact ⟨rfl, H11.out⟩
  · have hdp' : decide (0 < d) = false := by simpa using hdp
    refine (big_ok seed b0 hb0s 0 ⟨by omega, by omega⟩ _ N 255 (by omega) (by omega) HF.out.2.2.1 (by have := HF.out; rw [← this.2.2.2]; omega) (fun j hj => Nat.lt_of_le_of_lt (p64_le (show j ≤ 254 by omega)) HF.out.2.1) W7 H7.out.2.1).mono ?_
    rintro e w8 ⟨s8, A8, n8, c8, t, rfl, H8⟩
    obtain ⟨X, hX⟩ : ∃ X, tryN seed b0.data.toList 0 255 t % N = X := ⟨_, rfl⟩
    have hXb : X < N := by rw [← hX]; exact Nat.mod_lt _ (by have := HF.out.2.2.1; omega)
    rw [hX] at H8
    obtain ⟨Y, hY⟩ : ∃ Y : Int, 0 + ((t * 255 : Nat) : Int) + ((255 : Nat) : Int) = Y := ⟨_, rfl⟩
    rw [hY]
    have hY1 : 0 < Y := by omega
    have hY2 : Y % 255 = 0 := by omega
    have hY3 : Y.tmod 255 = 0 := by rw [Int.tmod_eq_emod_of_nonneg (by omega)]; exact hY2
    clear hX hY
    have H9 := Lib.hid (And.intro H8.out.2.1 (And.intro H8.out.2.2 hXb))
    clear H8 hXb
    go_wp2_with fail
    refine Calls.new1 ?_
    intro W9 hb9 hn9 hz9
    obtain ⟨g9, hg9⟩ : ∃ x, w8.heap.size = x := ⟨_, rfl⟩
    rw [hg9] at hb9
    simp only [hg9]
    refine (sign_any _ _ W9 (H9.out.1.new hn9)).mono ?_
    rintro e w10 ⟨rfl, hn10⟩
    have hC : (0 : Int) ≤ cmpI (X : Int) 0 := by unfold cmpI; rw [if_neg (by omega)]; split <;> omega
    generalize cmpI (X : Int) 0 = C at hC ⊢
    have hn79 : New W7 w10 := H9.out.2.1.new (hn9.new hn10)
    have k90 := (hb9.chg hn10 (fun h => h)).cell 0 (u := .bool s8) rfl
    have k91 := (hb9.chg hn10 (fun h => h)).cell 1 (u := .slice A8 n8 c8) rfl
    have k70 := (H7.out.1.chg hn79 (fun h => h)).cell 0 (u := .bool s6) rfl
    have k71 := (H7.out.1.chg hn79 (fun h => h)).cell 1 (u := .slice A6 n6 c6) rfl
    have H10 := Lib.hid (And.intro (H9.out.1.new (hn9.new hn10)) (And.intro (H7.out.2.1.new hn79) (H7.out.2.2.new hn79)))
    clear hb9 hn9 hz9 hg9 hn10 hn79
    go_wp2_with fail
    clear k90 k91 k70 k71
    refine (compare_any _ _ _ _ w10 H10.out.1 H10.out.2.1).mono ?_
    rintro e w11 ⟨rfl, hn11⟩
    rw [cmpI_lt (by have := H9.out.2.2; omega)]
    have H11 := Lib.hid (H10.out.2.2.new hn11)
    clear hn11
    go_wp2_with fail
    refine (lives_any w11).mono ?_
    rintro e w12 ⟨rfl, hn12⟩
    have H12 := Lib.hid (H11.out.new hn12)
    clear hn12
    go_wp2
    go_ret
    exact ⟨rfl, H12.out⟩
end Go.Proofs.YtgofjkppeobjfaaDoor
