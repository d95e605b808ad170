/- Contracts of refuterref05.Pick and refuterref01.Pick. -/
import Derived.Test.YtgofjkppeobjfaaB5
import Derived.Test.YtgofjkppeobjfaaPick01Z
namespace Go.Proofs.Ytgofjkppeobjfaa
set_option linter.unusedVariables false
open Go.RowKit Go.Mem Go.Dig Go.Pure

set_option maxRecDepth 100000 in
set_option maxHeartbeats 4000000 in
theorem rpick_any (seed : Int) (s : ByteArray) (hs : s.size ≤ 1000000) (i : Int) (hi : 0 ≤ i ∧ i ≤ 1000000000) (A : Option Addr) (n c : Nat) (l : List Int) (w : World) (hr : Rd w A n (is l)) (hn : n ≤ 10000) :
    Calls Try.prog 8 #[.int .u64 seed, .string s, .int .i64 i, .slice A n c] w fun e w' =>
      e = .returned (.tuple #[.int .i64 (pickR seed s.data.toList i l).1, .int .i64 (pickR seed s.data.toList i l).2.1, .int .i64 (pickR seed s.data.toList i l).2.2]) ∧ New w w' := by
  have hll : l.length = n := by have := hr.len; rwa [is_length] at this
  obtain ⟨P, hP⟩ : ∃ P, pickR seed s.data.toList i l = P := ⟨_, rfl⟩
  rw [hP]
  have H0 := Lib.hid (And.intro hll (And.intro hr hP))
  clear hll hr hP
  go_enter Try.func8, Try.ntmps8
  go_wp2_with fail
  go_loopw [11, 12] (fun v j wr => ∃ k S : Nat, k ≤ n ∧ j = .int .i64 k ∧ v = .int .i64 S ∧ S ≤ k * 1099511627776 ∧ Hid (goodW (l.take k) ∧ (l.take k).sum = (S : Int)) ∧ wr = w) (fun _ j _ => n - (intOf j).toNat)
  case atStart => exact ⟨0, 0, by omega, rfl, rfl, by omega, ⟨fun w hw => by simp at hw, by simp⟩, rfl⟩
  case round =>
    obtain ⟨k, S, hk, rfl, rfl, hSb, HG, rfl⟩ := hrel
    by_cases hlt : k < n
    · obtain ⟨hll, hr, hP⟩ := H0.out
      obtain ⟨ad, u, rfl, hu, hcu⟩ := hr.at_ hlt
      obtain ⟨z, hz, rfl⟩ := is_at hu
      have HZ := Lib.hid hz
      clear hll hr hP hu hz
      by_cases hz0 : z < 0
      · have HB : Hid (pickBad l) := .inr (.inr (.inl (fun h => by have := (h z (List.mem_of_getElem? HZ.out)).1; omega)))
        go_wp2
        go_ret3
        rw [← H0.out.2.2, pickR_bad HB.out]
        exact ⟨rfl, Chg.refl _ _⟩
      · have hz0d : decide (z < 0) = false := by simp; omega
        by_cases hz4 : 1099511627776 < z
        · have HB : Hid (pickBad l) := .inr (.inr (.inl (fun h => by have := (h z (List.mem_of_getElem? HZ.out)).2; omega)))
          go_wp2
          go_ret3
          rw [← H0.out.2.2, pickR_bad HB.out]
          exact ⟨rfl, Chg.refl _ _⟩
        · have hz4d : decide (1099511627776 < z) = false := by simp; omega
          go_wp2
          go_roundw
          case rel =>
            obtain ⟨hgood, hsum⟩ := HG.out
            refine ⟨k + 1, S + z.toNat, by omega, by go_num, by go_num, by omega, ⟨?_, ?_⟩, trivial⟩
            · intro y hy
              rw [List.take_add_one, HZ.out] at hy
              rcases List.mem_append.1 hy with h | h
              · exact hgood y h
              · simp at h; omega
            · rw [sum_take HZ.out, hsum]; omega
          case measure => simp [intOf]; omega
    · obtain rfl : n = k := by omega
      obtain ⟨hll, hr, hP⟩ := H0.out
      obtain ⟨hgood, hsum⟩ := HG.out
      rw [List.take_of_length_le (by omega)] at hgood hsum
      have HS := Lib.hid (And.intro hll (And.intro hr (And.intro hP (And.intro hgood hsum))))
      clear hll hr hP hgood hsum HG H0
      by_cases hS0 : S = 0
      · have hse : ((S : Int) == 0) = true := by simp; omega
        have HB : Hid (pickBad l) := .inr (.inr (.inr (by rw [HS.out.2.2.2.2, hS0]; rfl)))
        go_wp2
        go_ret3
        rw [← HS.out.2.2.1, pickR_bad HB.out]
        exact ⟨rfl, Chg.refl _ _⟩
      · have hse : ((S : Int) == 0) = false := by simp; omega
        by_cases h4 : 4096 < n
        · have h4i : (4096 : Int) < (n : Int) := by omega
          have HB : Hid (pickBad l) := .inr (.inl (by rw [HS.out.1]; exact h4))
          go_wp2
          go_ret3
          rw [← HS.out.2.2.1, pickR_bad HB.out]
          exact ⟨rfl, Chg.refl _ _⟩
        · have h4d : decide ((4096 : Int) < (n : Int)) = false := by simp; omega
          have hSb2 : S ≤ 4503599627370496 := by omega
          go_wp2_with fail
          refine (rbelow_any seed s hs i hi S (by omega) (by omega) _).mono ?_
          rintro e w2 ⟨rfl, hn2⟩
          obtain ⟨t, ht⟩ : ∃ t, takenN seed s.data.toList i S = t := ⟨_, rfl⟩
          rw [ht]
          have hm0 : 0 ≤ wordI seed s.data.toList (i + t) % (S : Int) := Int.emod_nonneg _ (by omega)
          have hm1 : wordI seed s.data.toList (i + t) % (S : Int) < (S : Int) := Int.emod_lt_of_pos _ (by omega)
          obtain ⟨r0, hr0⟩ : ∃ r0, wordI seed s.data.toList (i + t) % (S : Int) = r0 := ⟨_, rfl⟩
          rw [hr0] at hm0 hm1 ⊢
          obtain ⟨hll, hr, hP, hgood, hsum⟩ := HS.out
          obtain ⟨j, hj, _, hjl⟩ := seek_found hgood r0 0 hm0 (by rw [hsum]; exact hm1)
          have hbad : ¬ pickBad l := fun h => by
            rcases h with h | h | h | h
            · rw [h] at hsum; simp at hsum; omega
            · omega
            · exact h hgood
            · rw [hsum] at h; omega
          have hPv : P = ((j : Int), i + t + 1, 0) := by rw [← hP]; exact pickR_ok hbad hsum ht hr0 hj
          have H2 := Lib.hid (And.intro hn2 (And.intro hj (And.intro hPv (And.intro hll (And.intro hr hgood)))))
          clear hn2 ht hr0 hll hr hP hgood hsum hj hbad hPv HS
          obtain ⟨q, hq⟩ : ∃ q, i + (t : Int) + 1 = q := ⟨_, rfl⟩
          rw [hq]
          have HQ := Lib.hid hq
          clear hq
          go_wp2_with fail
          go_loopw [15, 16] (fun v y wq => ∃ k : Nat, ∃ u : Int, k ≤ n ∧ y = .int .i64 k ∧ v = .int .i64 u ∧ 0 ≤ u ∧ u ≤ r0 ∧ Hid (seek (l.drop k) (r0 - u) k = some j) ∧ wq = w2) (fun _ y _ => n - (intOf y).toNat)
          case atStart => exact ⟨0, 0, by omega, rfl, rfl, by omega, hm0, by show _ = _; rw [List.drop_zero, Int.sub_zero]; exact H2.out.2.1, rfl⟩
          case round =>
            obtain ⟨k, u, hk, rfl, rfl, hu0, hub, HK, rfl⟩ := hrel
            by_cases hlt : k < n
            · obtain ⟨hn2, hj, hPv, hll, hr, hgood⟩ := H2.out
              obtain ⟨ad, v, rfl, hv, hcv⟩ := (hr.new hn2).at_ hlt
              obtain ⟨z, hz, rfl⟩ := is_at hv
              have hzb := hgood z (List.mem_of_getElem? hz)
              have HZ := Lib.hid hz
              obtain ⟨hzb1, hzb2⟩ := hzb
              clear hn2 hj hPv hll hr hgood hv hz
              by_cases hrz : r0 < u + z
              · go_wp2
                go_ret3
                have h1 := HK.out
                rw [seek_drop HZ.out, if_pos (by omega)] at h1
                injection h1 with h1
                rw [H2.out.2.2.1, ← h1, HQ.out]
                exact ⟨rfl, H2.out.1⟩
              · have hrzd : decide (r0 < u + z) = false := by simp; omega
                go_wp2
                go_roundw
                case rel =>
                  have h1 := HK.out
                  rw [seek_drop HZ.out, if_neg (by omega)] at h1
                  exact ⟨k + 1, u + z, by omega, by go_num, rfl, by omega, by omega, by show _ = _; rw [show r0 - (u + z) = r0 - u - z by omega]; exact h1, trivial⟩
                case measure => simp [intOf]; omega
            · exfalso
              have h1 := HK.out
              rw [List.drop_of_length_le (by have := H2.out.2.2.2.1; omega)] at h1
              cases h1

end Go.Proofs.Ytgofjkppeobjfaa
