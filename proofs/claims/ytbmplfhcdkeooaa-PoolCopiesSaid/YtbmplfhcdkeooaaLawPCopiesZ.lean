/- The law PoolCopies. -/
import Derived.Test.YtbmplfhcdkeooaaG5
import Derived.Test.YtbmplfhcdkeooaaPmDZ
import Derived.Test.YtbmplfhcdkeooaaScrBZ
import Derived.Test.YtbmplfhcdkeooaaPlOZ
import Derived.Test.YtbmplfhcdkeooaaPlIZ
import Derived.Test.YtbmplfhcdkeooaaArgs
set_option linter.unusedSimpArgs false
set_option linter.unusedVariables false
namespace Go.Proofs.Ytbmplfhcdkeooaa
set_option linter.unusedVariables false
open Go.RowKit Go.Mem Go.Pl

/-- A script whose operations are good. -/
theorem script_facts (L : List Int) (most : Nat) (hm : most ≤ 1000) : ∃ os n, script L most = os ∧ os.length = n ∧ n ≤ most ∧ Hid (∀ (j : Nat) o, os[j]? = some o → o.Ok) :=
  ⟨_, _, rfl, rfl, by unfold script; rw [scrTo_len]; omega, fun j o h => script_ok h⟩
set_option maxHeartbeats 4000000 in
set_option maxRecDepth 100000 in
theorem poolCopies_walk (A1 A2 A3 : Option Addr) (n1 c1 n2 c2 n3 c3 : Nat) (L1 L2 L3 : List Int) (w : World) (hr1 : Rd w A1 n1 (is L1)) (hL1 : ∀ z ∈ L1, -9223372036854775808 ≤ z ∧ z ≤ 9223372036854775807) (hn1 : n1 ≤ 9223372036854775807)
    (hr2 : Rd w A2 n2 (is L2)) (hL2 : ∀ z ∈ L2, -9223372036854775808 ≤ z ∧ z ≤ 9223372036854775807) (hn2 : n2 ≤ 9223372036854775807) (hr3 : Rd w A3 n3 (is L3)) (hL3 : ∀ z ∈ L3, -9223372036854775808 ≤ z ∧ z ≤ 9223372036854775807) (hn3 : n3 ≤ 9223372036854775807) :
    Calls Try.prog 7 #[.slice A1 n1 c1, .slice A2 n2 c2, .slice A3 n3 c3] w fun e w' => e = .returned (.bool true) ∧ New w w' := by
  have HR1 := Lib.hid hr1
  have HL1 := Lib.hid hL1
  have HR2 := Lib.hid hr2
  have HL2 := Lib.hid hL2
  have HR3 := Lib.hid hr3
  have HL3 := Lib.hid hL3
  clear hr1 hL1 hr2 hL2 hr3 hL3
  go_enter Try.func7, Try.ntmps7
  go_wp2_with fail
  refine (plNew_any 3 4 (by omega) (by omega) (fun _ => ⟨0, .slice none 0 0, .slice none 0 0, .slice none 0 0⟩) w).mono ?_
  rintro e w1 ⟨g, m, dv, rfl, hp1, hp2, hp3⟩
  have HP1 := Lib.hid (And.intro (hp1 (fun _ => False) (fun k hk => hk.elim)) (And.intro hp2 hp3))
  clear hp1 hp2 hp3
  go_wp2_with fail
  refine (rNew_any 3 4 (by omega) (by omega)).mono ?_
  rintro e w2 ⟨h, al, rfl, hr2, hn2', ho2⟩
  obtain ⟨U0, X0, hp⟩ := PM.start HP1.out.1 HP1.out.2.1 HP1.out.2.2 hr2 hn2' ho2
  have HP := Lib.hid hp
  clear HP1 hr2 hn2' ho2 hp
  go_wp2_with fail
  refine (rScript_any A1 n1 c1 L1 20 (by omega) w2 (HR1.out.new HP.out.was) HL1.out hn1).mono ?_
  rintro e w3 ⟨B1, d1, rfl, hsc, hn3'⟩
  obtain ⟨os, n, hos, hn, hn20, HOK⟩ := script_facts L1 20 (by omega)
  rw [hos] at hsc ⊢
  rw [hn] at hsc ⊢
  obtain ⟨s0, hs0⟩ : ∃ s0, new 3 4 = s0 := ⟨_, rfl⟩
  have ht0 : s0.tries.length = 0 := by rw [← hs0]; rfl
  rw [hs0] at HP
  have HSC := Lib.hid hsc
  have HN := Lib.hid hn
  have HST := Lib.hid (Solo.start HP.out hn3' (N := 0) (by omega))
  have HN3 := Lib.hid (HP.out.was.trans hn3' (fun _ _ h => h) : New w w3)
  clear hsc hn hn3' hos hs0 ht0 HP
  go_wp2_with fail
  go_loopw [11] (fun i wl => ∃ (iN : Nat), i = .int .i64 (iN : Int) ∧ iN ≤ n ∧ Hid (Solo w w3 w2.heap.size g h iN wl)) (fun i _ => n - (intOf i).toNat)
  case atStart => exact ⟨0, rfl, by omega, HST⟩
  case round =>
    obtain ⟨i, rfl, hi, hh⟩ := hrel
    by_cases hlt : i < n
    · obtain ⟨ga, kd, wk, nn, wt, Ab, cb, rfl, k0, k1, k2, k3, k4, HSTEP⟩ := hh.out.stepv (by omega) HSC.out (Nat.le_refl _) HOK.out HN.out hlt
      have hi2 : (i : Int) < (n : Int) := by omega
      have hlt2 : i < n := hlt
      clear hh
      go_wp2_with fail
      refine HSTEP.out.mono ?_
      rintro e w5 ⟨rfl, h5⟩
      have H5 := Lib.hid h5
      clear h5 HSTEP
      go_wp2_with fail
      exact ⟨⟨i + 1, rfl, by omega, H5⟩, by simp [intOf]; omega⟩
    · obtain rfl : i = n := by omega
      obtain ⟨⟨U, X, s, hp, hlo, htr⟩, hc⟩ := hh.out
      have HP := Lib.hid hp
      have HTR := Lib.hid (show s.tries.length ≤ 20 by omega)
      have HWR := Lib.hid (HR2.out.new hp.was)
      have HWR3 := Lib.hid (HR3.out.new hp.was)
      clear hp hlo htr hc hh
      go_wp2_with fail
      refine (HP.out.pCopy (by have := HTR.out; omega)).mono ?_
      rintro e w4 ⟨g2, m2, dv2, V2, T, rfl, q1, q2, q3, q4⟩
      have HP4 := Lib.hid (And.intro q1 (And.intro q2 (And.intro q3 q4)))
      have HM4 := Lib.hid ((HP.out.new q2).mCopy HP.out.wf (by have := HTR.out; omega))
      clear q1 q2 q3 q4
      go_wp2_with fail
      refine HM4.out.mono ?_
      rintro e w5 ⟨h2, al2, jv2, tv2, TR, rfl, r1, r2, r3, r4⟩
      have HR5 := Lib.hid (And.intro r1 (And.intro r2 (And.intro r3 r4)))
      have HN5 := Lib.hid (HP4.out.2.1.trans r2 (fun _ _ h => h) : New wr w5)
      clear r1 r2 r3 r4 HM4
      go_wp2_with fail
      refine (rScript_any A2 n2 c2 L2 10 (by omega) w5 (HWR.out.new HN5.out) HL2.out hn2).mono ?_
      rintro e w6 ⟨B2, d2, rfl, hsc2, hn6⟩
      obtain ⟨xs, nx, hxs, hnx, hnx20, HOX⟩ := script_facts L2 10 (by omega)
      rw [hxs] at hsc2 ⊢
      rw [hnx] at hsc2 ⊢
      have HX6 := Lib.hid (And.intro hsc2 (And.intro hn6 (And.intro hnx (HN5.out.trans hn6 (fun _ _ h => h) : New wr w6))))
      clear hsc2 hn6 hnx hxs
      go_wp2_with fail
      refine (rScript_any A3 n3 c3 L3 10 (by omega) w6 (HWR3.out.new HX6.out.2.2.2) HL3.out hn3).mono ?_
      rintro e w7 ⟨B3, d3, rfl, hsc3, hn7⟩
      obtain ⟨ys, ny, hys, hny, hny20, HOY⟩ := script_facts L3 10 (by omega)
      rw [hys] at hsc3 ⊢
      rw [hny] at hsc3 ⊢
      have HY7 := Lib.hid (And.intro hsc3 hny)
      have HX7 := Lib.hid (And.intro (HX6.out.1.new hn7) HX6.out.2.2.1)
      have HLE := Lib.hid (show w5.heap.size ≤ w6.heap.size from HX6.out.2.1.size)
      have HDU := Lib.hid (Duo.start HP.out HP4.out.1 HP4.out.2.1 HP4.out.2.2.1 HP4.out.2.2.2 HR5.out.1 HR5.out.2.1 HR5.out.2.2.1 HR5.out.2.2.2 (HX6.out.2.1.trans hn7 (fun _ _ h => h)) HTR.out)
      clear hsc3 hn7 hny hys
      have HWAS := Lib.hid (HP.out.was)
      clear HP HP4 HR5 HX6 HR1 HR2 HR3 HL1 HL2 HL3 HST HSC HOK HWR HWR3 HN5 HTR hlt
      go_wp2_with fail
      go_loopw [16] (fun k wl => ∃ (iN : Nat), k = .int .i64 (iN : Int) ∧ iN ≤ 10 ∧ Hid (Duo w w7 w5.heap.size g h g2 h2 (20 + 2 * iN) wl)) (fun k _ => 10 - (intOf k).toNat)
      case atStart => exact ⟨0, rfl, by omega, HDU⟩
      case round =>
        obtain ⟨k, rfl, hk, hh⟩ := hrel
        by_cases ha : k < nx
        · have ha2 : (k : Int) < (nx : Int) := by omega
          obtain ⟨ga, kd, wk, nn, wt, Ab, cb, e, k0, k1, k2, k3, k4, HSTEP⟩ := hh.out.stepv (by omega) HX7.out.1 (Nat.le_refl _) HOX.out HX7.out.2 ha
          subst e
          by_cases hb : k < ny
          · have hb2 : (k : Int) < (ny : Int) := by omega
            clear hh
            go_wp2_with fail
            refine HSTEP.out.mono ?_
            rintro e w8 ⟨rfl, h8⟩
            clear k0 k1 k2 k3 k4 HSTEP
            obtain ⟨ga', kd', wk', nn', wt', Ab', cb', e', k0, k1, k2, k3, k4, HSTEP⟩ := h8.swap.stepv (by omega) HY7.out.1 HLE.out HOY.out HY7.out.2 hb
            subst e'
            clear h8
            go_wp2_with fail
            refine HSTEP.out.mono ?_
            rintro e w9 ⟨rfl, h9⟩
            have H9 := Lib.hid (show Duo w w7 w5.heap.size g h g2 h2 (20 + 2 * (k + 1)) w9 from h9.swap.more (by omega))
            clear k0 k1 k2 k3 k4 HSTEP h9
            go_wp2_with fail
            exact ⟨⟨k + 1, rfl, by omega, H9⟩, by simp [intOf]; omega⟩
          · have hb2 : (ny : Int) ≤ (k : Int) := by omega
            clear hh
            go_wp2_with fail
            refine HSTEP.out.mono ?_
            rintro e w8 ⟨rfl, h8⟩
            have H9 := Lib.hid (show Duo w w7 w5.heap.size g h g2 h2 (20 + 2 * (k + 1)) w8 from h8.more (by omega))
            clear k0 k1 k2 k3 k4 HSTEP h8
            go_wp2_with fail
            exact ⟨⟨k + 1, rfl, by omega, H9⟩, by simp [intOf]; omega⟩
        · have ha2 : (nx : Int) ≤ (k : Int) := by omega
          by_cases hb : k < ny
          · have hb2 : (k : Int) < (ny : Int) := by omega
            obtain ⟨ga', kd', wk', nn', wt', Ab', cb', e', k0, k1, k2, k3, k4, HSTEP⟩ := hh.out.swap.stepv (by omega) HY7.out.1 HLE.out HOY.out HY7.out.2 hb
            subst e'
            clear hh
            go_wp2_with fail
            refine HSTEP.out.mono ?_
            rintro e w9 ⟨rfl, h9⟩
            have H9 := Lib.hid (show Duo w w7 w5.heap.size g h g2 h2 (20 + 2 * (k + 1)) w9 from h9.swap.more (by omega))
            clear k0 k1 k2 k3 k4 HSTEP h9
            go_wp2_with fail
            exact ⟨⟨k + 1, rfl, by omega, H9⟩, by simp [intOf]; omega⟩
          · have hb2 : (ny : Int) ≤ (k : Int) := by omega
            obtain ⟨⟨U, X, s1, U2, X2, s2, q1, q2, q3⟩, hc⟩ := hh.out
            have HAG := Lib.hid (agrees_any q1)
            have HAG2 := Lib.hid (fun wx (hx : New wr wx) => agrees_any (q2.new hx))
            have HW9 := Lib.hid q1.was
            clear q1 q2 q3 hc hh
            go_wp2_with fail
            refine HAG.out.mono ?_
            rintro e w8 ⟨rfl, hn8⟩
            have HAG3 := Lib.hid (HAG2.out w8 hn8)
            have HN8 := Lib.hid (HW9.out.trans hn8 (fun _ _ h => h) : New w w8)
            clear hn8 HAG HAG2
            go_wp2_with fail
            refine HAG3.out.mono ?_
            rintro e w9 ⟨rfl, hn9⟩
            have HN9 := Lib.hid (HN8.out.trans hn9 (fun _ _ h => h) : New w w9)
            clear hn9 HAG3
            go_wp2_with fail
            refine (plives_any _).mono ?_
            rintro e w10 ⟨rfl, hn10⟩
            have HN10 := Lib.hid hn10
            clear hn10
            go_wp2_with fail
            go_ret
            exact ⟨rfl, HN9.out.trans HN10.out (fun _ _ h => h)⟩
end Go.Proofs.Ytbmplfhcdkeooaa
