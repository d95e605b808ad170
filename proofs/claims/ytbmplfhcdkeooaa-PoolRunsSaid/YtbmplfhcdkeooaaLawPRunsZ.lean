/- The law PoolRuns. -/
import Derived.Test.YtbmplfhcdkeooaaPmCZ
import Derived.Test.YtbmplfhcdkeooaaPmDZ
import Derived.Test.YtbmplfhcdkeooaaPmEZ
import Derived.Test.YtbmplfhcdkeooaaScrBZ
import Derived.Test.YtbmplfhcdkeooaaPlOZ
import Derived.Test.YtbmplfhcdkeooaaPlIZ
import Derived.Test.YtbmplfhcdkeooaaArgs
set_option linter.unusedSimpArgs false
set_option linter.unusedVariables false
namespace Go.Proofs.Ytbmplfhcdkeooaa
set_option linter.unusedVariables false
open Go.RowKit Go.Mem Go.Pl

set_option maxHeartbeats 4000000 in
set_option maxRecDepth 100000 in
theorem poolRuns_walk (A1 : Option Addr) (n1 c1 : Nat) (L : List Int) (wm tm : Int) (w : World) (hr1 : Rd w A1 n1 (is L)) (hL : ∀ z ∈ L, -9223372036854775808 ≤ z ∧ z ≤ 9223372036854775807) (hn1 : n1 ≤ 9223372036854775807) (hwm : Go.Mem.I64 wm) (htm : Go.Mem.I64 tm) :
    Calls Try.prog 4 #[.slice A1 n1 c1, .int .i64 wm, .int .i64 tm] w fun e w' => e = .returned (.bool true) ∧ New w w' := by
  obtain ⟨q1, q2⟩ := aroundI_range wm 4 (by omega)
  obtain ⟨q3, q4⟩ := aroundI_range tm 9 (by omega)
  obtain ⟨W, hW⟩ : ∃ W : Nat, aroundI wm 4 = (W : Int) := ⟨(aroundI wm 4).toNat, by omega⟩
  obtain ⟨K, hK⟩ : ∃ K : Nat, aroundI tm 9 = (K : Int) := ⟨(aroundI tm 9).toNat, by omega⟩
  have hW3 : W ≤ 3 := by omega
  have hK8 : K ≤ 8 := by omega
  have HW := Lib.hid hW
  have HK := Lib.hid hK
  have HR1 := Lib.hid hr1
  have HL := Lib.hid hL
  clear hW hK q1 q2 q3 q4 hr1 hL
  obtain ⟨htm1, htm2⟩ := htm
  obtain ⟨hwm1, hwm2⟩ := hwm
  obtain ⟨W1, hW1⟩ : ∃ W1 : Nat, W1 = W + 1 := ⟨_, rfl⟩
  have hWI : 1 + (W : Int) = (W1 : Int) := by omega
  have hW1a : 1 ≤ W1 ∧ W1 ≤ 8 := by omega
  clear hW1
  go_enter Try.func4, Try.ntmps4
  go_wp2_with fail
  refine (around_any wm 4 _ hwm1 hwm2 (by omega) (by omega)).mono ?_
  rintro e w1 ⟨rfl, hw⟩
  subst hw
  rw [HW.out]
  go_wp2_with fail
  refine (around_any tm 9 _ htm1 htm2 (by omega) (by omega)).mono ?_
  rintro e w1 ⟨rfl, hw⟩
  subst hw
  rw [HK.out]
  go_wp2_with fail
  refine (plNew_any W1 (1 + (K : Int)) hW1a (by omega) (fun _ => ⟨0, .slice none 0 0, .slice none 0 0, .slice none 0 0⟩) w).mono ?_
  rintro e w1 ⟨g, m, dv, rfl, hp1, hp2, hp3⟩
  have HP1 := Lib.hid (And.intro (hp1 (fun _ => False) (fun k hk => hk.elim)) (And.intro hp2 hp3))
  clear hp1 hp2 hp3
  go_wp2_with fail
  refine (around_any wm 4 _ hwm1 hwm2 (by omega) (by omega)).mono ?_
  rintro e w2 ⟨rfl, hw⟩
  subst hw
  rw [HW.out]
  go_wp2_with fail
  refine (around_any tm 9 _ htm1 htm2 (by omega) (by omega)).mono ?_
  rintro e w2 ⟨rfl, hw⟩
  subst hw
  rw [HK.out]
  go_wp2_with fail
  refine (rNew_any W1 (1 + (K : Int)) hW1a (by omega)).mono ?_
  rintro e w2 ⟨h, al, rfl, hr2, hn2, ho2⟩
  obtain ⟨U0, X0, hp⟩ := PM.start HP1.out.1 HP1.out.2.1 HP1.out.2.2 hr2 hn2 ho2
  have HP := Lib.hid hp
  clear HP1 hr2 hn2 ho2 hp
  go_wp2_with fail
  refine (rScript_any A1 n1 c1 L 40 (by omega) w2 (HR1.out.new HP.out.was) HL.out hn1).mono ?_
  rintro e w3 ⟨A2, c2, rfl, hsc, hn3⟩
  obtain ⟨os, hos⟩ : ∃ os, script L 40 = os := ⟨_, rfl⟩
  have hos40 : os.length ≤ 40 := by rw [← hos]; unfold script; rw [scrTo_len]; omega
  have hok : ∀ (j : Nat) o, os[j]? = some o → o.Ok := fun j o h => by rw [← hos] at h; exact script_ok h
  rw [hos] at hsc ⊢
  obtain ⟨n, hn⟩ : ∃ n, os.length = n := ⟨_, rfl⟩
  rw [hn] at hsc hos40 ⊢
  obtain ⟨s0, hs0⟩ : ∃ s0, new W1 (1 + (K : Int)) = s0 := ⟨_, rfl⟩
  have ht0 : s0.tries.length = 0 := by rw [← hs0]; rfl
  rw [hs0] at HP
  have hp3 := HP.out.new hn3
  have hlo : ∀ k, U0 k → k < w2.heap.size := fun k hk => HP.out.lt (HP.out.sub k hk)
  have HLO := Lib.hid hlo
  have HSC := Lib.hid hsc
  have HOK := Lib.hid hok
  have HN := Lib.hid hn
  have HN3 := Lib.hid hn3
  have HST := Lib.hid (show ∃ U' X' s, PM U' X' w g h s s w3 ∧ PMStep (fun k => w2.heap.size ≤ k ∧ k < w3.heap.size) U0 X0 U' X' w3 w3 ∧ s.tries.length ≤ 0 from ⟨U0, X0, s0, hp3, PMStep.of_new hp3 (Chg.refl _ _), by omega⟩)
  clear hsc hok hn hn3 hos hs0 ht0 hp3 hlo HP
  go_wp2_with fail
  go_loopw [11] (fun i wl => ∃ (iN : Nat), i = .int .i64 (iN : Int) ∧ iN ≤ n ∧ Hid (∃ U' X' s, PM U' X' w g h s s wl ∧ PMStep (fun k => w2.heap.size ≤ k ∧ k < w3.heap.size) U0 X0 U' X' w3 wl ∧ s.tries.length ≤ iN)) (fun i _ => n - (intOf i).toNat)
  case atStart => exact ⟨0, rfl, by omega, HST⟩
  case round =>
    obtain ⟨i, rfl, hi, hh⟩ := hrel
    by_cases hlt : i < n
    · obtain ⟨o, ho⟩ : ∃ o, os[i]? = some o := ⟨_, List.getElem?_eq_getElem (by have := HN.out; omega)⟩
      obtain ⟨U', X', s, hp, hst, htr⟩ := hh.out
      have hok := HOK.out i o ho
      have hsc : ScrV wr w2.heap.size (.slice A2 n c2) os := HSC.out.chg hst.chg (fun k' _ h1 h2 => by have := HLO.out k' h2; omega)
      obtain ⟨ga, c9, Ab, cb, hv, k0, k1, k2, k3, k4, hrd, hab⟩ := HSC.out.at_ ho
      obtain ⟨ga', c9', Ab', cb', hv', l3, hc1, hc2⟩ := HSC.out.cap ho
      have hv0 := hv
      rw [HN.out] at hv hv'
      injection hv with hv1 hv2 hv3
      injection hv' with hv1' hv2' hv3'
      subst hv1 hv3
      injection hv1' with hv1'
      injection hv1' with hv1'
      subst hv1'
      rw [k3] at l3
      injection l3 with l3
      injection l3 with l31 l32 l33
      subst l31 l33
      rw [hok.body] at hrd k3 hc1
      have hno : ∀ k, U' k → k < w2.heap.size ∨ w3.heap.size ≤ k := fun k hk => (hst.own k hk).imp (fun e => HLO.out k e) (fun e => e)
      have hga : ∀ q v, w3.cell? ⟨ga, q, none⟩ = some v → wr.cell? ⟨ga, q, none⟩ = some v := fun q v hq => hst.chg.cell hq (fun hu => by
        obtain ⟨css, q1, _⟩ := HSC.out
        have := (ownN_lt q1 (show (Value.slice (some ⟨ga, 0, none⟩) n c2).ownBlock = some ga from rfl)).1
        have := HLO.out _ hu
        dsimp only at this
        omega)
      have k0 := hga _ _ k0
      have k1 := hga _ _ k1
      have k2 := hga _ _ k2
      have k3 := hga _ _ k3
      have k4 := hga _ _ k4
      have hrd2 := hrd.chg hst.chg (fun k hk _ hu => by have := (hab k hk).2; have := HLO.out k hu; omega)
      have hstep := step_any hp (by omega) o hok Ab cb hrd2 ⟨hc1, hc2⟩ (fun k hk => ⟨Nat.lt_of_lt_of_le (hab k hk).1 hst.chg.size, fun hu => by have := hno k hu; have := hab k hk; omega⟩)
      have HSTEP := Lib.hid (show Calls Try.prog 19 #[.pointer (some ⟨g, 0, none⟩), .pointer (some ⟨h, 0, none⟩), .agg #[.int .i64 o.kind, .int .i64 o.worker, .int .i64 o.n, .slice Ab 2 cb, .int .i64 o.wait]] wr fun e w' => e = .returned (.bool true) ∧ (∃ U' X', PM U' X' w g h (stepS s o) (stepS s o) w' ∧ PMStep (fun k => w2.heap.size ≤ k ∧ k < w3.heap.size) U0 X0 U' X' w3 w' ∧ (stepS s o).tries.length ≤ i + 1) from hstep.mono (by
        rintro e w' ⟨r1, U2, X2, r2, r3⟩
        exact ⟨r1, U2, X2, r2, hst.trans (r3.mono (fun k hk => ⟨(hab k hk).2, (hab k hk).1⟩)), by have := stepS_tries s o; omega⟩))
      obtain ⟨kd, wk, nn, bd, wt⟩ := o
      dsimp only at k0 k1 k2 k3 k4 HSTEP
      have hi2 : (i : Int) < (n : Int) := by omega
      have hlt2 : i < n := hlt
      clear hstep hp hst htr hok ho hh hsc hv2 hv2' hv3' hv0 hno hga hrd hrd2 hab hc1 hc2 l32
      go_wp2_with fail
      refine HSTEP.out.mono ?_
      rintro e w5 ⟨rfl, h5⟩
      obtain ⟨U2, X2, r1, r2, r3⟩ := h5
      have HAG := Lib.hid (agrees_any r1)
      have H5 := Lib.hid (show ∀ w6, New w5 w6 → ∃ U' X' s, PM U' X' w g h s s w6 ∧ PMStep (fun k => w2.heap.size ≤ k ∧ k < w3.heap.size) U0 X0 U' X' w3 w6 ∧ s.tries.length ≤ i + 1 from fun w6 hx => ⟨U2, X2, _, r1.new hx, r2.trans (PMStep.of_new r1 hx), r3⟩)
      clear r1 r2 r3 HSTEP
      go_wp2_with fail
      refine HAG.out.mono ?_
      rintro e w6 ⟨rfl, hn6⟩
      have H6 := Lib.hid (H5.out w6 hn6)
      clear hn6 H5 HAG
      go_wp2_with fail
      exact ⟨⟨i + 1, rfl, by omega, H6⟩, by simp [intOf]; omega⟩
    · obtain rfl : i = n := by omega
      obtain ⟨U', X', s, hp, hst, htr⟩ := hh.out
      have HWAS := Lib.hid hp.was
      clear hp hst htr hh
      go_wp2_with fail
      refine (plives_any _).mono ?_
      rintro e w9 ⟨rfl, hn9⟩
      have HN9 := Lib.hid hn9
      clear hn9
      go_wp2_with fail
      go_ret
      exact ⟨rfl, HWAS.out.trans HN9.out (fun _ _ h => h)⟩
end Go.Proofs.Ytbmplfhcdkeooaa
