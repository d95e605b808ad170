/- The contract of refuterref01.SameInts. -/
import Derived.Test.YtbmplfhcdkeooaaG7
import Derived.Test.YtbmplfhcdkeooaaBase
set_option linter.unusedSimpArgs false
set_option linter.unusedVariables false
namespace Go.Proofs.Ytbmplfhcdkeooaa
set_option linter.unusedVariables false
open Go.RowKit Go.Mem
theorem sameI_step {a b : List Int} {k : Nat} {x y : Int} (h : a.take k = b.take k) (hx : a[k]? = some x) (hy : b[k]? = some y) (e : x = y) : a.take (k + 1) = b.take (k + 1) := by
  rw [List.take_add_one, List.take_add_one, h, hx, hy, e]

set_option maxHeartbeats 1000000 in
theorem sameInts_any (A B : Option Addr) (n m c d : Nat) (la lb : List Int) (w : World) (ha : Rd w A n (is la)) (hb : Rd w B m (is lb)) (hn : n ≤ 9223372036854775807) (hm : m ≤ 9223372036854775807) :
    Calls Try.prog 51 #[.slice A n c, .slice B m d] w fun e w' => e = .returned (.bool (decide (la = lb))) ∧ ∃ m, w' = w.drewN m := by
  have hla : la.length = n := by have := ha.len; rwa [is_length] at this
  have hlb : lb.length = m := by have := hb.len; rwa [is_length] at this
  by_cases h : n = m
  · subst h
    have HA := Lib.hid hla
    have HB := Lib.hid hlb
    clear hla hlb
    go_enter Try.func51, Try.ntmps51
    go_wp2
    go_loopw [5] (fun i wr => ∃ k : Nat, k ≤ n ∧ i = .int .i64 k ∧ la.take k = lb.take k ∧ ∃ q, wr = w.drewN q) (fun i _ => n - (intOf i).toNat)
    case atStart => exact ⟨0, Nat.zero_le _, rfl, rfl, 0, rfl⟩
    case round =>
      obtain ⟨k, hk, rfl, htake, hnew⟩ := hrel
      have HT := Lib.hid htake
      obtain ⟨q, hq⟩ := hnew
      have hnew : New w wr := by rw [hq]; exact (Chg.refl _ w).drewN q
      have HQ := Lib.hid hq
      clear htake hq
      by_cases hlt : k < n
      · obtain ⟨ad, u, rfl, hu, hcu⟩ := (ha.new hnew).at_ hlt
        obtain ⟨bd, v, rfl, hv, hcv⟩ := (hb.new hnew).at_ hlt
        obtain ⟨x, hx, rfl⟩ := is_at hu
        obtain ⟨y, hy, rfl⟩ := is_at hv
        have HX := Lib.hid hx
        have HY := Lib.hid hy
        clear hu hv hx hy ha hb
        by_cases hxy : x = y
        · subst hxy
          go_wp2
          go_quiet (fail)
          go_wp2
          go_roundw
          case rel => exact ⟨k + 1, by omega, by go_num, sameI_step HT.out HX.out HY.out rfl, _, by rw [HQ.out, World.drewN_drewN]⟩
          case measure => simp [intOf]; omega
        · have hne : (x != y) = true := by simp [hxy]
          have e : la ≠ lb := fun e => by
            have h1 := HX.out
            rw [e, HY.out] at h1
            injection h1 with h1
            exact hxy h1.symm
          have HE : Hid (decide (la = lb) = false) := by show _ = _; simpa using e
          clear e
          go_wp2
          go_quiet (fail)
          go_wp2
          go_ret
          rw [HE.out]
          exact ⟨rfl, _, by rw [HQ.out, World.drewN_drewN]⟩
      · go_wp2
        go_ret
        have hk' : k = n := by omega
        subst hk'
        have e : la = lb := by
          have := HT.out
          rwa [List.take_of_length_le (by rw [HA.out]; omega), List.take_of_length_le (by rw [HB.out]; omega)] at this
        exact ⟨by simp [e], _, HQ.out⟩
  · have e : la ≠ lb := fun e => h (by rw [← hla, ← hlb, e])
    have hd : decide (la = lb) = false := by simpa using e
    have H := Lib.hid hd
    clear hla hlb hd
    go_enter Try.func51, Try.ntmps51
    go_wp2
    go_ret
    rw [H.out]
    exact ⟨by simp, 0, rfl⟩

end Go.Proofs.Ytbmplfhcdkeooaa
