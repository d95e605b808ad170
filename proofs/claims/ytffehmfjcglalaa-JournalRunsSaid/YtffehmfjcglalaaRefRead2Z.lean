/- Contracts of refuterref02.Reader: Back, Int, length, Raw. -/
import Derived.Test.YtffehmfjcglalaaRefReadZ
set_option linter.unusedSimpArgs false
set_option linter.unusedVariables false
namespace Go.Proofs.Ytffehmfjcglalaa
open Go.RowKit Go.Mem Go.Pure

set_option maxHeartbeats 1000000 in
theorem back_any (z : Nat) (w : World) (hz : z < 18446744073709551616) :
    Calls Try.prog 90 #[.int .u64 z] w fun e w' => e = .returned (.int .i64 (unzig z)) ∧ w = w' := by
  have hzi : (z : Int) < 18446744073709551616 := by omega
  have HZ := Lib.hid hz
  clear hz
  by_cases h : z % 2 = 1
  · have h' : ((z : Int) % 2 == 1) = true := by simp; omega
    have H := Lib.hid h
    clear h
    go_enter Try.func90, Try.ntmps90
    go_wp2
    go_ret
    refine ⟨ret_int ?_, rfl⟩
    unfold unzig
    rw [if_pos H.out]
    omega
  · have h' : ((z : Int) % 2 == 1) = false := by simp; omega
    have H := Lib.hid h
    clear h
    go_enter Try.func90, Try.ntmps90
    go_wp2
    go_ret
    refine ⟨ret_int ?_, rfl⟩
    unfold unzig
    rw [if_neg H.out]
    omega

set_option maxHeartbeats 1000000 in
set_option maxRecDepth 100000 in
theorem rrInt_any (g : Nat) (bo : Option Nat) (l : List UInt8) (e0 : Int) (w : World) (hw : RRdr w g bo l e0) :
    Calls Try.prog 68 #[.pointer (some ⟨g, 0, none⟩)] w fun e w' => e = .returned (.int .i64 (intR l e0).1) ∧
      RRdr w' g bo (intR l e0).2.1 (intR l e0).2.2 ∧ Chg (fun k => k = g) w w' := by
  go_enter Try.func68, Try.ntmps68
  go_wp2_with fail
  refine (rrUint_any g bo l e0 w hw).mono ?_
  rintro e w1 ⟨rfl, hw1, hc1⟩
  have H1 := Lib.hid (And.intro hw1 hc1)
  clear hw1 hc1 hw
  go_wp2_with fail
  refine (back_any (uintR l e0).1 w1 (uintR_lt l e0)).mono ?_
  rintro e w2 ⟨rfl, rfl⟩
  go_wp2
  go_ret
  exact ⟨rfl, H1.out.1, H1.out.2⟩

set_option maxHeartbeats 1000000 in
set_option maxRecDepth 100000 in
theorem rrLength_any (g : Nat) (bo : Option Nat) (l : List UInt8) (e0 : Int) (w : World) (hw : RRdr w g bo l e0) :
    Calls Try.prog 89 #[.pointer (some ⟨g, 0, none⟩)] w fun e w' => e = .returned (.int .i64 (lengthR l e0).1) ∧
      RRdr w' g bo (lengthR l e0).2.1 (lengthR l e0).2.2 ∧ Chg (fun k => k = g) w w' := by
  have hu := uintR_lt l e0
  have HU := Lib.hid hu
  clear hu
  generalize hq : uintR l e0 = q at *
  obtain ⟨m, t, x⟩ := q
  have HQ := Lib.hid hq
  clear hq
  go_enter Try.func89, Try.ntmps89
  go_wp2_with fail
  refine (rrUint_any g bo l e0 w hw).mono ?_
  rw [HQ.out]
  rintro e w1 ⟨rfl, hw1, hc1⟩
  have HW1 := Lib.hid hw1
  have HC1 := Lib.hid hc1
  obtain ⟨A, n, c, hb, hr, hnc, hcm, hbo, hne, hbk⟩ := hw1
  clear hbk
  have hcm' : c ≤ 9223372036854775807 := hcm
  have hln : t.length = n := by have := hr.len; rwa [bs_length] at this
  have HLN := Lib.hid hln
  have hcc0 := hb.cell 0 rfl
  have hcc1 := hb.cell 1 rfl
  have hff1 := hb.frozen 1
  clear hb hr hbo hln hc1
  by_cases hx : x = 0
  · subst hx
    by_cases hlt : n < m
    · have HG := Lib.hid (lengthR_big HQ.out (by rw [HLN.out]; exact hlt))
      have hlt' : decide ((n : Int) < (m : Int)) = true := by simp; omega
      go_wp2_with fail
      go_ret
      rw [HG.out]
      have := HW1.out.put 3
      exact ⟨rfl, this.1, HC1.out.trans this.2 (fun _ _ h => h)⟩
    · have HG := Lib.hid (lengthR_ok HQ.out (by rw [HLN.out]; exact hlt))
      have hlt' : decide ((n : Int) < (m : Int)) = false := by simp; omega
      go_wp2_with fail
      go_ret
      rw [HG.out]
      exact ⟨rfl, HW1.out, HC1.out⟩
  · have hx1 : (x == 0) = false := by simpa using hx
    have hx2 : (x != 0) = true := by simpa using hx
    have HG := Lib.hid (lengthR_err HQ.out hx)
    clear hx
    go_wp2_with fail
    go_ret
    rw [HG.out]
    exact ⟨rfl, HW1.out, HC1.out⟩

set_option maxHeartbeats 1000000 in
set_option maxRecDepth 100000 in
/-- Raw of the reference shares the reader's bytes. -/
theorem rrRaw_any (g : Nat) (bo : Option Nat) (l : List UInt8) (e0 : Int) (w : World) (hw : RRdr w g bo l e0) :
    Calls Try.prog 67 #[.pointer (some ⟨g, 0, none⟩)] w fun e w' => ∃ A n c, e = .returned (.slice A n c) ∧ n ≤ c ∧ c ≤ maxLen ∧ (∀ k, blk A = some k → bo = some k) ∧ Rd w' A n (bs (rawR l e0).1) ∧
      RRdr w' g bo (rawR l e0).2.1 (rawR l e0).2.2 ∧ Chg (fun k => k = g) w w' := by
  have hle := lengthR_le l e0
  go_enter Try.func67, Try.ntmps67
  go_wp2_with fail
  refine (rrLength_any g bo l e0 w hw).mono ?_
  rintro e w1 ⟨rfl, hw1, hc1⟩
  have hz := lengthR_zero l e0
  have HRW : Hid (rawR l e0 = ((lengthR l e0).2.1.take (lengthR l e0).1, (lengthR l e0).2.1.drop (lengthR l e0).1, (lengthR l e0).2.2)) := rfl
  generalize hq : lengthR l e0 = q at *
  obtain ⟨m, t, x⟩ := q
  have HQ := Lib.hid hq
  clear hq
  simp only at hle hw1 hz HRW ⊢
  have HW1 := Lib.hid hw1
  have HC1 := Lib.hid hc1
  obtain ⟨A, n, c, hb, hr, hnc, hcm, hbo, hne, hbk⟩ := hw1
  have HBK := Lib.hid hbk
  have hcm' : c ≤ 9223372036854775807 := hcm
  have hln : t.length = n := by have := hr.len; rwa [bs_length] at this
  have hmn : m ≤ n := by omega
  have HLN := Lib.hid hln
  have HB := Lib.hid hb
  have HR := Lib.hid hr
  have HBO := Lib.hid hbo
  have hcc0 := hb.cell 0 rfl
  have hcc1 := hb.cell 1 rfl
  have hff0 := hb.frozen 0
  have hcut := fun W => run_cut elemBytes .i64 A n c m (m : Int) rfl (by omega) W
  have hupto := fun W => run_upto elemBytes .i64 A n c m (m : Int) rfl (by omega) W
  clear hb hr hbo hln hc1 hbk hle
  by_cases hx : x = 0
  · subst hx
    clear hz
    go_wp2
    go_ret
    rw [HRW.out]
    have hchg : Chg (fun k => k = g) w1 (w1.setCell ⟨g, 0, none⟩ (.slice (cutA A c m) (n - m) (c - m))) := (Chg.refl (fun k => k = g) w1).setCell (p := ⟨g, 0, none⟩) (fun _ => rfl) _
    refine ⟨A, m, c, rfl, by omega, hcm, fun k hk => by rw [← HBO.out]; exact hk, ?_, ⟨_, _, _, HB.out.set_ 0 _, ?_, by omega, Nat.le_trans (Nat.sub_le _ _) hcm, ?_, hne, fun k hk => Nat.lt_of_lt_of_le (HBK.out k hk) hchg.size⟩, HC1.out.trans hchg (fun _ _ h => h)⟩
    · have := (HR.out.take (k := m) hmn).chg hchg (fun j hj _ e => hne (by rw [← HBO.out, hj, e]))
      rwa [bs_take] at this
    · have := (HR.out.cutA (k := m) (cap := c) hmn hnc).chg hchg (fun j hj _ e => hne (by rw [← HBO.out, ← blk_cutA _ c m, hj, e]))
      rwa [bs_drop] at this
    · rw [blk_cutA]; exact HBO.out
  · have hm0 : m = 0 := hz hx
    have hx2 : (x != 0) = true := by simpa using hx
    have HM0 := Lib.hid hm0
    clear hx hz hcut hupto hm0
    go_wp2
    go_ret
    rw [HRW.out, HM0.out]
    exact ⟨none, 0, 0, rfl, Nat.le_refl _, Nat.zero_le _, fun k hk => (by cases hk), Rd.nil _ _, HW1.out, HC1.out⟩

end Go.Proofs.Ytffehmfjcglalaa
