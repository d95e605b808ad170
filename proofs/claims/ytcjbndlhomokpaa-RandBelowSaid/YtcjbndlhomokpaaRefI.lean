/- Contract of refuterref03.Power. -/
import Derived.Test.YtcjbndlhomokpaaRefH
namespace Go.Proofs.Ytcjbndlhomokpaa
set_option linter.unusedVariables false
open Go.RowKit Go.Mem Go.Dig

/-- Two variables that hold integers, in blocks of the call's own. -/
structure PwI (w wr : World) (B g1 g2 : Nat) (s1 : Bool) (A1 : Option Addr) (n1 c1 : Nat) (s2 : Bool) (A2 : Option Addr) (n2 c2 : Nat) (P Q : Nat) : Prop where
  res : Blk wr B 58 #[.bool false, .slice none 0 0]
  b1 : Blk wr g1 58 #[.bool s1, .slice A1 n1 c1]
  b2 : Blk wr g2 58 #[.bool s2, .slice A2 n2 c2]
  r1 : RN wr (.agg #[.bool s1, .slice A1 n1 c1]) (P : Int)
  r2 : RN wr (.agg #[.bool s2, .slice A2 n2 c2]) (Q : Int)
  new : New w wr
theorem pow_lt2 {t K : Nat} (h : t < K) : ((2 ^ t : Nat) : Int).natAbs < 2 ^ K := by
  rw [Int.natAbs_natCast]
  exact Nat.pow_lt_pow_right (by omega) h
theorem pow_big {t : Nat} (h : t ≤ 100000) : ((2 ^ t : Nat) : Int).natAbs < 2 ^ 1000000 := pow_lt2 (K := 1000000) (Nat.lt_of_le_of_lt h (by decide))

set_option maxRecDepth 100000 in
set_option maxHeartbeats 4000000 in
theorem power_any (k : Nat) (hk : k ≤ 100000) (w : World) :
    Calls Try.prog 52 #[.int .i64 k] w fun e w' => ∃ v, e = .returned v ∧ RN w' v ((2 ^ k : Nat) : Int) ∧ New w w' := by
  obtain ⟨Z, hZ⟩ : ∃ Z, 2 ^ k = Z := ⟨_, rfl⟩
  rw [hZ]
  have HZ := Lib.hid hZ
  clear hZ
  go_enter Try.func52, Try.ntmps52
  go_wp2_with fail
  refine Calls.new1 ?_
  intro W1 hb1 hn1 hz1
  refine (of_any 1 W1 (by omega) (by omega)).mono ?_
  rintro e w2 ⟨v2, rfl, ⟨s2, A2, n2, c2, rfl, hs2, hm2⟩, hn2⟩
  have H2 := Lib.hid (And.intro (hb1.chg hn2 (fun h => h)) (And.intro (hn1.new hn2) (And.intro hs2 hm2)))
  clear hb1 hn1 hz1 hs2 hm2 hn2
  go_wp2_with fail
  refine Calls.new1 ?_
  intro W3 hb3 hn3 hz3
  refine (of_any 2 W3 (by omega) (by omega)).mono ?_
  rintro e w4 ⟨v4, rfl, ⟨s4, A4, n4, c4, rfl, hs4, hm4⟩, hn4⟩
  obtain ⟨g1, hg1⟩ : ∃ g, w2.heap.size = g := ⟨_, rfl⟩
  obtain ⟨g2, hg2⟩ : ∃ g, w4.heap.size = g := ⟨_, rfl⟩
  have hPw : PwI w (w4.alloc (.cells #[.bool s4, .slice A4 n4 c4] 58)) w.heap.size g1 g2 s2 A2 n2 c2 s4 A4 n4 c4 1 2 := by
    obtain ⟨hb, hn, hs2, hm2⟩ := H2.out
    have hn34 := hn3.new hn4
    exact ⟨((hb.chg hn34 (fun h => h))).alloc _, by rw [← hg1]; exact (hb3.chg hn4 (fun h => h)).alloc _, by rw [← hg2]; exact Blk.new _ _ _, RN.new ⟨s2, A2, n2, c2, rfl, hs2, hm2⟩ (hn34.alloc _), RN.new ⟨s4, A4, n4, c4, rfl, hs4, hm4⟩ ((Chg.refl _ _).alloc _), (hn.new hn34).alloc _⟩
  have hlt1 : w.heap.size < g1 := by have := H2.out.1.lt; omega
  have hlt2 : g1 < g2 := by have := hb3.lt; have := hn4.size; omega
  have HP := Lib.hid hPw
  clear hb3 hn3 hz3 hs4 hm4 hn4 hPw H2
  go_wp2_with fail
  obtain ⟨W5, hW5⟩ : ∃ W5, w4.alloc (.cells #[.bool s4, .slice A4 n4 c4] 58) = W5 := ⟨_, rfl⟩
  rw [hW5] at HP
  rw [hW5]
  clear hW5 hg1 hg2
  go_loopw [0] (fun v wr => ∃ m p t : Nat, ∃ s1 A1 n1 c1 s2 A2 n2 c2, v = .int .i64 m ∧ m ≤ k ∧ Hid (p + t * m = k ∧ (0 < m → t ≤ k)) ∧ Hid (PwI w wr w.heap.size g1 g2 s1 A1 n1 c1 s2 A2 n2 c2 (2 ^ p) (2 ^ t))) (fun v _ => (intOf v).toNat)
  case atStart => exact ⟨k, 0, 1, s2, A2, n2, c2, s4, A4, n4, c4, rfl, Nat.le_refl _, ⟨by omega, fun h => by omega⟩, HP.out⟩
  case round =>
    clear HP
    obtain ⟨m, p, t, s1, A1, n1, c1, s2, A2, n2, c2, rfl, hmk, HE, HI⟩ := hrel
    have a0 := HI.out.b1.cell 0 (u := .bool s1) rfl
    have a1 := HI.out.b1.cell 1 (u := .slice A1 n1 c1) rfl
    by_cases hm0 : m = 0
    · subst hm0
      have x0 := HI.out.res.cell 0 (u := .bool false) rfl
      have x1 := HI.out.res.cell 1 (u := .slice none 0 0) rfl
      have f0 := HI.out.res.frozen 0
      have f1 := HI.out.res.frozen 1
      go_wp2
      have hI := HI.out
      have hpk : 2 ^ p = Z := by rw [← HZ.out]; have := HE.out.1; rw [Nat.mul_zero, Nat.add_zero] at this; rw [this]
      refine bodyPost_ret (res_c rfl _ rfl (aggN.load (hI.res.set2 _ _))) rfl ⟨_, rfl, ?_, ?_⟩
      · rw [← hpk]; exact hI.r1.store hI.res (noInt_two' _ _ _ _) (Chg.at2 _ _ _ _)
      · exact Chg.owned hI.new (Chg.at2 _ _ _ _) (fun k e => by omega)
    · have hgt : (0 : Int) < (m : Int) := by omega
      have b0 := HI.out.b2.cell 0 (u := .bool s2) rfl
      have b1 := HI.out.b2.cell 1 (u := .slice A2 n2 c2) rfl
      have htk : t ≤ 100000 := by have := HE.out.2 (by omega); omega
      have hpk : p ≤ 100000 := by have := HE.out.1; omega
      obtain ⟨h, hh⟩ : ∃ h, m / 2 = h := ⟨_, rfl⟩
      have hhi : (m : Int) / 2 = (h : Int) := by omega
      by_cases hodd : m % 2 = 1
      · have hoi : ((m : Int) % 2 == 1) = true := by simp; omega
        have HM : Hid (m = 2 * h + 1) := by show _ = _; omega
        have hhm : h < m := by omega
        clear hh hodd
        go_wp2_with fail
        refine (rmul_any _ _ _ _ wr HI.out.r1 HI.out.r2 (pow_big hpk) (pow_big htk)).mono ?_
        rintro e w6 ⟨v6, rfl, ⟨s6, A6, n6, c6, rfl, hs6, hm6⟩, hn6⟩
        have hI := HI.out
        have d0 := (hI.b1.chg hn6 (fun h => h)).cell 0 (u := .bool s1) rfl
        have d1 := (hI.b1.chg hn6 (fun h => h)).cell 1 (u := .slice A1 n1 c1) rfl
        have f0 := (hI.b1.chg hn6 (fun h => h)).frozen 0
        have f1 := (hI.b1.chg hn6 (fun h => h)).frozen 1
        have e0 := (hI.b2.chg hn6 (fun h => h)).cell 0 (u := .bool s2) rfl
        have e1 := (hI.b2.chg hn6 (fun h => h)).cell 1 (u := .slice A2 n2 c2) rfl
        have hne : g2 ≠ g1 := by omega
        have hPw : PwI w ((w6.setCell ⟨g1, 0, none⟩ (.bool s6)).setCell ⟨g1, 1, none⟩ (.slice A6 n6 c6)) w.heap.size g1 g2 s6 A6 n6 c6 s2 A2 n2 c2 (2 ^ (p + t)) (2 ^ t) := by
          have hcs : Chg (fun k => k = g1) w6 ((w6.setCell ⟨g1, 0, none⟩ (.bool s6)).setCell ⟨g1, 1, none⟩ (.slice A6 n6 c6)) := Chg.at2 _ _ _ _
          have hbb := hI.b1.chg hn6 (fun h => h)
          refine ⟨(hI.res.chg hn6 (fun h => h)).chg hcs (by omega), hbb.set2 _ _, (hI.b2.chg hn6 (fun h => h)).chg hcs (by omega), ?_, (hI.r2.new hn6).store hbb (noInt_two' _ _ _ _) hcs, Chg.owned (hI.new.new hn6) hcs (fun k e => by omega)⟩
          refine RN.store ?_ hbb (noInt_two' _ _ _ _) hcs
          rw [Nat.pow_add, Int.natCast_mul]
          exact ⟨s6, A6, n6, c6, rfl, hs6, hm6⟩
        have HP6 := Lib.hid hPw
        clear hI hn6 hs6 hm6 hPw a0 a1 b0 b1
        go_wp2_with fail
        generalize ((w6.setCell ⟨g1, 0, none⟩ (.bool s6)).setCell ⟨g1, 1, none⟩ (.slice A6 n6 c6)) = W7 at *
        refine (rmul_any _ _ _ _ W7 HP6.out.r2 HP6.out.r2 (pow_big htk) (pow_big htk)).mono ?_
        rintro e w8 ⟨v8, rfl, ⟨s8, A8, n8, c8, rfl, hs8, hm8⟩, hn8⟩
        have hI := HP6.out
        have hbb := hI.b2.chg hn8 (fun h => h)
        have d0 := hbb.cell 0 (u := .bool s2) rfl
        have d1 := hbb.cell 1 (u := .slice A2 n2 c2) rfl
        have f0 := hbb.frozen 0
        have f1 := hbb.frozen 1
        have hPw : PwI w ((w8.setCell ⟨g2, 0, none⟩ (.bool s8)).setCell ⟨g2, 1, none⟩ (.slice A8 n8 c8)) w.heap.size g1 g2 s6 A6 n6 c6 s8 A8 n8 c8 (2 ^ (p + t)) (2 ^ (t + t)) := by
          have hcs : Chg (fun k => k = g2) w8 ((w8.setCell ⟨g2, 0, none⟩ (.bool s8)).setCell ⟨g2, 1, none⟩ (.slice A8 n8 c8)) := Chg.at2 _ _ _ _
          refine ⟨(hI.res.chg hn8 (fun h => h)).chg hcs (by omega), (hI.b1.chg hn8 (fun h => h)).chg hcs (by omega), hbb.set2 _ _, (hI.r1.new hn8).store hbb (noInt_two' _ _ _ _) hcs, ?_, Chg.owned (hI.new.new hn8) hcs (fun k e => by omega)⟩
          refine RN.store ?_ hbb (noInt_two' _ _ _ _) hcs
          rw [Nat.pow_add, Int.natCast_mul]
          exact ⟨s8, A8, n8, c8, rfl, hs8, hm8⟩
        have HP8 := Lib.hid hPw
        clear hI hn8 hs8 hm8 hPw hbb
        go_wp2
        go_roundw
        case rel =>
          refine ⟨h, p + t, t + t, s6, A6, n6, c6, s8, A8, n8, c8, rfl, by omega, ⟨?_, fun hp => ?_⟩, HP8.out⟩
          · have h1 := HE.out.1
            rw [HM.out, Nat.mul_add, Nat.mul_one, Nat.mul_left_comm] at h1
            rw [Nat.add_mul]
            omega
          · have h1 := HE.out.1
            rw [HM.out, Nat.mul_add, Nat.mul_one, Nat.mul_left_comm] at h1
            have : t * 1 ≤ t * h := Nat.mul_le_mul_left _ hp
            omega
        case measure => simp [intOf]; omega
      · have hoi : ((m : Int) % 2 == 1) = false := by simp; omega
        have HM : Hid (m = 2 * h) := by show _ = _; omega
        have hhm : h < m := by omega
        clear hh hodd
        go_wp2_with fail
        refine (rmul_any _ _ _ _ wr HI.out.r2 HI.out.r2 (pow_big htk) (pow_big htk)).mono ?_
        rintro e w8 ⟨v8, rfl, ⟨s8, A8, n8, c8, rfl, hs8, hm8⟩, hn8⟩
        have hI := HI.out
        have hbb := hI.b2.chg hn8 (fun h => h)
        have d0 := hbb.cell 0 (u := .bool s2) rfl
        have d1 := hbb.cell 1 (u := .slice A2 n2 c2) rfl
        have f0 := hbb.frozen 0
        have f1 := hbb.frozen 1
        have hPw : PwI w ((w8.setCell ⟨g2, 0, none⟩ (.bool s8)).setCell ⟨g2, 1, none⟩ (.slice A8 n8 c8)) w.heap.size g1 g2 s1 A1 n1 c1 s8 A8 n8 c8 (2 ^ p) (2 ^ (t + t)) := by
          have hcs : Chg (fun k => k = g2) w8 ((w8.setCell ⟨g2, 0, none⟩ (.bool s8)).setCell ⟨g2, 1, none⟩ (.slice A8 n8 c8)) := Chg.at2 _ _ _ _
          refine ⟨(hI.res.chg hn8 (fun h => h)).chg hcs (by omega), (hI.b1.chg hn8 (fun h => h)).chg hcs (by omega), hbb.set2 _ _, (hI.r1.new hn8).store hbb (noInt_two' _ _ _ _) hcs, ?_, Chg.owned (hI.new.new hn8) hcs (fun k e => by omega)⟩
          refine RN.store ?_ hbb (noInt_two' _ _ _ _) hcs
          rw [Nat.pow_add, Int.natCast_mul]
          exact ⟨s8, A8, n8, c8, rfl, hs8, hm8⟩
        have HP8 := Lib.hid hPw
        clear hI hn8 hs8 hm8 hPw hbb a0 a1 b0 b1
        go_wp2
        go_roundw
        case rel =>
          refine ⟨h, p, t + t, s1, A1, n1, c1, s8, A8, n8, c8, rfl, by omega, ⟨?_, fun hp => ?_⟩, HP8.out⟩
          · have h1 := HE.out.1
            rw [HM.out, Nat.mul_left_comm] at h1
            rw [Nat.add_mul]
            omega
          · have h1 := HE.out.1
            rw [HM.out, Nat.mul_left_comm] at h1
            have : t * 1 ≤ t * h := Nat.mul_le_mul_left _ hp
            omega
        case measure => simp [intOf]; omega
end Go.Proofs.Ytcjbndlhomokpaa
