/- The parts Reader2, PureFrame, PureFirst, PureScan, PureEq, Ns, Nl, PureDetect, PureDk1, PureDk3, PureNk, Nt, Wire, Wire2, Hash, Hash2, Hash3, Frame, First, Range of the proof, in one text. -/
import Derived.Test.YtblcaeoeeepajaaGreatDoorProg
import Derived.Deep.QuietTactic
import Derived.BigQuiet
import Derived.Test.YtblcaeoeeepajaaGreatDoorB3
set_option linter.unusedSimpArgs false
set_option linter.unusedVariables false

namespace Go.Proofs.YtblcaeoeeepajaaGreatDoor
open Go.RowKit Go.Mem Go.Pure

theorem RdrAt.chg {w w' : World} {g : Nat} {bo : Option Nat} {l : List UInt8} {e : Int} {S : Nat → Prop} (h : RdrAt w g bo l e) (hc : Chg S w w') (hg : ¬ S g) (hb : ∀ k, bo = some k → ¬ S k) : RdrAt w' g bo l e := by
  obtain ⟨A, n, c, h1, h2, h3, h4, h5, h6, h7⟩ := h
  exact ⟨A, n, c, h1.chg hc hg, h2.chg hc (fun k hk _ => hb k (by rw [← h5, hk])), h3, h4, h5, h6, fun k hk => Nat.lt_of_lt_of_le (h7 k hk) hc.size⟩
theorem RdrAt.blt {w : World} {g : Nat} {bo : Option Nat} {l : List UInt8} {e : Int} (h : RdrAt w g bo l e) {k : Nat} (hk : bo = some k) : k < w.heap.size := by
  obtain ⟨_, _, _, _, _, _, _, _, _, h7⟩ := h
  exact h7 k hk
theorem RdrAt.lt {w : World} {g : Nat} {bo : Option Nat} {l : List UInt8} {e : Int} (h : RdrAt w g bo l e) : g < w.heap.size := by
  obtain ⟨_, _, _, h1, _⟩ := h
  exact h1.lt
theorem RdrAt.len {w : World} {g : Nat} {bo : Option Nat} {l : List UInt8} {e : Int} (h : RdrAt w g bo l e) : l.length ≤ maxLen := by
  obtain ⟨A, n, c, h1, h2, h3, h4, h5, h6, h7⟩ := h
  have := h2.len
  rw [bs_length] at this
  omega

set_option maxHeartbeats 1000000 in
set_option maxRecDepth 100000 in
theorem read_any (A : Option Addr) (n c : Nat) (l : List UInt8) (w : World) (hr : Rd w A n (bs l)) (hn : n ≤ 1000000000) :
    Calls Tryz.prog 17 #[.slice A n c] w fun e w' => ∃ g bo, e = .returned (.pointer (some ⟨g, 0, none⟩)) ∧ RdrAt w' g bo l 0 ∧ New w w' ∧ w.heap.size ≤ g ∧ (∀ k, bo = some k → w.heap.size ≤ k) := by
  have HR := Lib.hid hr
  clear hr
  go_enter Tryz.func17, Tryz.ntmps17
  go_wp2_with (at_builtin; refine wpList_app elemBytes rfl _ _ rfl rfl (World.ownsRow_made w _ 0 (Nat.le_refl _) (Nat.zero_le _) rfl) rfl (HR.out.new ((Chg.refl _ w).alloc _)) (bs_one _) (by simp only [maxLen]; omega) (by omega) (by simp) ?_; intro A' c' w2 hown2 hg2 hat2; have HO2 := Lib.hid hown2; clear hown2)
  go_ret
  have hn2 : New w w2 := ((Chg.refl _ w).alloc _).grown hg2 (fun k hk hlt => by simp [blk] at hk; omega)
  have hrd : Rd w2 A' n (bs l) := by have := Rd.of_own HO2.out; simpa using this
  have hcap := own_cap HO2.out
  refine ⟨w2.heap.size, blk A', rfl, ⟨A', n, c', Blk.new _ _ _, hrd.new ((Chg.refl _ w2).alloc _), by omega, hcap.2, rfl, fun h => ?_, fun k hk => by have := (own_blk_le HO2.out hk).2; simp; omega⟩, hn2.alloc _, hn2.size, fun k hk => (own_blk_le HO2.out hk).1⟩
  have := (own_blk_le HO2.out h).2
  omega

set_option maxHeartbeats 1000000 in
set_option maxRecDepth 100000 in
theorem rLength_any (g : Nat) (bo : Option Nat) (l : List UInt8) (e0 : Int) (w : World) (hw : RdrAt w g bo l e0) :
    Calls Tryz.prog 52 #[.pointer (some ⟨g, 0, none⟩)] w fun e w' => e = .returned (.int .i64 (lengthR l e0).1) ∧
      RdrAt w' g bo (lengthR l e0).2.1 (lengthR l e0).2.2 ∧ Chg (fun k => k = g) w w' := by
  have hu := uintR_lt l e0
  have HU := Lib.hid hu
  clear hu
  generalize hq : uintR l e0 = q at *
  obtain ⟨m, t, x⟩ := q
  have HQ := Lib.hid hq
  clear hq
  go_enter Tryz.func52, Tryz.ntmps52
  go_wp2_with fail
  refine (rUint_any g bo l e0 w hw).mono ?_
  rw [HQ.out]
  rintro e w1 ⟨rfl, hw1, hc1⟩
  have HW1 := Lib.hid hw1
  have HC1 := Lib.hid hc1
  obtain ⟨A, n, c, hb, hr, hnc, hcm, hbo, hne, hbk⟩ := hw1
  clear hbk
  have hcm' : c ≤ 9223372036854775807 := hcm
  have hln : t.length = n := by have := hr.len; rwa [bs_length] at this
  have HLN := Lib.hid hln
  have hcc0 := hb.cell 0 rfl
  have hcc1 := hb.cell 1 rfl
  clear hb hr hbo hln hc1
  by_cases hx : x = 0
  · subst hx
    by_cases hlt : n < m
    · have HG := Lib.hid (lengthR_big HQ.out (by rw [HLN.out]; exact hlt))
      have hlt' : decide ((n : Int) < (m : Int)) = true := by simp; omega
      go_wp2_with fail
      refine (rFail_any g bo t 0 3 w1 HW1.out).mono ?_
      rintro e w2 ⟨rfl, hw2, hc2⟩
      have HW2 := Lib.hid hw2
      obtain ⟨A2, n2, c2, hb2, _, _, _, _, _, _⟩ := hw2
      have hcd := hb2.cell 1 rfl
      simp only [if_true] at hcd
      clear hb2
      go_wp2
      go_ret
      rw [HG.out]
      exact ⟨rfl, HW2.out, HC1.out.trans hc2 (fun _ _ h => h)⟩
    · have HG := Lib.hid (lengthR_ok HQ.out (by rw [HLN.out]; exact hlt))
      have hlt' : decide ((n : Int) < (m : Int)) = false := by simp; omega
      go_wp2_with fail
      go_ret
      rw [HG.out]
      exact ⟨rfl, HW1.out, HC1.out⟩
  · have hx1 : (x == 0) = false := by simpa using hx
    have hx2 : (x != 0) = true := by simpa using hx
    have HG := Lib.hid (lengthR_err HQ.out hx)
    clear hx
    go_wp2_with fail
    go_ret
    rw [HG.out]
    exact ⟨rfl, HW1.out, HC1.out⟩

set_option maxHeartbeats 1000000 in
set_option maxRecDepth 100000 in
theorem rTake_any (g : Nat) (bo : Option Nat) (l : List UInt8) (e0 : Int) (m : Nat) (w : World) (hm : m ≤ l.length) (hw : RdrAt w g bo l e0) :
    Calls Tryz.prog 51 #[.pointer (some ⟨g, 0, none⟩), .int .i64 m] w fun e w' => ∃ A c, e = .returned (.slice A m c) ∧ blk A = bo ∧ Rd w' A m (bs (l.take m)) ∧
      RdrAt w' g bo (l.drop m) e0 ∧ Chg (fun k => k = g) w w' := by
  obtain ⟨A, n, c, hb, hr, hnc, hcm, hbo, hne, hbk⟩ := hw
  have HBK := Lib.hid hbk
  clear hbk
  have hcm' : c ≤ 9223372036854775807 := hcm
  have hln : l.length = n := by have := hr.len; rwa [bs_length] at this
  have hmn : m ≤ n := by omega
  have HLN := Lib.hid hln
  have hcc0 := hb.cell 0 rfl
  have hff0 := hb.frozen 0
  have HB := Lib.hid hb
  have HR := Lib.hid hr
  have HBO := Lib.hid hbo
  have hcut := fun W => run_cut elemBytes .i64 A n c m (m : Int) rfl (by omega) W
  have hupto := fun W => run_upto elemBytes .i64 A n c m (m : Int) rfl (by omega) W
  clear hb hr hbo hln hm
  go_enter Tryz.func51, Tryz.ntmps51
  go_wp2
  go_ret
  have hchg : Chg (fun k => k = g) w (w.setCell ⟨g, 0, none⟩ (.slice (cutA A c m) (n - m) (c - m))) := (Chg.refl (fun k => k = g) w).setCell (p := ⟨g, 0, none⟩) (fun _ => rfl) _
  refine ⟨A, c, rfl, HBO.out, ?_, ⟨_, _, _, HB.out.set_ 0 _, ?_, by omega, Nat.le_trans (Nat.sub_le _ _) hcm, ?_, hne, fun k hk => Nat.lt_of_lt_of_le (HBK.out k hk) hchg.size⟩, hchg⟩
  · have := (HR.out.take (k := m) hmn).chg hchg (fun j hj _ e => hne (by rw [← HBO.out, hj, e]))
    rwa [bs_take] at this
  · have := (HR.out.cutA (k := m) (cap := c) hmn hnc).chg hchg (fun j hj _ e => hne (by rw [← HBO.out, ← blk_cutA _ c m, hj, e]))
    rwa [bs_drop] at this
  · rw [blk_cutA]; exact HBO.out

set_option maxHeartbeats 1000000 in
set_option maxRecDepth 100000 in
theorem rRaw_any (g : Nat) (bo : Option Nat) (l : List UInt8) (e0 : Int) (w : World) (hw : RdrAt w g bo l e0) (hl : l.length ≤ 1000000000) :
    Calls Tryz.prog 127 #[.pointer (some ⟨g, 0, none⟩)] w fun e w' => ∃ A n c, e = .returned (.slice A n c) ∧ w'.ownsRow w.heap.size 5 1 (.slice A n c) n (bs (Go.Pure.rawR l e0).1) ∧
      RdrAt w' g bo (Go.Pure.rawR l e0).2.1 (Go.Pure.rawR l e0).2.2 ∧ Chg (fun k => k = g) w w' := by
  have hle := lengthR_le l e0
  have hre := lengthR_rest l e0
  have HW := Lib.hid hw
  have hgl := hw.lt
  clear hw
  go_enter Tryz.func127, Tryz.ntmps127
  go_wp2_with fail
  have hw1 := HW.out.chg ((Chg.refl (fun _ => False) w).alloc (.cells #[] 5)) (fun h => h) (fun _ _ h => h)
  refine (rLength_any g bo l e0 _ hw1).mono ?_
  rintro e w1 ⟨rfl, hw2, hc2⟩
  have hn1 : Chg (fun k => k = g) w w1 := ((Chg.refl _ w).alloc (.cells #[] 5)).trans hc2 (fun _ _ h => h)
  have hbE : Blk w1 w.heap.size 5 #[] := (Blk.new w 5 #[]).chg hc2 (by omega)
  have H1 := Lib.hid (And.intro hw2 (And.intro hn1 hbE))
  clear hw1 hw2 hn1 hc2 hbE
  have hml : (lengthR l e0).2.1.length ≤ maxLen := H1.out.1.len
  generalize hq : lengthR l e0 = q at *
  obtain ⟨m, t, x⟩ := q
  have HQ := Lib.hid hq
  clear hq
  simp only at hle hre hml H1 ⊢
  have hml' : m ≤ 9223372036854775807 := by simp only [maxLen] at hml; omega
  go_wp2_with fail
  obtain ⟨hw2, hn1, hbE⟩ := H1.out
  refine (rTake_any g bo t x m w1 hle hw2).mono ?_
  rintro e w2 ⟨A, c, rfl, hA, hr, hw3, hc3⟩
  have hbE2 : Blk w2 w.heap.size 5 #[] := hbE.chg hc3 (by omega)
  have hown : w2.ownsRow w.heap.size 5 1 (.slice (some ⟨w.heap.size, 0, none⟩) 0 0) 0 [] := ⟨by simp, .inr ⟨w.heap.size, 0, #[], rfl, Nat.le_refl _, hbE2, Nat.le_refl _, Nat.zero_le _, rfl, by simp⟩⟩
  have H2 := Lib.hid (And.intro hw3 (And.intro (hn1.trans hc3 (fun _ _ h => h)) (And.intro hA hbE2)))
  have HO := Lib.hid hown
  have HR := Lib.hid hr
  clear hw2 hn1 hbE hr hw3 hc3 hbE2 hown H1 hA
  have hm2 : m ≤ 1000000000 := by omega
  go_wp2_with (at_builtin; refine wpList_app elemBytes rfl _ _ rfl rfl HO.out rfl HR.out (bs_one _) (by simp only [maxLen]; omega) (by omega) (by have := H2.out.2.1.size; omega) ?_; intro A' c' w4 hown4 hg4 hat4; have HO4 := Lib.hid hown4; clear hown4)
  go_ret
  obtain ⟨hw3, hn3, hA, hbE2⟩ := H2.out
  have hb3 : ∀ k, bo = some k → k < w.heap.size := fun k hk => HW.out.blt hk
  have hc4 : Chg (fun k => k = w.heap.size) w2 w4 := (Chg.refl _ w2).grown hg4 (fun k hk _ => by simpa [blk] using hk.symm)
  refine ⟨A', m, c', rfl, ?_, ?_, hn3.trans hc4 (fun k hk h => by omega)⟩
  · have := HO4.out
    unfold Go.Pure.rawR
    rw [HQ.out]
    simpa using this
  · unfold Go.Pure.rawR
    rw [HQ.out]
    exact hw3.chg hc4 (by omega) (fun k hk h => by have := hb3 k hk; omega)

set_option maxHeartbeats 1000000 in
set_option maxRecDepth 100000 in
theorem rText_any (g : Nat) (bo : Option Nat) (l : List UInt8) (e0 : Int) (w : World) (hw : RdrAt w g bo l e0) (hl : l.length ≤ 1000000000) :
    Calls Tryz.prog 19 #[.pointer (some ⟨g, 0, none⟩)] w fun e w' => e = .returned (.string ⟨(Go.Pure.rawR l e0).1.toArray⟩) ∧
      RdrAt w' g bo (Go.Pure.rawR l e0).2.1 (Go.Pure.rawR l e0).2.2 ∧ Chg (fun k => k = g) w w' := by
  have hle := lengthR_le l e0
  have hre := lengthR_rest l e0
  go_enter Tryz.func19, Tryz.ntmps19
  go_wp2_with fail
  refine (rLength_any g bo l e0 _ hw).mono ?_
  rintro e w1 ⟨rfl, hw2, hc2⟩
  have H1 := Lib.hid (And.intro hw2 hc2)
  clear hw2 hc2
  have hml : (lengthR l e0).2.1.length ≤ maxLen := H1.out.1.len
  generalize hq : lengthR l e0 = q at *
  obtain ⟨m, t, x⟩ := q
  have HQ := Lib.hid hq
  clear hq
  simp only at hle hre hml H1 ⊢
  have hml' : m ≤ 9223372036854775807 := by simp only [maxLen] at hml; omega
  go_wp2_with fail
  obtain ⟨hw2, hn1⟩ := H1.out
  refine (rTake_any g bo t x m w1 hle hw2).mono ?_
  rintro e w2 ⟨A, c, rfl, hA, hr, hw3, hc3⟩
  have H2 := Lib.hid (And.intro hw3 (hn1.trans hc3 (fun _ _ h => h)))
  have hst := run_tostr (P := Tryz.prog) (c := c) Tryz.underlying33 Tryz.underlying5 Tryz.underlying9 hr
  clear hw2 hn1 hr hw3 hc3 H1 hA
  go_wp2
  go_ret
  unfold Go.Pure.rawR
  rw [HQ.out]
  exact ⟨rfl, H2.out.1, H2.out.2⟩

set_option maxHeartbeats 1000000 in
set_option maxRecDepth 100000 in
theorem rInt_any (g : Nat) (bo : Option Nat) (l : List UInt8) (e0 : Int) (w : World) (hw : RdrAt w g bo l e0) :
    Calls Tryz.prog 128 #[.pointer (some ⟨g, 0, none⟩)] w fun e w' => e = .returned (.int .i64 (intR l e0).1) ∧
      RdrAt w' g bo (intR l e0).2.1 (intR l e0).2.2 ∧ Chg (fun k => k = g) w w' := by
  go_enter Tryz.func128, Tryz.ntmps128
  go_wp2_with fail
  refine (rUint_any g bo l e0 w hw).mono ?_
  rintro e w1 ⟨rfl, hw1, hc1⟩
  have hu := uintR_lt l e0
  generalize hm : (uintR l e0).1 = m at *
  have HM := Lib.hid hm
  clear hm
  have hz := Lib.hid (unzig_eq m hu)
  go_wp2
  go_ret
  refine ⟨?_, hw1, hc1⟩
  refine ret_int ?_
  show _ = unzig (uintR l e0).1
  rw [HM.out]
  exact hz.out

set_option maxHeartbeats 1000000 in
set_option maxRecDepth 100000 in
theorem rEnd_any (g : Nat) (bo : Option Nat) (l : List UInt8) (e0 : Int) (w : World) (hw : RdrAt w g bo l e0) :
    Calls Tryz.prog 21 #[.pointer (some ⟨g, 0, none⟩)] w fun e w' => e = .returned (.int .i64 (endR l e0)) ∧ w = w' := by
  obtain ⟨A, n, c, hb, hr, hnc, hcm, hbo, hne, hbk⟩ := hw
  clear hbk
  have hln : l.length = n := by have := hr.len; rwa [bs_length] at this
  have hcc0 := hb.cell 0 rfl
  have hcc1 := hb.cell 1 rfl
  have HLN := Lib.hid hln
  clear hb hr hbo hln
  by_cases hx : e0 = 0
  · subst hx
    by_cases h0 : n = 0
    · subst h0
      have : l = [] := List.eq_nil_of_length_eq_zero HLN.out
      subst this
      go_enter Tryz.func21, Tryz.ntmps21
      go_wp2
      go_ret
      exact ⟨rfl, rfl⟩
    · have hl : l ≠ [] := fun h => h0 (by rw [← HLN.out, h]; rfl)
      have HL := Lib.hid hl
      have h0' : 0 < n := by omega
      clear hl h0
      go_enter Tryz.func21, Tryz.ntmps21
      go_wp2
      go_ret
      exact ⟨by simp [endR, HL.out], rfl⟩
  · have hx2 : (e0 != 0) = true := by simpa using hx
    have HX := Lib.hid hx
    clear hx
    go_enter Tryz.func21, Tryz.ntmps21
    go_wp2
    go_ret
    exact ⟨by simp [endR, HX.out], rfl⟩

end Go.Proofs.YtblcaeoeeepajaaGreatDoor

namespace Go.Pure

/-- The bytes of the label of a record's sum. -/
def entryL : List UInt8 := [101, 110, 116, 114, 121]
def coreP (n : Int) (b : List UInt8) : List UInt8 := uvar (zig n) ++ (uvar b.length ++ b)
def rawP (b : List UInt8) : List UInt8 := uvar b.length ++ b
/-- The sum of a core. -/
def sumP (c : List UInt8) : Nat := (bytesI entryL c).toNat
def frameP (n : Int) (b : List UInt8) : List UInt8 := rawP (coreP n b) ++ uvar (sumP (coreP n b))

theorem sumI_range (lab : List UInt8) (l : List Int) : 0 ≤ sumI lab l ∧ sumI lab l ≤ 18446744073709551615 := mixI_range _ _
theorem bytesI_toNat (c : List UInt8) : bytesI entryL c = (sumP c : Int) := by
  unfold sumP
  exact (Int.toNat_of_nonneg (sumI_range _ _).1).symm
theorem sumP_lt (c : List UInt8) : sumP c < 18446744073709551616 := by
  have h := sumI_range entryL ((wds c).map (fun n : Nat => Go.RowKit.wrap64 (n : Int)) ++ [(c.length : Int)])
  unfold sumP bytesI
  omega
theorem coreP_len (n : Int) (b : List UInt8) (hlo : -9223372036854775808 ≤ n) (hhi : n ≤ 9223372036854775807) (hb : b.length ≤ 1000000000) : (coreP n b).length ≤ b.length + 20 := by
  unfold coreP
  have h1 := uvar_len (zig_lt n hlo hhi)
  have h2 := uvar_len (n := b.length) (by omega)
  simp only [List.length_append]
  omega
theorem frameP_len (n : Int) (b : List UInt8) (hlo : -9223372036854775808 ≤ n) (hhi : n ≤ 9223372036854775807) (hb : b.length ≤ 100000000) : (frameP n b).length ≤ b.length + 40 := by
  have h0 := coreP_len n b hlo hhi (by omega)
  have h1 := uvar_len (n := (coreP n b).length) (by omega)
  have h2 := uvar_len (sumP_lt (coreP n b))
  unfold frameP rawP
  simp only [List.length_append]
  omega

end Go.Pure

namespace Go.Pure

def firstC (b : List UInt8) (num : Int) : Option (List UInt8) :=
  if b.length < (uintR (b.take 10) 0).1 then none
  else
    let x := rawR (b.take ((uintR (b.take 10) 0).1 + 20)) 0
    let y := intR x.1 0
    let z := rawR y.2.1 y.2.2
    if endR z.2.1 z.2.2 ≠ 0 ∨ y.1 ≠ num ∨ (uintR x.2.1 x.2.2).1 ≠ sumP x.1 then none
    else if b.take (frameP num z.1).length = frameP num z.1 then some z.1 else none

theorem firstC_big {b : List UInt8} {num : Int} {len : Nat} (h1 : (uintR (b.take 10) 0).1 = len) (h2 : b.length < len) : firstC b num = none := by
  unfold firstC; rw [h1, if_pos h2]
theorem firstC_val {b bytes r1 c1 rcd c2 : List UInt8} {num e1 at_ x1 x2 : Int} {len sum : Nat} (h1 : (uintR (b.take 10) 0).1 = len) (h2 : ¬ b.length < len) (h3 : rawR (b.take (len + 20)) 0 = (bytes, r1, e1))
    (h4 : (uintR r1 e1).1 = sum) (h5 : intR bytes 0 = (at_, c1, x1)) (h6 : rawR c1 x1 = (rcd, c2, x2)) :
    firstC b num = if endR c2 x2 ≠ 0 ∨ at_ ≠ num ∨ sum ≠ sumP bytes then none else if b.take (frameP num rcd).length = frameP num rcd then some rcd else none := by
  unfold firstC
  rw [h1, if_neg h2]
  simp only [h3, h4, h5, h6]
end Go.Pure

namespace Go.Pure
set_option linter.unusedVariables false

theorem frameP_pos (k : Int) (r : List UInt8) : 1 ≤ (frameP k r).length := by
  have := uvar_pos (sumP (coreP k r))
  unfold frameP
  rw [List.length_append]
  omega
theorem firstC_take {b r : List UInt8} {k : Int} (h : firstC b k = some r) : b.take (frameP k r).length = frameP k r := by
  unfold firstC at h
  split at h
  · cases h
  · simp only at h
    split at h
    · cases h
    · split at h
      · rename_i h1
        injection h with h
        rw [h] at h1
        exact h1
      · cases h
theorem firstC_le {b r : List UInt8} {k : Int} (h : firstC b k = some r) : (frameP k r).length ≤ b.length := by
  have := congrArg List.length (firstC_take h)
  simp at this
  omega

/-- The records of bytes, from number k on. -/
def scanC (b : List UInt8) (k : Nat) : List (List UInt8) :=
  match h : firstC b (k : Int) with
  | none => []
  | some r => r :: scanC (b.drop (frameP (k : Int) r).length) (k + 1)
termination_by b.length
decreasing_by
  have h1 := firstC_le h
  have h2 := frameP_pos (k : Int) r
  simp
  omega
theorem scanC_none {b : List UInt8} {k : Nat} (h : firstC b (k : Int) = none) : scanC b k = [] := by
  rw [scanC]; split
  · rfl
  · rename_i r h'; rw [h] at h'; cases h'
theorem scanC_some {b r : List UInt8} {k : Nat} (h : firstC b (k : Int) = some r) : scanC b k = r :: scanC (b.drop (frameP (k : Int) r).length) (k + 1) := by
  rw [scanC]; split
  · rename_i h'; rw [h] at h'; cases h'
  · rename_i r' h'; rw [h] at h'; injection h' with h'; subst h'; rfl

/-- The images of a list under a function that is told the place, joined. -/
def catF (f : Nat → List UInt8 → List UInt8) : Nat → List (List UInt8) → List UInt8
  | _, [] => []
  | k, r :: t => f k r ++ catF f (k + 1) t
theorem catF_snoc (f : Nat → List UInt8 → List UInt8) (l : List (List UInt8)) : ∀ (k : Nat) (r : List UInt8), catF f k (l ++ [r]) = catF f k l ++ f (k + l.length) r := by
  induction l with
  | nil => intro k r; simp [catF]
  | cons x l ih =>
    intro k r
    rw [List.cons_append, catF, catF, ih, List.append_assoc, List.length_cons, show k + 1 + l.length = k + (l.length + 1) by omega]
theorem catF_len (f : Nat → List UInt8 → List UInt8) (hf : ∀ k r, 1 ≤ (f k r).length) (l : List (List UInt8)) : ∀ k, l.length ≤ (catF f k l).length := by
  induction l with
  | nil => intro k; simp [catF]
  | cons x l ih =>
    intro k
    have h1 := ih (k + 1)
    have h2 := hf k x
    rw [catF, List.length_append, List.length_cons]
    omega
/-- The frames of records, from number k on. -/
def framesP (k : Nat) (l : List (List UInt8)) : List UInt8 := catF (fun k r => frameP (k : Int) r) k l
theorem framesP_nil (k : Nat) : framesP k [] = [] := rfl
theorem framesP_snoc (l : List (List UInt8)) (k : Nat) (r : List UInt8) : framesP k (l ++ [r]) = framesP k l ++ frameP ((k + l.length : Nat) : Int) r := catF_snoc _ l k r
theorem framesP_len (l : List (List UInt8)) (k : Nat) : l.length ≤ (framesP k l).length := catF_len _ (fun k r => frameP_pos _ r) l k
end Go.Pure

namespace Go.Pure
set_option linter.unusedVariables false

theorem scanU_uvar (n : Nat) : ∀ (i acc : Nat) (t : List UInt8), n * 128 ^ i < 18446744073709551616 → (0 < i → 0 < n) → scanU i acc (uvar n ++ t) = .ok (acc + n * 128 ^ i, t) := by
  induction n using Nat.strongRecOn with
  | _ n ih =>
    intro i acc t hlt hpos
    have hp9 : (128 : Nat) ^ 9 = 9223372036854775808 := by decide
    by_cases hn : n < 128
    · rw [uvar_lt hn, List.singleton_append]
      have hc : (UInt8.ofNat n).toNat = n := by simp; omega
      rw [scanU_end, hc]
      · rw [hc]
        rintro (⟨rfl, h⟩ | ⟨h1, h2⟩)
        · rw [hp9] at hlt; omega
        · have := hpos h1; omega
      · rw [hc]; exact hn
    · rw [uvar_ge (by omega), List.cons_append]
      have hc : (UInt8.ofNat (128 + n % 128)).toNat = 128 + n % 128 := by simp; omega
      have hi : i ≤ 8 := by
        rcases Nat.lt_or_ge i 9 with h | h
        · omega
        · have h1 : 128 ^ 9 ≤ 128 ^ i := Nat.pow_le_pow_right (by omega) h
          have h2 : 128 * 128 ^ 9 ≤ n * 128 ^ i := Nat.mul_le_mul (by omega) h1
          rw [hp9] at h2
          omega
      rw [scanU_on, hc]
      · have e : n * 128 ^ i = n % 128 * 128 ^ i + n / 128 * 128 ^ (i + 1) := by
          rw [Nat.pow_succ, ← Nat.mul_assoc, Nat.mul_right_comm, ← Nat.add_mul, Nat.add_comm, Nat.div_add_mod' n 128]
        rw [ih (n / 128) (by omega) (i + 1) _ t (by omega) (fun _ => by omega)]
        rw [show (128 + n % 128) % 128 = n % 128 by omega, e, Nat.add_assoc]
      · rw [hc]; omega
      · rw [hc]; omega
theorem getU_uvar {n : Nat} (h : n < 18446744073709551616) (t : List UInt8) : getU (uvar n ++ t) = .ok (n, t) := by
  unfold getU
  rw [scanU_uvar n 0 0 t (by simpa using h) (fun h => by omega)]
  simp
theorem uintR_uvar {n : Nat} (h : n < 18446744073709551616) (t : List UInt8) : uintR (uvar n ++ t) 0 = (n, t, 0) := uintR_ok (getU_uvar h t)
theorem unzig_zig (n : Int) : unzig (zig n) = n := by
  unfold unzig zig
  split <;> split <;> omega
theorem intR_uvar {n : Int} (hlo : -9223372036854775808 ≤ n) (hhi : n ≤ 9223372036854775807) (t : List UInt8) : intR (uvar (zig n) ++ t) 0 = (n, t, 0) := by
  unfold intR
  rw [uintR_uvar (zig_lt n hlo hhi), unzig_zig]
theorem rawR_rawP (b t : List UInt8) (h : b.length < 18446744073709551616) : rawR (rawP b ++ t) 0 = (b, t, 0) := by
  have h1 : lengthR (rawP b ++ t) 0 = (b.length, b ++ t, 0) := by
    unfold rawP
    rw [List.append_assoc]
    exact lengthR_ok (uintR_uvar h (b ++ t)) (by simp)
  unfold rawR
  rw [h1]
  simp

/-- The bytes begin with the frame of a record. -/
theorem split_of_take {b f : List UInt8} (h : b.take f.length = f) : b = f ++ b.drop f.length := by
  have := List.take_append_drop f.length b
  rw [h] at this
  exact this.symm
theorem coreP_lt {b r : List UInt8} {num : Int} (h : b.take (frameP num r).length = frameP num r) (hb : b.length < 18446744073709551616) : (coreP num r).length < b.length ∧ r.length < b.length := by
  have h1 := congrArg List.length h
  have h3 := uvar_pos (sumP (coreP num r))
  have h4 := uvar_pos (coreP num r).length
  have h5 : r.length ≤ (coreP num r).length := by unfold coreP; simp only [List.length_append]; omega
  unfold frameP rawP at h1
  simp only [List.length_take, List.length_append] at h1
  omega

theorem firstC_of {b r : List UInt8} {num : Int} (hlo : -9223372036854775808 ≤ num) (hhi : num ≤ 9223372036854775807) (hb : b.length < 18446744073709551616) (h : b.take (frameP num r).length = frameP num r) : firstC b num = some r := by
  obtain ⟨hc, hr⟩ := coreP_lt h hb
  have hlen := congrArg List.length h
  have e := split_of_take h
  generalize b.drop (frameP num r).length = t at e
  have hu1 := uvar_len (n := (coreP num r).length) (by omega)
  have hu2 := uvar_len (sumP_lt (coreP num r))
  have e2 : b = uvar (coreP num r).length ++ (coreP num r ++ (uvar (sumP (coreP num r)) ++ t)) := by
    rw [e, show frameP num r = (uvar (coreP num r).length ++ coreP num r) ++ uvar (sumP (coreP num r)) from rfl, List.append_assoc, List.append_assoc]
  have h1 : (uintR (b.take 10) 0).1 = (coreP num r).length := by
    rw [e2, List.take_append, List.take_of_length_le hu1, uintR_uvar (by omega)]
  have h3 : rawR (b.take ((coreP num r).length + 20)) 0 = (coreP num r, uvar (sumP (coreP num r)) ++ (t.take ((coreP num r).length + 20 - (uvar (coreP num r).length).length - (coreP num r).length - (uvar (sumP (coreP num r))).length)), 0) := by
    rw [e2, List.take_append, List.take_of_length_le (by omega), List.take_append, List.take_of_length_le (by omega), List.take_append, List.take_of_length_le (by omega), ← List.append_assoc]
    exact rawR_rawP _ _ (by omega)
  have h4 := uintR_uvar (sumP_lt (coreP num r)) (t.take ((coreP num r).length + 20 - (uvar (coreP num r).length).length - (coreP num r).length - (uvar (sumP (coreP num r))).length))
  have h5 : intR (coreP num r) 0 = (num, rawP r, 0) := by
    rw [show coreP num r = uvar (zig num) ++ rawP r from rfl]
    exact intR_uvar hlo hhi _
  have h6 : rawR (rawP r) 0 = (r, [], 0) := by
    have := rawR_rawP r [] (by omega)
    rwa [List.append_nil] at this
  rw [firstC_val h1 (by omega) h3 (congrArg Prod.fst h4) h5 h6, if_neg (by simp [endR]), if_pos h]

theorem firstC_nil (num : Int) : firstC [] num = none := by
  cases h : firstC [] num with
  | none => rfl
  | some r =>
    have h1 := firstC_le h
    have h2 := frameP_pos num r
    rw [List.length_nil] at h1
    omega
/-- Frames are read back, whatever follows them. -/
theorem scan_frames (ls : List (List UInt8)) : ∀ (k : Nat) (t : List UInt8), k + (framesP k ls ++ t).length ≤ 9223372036854775807 → scanC (framesP k ls ++ t) k = ls ++ scanC t (k + ls.length) := by
  induction ls with
  | nil => intro k t _; rw [framesP_nil]; simp
  | cons r ls ih =>
    intro k t h
    have e : framesP k (r :: ls) ++ t = frameP (k : Int) r ++ (framesP (k + 1) ls ++ t) := by
      rw [show framesP k (r :: ls) = frameP (k : Int) r ++ framesP (k + 1) ls from rfl, List.append_assoc]
    rw [e] at h ⊢
    have hpos := frameP_pos (k : Int) r
    rw [List.length_append] at h
    have hf : firstC (frameP (k : Int) r ++ (framesP (k + 1) ls ++ t)) (k : Int) = some r :=
      firstC_of (by omega) (by omega) (by rw [List.length_append]; omega) (List.take_left' rfl)
    rw [scanC_some hf, List.drop_left' rfl, ih (k + 1) t (by omega), List.length_cons, List.cons_append, show k + 1 + ls.length = k + (ls.length + 1) by omega]
end Go.Pure

namespace Go.Proofs.YtblcaeoeeepajaaGreatDoor
set_option linter.unusedVariables false
open Go.RowKit Go.Mem Go.Dk Go.Pure Go.Dig

def pw2 (k : Nat) : Nat := 2 ^ k
theorem pw2_le {a b : Nat} (h : a ≤ b) : pw2 a ≤ pw2 b := Nat.pow_le_pow_right (by omega) h
theorem powN_two (k m : Nat) (h : 32 * k = m) : powN k = 2 ^ m := by
  subst h
  unfold powN
  rw [Nat.pow_mul]
theorem powN_pw2 (k : Nat) : powN k = pw2 (32 * k) := powN_two k _ rfl
theorem topN_pw2 : topN = pw2 16384 := powN_pw2 512
/-- Integers of the size of a product of two ints. -/
def Sm (z : Int) : Prop := z.natAbs < pw2 127
theorem Sm.top {z : Int} (h : Sm z) : z.natAbs < topN := by rw [topN_pw2]; exact Nat.lt_of_lt_of_le h (pw2_le (by decide))
theorem Sm.pk {z : Int} (h : Sm z) (k : Nat) (hk : 127 ≤ k) : z.natAbs < 2 ^ k := Nat.lt_of_lt_of_le h (pw2_le hk)
theorem Sm.p9 {z : Int} (h : Sm z) : z.natAbs < 2 ^ 900000 := h.pk 900000 (by decide)
theorem Sm.p10 {z : Int} (h : Sm z) : z.natAbs < 2 ^ 1000000 := h.pk 1000000 (by decide)
theorem Sm.int {z : Int} (h : -9223372036854775808 ≤ z ∧ z ≤ 9223372036854775807) : Sm z := by
  have : z.natAbs ≤ 9223372036854775808 := by omega
  exact Nat.lt_of_le_of_lt this (by decide)
theorem Sm.rg {z : Int} (h : Sm z) : Go.Proofs.YtblcaeoeeepajaaGreatDoor.rg z = z ∧ rgE z = 0 := rg_in h.top
theorem Sm.text {z : Int} (h : Sm z) : (Txt.text z).length ≤ 40 := Txt.text_len (k := 39) (by decide) (Nat.lt_trans h (by decide))
theorem wfrom_s (n : Int) (w : World) (h : -9223372036854775808 ≤ n ∧ n ≤ 9223372036854775807) : Calls Tryz.prog 6 #[.int .i64 n] w fun e w' => ∃ s A k c, e = .returned (.agg #[.bool s, .slice A k c]) ∧ Hid (WI w' (.agg #[.bool s, .slice A k c]) n ∧ New w w') :=
  (from_any n w h.1 h.2).mono fun e w' ⟨v, h1, ⟨s, A, k, c, h2, h3, h4⟩, h5⟩ => ⟨s, A, k, c, by rw [h1, h2], ⟨s, A, k, c, rfl, h3, h4⟩, h5⟩
theorem wparse_s (z : Int) (hz : Sm z) (w : World) : Calls Tryz.prog 18 #[.string (St (Txt.text z))] w fun e w' => ∃ s A n c, e = .returned (.tuple #[.agg #[.bool s, .slice A n c], .int .i64 0]) ∧ Hid (WI w' (.agg #[.bool s, .slice A n c]) z ∧ New w w') := by
  have h := wparse_ok (St (Txt.text z)) _ rfl (by rw [St_size]; have := hz.text; omega) z (Txt.reads_text z) w
  rwa [hz.rg.1, hz.rg.2] at h
/-- An integer in a block made after W. -/
def Box1 (W : World) (v : Value) (z : Int) (wx : World) : Prop := ∃ b s A n c, v = .pointer (some ⟨b, 0, none⟩) ∧ Blk wx b 29 #[.bool s, .slice A n c] ∧ WI wx (.agg #[.bool s, .slice A n c]) z ∧ New W wx ∧ W.heap.size ≤ b
theorem rawR_text (a t : List UInt8) (ha : a.length ≤ 1000000000) : Go.Pure.rawR (uvar a.length ++ (a ++ t)) 0 = (a, t, 0) := by
  have h := lengthR_ok (uintR_uvar (n := a.length) (by omega) (a ++ t)) (by simp)
  unfold Go.Pure.rawR
  rw [h]
  simp
theorem wadd_s (w : World) (v v' : Value) (x y : Int) (hx : WI w v x) (hy : WI w v' y) (bx : Sm x) (bY : Sm y) (bz : Sm (x + y)) : Calls Tryz.prog 29 #[v, v'] w fun e w' => ∃ s A n c, e = .returned (.tuple #[.agg #[.bool s, .slice A n c], .int .i64 0]) ∧ Hid (WI w' (.agg #[.bool s, .slice A n c]) (x + y) ∧ New w w') := by
  have h := wadd_any v v' x y w hx hy bx.p10 bY.p10
  rwa [bz.rg.1, bz.rg.2] at h
end Go.Proofs.YtblcaeoeeepajaaGreatDoor

namespace Go.Mem
set_option linter.unusedVariables false
open Go.RowKit
end Go.Mem
namespace Go.Dk
end Go.Dk
namespace Go.Proofs.YtblcaeoeeepajaaGreatDoor
set_option linter.unusedVariables false
open Go.RowKit Go.Mem Go.Dk Go.Pure
end Go.Proofs.YtblcaeoeeepajaaGreatDoor

namespace Go.Pure
open Go.RowKit

end Go.Pure

namespace Go.Dk
set_option linter.unusedVariables false

/-- Only the file i has bytes; the disk is on and no failure is planned. -/
structure One (s : S) (r i : Nat) (l : List UInt8) (d : Nat) : Prop where
  room : s.room = r
  lt : i < 64
  other : ∀ j, j ≠ i → s.f j = []
  file : s.f i = l
  firm : s.firm i = d
  le : d ≤ l.length
  on : s.off = false
  plan : s.plan = -1
theorem usedN_at {f : Nat → List UInt8} {i : Nat} (h : ∀ j, j ≠ i → f j = []) : ∀ n, i < n → usedN f n = (f i).length
  | 0, hi => by omega
  | n + 1, hi => by
    unfold usedN
    by_cases e : i = n
    · subst e
      have : ∀ m, m ≤ i → usedN f m = 0 := by
        intro m
        induction m with
        | zero => intro _; rfl
        | succ m ih => intro hm; unfold usedN; rw [ih (by omega), h m (by omega)]; rfl
      rw [this i (Nat.le_refl _), Nat.zero_add]
    · rw [usedN_at h n (by omega), h n (fun e2 => e e2.symm)]
      simp
section
variable {s : S} {r i d : Nat} {l : List UInt8}
theorem One.usd (h : One s r i l d) : used s = l.length := by
  unfold Dk.used
  rw [usedN_at h.other 64 h.lt, h.file]
theorem One.new {r i : Nat} (hi : i < 64) : One (Dk.new r) r i [] 0 := ⟨rfl, hi, fun j _ => rfl, rfl, rfl, Nat.le_refl _, rfl, rfl⟩
theorem One.putn (h : One s r i l d) {l' : List UInt8} {d' : Nat} (hd : d' ≤ l'.length) : One (put s i l' d') r i l' d' :=
  ⟨h.room, h.lt, fun j hj => by show upd s.f i l' j = []; rw [upd_other _ _ hj]; exact h.other j hj, by show upd s.f i l' i = _; rw [upd_same], by show upd s.firm i d' i = _; rw [upd_same], hd, h.on, h.plan⟩
theorem One.app (h : One s r i l d) {b : List UInt8} (hb : l.length + b.length ≤ r) : ∃ s', append s (i : Int) b = (s', 0) ∧ One s' r i (l ++ b) d := by
  refine ⟨put s i (l ++ b) d, ?_, h.putn (by rw [List.length_append]; have := h.le; omega)⟩
  have hi := h.lt
  unfold append
  rw [if_neg (by omega), if_neg (by rw [h.on]; simp), if_neg (by rw [h.usd, h.room]; omega)]
  have ht : (i : Int).toNat = i := by omega
  rw [ht, h.file, h.firm]
  have hp : pstep (put s i (l ++ b) d) = (put s i (l ++ b) d, false) := if_pos (by show s.plan < 0; rw [h.plan]; omega)
  rw [hp]
  rfl
theorem One.rd (h : One s r i l d) : read s (i : Int) = (l, 0) := by
  have hi := h.lt
  unfold read
  rw [if_neg (by omega), if_neg (by rw [h.on]; simp), show (i : Int).toNat = i by omega, h.file]
/-- A file behind a crash that keeps m loose bytes. -/
def behind (l : List UInt8) (d m : Nat) (flip : Int) : List UInt8 :=
  if 0 ≤ flip ∧ 0 < m then turn (l.take (d + m)) (d + flip.toNat % (8 * m) / 8) (flip.toNat % (8 * m) % 8) else l.take (d + m)
end
end Go.Dk
namespace Go.Pure
end Go.Pure

namespace Go.Dk
theorem turn_take3 {l : List UInt8} {p k d : Nat} (h : d ≤ p) : (turn l p k).take d = l.take d := by
  apply List.ext_getElem?
  intro j
  unfold turn
  rw [List.getElem?_take, List.getElem?_take]
  split
  · rw [List.getElem?_modify]
    have hne : ¬ p = j := by omega
    simp only [hne, if_false]
    cases l[j]? <;> rfl
  · rfl
theorem invert_take (s : S) : ∀ (r : List Nat) (b i : Nat), (invert s r b i).take (s.firm i) = (s.f i).take (s.firm i)
  | [], _, _ => rfl
  | j :: r, b, i => by
    unfold invert
    split
    · unfold upd
      split
      · rename_i e
        subst e
        exact turn_take3 (by omega)
      · rfl
    · exact invert_take s r _ i
theorem turned_len (s : S) (keep : List Int) (flip : Int) (i : Nat) : ((turned s keep flip).f i).length = ((cut s keep).f i).length := by
  unfold turned
  split
  · exact invert_len _ _ _ _
  · rfl
theorem turned_take (s : S) (keep : List Int) (flip : Int) (i : Nat) : ((turned s keep flip).f i).take (s.firm i) = ((cut s keep).f i).take (s.firm i) := by
  unfold turned
  split
  · exact invert_take (cut s keep) _ _ i
  · rfl
theorem cut_take (s : S) (keep : List Int) (i : Nat) : ((cut s keep).f i).take (s.firm i) = (s.f i).take (s.firm i) := by
  show (cutTo s keep (files s).length i).take _ = _
  unfold cutTo
  split
  · rw [List.take_take]; congr 1; omega
  · rfl
theorem cut_len (s : S) (keep : List Int) (i : Nat) : ((cut s keep).f i).length ≤ (s.f i).length := by
  show (cutTo s keep (files s).length i).length ≤ _
  unfold cutTo
  split
  · rw [List.length_take]; omega
  · exact Nat.le_refl _
/-- The durable bytes survive. -/
theorem crash_take (s : S) (keep : List Int) (flip : Int) (i : Nat) : ((crash s keep flip).f i).take (s.firm i) = (s.f i).take (s.firm i) := (turned_take s keep flip i).trans (cut_take s keep i)
theorem crash_len (s : S) (keep : List Int) (flip : Int) (i : Nat) : ((crash s keep flip).f i).length ≤ (s.f i).length := by
  show ((turned s keep flip).f i).length ≤ _
  rw [turned_len]
  exact cut_len s keep i
/-- A crash right behind a Sync changes nothing. -/
theorem crash_firm (s : S) (keep : List Int) (flip : Int) (i : Nat) : (crash (firmAll s) keep flip).f i = s.f i := by
  have h1 := crash_take (firmAll s) keep flip i
  have h2 := crash_len (firmAll s) keep flip i
  have e : (firmAll s).firm i = (s.f i).length := rfl
  have e2 : (firmAll s).f i = s.f i := rfl
  rw [e, e2] at h1
  rw [e2] at h2
  rwa [List.take_of_length_le h2, List.take_of_length_le (Nat.le_refl _)] at h1
/-- Behind a Sync in the state s0, only Appends since: on, no plan, the bytes of s0 durable and at the beginning. -/
structure Since (s0 s : S) : Prop where
  on : s.off = false
  plan : s.plan < 0
  firm : ∀ i, s.firm i = (s0.f i).length
  pre : ∀ i, (s.f i).take (s0.f i).length = s0.f i
  len : ∀ i, (s0.f i).length ≤ (s.f i).length
theorem pstep_none {s : S} (h : s.plan < 0) : pstep s = (s, false) := if_pos h
theorem Since.start {s0 s : S} (ho : s.off = false) (hp : s.plan < 0) (hf : s.f = s0.f) : Since s0 (sync s).1 ∧ (sync s).2 = 0 := by
  have h := sync_ok ho (by rw [pstep_none hp])
  rw [h, pstep_none hp]
  refine ⟨⟨ho, hp, fun i => ?_, fun i => ?_, fun i => ?_⟩, rfl⟩
  · show (s.f i).length = _
    rw [hf]
  · show (s.f i).take _ = _
    rw [hf, List.take_of_length_le (Nat.le_refl _)]
  · show _ ≤ (s.f i).length
    rw [hf]
    exact Nat.le_refl _
theorem Since.app {s0 s : S} (h : Since s0 s) (file : Int) (l : List UInt8) : Since s0 (append s file l).1 := by
  unfold append
  split
  · exact h
  · split
    · exact h
    · split
      · exact h
      · rename_i h1 _ _
        have hp : pstep (put s file.toNat (s.f file.toNat ++ l) (s.firm file.toNat)) = (put s file.toNat (s.f file.toNat ++ l) (s.firm file.toNat), false) := pstep_none h.plan
        rw [hp]
        refine ⟨h.on, h.plan, fun i => ?_, fun i => ?_, fun i => ?_⟩
        · show upd s.firm file.toNat (s.firm file.toNat) i = _
          rw [upd_self]
          exact h.firm i
        · show (upd s.f file.toNat (s.f file.toNat ++ l) i).take _ = _
          unfold upd
          split
          · rename_i e
            subst e
            rw [List.take_append_of_le_length (h.len _)]
            exact h.pre _
          · exact h.pre i
        · show _ ≤ (upd s.f file.toNat (s.f file.toNat ++ l) i).length
          unfold upd
          split
          · rename_i e
            subst e
            rw [List.length_append]
            have := h.len file.toNat
            omega
          · exact h.len i
theorem Since.crash {s0 s : S} (h : Since s0 s) (keep : List Int) (flip : Int) (i : Nat) : ((Dk.crash s keep flip).f i).take (s0.f i).length = s0.f i ∧ (s0.f i).length ≤ ((Dk.crash s keep flip).f i).length ∧ ((Dk.crash s keep flip).f i).length ≤ (s.f i).length := by
  have h1 := crash_take s keep flip i
  rw [h.firm i, h.pre i] at h1
  refine ⟨h1, ?_, crash_len s keep flip i⟩
  have h2 := congrArg List.length h1
  rw [List.length_take] at h2
  omega
theorem read_at {s : S} {i : Nat} (hi : i < 64) (ho : s.off = false) : read s (i : Int) = (s.f i, 0) := by
  unfold Dk.read
  rw [if_neg (by omega), ho]
  rfl
end Go.Dk

namespace Go.Dk
set_option linter.unusedVariables false

theorem app_f (s : S) (file : Int) (l : List UInt8) : (append s file l).1.f = s.f ∨ (append s file l).1.f = upd s.f file.toNat (s.f file.toNat ++ l) := by
  unfold append
  split
  · exact .inl rfl
  · split
    · exact .inl rfl
    · split
      · exact .inl rfl
      · right
        dsimp only
        rw [(step_f _).1]
        rfl
theorem app_other (s : S) (file : Int) (l : List UInt8) {j : Nat} (h : j ≠ file.toNat) : (append s file l).1.f j = s.f j := by
  rcases app_f s file l with e | e
  · rw [e]
  · rw [e, upd_other _ _ h]
theorem app_len (s : S) (file : Int) (l : List UInt8) (j : Nat) : ((append s file l).1.f j).length ≤ (s.f j).length + l.length := by
  rcases app_f s file l with e | e
  · rw [e]; omega
  · rw [e]
    unfold upd
    split
    · rename_i h; subst h; simp
    · omega
/-- The files from 5 on, before n, hold L. -/
structure Fil (L : List UInt8) (n : Nat) (s : S) : Prop where
  room : s.room = 20000
  on : s.off = false
  plan : s.plan = -1
  f : ∀ j, s.f j = if 5 ≤ j ∧ j < n then L else []
  usd : used s = (n - 5) * L.length
theorem Fil.start (L : List UInt8) : Fil L 5 (Dk.new 20000) := ⟨rfl, rfl, rfl, fun j => by rw [if_neg (by omega)]; rfl, by rw [used_new]; simp⟩
theorem app_ok {s : S} (ho : s.off = false) (hp : s.plan = -1) {i : Nat} (hi : i < 64) {l : List UInt8} (hu : used s + l.length ≤ s.room) : append s (i : Int) l = (put s i (s.f i ++ l) (s.firm i), 0) := by
  unfold append
  rw [if_neg (by omega), if_neg (by rw [ho]; simp), if_neg (by omega)]
  have ht : (i : Int).toNat = i := by omega
  rw [ht]
  have e : pstep (put s i (s.f i ++ l) (s.firm i)) = (put s i (s.f i ++ l) (s.firm i), false) := if_pos (by show s.plan < 0; rw [hp]; omega)
  rw [e]
  rfl
theorem Fil.step {L : List UInt8} {n : Nat} {s : S} (h : Fil L n s) (h5 : 5 ≤ n) (h6 : n ≤ 6) (hL : L.length ≤ 5000) (k : Nat) (hk : k ≤ L.length) : Fil L (n + 1) (append (append s (n : Int) (L.take k)).1 (n : Int) (L.drop k)).1 := by
  have hn : s.f n = [] := by rw [h.f, if_neg (by omega)]
  have hu : used s ≤ 5000 := by
    rw [h.usd]
    rcases (show n = 5 ∨ n = 6 by omega) with rfl | rfl
    · simp
    · simp; exact hL
  have hlt : (L.take k).length = k := by rw [List.length_take]; omega
  have hld : (L.drop k).length = L.length - k := by rw [List.length_drop]
  rw [app_ok h.on h.plan (by omega) (by rw [h.room, hlt]; omega)]
  dsimp only
  rw [hn, List.nil_append]
  have u1 : used (put s n (L.take k) (s.firm n)) = used s + k := by
    have := put_used (s := s) (i := n) (by omega) (L.take k) (s.firm n)
    rw [hn, hlt] at this
    simpa using this
  have f1 : (put s n (L.take k) (s.firm n)).f n = L.take k := upd_same _ _ _
  rw [app_ok (s := put s n (L.take k) (s.firm n)) h.on h.plan (by omega) (by rw [u1, hld]; show used s + k + (L.length - k) ≤ s.room; rw [h.room]; omega)]
  dsimp only
  rw [f1, List.take_append_drop]
  refine ⟨h.room, h.on, h.plan, fun j => ?_, ?_⟩
  · show upd (upd s.f n (L.take k)) n L j = _
    rw [upd_upd]
    unfold upd
    by_cases e : j = n
    · rw [if_pos e, if_pos (by omega)]
    · rw [if_neg e, h.f]
      by_cases e2 : 5 ≤ j ∧ j < n
      · rw [if_pos e2, if_pos (by omega)]
      · rw [if_neg e2, if_neg (by omega)]
  · have := put_used (s := put s n (L.take k) (s.firm n)) (i := n) (by omega) L ((put s n (L.take k) (s.firm n)).firm n)
    rw [u1, f1, hlt, h.usd] at this
    have e : n + 1 - 5 = (n - 5) + 1 := by omega
    rw [e, Nat.succ_mul]
    omega
theorem Fil.fin {L : List UInt8} {s : S} (h : Fil L 7 s) (keep : List Int) (flip : Int) : read (crash (append (append (sync s).1 6 [9, 9, 9]).1 8 [1]).1 keep flip) 5 = (L, 0) ∧ ∃ t : List UInt8, t.length ≤ 3 ∧ read (crash (append (append (sync s).1 6 [9, 9, 9]).1 8 [1]).1 keep flip) 6 = (L ++ t, 0) := by
  have hs := Since.start (s0 := s) h.on (by rw [h.plan]; omega) rfl
  have h1 := (hs.1.app 6 [9, 9, 9]).app 8 [1]
  have hy : (sync s).1.f = s.f := by
    rw [sync_ok h.on (by rw [pstep_none (by rw [h.plan]; omega)]), pstep_none (by rw [h.plan]; omega)]
    rfl
  have g5 := h1.crash keep flip 5
  have g6 := h1.crash keep flip 6
  have l5 : ((append (append (sync s).1 6 [9, 9, 9]).1 8 [1]).1.f 5).length = L.length := by
    rw [app_other _ _ _ (by decide), app_other _ _ _ (by decide), hy, h.f, if_pos (by omega)]
  have l6 : ((append (append (sync s).1 6 [9, 9, 9]).1 8 [1]).1.f 6).length ≤ L.length + 3 := by
    rw [app_other _ _ _ (by decide)]
    refine Nat.le_trans (app_len _ _ _ _) ?_
    rw [hy, h.f, if_pos (by omega)]
    simp
  rw [h.f 5, if_pos (by omega), l5] at g5
  rw [h.f 6, if_pos (by omega)] at g6
  obtain ⟨z, hz⟩ : ∃ z, crash (append (append (sync s).1 6 [9, 9, 9]).1 8 [1]).1 keep flip = z := ⟨_, rfl⟩
  have ho : z.off = false := by rw [← hz]; rfl
  rw [hz] at g5 g6 ⊢
  refine ⟨?_, (z.f 6).drop L.length, ?_, ?_⟩
  · rw [show read z 5 = (z.f 5, 0) from read_at (i := 5) (by omega) ho]
    obtain ⟨q1, q2, q3⟩ := g5
    rw [List.take_of_length_le q3] at q1
    rw [q1]
  · rw [List.length_drop]
    have := g6.2.2
    omega
  · rw [show read z 6 = (z.f 6, 0) from read_at (i := 6) (by omega) ho]
    congr 1
    conv => lhs; rw [← List.take_append_drop L.length (z.f 6)]
    rw [g6.1]
end Go.Dk

namespace Go.Proofs.YtblcaeoeeepajaaGreatDoor
set_option linter.unusedVariables false
open Go.RowKit Go.Mem Go.Dk Go.Pure Go.Dig

/-- An integer in a box. -/
structure Bi where
  g : Nat
  s : Bool
  A : Option Addr
  n : Nat
  c : Nat
  z : Int
def Bi.v (b : Bi) : Value := .agg #[.bool b.s, .slice b.A b.n b.c]
def Bi.sat (b : Bi) (w : World) : Prop := Blk w b.g 29 #[.bool b.s, .slice b.A b.n b.c] ∧ WI w b.v b.z
/-- The disk at g (s), made after w, beside integers in boxes. -/
structure DkN (U : Nat → Prop) (w : World) (g : Nat) (s : S) (bs : List Bi) (wl : World) : Prop where
  jd : JD U w g s wl
  bx : ∀ b ∈ bs, b.sat wl ∧ ¬ U b.g
section
variable {U U' Y : Nat → Prop} {w w1 w2 : World} {g : Nat} {s s' : S} {l : List Bi} {b : Bi}
theorem Bi.new (h : b.sat w1) (hn : New w1 w2) : b.sat w2 := ⟨h.1.chg hn (fun h => h), h.2.new hn⟩
theorem Bi.keep (h : b.sat w1) (hc : Chg Y w1 w2) (h1 : ¬ Y b.g) (h2 : ∀ k, Y k → No32 w1 k) : b.sat w2 := ⟨h.1.chg hc h1, WI.keep h.2 hc h2⟩
theorem DkN.new (h : DkN U w g s l w1) (hn : New w1 w2) : DkN U w g s l w2 := ⟨h.jd.new hn, fun b hb => ⟨Bi.new (h.bx b hb).1 hn, (h.bx b hb).2⟩⟩
theorem DkN.far (h : DkN U w g s l w1) (hc : Chg Y w1 w2) (hw : ∀ k, Y k → w.heap.size ≤ k) (hU : ∀ k, U k → ¬ Y k) (hb : ∀ b ∈ l, ¬ Y b.g) (hn : ∀ k, Y k → No32 w1 k) : DkN U w g s l w2 :=
  ⟨h.jd.chg hc hw hU, fun b hm => ⟨Bi.keep (h.bx b hm).1 hc (hb b hm) hn, (h.bx b hm).2⟩⟩
theorem DkN.step (h : DkN U w g s l w1) (hj : JD U' w g s' w2) (hs : DStep U U' w1 w2) : DkN U' w g s' l w2 :=
  ⟨hj, fun b hm => ⟨Bi.keep (h.bx b hm).1 hs.chg (h.bx b hm).2 h.jd.no32, fun hu => by
    rcases hs.own b.g hu with e | e
    · exact (h.bx b hm).2 e
    · have := (h.bx b hm).1.1.lt; omega⟩⟩
/-- One more. -/
theorem DkN.add (h : DkN U w g s l w1) (hb : b.sat w1) (hu : ¬ U b.g) : DkN U w g s (b :: l) w1 := ⟨h.jd, fun x hx => by
  rcases List.mem_cons.1 hx with rfl | hx
  · exact ⟨hb, hu⟩
  · exact h.bx x hx⟩
theorem DkN.c0 (h : DkN U w g s l w1) (hb : b ∈ l) : w1.cell? ⟨b.g, 0, none⟩ = some (.bool b.s) := (h.bx b hb).1.1.cell 0 rfl
theorem DkN.c1 (h : DkN U w g s l w1) (hb : b ∈ l) : w1.cell? ⟨b.g, 1, none⟩ = some (.slice b.A b.n b.c) := (h.bx b hb).1.1.cell 1 rfl
theorem DkN.lt (h : DkN U w g s l w1) (hb : b ∈ l) : b.g < w1.heap.size := (h.bx b hb).1.1.lt
theorem DkN.wi (h : DkN U w g s l w1) (hb : b ∈ l) : WI w1 b.v b.z := (h.bx b hb).1.2
/-- A Writer's step. -/
theorem DkN.wr {gw : Nat} {bo : Option Nat} {t : List UInt8} (h : DkN U w g s l w1) (hw : WrV w1 gw bo t) (hc : Chg (fun k => k = gw ∨ bo = some k) w1 w2) (B : Nat) (h1 : B ≤ gw) (h2 : ∀ k, bo = some k → B ≤ k) (h3 : w.heap.size ≤ B) (hU : ∀ k, U k → k < B) (hb : ∀ b ∈ l, b.g < B) : DkN U w g s l w2 :=
  h.far hc (fun k hk => by
    rcases hk with e | e
    · omega
    · have := h2 k e; omega) (fun k hk e => by
    have := hU k hk
    rcases e with e | e
    · omega
    · have := h2 k e; omega) (fun b hm e => by
    have := hb b hm
    rcases e with e | e
    · omega
    · have := h2 _ e; omega) hw.no32
end
theorem WrV.new {w w' : World} {g : Nat} {bo : Option Nat} {l : List UInt8} (h : WrV w g bo l) (hn : New w w') : WrV w' g bo l := by
  obtain ⟨A, n, c, h1, h2, h3⟩ := h
  exact ⟨A, n, c, h1.chg hn (fun h => h), h2.new hn, h3⟩
theorem WrV.made (w : World) : WrV (w.alloc (.cells #[.slice none 0 0] 35)) w.heap.size none [] := ⟨none, 0, 0, Blk.new _ _ _, RowV.nil _ _ _, rfl⟩
/-- What is known of the two boxes. -/
structure Two (ga : Nat) (sa : Bool) (Aa : Option Addr) (na ca gp : Nat) (sp : Bool) (Ap : Option Addr) (np cp : Nat) (n P : Int) (W : World) : Prop where
  a0 : W.cell? ⟨ga, 0, none⟩ = some (.bool sa)
  a1 : W.cell? ⟨ga, 1, none⟩ = some (.slice Aa na ca)
  p0 : W.cell? ⟨gp, 0, none⟩ = some (.bool sp)
  p1 : W.cell? ⟨gp, 1, none⟩ = some (.slice Ap np cp)
  al : ga < W.heap.size
  pl : gp < W.heap.size
  wa : WI W (.agg #[.bool sa, .slice Aa na ca]) n
  wp : WI W (.agg #[.bool sp, .slice Ap np cp]) P
theorem DkN.two {U : Nat → Prop} {w w1 : World} {g : Nat} {s : S} {ga : Nat} {sa : Bool} {Aa : Option Addr} {na ca gp : Nat} {sp : Bool} {Ap : Option Addr} {np cp : Nat} {n P : Int} (h : DkN U w g s [⟨ga, sa, Aa, na, ca, n⟩, ⟨gp, sp, Ap, np, cp, P⟩] w1) : Two ga sa Aa na ca gp sp Ap np cp n P w1 :=
  ⟨h.c0 (b := ⟨ga, sa, Aa, na, ca, n⟩) (by simp), h.c1 (b := ⟨ga, sa, Aa, na, ca, n⟩) (by simp), h.c0 (b := ⟨gp, sp, Ap, np, cp, P⟩) (by simp), h.c1 (b := ⟨gp, sp, Ap, np, cp, P⟩) (by simp), h.lt (b := ⟨ga, sa, Aa, na, ca, n⟩) (by simp), h.lt (b := ⟨gp, sp, Ap, np, cp, P⟩) (by simp), h.wi (b := ⟨ga, sa, Aa, na, ca, n⟩) (by simp), h.wi (b := ⟨gp, sp, Ap, np, cp, P⟩) (by simp)⟩
/-- Integers in boxes, beside what was there. -/
structure NBx (W0 : World) (l : List Bi) (w : World) : Prop where
  new : New W0 w
  bx : ∀ b ∈ l, b.sat w
section
variable {W0 w w' : World} {l : List Bi} {b : Bi}
theorem NBx.step (h : NBx W0 l w) (hn : New w w') : NBx W0 l w' := ⟨h.new.trans hn (fun _ _ h => h), fun b hb => Bi.new (h.bx b hb) hn⟩
theorem NBx.far {gr : Nat} (h : NBx W0 l w) (hc : Chg (fun k => k = gr) w w') (h0 : W0.heap.size ≤ gr) (hb : ∀ b ∈ l, b.g ≠ gr) (hn : No32 w gr) : NBx W0 l w' :=
  ⟨h.new.trans hc (fun k hk e => by omega), fun b hm => Bi.keep (h.bx b hm) hc (hb b hm) (fun k e => by subst e; exact hn)⟩
theorem NBx.add (h : NBx W0 l w) (hb : b.sat w) : NBx W0 (b :: l) w := ⟨h.new, fun x hx => by
  rcases List.mem_cons.1 hx with rfl | hx
  · exact hb
  · exact h.bx x hx⟩
theorem NBx.at_ (h : NBx W0 l w) (hb : b ∈ l) : w.cell? ⟨b.g, 0, none⟩ = some (.bool b.s) ∧ w.cell? ⟨b.g, 1, none⟩ = some (.slice b.A b.n b.c) ∧ b.g < w.heap.size ∧ WI w (.agg #[.bool b.s, .slice b.A b.n b.c]) b.z := ⟨(h.bx b hb).1.cell 0 rfl, (h.bx b hb).1.cell 1 rfl, (h.bx b hb).1.lt, (h.bx b hb).2⟩
theorem bi_box {s : Bool} {A : Option Addr} {n c : Nat} {z : Int} (h : WI w (.agg #[.bool s, .slice A n c]) z) : (⟨w.heap.size, s, A, n, c, z⟩ : Bi).sat (w.alloc (.cells #[.bool s, .slice A n c] 29)) := ⟨Blk.new _ _ _, h.new ((Chg.refl _ w).alloc _)⟩
end
theorem rdr_no32 {w : World} {g : Nat} {bo : Option Nat} {l : List UInt8} {e : Int} (h : RdrAt w g bo l e) : No32 w g ∧ g < w.heap.size := by
  obtain ⟨A, n, c, hb, _⟩ := h
  exact ⟨.inl ⟨_, _, hb, fun z hz => by simp at hz⟩, hb.lt⟩
theorem cmpI_same (x : Int) : cmpI x x = 0 := by unfold cmpI; simp
end Go.Proofs.YtblcaeoeeepajaaGreatDoor

namespace Go.Proofs.YtblcaeoeeepajaaGreatDoor
open Go.RowKit Go.Mem Go.Pure

/-- Block g is a Writer whose bytes are l, in the block bo. -/
def WrAt (w : World) (g : Nat) (bo : Option Nat) (l : List UInt8) : Prop :=
  ∃ A n c, Blk w g 35 #[.slice A n c] ∧ w.ownsRow 0 5 1 (.slice A n c) n (bs l) ∧ blk A = bo

/-- What an append to a Writer's bytes, stored back, leaves. -/
theorem wr_step {w wr wx w1 : World} {g M c' : Nat} {bo bo' : Option Nat} {A A' : Option Addr} {l' : List UInt8} {v : Value} (hchg : Chg (fun k => k = g ∨ bo = some k) w wr) (hx : New wr wx)
    (hat : bo' = bo ∨ ∃ k, bo' = some k ∧ w.heap.size ≤ k) (hbo : blk A = bo') (hg1 : wx.grownBy w1 (blk A)) (hat1 : blk A' = blk A ∨ blk A' = some wx.heap.size)
    (hb1 : Blk w1 g 35 #[v]) (hown1 : w1.ownsRow 0 5 1 (.slice A' M c') M (bs l')) :
    WrAt (w1.setCell ⟨g, 0, none⟩ (.slice A' M c')) g (blk A') l' ∧ Chg (fun k => k = g ∨ bo = some k) w (w1.setCell ⟨g, 0, none⟩ (.slice A' M c')) ∧ (blk A' = bo ∨ ∃ k, blk A' = some k ∧ w.heap.size ≤ k) := by
  have hne := hb1.ne_own hown1 (by decide)
  have hc1 : Chg (fun k => k = g ∨ bo = some k) w w1 := (hchg.new hx).grown hg1 (fun k hk hlt => by
    rw [hbo] at hk
    rcases hat with rfl | ⟨k', rfl, hk'⟩
    · exact .inr hk
    · cases hk; omega)
  refine ⟨⟨A', M, c', ?_, ?_, rfl⟩, hc1.setCell (fun _ => .inl rfl) _, ?_⟩
  · exact hb1.set_ 0 _
  · exact own_chg (S := fun k => k = g) hown1 ((Chg.refl (fun k => k = g) w1).setCell (p := ⟨g, 0, none⟩) (fun _ => rfl) _) (fun k hk e => hne (by rw [hk, e]))
  · rcases hat1 with e | e
    · rw [e, hbo]; exact hat
    · exact .inr ⟨_, e, Nat.le_trans hchg.size hx.size⟩

set_option maxHeartbeats 1000000 in
set_option maxRecDepth 100000 in
theorem wUint_any (g : Nat) (bo : Option Nat) (l : List UInt8) (n : Nat) (w : World) (hn : n < 18446744073709551616) (hw : WrAt w g bo l) (hl : l.length ≤ 1000000000) :
    Calls Tryz.prog 34 #[.pointer (some ⟨g, 0, none⟩), .int .u64 n] w fun e w' => e = .returned (.tuple #[]) ∧
      ∃ bo', WrAt w' g bo' (l ++ uvar n) ∧ Chg (fun k => k = g ∨ bo = some k) w w' ∧ (bo' = bo ∨ ∃ k, bo' = some k ∧ w.heap.size ≤ k) := by
  have hu := uvar_len hn
  have HN := Lib.hid hn
  clear hn
  go_enter Tryz.func34, Tryz.ntmps34
  go_wp2
  go_loopw [1] (fun i wr => ∃ m : Nat, m ≤ n ∧ i = .int .u64 m ∧ ∃ (d : List UInt8) (bo' : Option Nat), uvar n = d ++ uvar m ∧ WrAt wr g bo' (l ++ d) ∧ Chg (fun k => k = g ∨ bo = some k) w wr ∧ (bo' = bo ∨ ∃ k, bo' = some k ∧ w.heap.size ≤ k)) (fun i _ => (intOf i).toNat)
  case atStart => exact ⟨n, Nat.le_refl _, rfl, [], bo, rfl, by simpa using hw, Chg.refl _ w, .inl rfl⟩
  case round =>
    obtain ⟨m, hm, rfl, d, bo', hd, ⟨A, N, c, hb, hown, hbo⟩, hchg, hat⟩ := hrel
    have hdl : d.length + 1 ≤ 10 := by
      have := uvar_pos m
      rw [hd, List.length_append] at hu
      omega
    have hNl : N = l.length + d.length := by have := hown.1; simpa using this.symm
    have hN2 : N + 1 ≤ 1000000010 := by omega
    have HN2 := Lib.hid hNl
    have HD := Lib.hid hd
    clear hNl
    have HBO := Lib.hid hbo
    clear hd hbo
    by_cases hlt : 128 ≤ m
    · have hc0 := hb.cell 0 rfl
      have hf0 := hb.frozen 0
      have HB := Lib.hid hb
      have HO := Lib.hid hown
      go_wp2_with (at_builtin; refine wpList_app elemBytes rfl _ _ rfl rfl (HO.out.alloc _) rfl Rd.one (by simp [Value.oneCell']) (by simp only [maxLen]; omega) (by omega) (Nat.zero_le _) ?_; intro A' c' w1 hown1 hg1 hat1; have hb1 := (HB.out.alloc _).grown hg1 (HB.out.ne_own HO.out (by decide)); have hc1 := hb1.cell 0 rfl; have hf1 := hb1.frozen 0; have HB1 := Lib.hid hb1; have HO1 := Lib.hid hown1; clear hb1 hown1)
      obtain ⟨hw2, hc2, ha2⟩ := wr_step (l' := l ++ (d ++ [UInt8.ofNat (128 + m % 128)])) hchg ((Chg.refl _ wr).alloc _) hat HBO.out hg1 hat1 HB1.out (by have := HO1.out; rw [or_byte] at this; simpa [bs_append, bs, By] using this)
      go_roundw
      case rel => exact ⟨m / 128, by omega, by go_num, d ++ [UInt8.ofNat (128 + m % 128)], _, by rw [HD.out, uvar_ge hlt]; simp, hw2, hc2, ha2⟩
      case measure => simp [intOf]; omega
    · have hc0 := hb.cell 0 rfl
      have hf0 := hb.frozen 0
      have HB := Lib.hid hb
      have HO := Lib.hid hown
      go_wp2_with (at_builtin; refine wpList_app elemBytes rfl _ _ rfl rfl (HO.out.alloc _) rfl Rd.one (by simp [Value.oneCell']) (by simp only [maxLen]; omega) (by omega) (Nat.zero_le _) ?_; intro A' c' w1 hown1 hg1 hat1; have hb1 := (HB.out.alloc _).grown hg1 (HB.out.ne_own HO.out (by decide)); have hc1 := hb1.cell 0 rfl; have hf1 := hb1.frozen 0; have HB1 := Lib.hid hb1; have HO1 := Lib.hid hown1; clear hb1 hown1)
      obtain ⟨hw2, hc2, ha2⟩ := wr_step (l' := l ++ (d ++ [UInt8.ofNat m])) hchg ((Chg.refl _ wr).alloc _) hat HBO.out hg1 hat1 HB1.out (by have := HO1.out; rw [ofNat_byte (show m < 128 by omega)] at this; rw [bs_append, bs_append, ← List.append_assoc, ← bs_append]; exact this)
      go_end0
      exact ⟨rfl, _, by rw [HD.out, uvar_lt (by omega)]; exact hw2, hc2, ha2⟩

end Go.Proofs.YtblcaeoeeepajaaGreatDoor

namespace Go.Proofs.YtblcaeoeeepajaaGreatDoor
open Go.RowKit Go.Mem Go.Pure

set_option maxHeartbeats 1000000 in
set_option maxRecDepth 100000 in
theorem wInt_any (g : Nat) (bo : Option Nat) (l : List UInt8) (n : Int) (w : World) (hlo : -9223372036854775808 ≤ n) (hhi : n ≤ 9223372036854775807) (hw : WrAt w g bo l) (hl : l.length ≤ 1000000000) :
    Calls Tryz.prog 86 #[.pointer (some ⟨g, 0, none⟩), .int .i64 n] w fun e w' => e = .returned (.tuple #[]) ∧
      ∃ bo', WrAt w' g bo' (l ++ uvar (zig n)) ∧ Chg (fun k => k = g ∨ bo = some k) w w' ∧ (bo' = bo ∨ ∃ k, bo' = some k ∧ w.heap.size ≤ k) := by
  go_enter Tryz.func86, Tryz.ntmps86
  go_wp2_with fail
  rw [zig_eq n hlo hhi]
  refine (wUint_any g bo l (zig n) w (zig_lt n hlo hhi) hw hl).mono ?_
  rintro e w1 ⟨rfl, bo1, hw1, hc1, ha1⟩
  go_wp2
  go_end0
  exact ⟨rfl, bo1, hw1, hc1, ha1⟩

set_option maxHeartbeats 1000000 in
set_option maxRecDepth 100000 in
theorem wRaw_any (g : Nat) (bo : Option Nat) (l : List UInt8) (A : Option Addr) (n c : Nat) (b : List UInt8) (w : World) (hr : Rd w A n (bs b)) (hA : blk A ≠ some g) (hA2 : bo = none ∨ blk A ≠ bo) (hn : n ≤ 1000000000) (hw : WrAt w g bo l) (hl : l.length ≤ 900000000) :
    Calls Tryz.prog 63 #[.pointer (some ⟨g, 0, none⟩), .slice A n c] w fun e w' => e = .returned (.tuple #[]) ∧
      ∃ bo', WrAt w' g bo' (l ++ (uvar n ++ b)) ∧ Chg (fun k => k = g ∨ bo = some k) w w' ∧ (bo' = bo ∨ ∃ k, bo' = some k ∧ w.heap.size ≤ k) := by
  have hbl : b.length = n := by simpa using hr.len
  have HBL := Lib.hid hbl
  clear hbl
  go_enter Tryz.func63, Tryz.ntmps63
  go_wp2_with fail
  refine (wUint_any g bo l n w (by omega) hw (by omega)).mono ?_
  rintro e w1 ⟨rfl, bo1, hw1, hc1, ha1⟩
  have hr1 : Rd w1 A n (bs b) := hr.chg hc1 (fun k hk _ hS => by
    rcases hS with rfl | hS
    · exact hA hk
    · rcases hA2 with h | h
      · rw [h] at hS; cases hS
      · exact h (by rw [hk, hS]))
  have hu := uvar_len (n := n) (by omega)
  obtain ⟨A1, N, c1, hb1, hown1, hbo1⟩ := hw1
  have hN : N ≤ 900000010 := by have := hown1.1; simp at this; omega
  have HBO := Lib.hid hbo1
  have HB := Lib.hid hb1
  have HO := Lib.hid hown1
  have hcc := hb1.cell 0 rfl
  have hff := hb1.frozen 0
  clear hbo1 hb1 hown1
  go_wp2_with (at_builtin; refine wpList_app elemBytes rfl _ _ rfl rfl HO.out rfl hr1 (bs_one _) (by simp only [maxLen]; omega) (by omega) (Nat.zero_le _) ?_; intro A' c' w2 hown2 hg2 hat2; have hb2 := HB.out.grown hg2 (HB.out.ne_own HO.out (by decide)); have hcc2 := hb2.cell 0 rfl; have hff2 := hb2.frozen 0; have HB2 := Lib.hid hb2; have HO2 := Lib.hid hown2; clear hb2 hown2)
  obtain ⟨hw3, hc3, ha3⟩ := wr_step (l' := l ++ (uvar n ++ b)) hc1 (Chg.refl _ w1) ha1 HBO.out hg2 hat2 HB2.out (by have := HO2.out; rw [← List.append_assoc, bs_append]; exact this)
  go_end0
  exact ⟨rfl, _, hw3, hc3, ha3⟩

set_option maxHeartbeats 1000000 in
set_option maxRecDepth 100000 in
theorem wDone_any (g : Nat) (bo : Option Nat) (l : List UInt8) (w : World) (hw : WrAt w g bo l) (hl : l.length ≤ 1000000000) :
    Calls Tryz.prog 10 #[.pointer (some ⟨g, 0, none⟩)] w fun e w' => ∃ A c, e = .returned (.slice A l.length c) ∧
      w'.ownsRow w.heap.size 5 1 (.slice A l.length c) l.length (bs l) ∧ New w w' := by
  obtain ⟨A, N, c, hb, hown, hbo⟩ := hw
  have hN : l.length = N := by have := hown.1; simpa using this
  have HN := Lib.hid hN
  have hN2 : N ≤ 1000000000 := by omega
  have hcc := hb.cell 0 rfl
  have hff := hb.frozen 0
  have hgl := hb.lt
  have hrd := Rd.of_own hown
  clear hN hbo hown hb
  have HR := Lib.hid hrd
  clear hrd
  go_enter Tryz.func10, Tryz.ntmps10
  go_wp2_with (at_builtin; refine wpList_app elemBytes rfl _ _ rfl rfl (World.ownsRow_made w _ 0 (Nat.le_refl _) (Nat.zero_le _) rfl) rfl (HR.out.new ((Chg.refl _ w).alloc _)) (bs_one _) (by simp only [maxLen]; omega) (by omega) (by simp) ?_; intro A' c' w2 hown2 hg2 hat2)
  go_ret
  rw [HN.out]
  refine ⟨A', c', by simp, by simpa using hown2, ?_⟩
  exact ((Chg.refl _ w).alloc _).grown hg2 (fun k hk hlt => by simp [blk] at hk; omega)

end Go.Proofs.YtblcaeoeeepajaaGreatDoor

namespace Go.Proofs.YtblcaeoeeepajaaGreatDoor
open Go.RowKit Go.Shelf Go.Mem Go.Pure
attribute [local go_sem] Oper.semAt_some

set_option maxHeartbeats 400000 in
theorem mix_any (a b : Int) (w : World) :
    Calls Tryz.prog 108 #[.int .u64 a, .int .u64 b] w fun e w' => e = .returned (.int .u64 (mixI a b)) ∧ w = w' := by
  go_enter Tryz.func108, Tryz.ntmps108
  go_wp2
  go_ret
  exact ⟨rfl, rfl⟩

set_option maxRecDepth 100000 in
set_option maxHeartbeats 2000000 in
/-- hash.groups's closure, for every loop body that keeps the bytes and the closure's box. -/
theorem groups1_in (n : Nat) (hn : 1 ≤ n) (l Bs : Nat) (A : Option Addr) (len cap : Nat) (b : List UInt8) (hlen : len ≤ 1000000000) (J Jx : List Nat → World → Prop)
    (hY : ∀ pre x W, J pre W → pre.length < nw b → YieldAt Fence.wide (n - 1) Tryz.prog l #[.int .u64 (x : Nat)] W fun e W' =>
      (e = .returned (.bool true) ∧ J (pre ++ [x]) W' ∧ Keep (fun k => k = Bs ∨ blk A = some k) W W') ∨ (e = .returned (.bool false) ∧ Jx (pre ++ [x]) W'))
    (W : World) (hBs : W.cell? ⟨Bs, 0, none⟩ = some (.slice A len cap)) (hr : Rd W A len (bs b)) (h0 : J [] W) :
    CallsIn Fence.wide n Tryz.prog 107 #[.func (.yield l) #[] #[], .pointer (some ⟨Bs, 0, none⟩)] W fun e W' => (∃ v, e = .returned v) ∧
      ((∃ ys, ys = wds b ∧ J ys W') ∨ (∃ pre, (∃ k, k ≤ nw b ∧ pre = wdsTo b k) ∧ Jx pre W')) := by
  have hbl : b.length = len := by simpa using hr.len
  have HBL := Lib.hid hbl
  clear hbl
  refine callsIn_of_wp Tryz.func107 rfl trivial ?_ rfl
  simp only [Tryz.ntmps107, List.size_toArray, List.length_cons, List.length_nil, Nat.reduceAdd, Nat.reduceSub, Array.replicate_succ, Array.replicate_zero, List.push_toArray, List.append_toArray, List.nil_append, List.cons_append]
  gi_wp2
  gi_loopw [3] (fun i wr => ∃ k : Nat, 8 * k ≤ len + 7 ∧ i = .int .i64 (8 * (k : Int)) ∧ J (wdsTo b k) wr ∧ Keep (fun k => k = Bs ∨ blk A = some k) W wr)
    (fun i _ => len + 8 - (intOf i).toNat)
  case atStart => exact ⟨0, by omega, rfl, h0, Keep.refl _ _⟩
  case round =>
    obtain ⟨k, hk, rfl, hJ, hK⟩ := hrel
    have hBs' : wr.cell? ⟨Bs, 0, none⟩ = some (.slice A len cap) := (hK.cell (p := ⟨Bs, 0, none⟩) (.inl rfl)).trans hBs
    by_cases hlt : 8 * k < len
    · have HJ := Lib.hid hJ
      have HK := Lib.hid hK
      have HR := Lib.hid hr
      have HY := Lib.hid hY
      clear hJ hK hr hY
      obtain ⟨cnt, hc1, hc8, hcl, hc9⟩ : ∃ cnt : Nat, 1 ≤ cnt ∧ cnt ≤ 8 ∧ 8 * k + cnt ≤ len ∧ (cnt = 8 ∨ 8 * k + cnt = len) := by
        rcases Nat.lt_or_ge (8 * k + 8) len with h | h
        · exact ⟨8, by omega, by omega, by omega, .inl rfl⟩
        · exact ⟨len - 8 * k, by omega, by omega, by omega, .inr (by omega)⟩
      have HC9 := Lib.hid hc9
      clear hc9
      by_cases h8 : 8 * k + 8 ≤ len
      all_goals
        gi_wp2
        gi_loop [4, 5] (fun v i => ∃ j : Nat, j ≤ cnt ∧ i = .int .i64 (8 * (k : Int) + (j : Int) - 1) ∧ v = .int .u64 (word ((b.drop (8 * k + j)).take (cnt - j))))
          (fun _ i => (intOf i - 8 * (k : Int) + 1).toNat)
        case atStart =>
          refine ⟨cnt, Nat.le_refl _, ?_, by simp [word]⟩
          have := HC9.out
          first | (rw [show (8 * (k : Int) + 8 - 1) = 8 * (k : Int) + (cnt : Int) - 1 by omega]) | (rw [show ((len : Int) - 1) = 8 * (k : Int) + (cnt : Int) - 1 by omega]) | (rw [show (min (8 * (k : Int) + 8) (len : Int) - 1) = 8 * (k : Int) + (cnt : Int) - 1 by omega])
        case round =>
          obtain ⟨j, hj, rfl, rfl⟩ := hrel
          rcases Nat.eq_zero_or_pos j with h0' | h0'
          · subst h0'
            have hkw : (wdsTo b k).length < nw b := by rw [wdsTo_length]; unfold nw; rw [HBL.out]; omega
            obtain ⟨fn, tmps, assign, body, hy, hR⟩ := HY.out _ (word ((b.drop (8 * k)).take cnt)) wr HJ.out hkw
            have HRR := Lib.hid hR
            clear hR
            gi_wp2
            refine HRR.out.mono ?_
            rintro e W3 (⟨rfl, hJ3, hk3⟩ | ⟨rfl, hJx3⟩)
            · gi_wp2
              go_roundw
              case rel => exact ⟨k + 1, by omega, by go_num, by rw [wdsTo_succ, ← wd_of_cnt HBL.out HC9.out hc8]; exact hJ3, HK.out.trans hk3⟩
              case measure => simp [intOf]; omega
            · gi_wp2
              refine bodyPost_ret (results_none rfl _ _ _) rfl ?_
              exact ⟨⟨_, rfl⟩, .inr ⟨_, ⟨k + 1, by unfold nw; rw [HBL.out]; omega, by rw [wdsTo_succ, ← wd_of_cnt HBL.out HC9.out hc8]⟩, hJx3⟩⟩
          · obtain ⟨j, rfl⟩ : ∃ j', j = j' + 1 := ⟨j - 1, by omega⟩
            obtain ⟨ad, u, rfl, hu, hcu⟩ := (HK.out.rd HR.out (fun k hk => .inr hk)).at_ (k := 8 * k + j) (by omega)
            obtain ⟨x, hx, rfl⟩ := bs_at hu
            have hw7 := word_lt7 (l := (b.drop (8 * k + (j + 1))).take (cnt - (j + 1))) (by simp; omega)
            have hst := Lib.hid (grp_val (m := cnt - (j + 1)) hx (by omega))
            clear hu hx
            gi_wp2
            go_round
            case rel => exact ⟨j, by omega, by go_num, by have := hst.out; rw [show 8 * k + (j + 1) = 8 * k + j + 1 from rfl, this, show cnt - (j + 1) + 1 = cnt - j by omega]⟩
            case measure => simp [intOf]; omega
    · have hk' : k = nw b := by unfold nw; rw [HBL.out]; omega
      gi_wp2
      go_end0
      subst hk'
      exact ⟨⟨_, rfl⟩, .inl ⟨_, rfl, hJ⟩⟩

end Go.Proofs.YtblcaeoeeepajaaGreatDoor

namespace Go.Proofs.YtblcaeoeeepajaaGreatDoor
open Go.RowKit Go.Shelf Go.Mem Go.Pure
attribute [local go_sem] Oper.semAt_some

set_option maxHeartbeats 400000 in
theorem groups_any (A : Option Addr) (len cap : Nat) (w : World) :
    Calls Tryz.prog 87 #[.slice A len cap] w fun e w' => ∃ Bs, e = .returned (.func (.func 107) #[] #[.pointer (some ⟨Bs, 0, none⟩)]) ∧ Blk w' Bs 33 #[.slice A len cap] ∧ New w w' ∧ w.heap.size ≤ Bs := by
  go_enter Tryz.func87, Tryz.ntmps87
  go_wp2
  go_ret
  exact ⟨w.heap.size, rfl, Blk.new _ _ _, (Chg.refl _ w).alloc _, Nat.le_refl _⟩

theorem groups_stops (n : Nat) (hn : 1 ≤ n) (Bs : Nat) (A : Option Addr) (len cap : Nat) (b : List UInt8) (hlen : len ≤ 1000000000) (w : World) (hBs : w.cell? ⟨Bs, 0, none⟩ = some (.slice A len cap)) (hr : Rd w A len (bs b)) :
    SeqStopsK Fence.wide n Tryz.prog 107 #[.pointer (some ⟨Bs, 0, none⟩)] (fun x : Nat => #[Value.int .u64 x]) (Keep (fun k => k = Bs ∨ blk A = some k)) (fun ys => ys = wds b) (fun _ => True) (nw b) w := fun l J Jx W hW _ _ hY h0 => by
  have hnew := New.of_below hW
  refine (groups1_in n hn l Bs A len cap b hlen J Jx hY W (hnew.cell hBs (fun h => h)) (hr.new hnew) h0).mono ?_
  rintro e W' ⟨he, ⟨ys, rfl, hj⟩ | ⟨pre, _, hj⟩⟩
  · exact ⟨he, .inl ⟨_, rfl, hj⟩⟩
  · exact ⟨he, .inr ⟨_, trivial, hj⟩⟩

set_option maxRecDepth 100000 in
set_option maxHeartbeats 2000000 in
theorem sum_any (s : ByteArray) (hs : s.size ≤ 1000000) (A : Option Addr) (n c : Nat) (l : List Int) (w : World) (hr : Rd w A n (is l)) (hn : n ≤ 1000000000) :
    Calls Tryz.prog 88 #[.string s, .slice A n c] w fun e w' => e = .returned (.int .u64 (sumI s.data.toList l)) ∧ New w w' := by
  refine (callsIn_wide (n := 10)).1 ?_
  refine callsIn_of_wp_marks Tryz.func88 rfl trivial ?_ rfl
  simp only [Tryz.ntmps88, List.size_toArray, List.length_cons, List.length_nil, Nat.reduceAdd, Nat.reduceSub, Array.replicate_succ, Array.replicate_zero, List.push_toArray, List.append_toArray, List.nil_append, List.cons_append]
  have hcv := fun W => Lib.run_convert_string_bytes (P := Tryz.prog) W 9 33 5 s Tryz.underlying9 Tryz.underlying33 Tryz.underlying5
  gi_wp2_with (refine ⟨trivial, ?_⟩; gi_at_call 87; refine (callsIn_wide.2 (groups_any _ _ _ _)).mono ?_; rintro e w' ⟨Bs, rfl, hBs, hnew, hle⟩)
  obtain ⟨w0, hw0⟩ : ∃ w0, w.alloc (.cells #[.int .u64 0] 67) = w0 := ⟨_, rfl⟩
  have hb0 : Blk w0 w.heap.size 67 #[.int .u64 0] := by rw [← hw0]; exact Blk.new _ _ _
  have hn0 : New w w0 := by rw [← hw0]; exact (Chg.refl _ w).alloc _
  have hz0 : w0.heap.size = w.heap.size + 1 := by rw [← hw0]; simp
  rw [hw0] at hBs hnew hle ⊢
  clear hw0
  rw [Lib.bytesWorld_size, hz0] at hle
  have hrb : Rd w' (some ⟨w.heap.size + 1, 0, none⟩) s.size (bs s.data.toList) := by
    have := conv_rd w0 5 s
    rw [hz0] at this
    exact this.new hnew
  have hn1 : New w w' := (hn0.new (conv_new w0 _ s)).new hnew
  have hb1 : Blk w' w.heap.size 67 #[.int .u64 0] := (hb0.chg (conv_new w0 _ s) (fun h => h)).chg hnew (fun h => h)
  have hbs := hBs.cell 0 rfl
  have hbl := hBs.lt
  clear hnew hcv hn0 hb0
  refine wpIn_rangeFunc_ownF rfl (by omega) (gf := 107) (lb := #[.pointer (some ⟨Bs, 0, none⟩)]) rfl trivial (enters_of Tryz.func107 (by kernel_rfl) rfl)
    (groups_stops 9 (by omega) Bs _ _ _ s.data.toList (by omega) w' hbs hrb) (fun h h' => Keep.trans h h') ?kb (Below.refl _ _) (fun _ => rfl)
    (fun pre W => Blk W w.heap.size 67 #[.int .u64 (absorb 0 (pre.map (fun n : Nat => (n : Int))))] ∧ Below w.heap.size w W)
    (fun _ _ _ => False)
    (OwnFrom.and (Own.from (own_blk w.heap.size 67 (fun pre : List Nat => #[.int .u64 (absorb 0 (pre.map (fun n : Nat => (n : Int))))])) _) (ownFrom_below (Nat.le_refl _) (by omega)))
    (fun _ _ _ _ _ hs _ _ => hs)
    ⟨hb1, New.below hn1⟩ ?a1 ?assign ?body ?done ?stop
  case assign =>
    intro l x W K hK
    gi_wp2
    exact hK
  case kb =>
    intro W l' o o' hl' ho _ _ k hk
    refine World.putObj_heap_other ?_
    rcases hk with rfl | hk
    · omega
    · simp [blk] at hk; omega
  case body =>
    rintro l' pre x W ⟨hb, hB⟩ _
    have hcs := hb.cell 0 rfl
    have hfs := hb.frozen 0
    gi_wp2_with (refine ⟨trivial, ?_⟩; gi_at_call 108; refine (CallsIn.inRound l' (callsIn_wide.2 (mix_any _ _ _))).mono ?_; rintro e w2 ⟨rfl, rfl⟩)
    refine ⟨KeepsOthers.setCell _ _ _, ?_, ?_, hB.setCell (p := ⟨w.heap.size, 0, none⟩) (Nat.le_refl _) _⟩
    · intro k hk
      refine Below.heap_setCell W ⟨w.heap.size, 0, none⟩ _ k ?_
      rcases hk with rfl | hk
      · simp; omega
      · simp [blk] at hk; simp; omega
    · have := hb.set_ 0 (.int .u64 (mixI (absorb 0 (pre.map (fun n : Nat => (n : Int)))) x))
      rw [List.map_append, List.map_cons, List.map_nil, absorb_snoc]
      exact this
  case stop =>
    rintro D c pre W _ _ h _
    exact h.elim
  case done =>
    rintro D ys W hD rfl ⟨hb, hB⟩ hK
    have hcs := hb.cell 0 rfl
    have hfs := hb.frozen 0
    have hrw : Rd W A n (is l) := hr.new (New.of_below hB)
    have hDn : w.heap.size < D := by omega
    have HB := Lib.hid hb
    have HBB := Lib.hid hB
    have HK := Lib.hid hK
    clear hb hB hK
    gi_wp2_with (refine ⟨trivial, ?_⟩; gi_at_call 108; refine (callsIn_wide.2 (mix_any _ _ _)).mono ?_; rintro e w2 ⟨rfl, rfl⟩)
    have hll : l.length = n := by have := hr.len; rwa [is_length] at this
    have HLL := Lib.hid hll
    clear hll
    gi_loopw [28] (fun i wr => ∃ k : Nat, k ≤ n ∧ i = .int .i64 k ∧ Blk wr w.heap.size 67 #[.int .u64 (absTo (mixI (mixI (absorb 0 ((wds s.data.toList).map (fun n : Nat => (n : Int)))) s.size) n) l k)] ∧ Below w.heap.size w wr ∧ wr.heap[D]? = some (.deferred (some [])))
      (fun i _ => n - (intOf i).toNat)
    case atStart =>
      refine ⟨0, Nat.zero_le _, rfl, ?_, ?_, ?_⟩
      · exact (HB.out.set_ 0 _).set_ 0 _
      · exact (HBB.out.setCell (p := ⟨w.heap.size, 0, none⟩) (Nat.le_refl _) _).setCell (p := ⟨w.heap.size, 0, none⟩) (Nat.le_refl _) _
      · exact (KeepsOthers.setCell _ _ _).same D _ ((KeepsOthers.setCell _ _ _).same D _ HK.out rfl) rfl
    case round =>
      obtain ⟨k, hk, rfl, hb, hB, hKd⟩ := hrel
      have hcs := hb.cell 0 rfl
      have hfs := hb.frozen 0
      have HB := Lib.hid hb
      have HBB := Lib.hid hB
      have HK := Lib.hid hKd
      clear hb hB hKd
      by_cases hlt : k < n
      · obtain ⟨ad, u, rfl, hu, hcu⟩ := (hr.new (New.of_below HBB.out)).at_ hlt
        obtain ⟨z, hz, rfl⟩ := is_at hu
        have HZ := Lib.hid hz
        clear hu hz hr hrw
        gi_wp2_with (refine ⟨trivial, ?_⟩; gi_at_call 108; refine (callsIn_wide.2 (mix_any _ _ _)).mono ?_; rintro e w2 ⟨rfl, rfl⟩)
        go_roundw
        case rel =>
          refine ⟨k + 1, by omega, by go_num, ?_, HBB.out.setCell (p := ⟨w.heap.size, 0, none⟩) (Nat.le_refl _) _, (KeepsOthers.setCell _ _ _).same D _ HK.out rfl⟩
          rw [absTo_succ HZ.out]
          exact HB.out.set_ 0 _
        case measure => simp [intOf]; omega
      · obtain rfl : n = k := by omega
        gi_wp2_with (refine ⟨trivial, ?_⟩; gi_at_call 108; refine (callsIn_wide.2 (mix_any _ _ _)).mono ?_; rintro e w2 ⟨rfl, rfl⟩)
        refine ⟨by simp, .inl ⟨_, _, rfl, run_takeDeferred HK.out, ?_⟩⟩
        refine ⟨_, results_tmp rfl _ _ _, ?_, New.of_below (HBB.out.trans (belowK_b (w := w) (Nat.le_refl _) _ D _ _ (by omega) HK.out rfl rfl))⟩
        refine ret_int ?_
        have := HLL.out
        subst this
        rw [absTo_all]
        unfold sumI
        rw [Array.length_toList]
        rfl

end Go.Proofs.YtblcaeoeeepajaaGreatDoor

namespace Go.Proofs.YtblcaeoeeepajaaGreatDoor
open Go.RowKit Go.Shelf Go.Mem Go.Pure
attribute [local go_sem] Oper.semAt_some

/-- What the words of the bytes, as ints, are. -/
def iw (pre : List Nat) : List Int := pre.map (fun n : Nat => wrap64 (n : Int))
theorem iw_snoc (pre : List Nat) (x : Nat) : iw (pre ++ [x]) = iw pre ++ [wrap64 (x : Int)] := by simp [iw]
set_option maxRecDepth 100000 in
set_option maxHeartbeats 2000000 in
theorem hbytes_any (s : ByteArray) (hs : s.size ≤ 1000000) (A : Option Addr) (n c : Nat) (l : List UInt8) (w : World) (hr : Rd w A n (bs l)) (hn : n ≤ 1000000000) (hA : ∀ k, blk A = some k → k < w.heap.size) :
    Calls Tryz.prog 64 #[.string s, .slice A n c] w fun e w' => e = .returned (.int .u64 (bytesI s.data.toList l)) ∧ New w w' := by
  have hll : l.length = n := by have := hr.len; rwa [bs_length] at this
  have HLL := Lib.hid hll
  clear hll
  obtain ⟨i0, hi, hz0, hz1, hz2⟩ := elemInts.2.1
  refine (callsIn_wide (n := 10)).1 ?_
  refine callsIn_of_wp_marks Tryz.func64 rfl trivial ?_ rfl
  simp only [Tryz.ntmps64, List.size_toArray, List.length_cons, List.length_nil, Nat.reduceAdd, Nat.reduceSub, Array.replicate_succ, Array.replicate_zero, List.push_toArray, List.append_toArray, List.nil_append, List.cons_append]
  gi_wp2_with (first | (gi_at_make; refine wpListIn_make_own _ rfl _ _ 22 rfl w.heap.size 3 i0 (.int .i64 0) 1 Tryz.underlying22 hi hz0 hz1 _ _ _ (n / 8 + 2) rfl rfl (by omega) (by rw [hz2]; omega) (by simp only [maxLen]; omega) (Nat.le_refl _) ?_; intro w1 hown1 hg1) | (refine ⟨trivial, ?_⟩; gi_at_call 87; refine (callsIn_wide.2 (groups_any _ _ _ _)).mono ?_; rintro e w' ⟨Bs, rfl, hBs, hnew, hle⟩))
  obtain ⟨g, hgz⟩ : ∃ g, w1.heap.size = g := ⟨_, rfl⟩
  rw [World.size_alloc, hgz] at hle
  have hwg : w.heap.size ≤ g := by rw [← hgz]; exact hg1.size
  have hn1 : New w w' := (((Chg.refl _ w).grown hg1 (fun k hk => by cases hk)).alloc _).new hnew
  have hb1 : Blk w' g 22 #[.slice (some ⟨w.heap.size, 0, none⟩) 0 (n / 8 + 2)] := by
    have := Blk.new w1 22 #[.slice (some ⟨w.heap.size, 0, none⟩) 0 (n / 8 + 2)]
    rw [hgz] at this
    exact this.chg hnew (fun h => h)
  have ho1 : w'.ownsRow w.heap.size 3 1 (.slice (some ⟨w.heap.size, 0, none⟩) 0 (n / 8 + 2)) 0 [] := own_chg (hown1.alloc _) hnew (fun _ _ h => h)
  have hbs := hBs.cell 0 rfl
  have hbl := hBs.lt
  rw [hgz]
  clear hnew hown1 hg1 hgz
  have hr' := hr.new hn1
  refine wpIn_rangeFunc_ownF rfl (by omega) (gf := 107) (lb := #[.pointer (some ⟨Bs, 0, none⟩)]) rfl trivial (enters_of Tryz.func107 (by kernel_rfl) rfl)
    (groups_stops 9 (by omega) Bs A n c l (by omega) w' hbs hr') (fun h h' => Keep.trans h h') ?kb (Below.refl _ _) (fun _ => rfl)
    (fun pre W => ∃ A1 c1, Blk W g 22 #[.slice A1 pre.length c1] ∧ W.ownsRow w.heap.size 3 1 (.slice A1 pre.length c1) pre.length (is (iw pre)) ∧ Blk W Bs 33 #[.slice A n c] ∧ Below w.heap.size w W)
    (fun _ _ _ => False)
    ?hI (fun _ _ _ _ _ hs _ _ => hs) ⟨_, _, hb1, ho1, hBs, New.below hn1⟩ ?a1 ?assign ?body ?done ?stop
  case assign =>
    intro l' x W K hK
    gi_wp2
    exact hK
  case kb =>
    intro W l' o o' hl' ho _ _ k hk
    refine World.putObj_heap_other ?_
    rcases hk with rfl | hk
    · omega
    · have := hA k hk; omega
  case hI =>
    rintro pre W W' row ⟨A1, c1, h1, h2, h3, h4⟩ hg hr
    exact ⟨A1, c1, blk_kept h1 hg (fun r e => (hr r e).2), row_kept h2 hg (fun r e => (hr r e).2), blk_kept h3 hg (fun r e => (hr r e).2), h4.grown hg h4.size (fun k e => by have := (hr k e).1; omega)⟩
  case body =>
    rintro l' pre x W ⟨A1, c1, hb, ho, hB3, hB⟩ hlen
    have hnw : nw l ≤ 125000001 := by unfold nw; rw [HLL.out]; omega
    have hcs := hb.cell 0 rfl
    have hfs := hb.frozen 0
    have hgl := hb.lt
    obtain ⟨N, hN⟩ : ∃ N, pre.length = N := ⟨_, rfl⟩
    have HN := Lib.hid hN
    rw [hN] at hb ho hcs hlen
    have HB := Lib.hid hb
    have HO := Lib.hid ho
    have HB3 := Lib.hid hB3
    have HBB := Lib.hid hB
    clear hb ho hB3 hB hN
    gi_wp2_with (gi_at_builtin; refine wpListIn_app elemInts rfl _ _ rfl rfl (HO.out.alloc _) rfl Rd.one (by simp [Value.oneCell']) (by simp only [maxLen]; omega) (by omega) (by have := HBB.out.size; simp; omega) ?_; intro A' c' w2 hown2 hg2 hat2; have hb2 := (HB.out.alloc _).grown hg2 (HB.out.ne_own HO.out (by decide)); have hcc2 := hb2.cell 0 rfl; have hff2 := hb2.frozen 0; have HB2 := Lib.hid hb2; have HO2 := Lib.hid hown2; clear hb2 hown2)
    have hchg : Chg (fun k => k = g ∨ blk A1 = some k) W (w2.setCell ⟨g, 0, none⟩ (.slice A' (N + 1) c')) :=
      ((((Chg.refl _ W).alloc _).grown hg2 (fun k hk _ => .inr hk)).setCell (fun _ => .inl rfl) _)
    have hne := HB2.out.ne_own HO2.out (by decide)
    refine ⟨(KeepsOthers.alloc _ _).trans ((KeepsOthers.of_app (HO.out.alloc _) hg2).trans (KeepsOthers.setCell _ _ _)), Keep.of_chg hchg ?_, A', c', ?_, ?_, ?_, ?_⟩
    · rintro k (rfl | hk)
      · exact ⟨HB3.out.lt, fun h => by
          rcases h with h | h
          · omega
          · exact HB3.out.ne_own HO.out (by decide) h⟩
      · have h1 := hA k hk
        have h2 := HBB.out.size
        exact ⟨by omega, fun h => by
          rcases h with h | h
          · omega
          · have := own_blk_le HO.out h; omega⟩
    · rw [List.length_append, HN.out]
      exact HB2.out.set_ 0 _
    · rw [List.length_append, HN.out, iw_snoc, is_append]
      change World.ownsRow _ _ _ _ (.slice A' (N + 1) c') (N + 1) (is (iw pre) ++ [Value.int .i64 (wrap64 (x : Int))])
      exact own_chg (S := fun k => k = g) HO2.out ((Chg.refl (fun k => k = g) w2).setCell (p := ⟨g, 0, none⟩) (fun _ => rfl) _) (fun k hk e => hne (by rw [hk, e]))
    · exact HB3.out.chg hchg (fun h => by
        rcases h with h | h
        · omega
        · exact HB3.out.ne_own HO.out (by decide) h)
    · exact HBB.out.trans (hchg.below (fun k h => by
        rcases h with h | h
        · omega
        · exact (own_blk_le HO.out h).1) HBB.out.size)
  case stop =>
    rintro D c pre W _ _ h _
    exact h.elim
  case done =>
    rintro D ys W hD rfl ⟨A1, c1, hb, ho, hB3, hB⟩ hK
    have hnw : nw l ≤ 125000001 := by unfold nw; rw [HLL.out]; omega
    have hcs := hb.cell 0 rfl
    have hfs := hb.frozen 0
    have hgl := hb.lt
    have hN := wds_length l
    obtain ⟨N, hN2⟩ : ∃ N, nw l = N := ⟨_, rfl⟩
    rw [hN2] at hN hnw
    rw [hN] at hb ho hcs
    have HN := Lib.hid hN
    have HB := Lib.hid hb
    have HO := Lib.hid ho
    have HBB := Lib.hid hB
    have HK := Lib.hid hK
    clear hb ho hB3 hB hN hN2 hK
    gi_wp2_with (first | (gi_at_builtin; refine wpListIn_app elemInts rfl _ _ rfl rfl (HO.out.alloc _) rfl Rd.one (by simp [Value.oneCell']) (by simp only [maxLen]; omega) (by omega) (by have := HBB.out.size; simp; omega) ?_; intro A' c' w2 hown2 hg2 hat2; have hb2 := (HB.out.alloc _).grown hg2 (HB.out.ne_own HO.out (by decide)); have hcc2 := hb2.cell 0 rfl; have hff2 := hb2.frozen 0; have HB2 := Lib.hid hb2; have HO2 := Lib.hid hown2; clear hb2 hown2))
    have hchg : Chg (fun k => k = g ∨ blk A1 = some k) W (w2.setCell ⟨g, 0, none⟩ (.slice A' (N + 1) c')) :=
      ((((Chg.refl _ W).alloc _).grown hg2 (fun k hk _ => .inr hk)).setCell (fun _ => .inl rfl) _)
    have hne := HB2.out.ne_own HO2.out (by decide)
    have ho3 : (w2.setCell ⟨g, 0, none⟩ (.slice A' (N + 1) c')).ownsRow w.heap.size 3 1 (.slice A' (N + 1) c') (N + 1) (is (iw (wds l) ++ [(n : Int)])) := by
      rw [is_append]
      exact own_chg (S := fun k => k = g) HO2.out ((Chg.refl (fun k => k = g) w2).setCell (p := ⟨g, 0, none⟩) (fun _ => rfl) _) (fun k hk e => hne (by rw [hk, e]))
    have hB3 : Below w.heap.size w (w2.setCell ⟨g, 0, none⟩ (.slice A' (N + 1) c')) := HBB.out.trans (hchg.below (fun k h => by
      rcases h with h | h
      · omega
      · exact (own_blk_le HO.out h).1) HBB.out.size)
    have hK3 : (w2.setCell ⟨g, 0, none⟩ (.slice A' (N + 1) c')).heap[D]? = some (.deferred (some [])) :=
      ((KeepsOthers.alloc _ _).trans ((KeepsOthers.of_app (HO.out.alloc _) hg2).trans (KeepsOthers.setCell _ _ _))).same D _ HK.out rfl
    refine ⟨trivial, (callsIn_wide.2 (sum_any s hs A' (N + 1) c' (iw (wds l) ++ [(n : Int)]) _ (Rd.of_own ho3) (by omega))).mono ?_⟩
    rintro e w3 ⟨rfl, hn3⟩
    have hK4 := hn3.heap hK3 (fun h => h)
    have HB3 := Lib.hid hB3
    have HK4 := Lib.hid hK4
    clear hB3 hK3 hK4 hchg ho3
    gi_wp2
    refine ⟨by simp, .inl ⟨_, _, rfl, run_takeDeferred HK4.out, ?_⟩⟩
    refine ⟨_, results_tmp rfl _ _ _, ?_, New.of_below ((HB3.out.trans (New.below hn3 |>.mono HB3.out.size)).trans (belowK_b (w := w) (Nat.le_refl _) _ D _ _ (by have := HBB.out.size; omega) HK4.out rfl rfl))⟩
    refine ret_int ?_
    unfold bytesI
    rw [HLL.out]
    rfl

end Go.Proofs.YtblcaeoeeepajaaGreatDoor

namespace Go.Proofs.YtblcaeoeeepajaaGreatDoor
open Go.RowKit Go.Shelf Go.Mem Go.Pure

theorem WrAt.new (w : World) : WrAt (w.alloc (.cells #[.slice none 0 0] 35)) w.heap.size none [] :=
  ⟨none, 0, 0, Blk.new _ _ _, World.ownsRow_nil _ _ _ _, rfl⟩
theorem WrAt.chg {w w' : World} {g : Nat} {bo : Option Nat} {l : List UInt8} {S : Nat → Prop} (h : WrAt w g bo l) (hc : Chg S w w') (hg : ¬ S g) (hb : ∀ k, bo = some k → ¬ S k) : WrAt w' g bo l := by
  obtain ⟨A, n, c, h1, h2, h3⟩ := h
  exact ⟨A, n, c, h1.chg hc hg, own_chg h2 hc (fun k hk => hb k (by rw [← h3, hk])), h3⟩
theorem WrAt.lt {w : World} {g : Nat} {bo : Option Nat} {l : List UInt8} (h : WrAt w g bo l) : g < w.heap.size := by
  obtain ⟨_, _, _, h1, _⟩ := h
  exact h1.lt
theorem WrAt.blt {w : World} {g : Nat} {bo : Option Nat} {l : List UInt8} (h : WrAt w g bo l) {k : Nat} (hk : bo = some k) : k < w.heap.size ∧ k ≠ g := by
  obtain ⟨A, n, c, h1, h2, h3⟩ := h
  refine ⟨(own_blk_le h2 (by rw [h3]; exact hk)).2, fun e => ?_⟩
  subst e
  exact h1.ne_own h2 (by decide) (by rw [h3]; exact hk)

set_option maxHeartbeats 1000000 in
set_option maxRecDepth 100000 in
theorem frame_any (num : Int) (A : Option Addr) (n c : Nat) (b : List UInt8) (w : World) (hlo : -9223372036854775808 ≤ num) (hhi : num ≤ 9223372036854775807) (hr : Rd w A n (bs b)) (hn : n ≤ 100000000) (hA : ∀ k, blk A = some k → k < w.heap.size) :
    Calls Tryz.prog 61 #[.int .i64 num, .slice A n c] w fun e w' => ∃ A' c', e = .returned (.slice A' (frameP num b).length c') ∧
      w'.ownsRow w.heap.size 5 1 (.slice A' (frameP num b).length c') (frameP num b).length (bs (frameP num b)) ∧ New w w' := by
  have hbl : b.length = n := by have := hr.len; rwa [bs_length] at this
  subst hbl
  have hcl := coreP_len num b hlo hhi (by omega)
  have hul := uvar_len (n := (coreP num b).length) (by omega)
  have hz := uvar_len (zig_lt num hlo hhi)
  go_enter Tryz.func61, Tryz.ntmps61
  go_wp2_with fail
  have hw00 : WrAt ((w.alloc (.cells #[.slice none 0 0] 35)).alloc (.cells #[.slice none 0 0] 35)) w.heap.size none [] := (WrAt.new w).chg ((Chg.refl (fun _ => False) _).alloc _) (fun h => h) (fun _ _ h => h)
  have hw01 : WrAt ((w.alloc (.cells #[.slice none 0 0] 35)).alloc (.cells #[.slice none 0 0] 35)) (w.heap.size + 1) none [] := by
    have := WrAt.new (w.alloc (.cells #[.slice none 0 0] 35))
    rwa [World.size_alloc] at this
  have hn0 : New w ((w.alloc (.cells #[.slice none 0 0] 35)).alloc (.cells #[.slice none 0 0] 35)) := ((Chg.refl _ w).alloc _).alloc _
  have hz0 : ((w.alloc (.cells #[.slice none 0 0] 35)).alloc (.cells #[.slice none 0 0] 35)).heap.size = w.heap.size + 2 := by simp
  generalize ((w.alloc (.cells #[.slice none 0 0] 35)).alloc (.cells #[.slice none 0 0] 35)) = w0 at *
  have hZ0 := Lib.hid hz0
  -- core.Int(number)
  refine (wInt_any w.heap.size none [] num w0 hlo hhi hw00 (by simp)).mono ?_
  rintro e w1 ⟨rfl, b1, hw1, hc1, ha1⟩
  have hs1 := hc1.size
  rw [hz0] at hs1
  have hb1 : ∀ k, b1 = some k → w.heap.size + 2 ≤ k := fun k hk => by
    rcases ha1 with h | ⟨k', h, hk'⟩
    · rw [h] at hk; cases hk
    · rw [hk] at h; cases h; omega
  have hc1' : Chg (fun k => k = w.heap.size) w0 w1 := hc1.mono (fun k _ h => by
    rcases h with h | h
    · exact h
    · cases h)
  have hw1' := hw01.chg hc1' (by omega) (fun _ h => by cases h)
  have hr1 := (hr.new hn0).chg hc1' (fun k hk _ h => by have := hA k hk; omega)
  have hn1 : New w w1 := hn0.trans hc1' (fun k hk h => by omega)
  have H1 := Lib.hid (And.intro hw1 (And.intro hw1' (And.intro hr1 (And.intro hb1 hn1))))
  clear hc1' hn1
  clear hw1 hw1' hr1 hb1 hc1 ha1 hz0 hw00 hw01 hn0
  go_wp2_with fail
  obtain ⟨hw1, hw1', hr1, hb1, hn1⟩ := H1.out
  -- core.Raw(b)
  have hb1n : b1 = none ∨ blk A ≠ b1 := by
    cases hb : b1 with
    | none => exact .inl rfl
    | some k => exact .inr (fun h => by have := hA _ h; have := hb1 k hb; omega)
  refine (wRaw_any w.heap.size b1 ([] ++ uvar (zig num)) A b.length c b w1 hr1 (fun h => by have := hA _ h; omega) hb1n (by omega) hw1 (by simp; omega)).mono ?_
  rintro e w2 ⟨rfl, b2, hw2, hc2, ha2⟩
  have hw2c : WrAt w2 w.heap.size b2 (coreP num b) := by unfold coreP; simpa using hw2
  have hw2' := hw1'.chg hc2 (fun h => by
    rcases h with h | h
    · omega
    · have := hb1 _ h; omega) (fun _ h => by cases h)
  have hn2 : New w w2 := hn1.trans hc2 (fun k hk h => by
    rcases h with h | h
    · omega
    · have := hb1 _ h; omega)
  have hs2 := Nat.le_trans hs1 hc2.size
  have H2 := Lib.hid (And.intro hw2c (And.intro hw2' hn2))
  clear hw2 hw2c hw2' hn2 hc2 ha2 hw1 hw1' hr1 hb1 hn1 H1
  go_wp2_with fail
  obtain ⟨hw2, hw2', hn2⟩ := H2.out
  -- bytes := core.Done()
  refine (wDone_any w.heap.size b2 (coreP num b) w2 hw2 (by omega)).mono ?_
  rintro e w3 ⟨A3, c3, rfl, ho3, hn3⟩
  have hw3' := hw2'.chg hn3 (fun h => h) (fun _ h => by cases h)
  have H3 := Lib.hid (And.intro ho3 (And.intro hw3' (hn2.new hn3)))
  have hs3 := Nat.le_trans hs2 hn3.size
  clear ho3 hw3' hn2 hw2 hw2' hn3 H2
  obtain ⟨N, hN⟩ : ∃ N, (coreP num b).length = N := ⟨_, rfl⟩
  rw [hN] at hcl hul H3 ⊢
  go_wp2_with fail
  obtain ⟨ho3, hw3', hn3⟩ := H3.out
  have hA3 : ∀ k, blk A3 = some k → w2.heap.size ≤ k ∧ k < w3.heap.size := fun k hk => own_blk_le ho3 hk
  -- frame.Raw(bytes)
  refine (wRaw_any (w.heap.size + 1) none [] A3 N c3 (coreP num b) w3 (Rd.of_own ho3) (fun h => by have := hA3 _ h; omega) (.inl rfl) (by omega) hw3' (by simp)).mono ?_
  rintro e w4 ⟨rfl, b4, hw4, hc4, ha4⟩
  have hr4 : Rd w4 A3 N (bs (coreP num b)) := (Rd.of_own ho3).chg hc4 (fun k hk _ h => by
    have := hA3 k hk
    rcases h with h | h
    · omega
    · cases h)
  have hw4c : WrAt w4 (w.heap.size + 1) b4 (rawP (coreP num b)) := by unfold rawP; rw [hN]; simpa using hw4
  have hn4 : New w w4 := hn3.trans hc4 (fun k hk h => by
    rcases h with h | h
    · omega
    · cases h)
  have hb4 : ∀ k, b4 = some k → w3.heap.size ≤ k := fun k hk => by
    rcases ha4 with h | ⟨k', h, hk'⟩
    · rw [h] at hk; cases hk
    · rw [hk] at h; cases h; exact hk'
  have H4 := Lib.hid (And.intro hr4 (And.intro hw4c (And.intro hn4 (And.intro hb4 (And.intro hc4.size hA3)))))
  clear hr4 hw4 hw4c hn4 hb4 ha4 hc4 hA3 ho3 hw3' hn3 H3
  go_wp2_with fail
  obtain ⟨hr4, hw4, hn4, hb4, hs4, hA3⟩ := H4.out
  -- hash.Bytes("entry", bytes)
  refine (hbytes_any ⟨#[101, 110, 116, 114, 121]⟩ (by decide) A3 N c3 (coreP num b) w4 hr4 (by omega) (fun k hk => by have := hA3 k hk; omega)).mono ?_
  rintro e w5 ⟨rfl, hn5⟩
  have hw5 := hw4.chg hn5 (fun h => h) (fun _ _ h => h)
  have H5 := Lib.hid (And.intro hw5 (And.intro (hn4.new hn5) hb4))
  have hs5 := Nat.le_trans hs4 hn5.size
  clear hr4 hw4 hn4 hb4 hA3 hn5 hw5 H4
  rw [show bytesI (ByteArray.mk #[101, 110, 116, 114, 121]).data.toList (coreP num b) = (sumP (coreP num b) : Int) from bytesI_toNat _]
  go_wp2_with fail
  obtain ⟨hw5, hn5, hb4⟩ := H5.out
  -- frame.Uint(..)
  refine (wUint_any (w.heap.size + 1) b4 (rawP (coreP num b)) (sumP (coreP num b)) w5 (sumP_lt _) hw5 (by unfold rawP; rw [List.length_append, hN]; omega)).mono ?_
  rintro e w6 ⟨rfl, b6, hw6, hc6, ha6⟩
  have hn6 : New w w6 := hn5.trans hc6 (fun k hk h => by
    rcases h with h | h
    · omega
    · have := hb4 _ h; omega)
  have hw6c : WrAt w6 (w.heap.size + 1) b6 (frameP num b) := hw6
  have H6 := Lib.hid (And.intro hw6c hn6)
  clear hw5 hn5 hb4 hw6 hw6c hn6 hc6 ha6 H5
  go_wp2_with fail
  obtain ⟨hw6, hn6⟩ := H6.out
  refine (wDone_any (w.heap.size + 1) b6 (frameP num b) w6 hw6 (by have := frameP_len num b hlo hhi hn; omega)).mono ?_
  rintro e w7 ⟨A7, c7, rfl, ho7, hn7⟩
  have H7 := Lib.hid (And.intro (own_base ho7 (hn6.size)) (hn6.new hn7))
  clear hw6 hn6 ho7 hn7 H6
  obtain ⟨M, hM⟩ : ∃ M, (frameP num b).length = M := ⟨_, rfl⟩
  have HM := Lib.hid hM
  rw [hM] at H7 ⊢
  clear hM
  go_wp2
  go_ret
  rw [HM.out]
  exact ⟨A7, c7, rfl, H7.out.1, H7.out.2⟩

end Go.Proofs.YtblcaeoeeepajaaGreatDoor

namespace Go.Proofs.YtblcaeoeeepajaaGreatDoor
set_option linter.unusedVariables false
open Go.RowKit Go.Shelf Go.Mem Go.Pure

/-- What first returns. -/
def FirstPost (w : World) (b : List UInt8) (num : Int) (e : Ending) (w' : World) : Prop :=
  New w w' ∧ ((firstC b num = none ∧ e = .returned (.tuple #[.slice none 0 0, .int .i64 0, .bool false])) ∨
    ∃ r A n c, firstC b num = some r ∧ e = .returned (.tuple #[.slice A n c, .int .i64 (frameP num r).length, .bool true]) ∧ w'.ownsRow w.heap.size 5 1 (.slice A n c) n (bs r))

set_option maxHeartbeats 2000000 in
set_option maxRecDepth 100000 in
theorem first_any (num : Int) (A : Option Addr) (n c : Nat) (b : List UInt8) (w : World) (hlo : -9223372036854775808 ≤ num) (hhi : num ≤ 9223372036854775807) (hr : Rd w A n (bs b)) (hn : n ≤ 100000000) (hnc : n ≤ c) (hcm : c ≤ maxLen) (hA : ∀ k, blk A = some k → k < w.heap.size) :
    Calls Tryz.prog 106 #[.slice A n c, .int .i64 num] w (FirstPost w b num) := by
  have hbl : b.length = n := by have := hr.len; rwa [bs_length] at this
  subst hbl
  have hcm' : c ≤ 9223372036854775807 := hcm
  obtain ⟨m, hm1, hm2, hm3⟩ : ∃ m : Nat, m ≤ b.length ∧ b.take m = b.take 10 ∧ ((b.length : Int) ≤ 10 ∧ (m : Int) = b.length ∨ (10 : Int) ≤ b.length ∧ (m : Int) = 10) := by
    rcases Nat.lt_or_ge b.length 10 with h | h
    · exact ⟨b.length, Nat.le_refl _, by rw [List.take_of_length_le (Nat.le_refl _), List.take_of_length_le (by omega)], .inl ⟨by omega, rfl⟩⟩
    · exact ⟨10, h, rfl, .inr ⟨by omega, rfl⟩⟩
  have hmin := fun ts t W => run_min2 (P := Tryz.prog) (b.length : Int) 10 (m : Int) hm3 ts t W
  have hupto := fun W => run_upto elemBytes .i64 A b.length c m (m : Int) rfl (by omega) W
  have HM2 := Lib.hid hm2
  clear hm2 hm3
  go_enter Tryz.func106, Tryz.ntmps106
  go_wp2_with fail
  -- head := wire.Read(..)
  have hr1 : Rd w A m (bs (b.take 10)) := by
    have := hr.take hm1
    rwa [bs_take, HM2.out] at this
  refine (read_any A m c (b.take 10) w hr1 (by omega)).mono ?_
  rintro e w1 ⟨g1, bo1, rfl, hw1, hn1, hg1, hb1⟩
  have H1 := Lib.hid (And.intro hw1 (And.intro hn1 hg1))
  clear hw1 hn1 hb1 hr1 hmin hupto hg1
  go_wp2_with fail
  obtain ⟨hw1, hn1, hg1⟩ := H1.out
  refine (rUint_any g1 bo1 (b.take 10) 0 w1 hw1).mono ?_
  rintro e w2 ⟨rfl, _, hc2⟩
  have hn2 : New w w2 := hn1.trans hc2 (fun k hk h => by omega)
  have hr2 := hr.new hn2
  clear hw1 hn1 hg1 H1 hc2
  have hlen0 := uintR_lt (b.take 10) 0
  generalize hlq : (uintR (b.take 10) 0).1 = len at *
  have HL := Lib.hid hlq
  clear hlq
  have H2 := Lib.hid (And.intro hn2 hr2)
  clear hn2 hr2
  by_cases hbig : b.length < len
  · have HG := Lib.hid (firstC_big (num := num) HL.out hbig)
    have hbig' : decide ((b.length : Int) < (len : Int)) = true := by simp; omega
    go_wp2_with fail
    go_ret3
    exact ⟨H2.out.1, .inl ⟨HG.out, rfl⟩⟩
  have hbig' : decide ((b.length : Int) < (len : Int)) = false := by simp; omega
  obtain ⟨m2, hm1', hm2, hm3⟩ : ∃ m2 : Nat, m2 ≤ b.length ∧ b.take m2 = b.take (len + 20) ∧ ((b.length : Int) ≤ (len : Int) + 20 ∧ (m2 : Int) = b.length ∨ (len : Int) + 20 ≤ b.length ∧ (m2 : Int) = (len : Int) + 20) := by
    rcases Nat.lt_or_ge b.length (len + 20) with h | h
    · exact ⟨b.length, Nat.le_refl _, by rw [List.take_of_length_le (Nat.le_refl _), List.take_of_length_le (by omega)], .inl ⟨by omega, rfl⟩⟩
    · exact ⟨len + 20, h, rfl, .inr ⟨by omega, by omega⟩⟩
  have hmin := fun ts t W => run_min2 (P := Tryz.prog) (b.length : Int) ((len : Int) + 20) (m2 : Int) hm3 ts t W
  have hupto := fun W => run_upto elemBytes .i64 A b.length c m2 (m2 : Int) rfl (by omega) W
  have HM2' := Lib.hid hm2
  clear hm2 hm3 HM2
  go_wp2_with fail
  -- frame := wire.Read(..)
  have hr3 : Rd w2 A m2 (bs (b.take (len + 20))) := by
    have := H2.out.2.take hm1'
    rwa [bs_take, HM2'.out] at this
  refine (read_any A m2 c (b.take (len + 20)) w2 hr3 (by omega)).mono ?_
  rintro e w3 ⟨g3, bo3, rfl, hw3, hn3, hg3, hb3⟩
  have hn3' : New w w3 := H2.out.1.new hn3
  have hg3' : w.heap.size ≤ g3 := Nat.le_trans H2.out.1.size hg3
  have hb3' : ∀ k, bo3 = some k → w.heap.size ≤ k := fun k hk => Nat.le_trans H2.out.1.size (hb3 k hk)
  have H3 := Lib.hid (And.intro hw3 (And.intro hn3' hb3'))
  clear hw3 hn3 hn3' hb3 hb3' hr3 hmin hupto H2 hg3
  go_wp2_with fail
  obtain ⟨hw3, hn3, hb3⟩ := H3.out
  have hg3l := hw3.lt
  -- bytes := frame.Raw()
  refine (rRaw_any g3 bo3 (b.take (len + 20)) 0 w3 hw3 (by simp; omega)).mono ?_
  rintro e w4 ⟨A4, n4, c4, rfl, ho4, hw4, hc4⟩
  have hn4 : New w w4 := hn3.trans hc4 (fun k hk h => by omega)
  have hrl := rawR_rest (b.take (len + 20)) 0
  generalize hq4 : rawR (b.take (len + 20)) 0 = q4 at *
  obtain ⟨bytes, r1, e1⟩ := q4
  have HQ4 := Lib.hid hq4
  clear hq4
  simp only at ho4 hw4 hrl
  have hbn : bytes.length = n4 := by have := ho4.1; simpa using this
  have hbl2 : bytes.length ≤ 100000000 := by
    have : (b.take (len + 20)).length ≤ b.length := by simp; omega
    omega
  have hz4 := hc4.size
  have H4 := Lib.hid (And.intro hw4 (And.intro hn4 (And.intro ho4 hbn)))
  have hn4l : n4 ≤ 100000000 := by omega
  clear hw3 hn3 hb3 hw4 hn4 ho4 hc4 hbn H3 hrl
  go_wp2_with fail
  obtain ⟨hw4, hn4, ho4, hbn⟩ := H4.out
  -- sum := frame.Uint()
  refine (rUint_any g3 bo3 r1 e1 w4 hw4).mono ?_
  rintro e w5 ⟨rfl, _, hc5⟩
  have hn5 : New w w5 := hn4.trans hc5 (fun k hk h => by omega)
  have ho5 : w5.ownsRow w3.heap.size 5 1 (.slice A4 n4 c4) n4 (bs bytes) := own_chg ho4 hc5 (fun k hk h => by
    have := own_blk_le ho4 hk
    omega)
  have hsl := uintR_lt r1 e1
  generalize hq5 : (uintR r1 e1).1 = sum at *
  have HQ5 := Lib.hid hq5
  clear hq5
  have hs3 : w.heap.size ≤ w3.heap.size := Nat.le_trans hg3' (Nat.le_of_lt hg3l)
  have H5 := Lib.hid (And.intro hn5 (And.intro ho5 hbn))
  clear hw4 hn4 ho4 hbn hn5 ho5 hc5 H4 hz4
  go_wp2_with fail
  obtain ⟨hn5, ho5, hbn⟩ := H5.out
  -- core := wire.Read(bytes)
  refine (read_any A4 n4 c4 bytes w5 (Rd.of_own ho5) (by omega)).mono ?_
  rintro e w6 ⟨g6, bo6, rfl, hw6, hn6, hg6, hb6⟩
  have hn6' : New w w6 := hn5.new hn6
  have ho6 : w6.ownsRow w3.heap.size 5 1 (.slice A4 n4 c4) n4 (bs bytes) := own_chg ho5 hn6 (fun _ _ h => h)
  have hA4 : ∀ k, blk A4 = some k → k < w5.heap.size := fun k hk => (own_blk_le ho5 hk).2
  have hs5 := hn5.size
  have H6 := Lib.hid (And.intro hw6 (And.intro hn6' (And.intro ho6 (And.intro hA4 hbn))))
  clear hn5 ho5 hbn hw6 hn6 hn6' ho6 hA4 hb6 H5
  go_wp2_with fail
  obtain ⟨hw6, hn6, ho6, hA4, hbn⟩ := H6.out
  -- at := core.Int()
  refine (rInt_any g6 bo6 bytes 0 w6 hw6).mono ?_
  rintro e w7 ⟨rfl, hw7, hc7⟩
  have hn7 : New w w7 := hn6.trans hc7 (fun k hk h => by omega)
  have ho7 : w7.ownsRow w3.heap.size 5 1 (.slice A4 n4 c4) n4 (bs bytes) := own_chg ho6 hc7 (fun k hk h => by have := hA4 k hk; omega)
  have hir : (intR bytes 0).2.1.length ≤ bytes.length := uintR_rest bytes 0
  generalize hq7 : intR bytes 0 = q7 at *
  obtain ⟨at_, c1, x1⟩ := q7
  have HQ7 := Lib.hid hq7
  clear hq7
  simp only at hw7 hir ⊢
  have H7 := Lib.hid (And.intro hw7 (And.intro hn7 (And.intro ho7 (And.intro hA4 hbn))))
  clear hw6 hn6 ho6 hA4 hbn hw7 hn7 ho7 hc7 H6
  go_wp2_with fail
  obtain ⟨hw7, hn7, ho7, hA4, hbn⟩ := H7.out
  -- record := core.Raw()
  refine (rRaw_any g6 bo6 c1 x1 w7 hw7 (by omega)).mono ?_
  rintro e w8 ⟨A8, n8, c8, rfl, ho8, hw8, hc8⟩
  have hn8 : New w w8 := hn7.trans hc8 (fun k hk h => by omega)
  have ho8' : w8.ownsRow w3.heap.size 5 1 (.slice A4 n4 c4) n4 (bs bytes) := own_chg ho7 hc8 (fun k hk h => by have := hA4 k hk; omega)
  have hrr := rawR_rest c1 x1
  generalize hq8 : rawR c1 x1 = q8 at *
  obtain ⟨rcd, c2, x2⟩ := q8
  have HQ8 := Lib.hid hq8
  clear hq8
  simp only at ho8 hw8 hrr
  have hs7 := hn7.size
  have hr8n : rcd.length = n8 := by have := ho8.1; simpa using this
  have hn8l : n8 ≤ 100000000 := by omega
  have H8 := Lib.hid (And.intro hw8 (And.intro hn8 (And.intro ho8 (And.intro ho8' (And.intro hr8n hbn)))))
  clear hw7 hn7 ho7 hA4 hbn hw8 hn8 ho8 ho8' hc8 hr8n H7
  have HV := Lib.hid (firstC_val (num := num) HL.out hbig HQ4.out HQ5.out HQ7.out HQ8.out)
  go_wp2_with fail
  obtain ⟨hw8, hn8, ho8, ho8', hr8n, hbn⟩ := H8.out
  -- core.End()
  refine (rEnd_any g6 bo6 c2 x2 w8 hw8).mono ?_
  rintro e w9 ⟨rfl, rfl⟩
  clear hw8 hn8 ho8 ho8' hr8n hbn
  by_cases hE : endR c2 x2 = 0
  · have hE' : (endR c2 x2 != 0) = false := by simpa using hE
    have HE := Lib.hid hE
    clear hE
    by_cases hAt : at_ = num
    · subst hAt
      go_wp2_with fail
      obtain ⟨hw8, hn8, ho8, ho8', hr8n, hbn⟩ := H8.out
      have hA4 : ∀ k, blk A4 = some k → k < w8.heap.size := fun k hk => (own_blk_le ho8' hk).2
      refine (hbytes_any ⟨#[101, 110, 116, 114, 121]⟩ (by decide) A4 n4 c4 bytes w8 (Rd.of_own ho8') (by omega) hA4).mono ?_
      rintro e w9 ⟨rfl, hn9⟩
      rw [show bytesI (ByteArray.mk #[101, 110, 116, 114, 121]).data.toList bytes = (sumP bytes : Int) from bytesI_toNat _]
      have ho9 : w9.ownsRow w7.heap.size 5 1 (.slice A8 n8 c8) n8 (bs rcd) := own_chg ho8 hn9 (fun _ _ h => h)
      have hn9' : New w w9 := hn8.new hn9
      have H9 := Lib.hid (And.intro hn9' (And.intro ho9 hr8n))
      clear hw8 hn8 ho8 ho8' hr8n hbn hA4 hn9 ho9 hn9' H8
      by_cases hS : sum = sumP bytes
      · have hS' : ((sum : Int) != (sumP bytes : Int)) = false := by simp [hS]
        have HS := Lib.hid hS
        clear hS
        have HV2 := Lib.hid (HV.out.trans (if_neg (by have := HE.out; have := HS.out; simp [*])))
        go_wp2_with fail
        obtain ⟨hn9, ho9, hr8n⟩ := H9.out
        -- own := Frame(number, record)
        refine (frame_any at_ A8 n8 c8 rcd w9 hlo hhi (Rd.of_own ho9) (by omega) (fun k hk => (own_blk_le ho9 hk).2)).mono ?_
        rintro e w10 ⟨A10, c10, rfl, ho10, hn10⟩
        have hn10' := hn9.new hn10
        have hr10 := hr.new hn10'
        have ho10' : w10.ownsRow w7.heap.size 5 1 (.slice A8 n8 c8) n8 (bs rcd) := own_chg ho9 hn10 (fun _ _ h => h)
        have hfl := frameP_len at_ rcd hlo hhi (by omega)
        obtain ⟨fr, hfr⟩ : ∃ fr, frameP at_ rcd = fr := ⟨_, rfl⟩
        obtain ⟨fl, hfl2⟩ : ∃ fl, fr.length = fl := ⟨_, rfl⟩
        rw [hfr] at hfl ho10 ⊢
        rw [hfl2] at hfl ho10 ⊢
        have HFR := Lib.hid hfr
        have HFL := Lib.hid hfl2
        have H10 := Lib.hid (And.intro hn10' (And.intro ho10' (And.intro hr10 ho10)))
        clear hn9 ho9 hr8n ho10 ho10' hn10 hn10' hr10 hfr hfl2 H9
        by_cases hfl3 : b.length < fl
        · have hfl3' : decide ((b.length : Int) < (fl : Int)) = true := by simp; omega
          have HN : Hid (firstC b at_ = none) := by
            show _ = _
            rw [HV2.out, HFR.out, HFL.out, if_neg]
            intro h
            have := congrArg List.length h
            rw [HFL.out] at this
            simp at this
            omega
          go_wp2_with fail
          go_quiet (fail)
          go_wp2
          go_ret3
          exact ⟨H10.out.1.drewN _, .inl ⟨HN.out, rfl⟩⟩
        · have hfl3' : decide ((b.length : Int) < (fl : Int)) = false := by simp; omega
          have hupto := fun W => run_upto elemBytes .i64 A b.length c fl (fl : Int) rfl (by omega) W
          have hst1 := fun q => run_tostr (P := Tryz.prog) Tryz.underlying33 Tryz.underlying5 Tryz.underlying9 (W := w10.drewN q) (A := A10) (n := fl) (c := c10) (l := fr) (Rd.of_own H10.out.2.2.2)
          have hst2 := fun q => run_tostr (P := Tryz.prog) Tryz.underlying33 Tryz.underlying5 Tryz.underlying9 (W := w10.drewN q) (A := A) (n := fl) (c := c) (l := b.take fl) (by have := H10.out.2.2.1.take (k := fl) (by omega); rwa [bs_take] at this)
          go_wp2_with fail
          go_quiet (fail)
          go_wp2
          · have hne : (!fr == b.take fl) = true := by assumption
            have hne' : fr ≠ b.take fl := by simpa using hne
            go_ret3
            refine ⟨H10.out.1.drewN _, .inl ⟨?_, rfl⟩⟩
            rw [HV2.out, HFR.out, HFL.out, if_neg (fun h => hne' h.symm)]
          · have heq : (!fr == b.take fl) = false := by assumption
            have heq' : fr = b.take fl := by simpa using heq
            go_ret3
            refine ⟨H10.out.1.drewN _, .inr ⟨rcd, A8, n8, c8, ?_, ?_, ?_⟩⟩
            · rw [HV2.out, HFR.out, HFL.out, if_pos heq'.symm]
            · rw [HFR.out, HFL.out]; rfl
            · exact own_base H10.out.2.1 hs7
      · have hS' : ((sum : Int) != (sumP bytes : Int)) = true := by simp; omega
        have HS := Lib.hid hS
        clear hS
        go_wp2_with fail
        go_ret3
        refine ⟨H9.out.1, .inl ⟨?_, rfl⟩⟩
        rw [HV.out, if_pos (.inr (.inr HS.out))]
    · have hAt' : (at_ != num) = true := by simpa using hAt
      have HAt := Lib.hid hAt
      clear hAt
      go_wp2_with fail
      go_ret3
      refine ⟨H8.out.2.1, .inl ⟨?_, rfl⟩⟩
      rw [HV.out, if_pos (.inr (.inl HAt.out))]
  · have hE' : (endR c2 x2 != 0) = true := by simpa using hE
    have HE := Lib.hid hE
    clear hE
    go_wp2_with fail
    go_ret3
    refine ⟨H8.out.2.1, .inl ⟨?_, rfl⟩⟩
    rw [HV.out, if_pos (.inl HE.out)]

end Go.Proofs.YtblcaeoeeepajaaGreatDoor

namespace Go.Mem
open Go.RowKit Go.Shelf

/-- What turns blocks from B on that are no cells, and makes new ones, leaves I as it is. -/
def Stab (B : Nat) (I : World → Prop) : Prop :=
  ∀ W W' row, I W → W.grownBy W' row → (∀ r, row = some r → B ≤ r ∧ ∃ o : Obj, W.heap[r]? = some o ∧ o.isCells = false) → I W'
theorem Stab.put {B : Nat} {I : World → Prop} (h : Stab B I) {W : World} {l : Nat} {o : Obj} (o' : Obj) (hs : I W) (hB : B ≤ l) (hl : W.heap[l]? = some o) (ho : o.isCells = false) : I (W.putObj l o') :=
  h W _ (some l) hs (grownBy_putObj' W l o') (fun r e => by cases e; exact ⟨hB, o, hl, ho⟩)
theorem Stab.new {B : Nat} {I : World → Prop} (h : Stab B I) {W W' : World} (hs : I W) (hn : New W W') : I W' :=
  h W W' none hs ⟨hn.os, hn.tape, hn.output, hn.size, fun k hk _ => hn.block k hk (fun h => h)⟩ (fun r e => by cases e)
theorem Stab.alloc {B : Nat} {I : World → Prop} (h : Stab B I) {W : World} (o : Obj) (hs : I W) : I (W.alloc o) := h.new hs ((Chg.refl _ W).alloc o)
theorem Stab.and {B : Nat} {I I' : World → Prop} (h : Stab B I) (h' : Stab B I') : Stab B (fun W => I W ∧ I' W) := fun W W' row hs hg hr => ⟨h W W' row hs.1 hg hr, h' W W' row hs.2 hg hr⟩
theorem Stab.const (B : Nat) (p : Prop) : Stab B (fun _ => p) := fun _ _ _ h _ _ => h
theorem Stab.blk (B g : Nat) (t : TypeId) (cs : Array Value) : Stab B (fun W => Blk W g t cs) := fun _ _ _ hs hg hr => blk_kept hs hg (fun r e => (hr r e).2)
theorem Stab.rd (B : Nat) (A : Option Addr) (n : Nat) (xs : List Value) : Stab B (fun W => Rd W A n xs) := fun _ _ _ hs hg hr => rd_kept hs hg (fun r e => (hr r e).2)
theorem Stab.own (B base : Nat) (e : TypeId) (A : Option Addr) (n c : Nat) (xs : List Value) : Stab B (fun W => W.ownsRow base e 1 (.slice A n c) n xs) := fun _ _ _ hs hg hr => row_kept hs hg (fun r e => (hr r e).2)
theorem Stab.below {B B' : Nat} {w : World} (hB : B' ≤ w.heap.size) (hle : B' ≤ B) : Stab B (fun W => Below B' w W) := fun _ _ _ hs hg hr => hs.grown hg (Nat.le_trans hB hs.size) (fun k e => Nat.le_trans hle (hr k e).1)

/-- The contract of an iterator. -/
def SeqF {α : Type} (F : Fence) (n : Nat) (P : Program) (gf : Nat) (lb : Array Value) (encs : α → Array Value) (Fx : List α → α → World → Prop) (Kp : World → World → Prop) (S Sp : List α → World → Prop) (w : World) : Prop :=
  ∀ (l : Nat) (J Jx : List α → World → Prop) (W : World), New w W → (∀ s W W', J s W → New W W' → J s W') →
    (∀ pre x W1, J pre W1 → Fx pre x W1 → YieldAt F (n - 1) P l (encs x) W1 fun e W' =>
      (e = .returned (.bool true) ∧ J (pre ++ [x]) W' ∧ Kp W1 W') ∨ (e = .returned (.bool false) ∧ Jx (pre ++ [x]) W')) →
    J [] W →
    CallsIn F n P gf (#[.func (.yield l) #[] #[]] ++ lb) W fun e W' => (∃ v, e = .returned v) ∧ ((∃ xs, S xs W' ∧ J xs W') ∨ (∃ pre, Sp pre W' ∧ Jx pre W'))

theorem wpIn_range {F : Fence} {n : Nat} {P : Program} {α : Type} {g : Operand} {ps : Array Tmp} {assign body : Code} {Q : Exit → Act → World → Prop} {a : Act} {w : World}
    (hro : F.round = none) (h1 : 1 ≤ n) {gf : Nat} {lb : Array Value} (hg : a.eval g = .func (.func gf) #[] lb) (hFg : F.fn gf) (eg : ∀ args w, (callFunc gf args).run P w = .ok (.enter gf args) w)
    {encs : α → Array Value} {Fx : List α → α → World → Prop} {Kp : World → World → Prop} {S Sp : List α → World → Prop} (hseq : SeqF F (n - 1) P gf lb encs Fx Kp S Sp w)
    (hKt : ∀ {A B C : World}, Kp A B → Kp B C → Kp A C) (hKb : ∀ (W : World) (l : Nat) (o o' : Obj), w.heap.size ≤ l → W.heap[l]? = some o → o.isCells = false → Kp W (W.putObj l o')) (hps : ∀ x, (encs x).size = ps.size)
    (hFx : ∀ pre x, Stab w.heap.size (Fx pre x)) (hS : ∀ xs, Stab w.heap.size (S xs)) (hSp : ∀ xs, Stab w.heap.size (Sp xs))
    (I : List α → World → Prop) (Ix : Code → List α → World → Prop) (hI : ∀ xs, Stab w.heap.size (I xs)) (hIx : ∀ c xs, Stab w.heap.size (Ix c xs)) (h0 : I [] w) (a₁ : α → Act)
    (hassign : ∀ (l : Nat) (x : α) (W : World) (K : Act → World → Prop), K (a₁ x) W →
      assign.wpIn (F.inRound l) (n - 1 - 1) P (Exit.then K (fun _ _ _ => False)) { tmps := (ps.zip (encs x)).foldl (fun t (p, v) => t.setIfInBounds p v) a.tmps, defers := [] } W)
    (hbody : ∀ (l : Nat) (pre : List α) (x : α) (W : World), I pre W → Fx pre x W → body.wpIn (F.inRound l) (n - 1 - 1) P (ownPostG w.heap.size Kp I Ix (pre ++ [x]) W) (a₁ x) W)
    (hdone : ∀ (D : Nat) (xs : List α) (W : World), w.heap.size ≤ D → S xs W → I xs W → W.heap[D]? = some (.deferred (some [])) → Q .normal { a with defers := { target := .collected D, args := #[] } :: a.defers } W)
    (hstop : ∀ (D : Nat) (c : Code) (pre : List α) (W : World), w.heap.size ≤ D → Sp pre W → Ix c pre W → W.heap[D]? = some (.deferred (some [])) → c.wpIn F n P Q { a with defers := { target := .collected D, args := #[] } :: a.defers } W) :
    (Code.rangeFunc g ps assign body).wpIn F n P Q a w := by
  refine wpIn_rangeFunc ?_
  intro fn hfn
  rw [hro]
  obtain ⟨rc, hrc⟩ : ∃ rc : LoopState → Option Code → Loop, rc = fun st pe => { state := st, pending := pe, fn, tmps := a.tmps, params := ps, assign, body, defers := w.heap.size } := ⟨_, rfl⟩
  obtain ⟨W1, hW1⟩ : ∃ W1, (w.alloc (.deferred (some []))).alloc (.loop (rc .ready none)) = W1 := ⟨_, rfl⟩
  have hL1 : W1.heap[w.heap.size + 1]? = some (.loop (rc .ready none)) := by
    rw [← hW1]; have := World.alloc_heap_new (w.alloc (.deferred (some []))) (.loop (rc .ready none)); rwa [World.size_alloc] at this
  have hK1 : W1.heap[w.heap.size]? = some (.deferred (some [])) := by
    rw [← hW1]; exact (Below.heap_alloc _ _ _ (by simp)).trans (World.alloc_heap_new w _)
  have hN1 : New w W1 := by rw [← hW1]; exact ((Chg.refl _ w).alloc _).alloc _
  have hI1 : I [] W1 := (hI []).new h0 hN1
  refine ⟨w.heap.size + 1, [{ target := .collected w.heap.size, args := #[] }], W1, { target := .fn (.func gf) lb, args := #[.func (.yield (w.heap.size + 1)) #[] #[]] }, W1, gf,
    #[.func (.yield (w.heap.size + 1)) #[] #[]] ++ lb, W1, ?_, ?_, ?_, ?_, fun _ => h1, ?_⟩
  · rw [← hW1, hrc]; exact run_enterLoop_outer _ _ _ _ _
  · simp only [resolve, hg]
    simp [go_sem]
  · intro f' hf'; simp [Target.leads] at hf'; subst hf'; exact hFg
  · simp [invoke, go_sem, eg]
  · refine (hseq (w.heap.size + 1)
      (fun pre W => I pre W ∧ W.heap[w.heap.size + 1]? = some (.loop (rc .ready none)) ∧ W.heap[w.heap.size]? = some (.deferred (some [])))
      (fun pre W => ∃ c, Ix c pre W ∧ W.heap[w.heap.size + 1]? = some (.loop (rc .done (some c))) ∧ W.heap[w.heap.size]? = some (.deferred (some [])))
      W1 hN1 (fun s A B hs hn => ⟨(hI s).new hs.1 hn, hn.heap hs.2.1 (fun h => h), hn.heap hs.2.2 (fun h => h)⟩) ?_ ⟨hI1, hL1, hK1⟩).mono ?_
    · rintro pre x W ⟨hi, hl, hk⟩ hfx
      have hlt : w.heap.size + 1 < W.heap.size := (Array.getElem?_eq_some_iff.1 hl).1
      have hy := run_yield (P := P) (args := encs x) hl (by rw [hrc]; exact hps x)
      rw [hrc] at hy
      refine ⟨fn, _, assign, body, hy, roundIn_of_wpIn hfn (hassign _ x W _ ?_)⟩
      clear hy
      refine ⟨_, run_beginRound hl (by rw [hrc]), ?_⟩
      obtain ⟨Wb, hWb⟩ : ∃ Wb, W.putObj (w.heap.size + 1) (.loop { rc .ready none with state := .busy }) = Wb := ⟨_, rfl⟩
      have hl2 : Wb.heap[w.heap.size + 1]? = some (.loop { rc .ready none with state := .busy }) := by rw [← hWb]; exact World.putObj_heap_same hlt
      have hk2 : Wb.heap[w.heap.size]? = some (.deferred (some [])) := by rw [← hWb]; exact (World.putObj_heap_other (by omega)).trans hk
      have hw2 : Kp W Wb := by rw [← hWb]; exact hKb _ _ _ _ (by omega) hl rfl
      have hi2 : I pre Wb := by rw [← hWb]; exact (hI pre).put _ hi (by omega) hl rfl
      have hf2 : Fx pre x Wb := by rw [← hWb]; exact (hFx pre x).put _ hfx (by omega) hl rfl
      rw [hWb]
      refine wpIn_mono (hbody _ pre x Wb hi2 hf2) ?_
      have fin : ∀ (jump : Option Code) (W3 : World), KeepsFrom w.heap.size Wb W3 →
          (Instr.endRound (w.heap.size + 1) jump).run P W3 = .ok (.bool jump.isNone) (W3.putObj (w.heap.size + 1) (.loop (rc (if jump.isNone then .ready else .done) jump))) ∧
          W3.heap[w.heap.size + 1]? = some (.loop { rc .ready none with state := .busy }) ∧
          (W3.putObj (w.heap.size + 1) (.loop (rc (if jump.isNone then .ready else .done) jump))).heap[w.heap.size + 1]? = some (.loop (rc (if jump.isNone then .ready else .done) jump)) ∧
          (W3.putObj (w.heap.size + 1) (.loop (rc (if jump.isNone then .ready else .done) jump))).heap[w.heap.size]? = some (.deferred (some [])) := fun jump W3 hk3 => by
        have hl3 := hk3.same _ _ (by omega) hl2 rfl
        have := run_endRound (P := P) jump hl3
        rw [hrc] at this ⊢
        exact ⟨this, by rw [hrc] at hl3; exact hl3, World.putObj_heap_same (Array.getElem?_eq_some_iff.1 hl3).1, (World.putObj_heap_other (by omega)).trans (hk3.same _ _ (Nat.le_refl _) hk2 rfl)⟩
      rintro e a3 W3 hp
      cases e with
      | normal =>
        obtain ⟨hk3, hkp3, hi3⟩ := hp
        obtain ⟨hr, hl3, hl4, hk4⟩ := fin none W3 hk3
        exact ⟨_, _, hr, .inl ⟨rfl, ⟨(hI _).put _ hi3 (by omega) hl3 rfl, hl4, hk4⟩, hKt (hKt hw2 hkp3) (hKb _ _ _ _ (by omega) hl3 rfl)⟩⟩
      | ret =>
        obtain ⟨hk3, hi3⟩ := hp
        obtain ⟨hr, hl3, hl4, hk4⟩ := fin (some .ret) W3 hk3
        exact ⟨_, _, hr, .inr ⟨rfl, .ret, (hIx _ _).put _ hi3 (by omega) hl3 rfl, hl4, hk4⟩⟩
      | exit id =>
        obtain ⟨hk3, hi3⟩ := hp
        obtain ⟨hr, hl3, hl4, hk4⟩ := fin (some (.exit id)) W3 hk3
        exact ⟨_, _, hr, .inr ⟨rfl, .exit id, (hIx _ _).put _ hi3 (by omega) hl3 rfl, hl4, hk4⟩⟩
      | goto t =>
        obtain ⟨hk3, hi3⟩ := hp
        obtain ⟨hr, hl3, hl4, hk4⟩ := fin (some (.goto t)) W3 hk3
        exact ⟨_, _, hr, .inr ⟨rfl, .goto t, (hIx _ _).put _ hi3 (by omega) hl3 rfl, hl4, hk4⟩⟩
      | panic ch => exact hp.elim
      | outgrown => exact hp.elim
    · rintro e W2 ⟨⟨v, rfl⟩, (⟨xs, hs, hi, hl, hk⟩ | ⟨pre, hsp, c, hi, hl, hk⟩)⟩
      · exact ⟨none, _, by have := run_endLoop (P := P) hl (by rw [hrc]; simp); rw [hrc] at this; exact this, hdone _ xs _ (Nat.le_refl _) ((hS xs).put _ hs (by omega) hl rfl) ((hI xs).put _ hi (by omega) hl rfl) ((World.putObj_heap_other (by omega)).trans hk)⟩
      · exact ⟨some c, _, by have := run_endLoop (P := P) hl (by rw [hrc]; simp); rw [hrc] at this; exact this, hstop _ c pre _ (Nat.le_refl _) ((hSp pre).put _ hsp (by omega) hl rfl) ((hIx c pre).put _ hi (by omega) hl rfl) ((World.putObj_heap_other (by omega)).trans hk)⟩
end Go.Mem
