/- The parts Reader, Reader2 of the proof, in one text. -/
import Derived.Test.YtffehmfjcglalaaProg
import Derived.Test.YtffehmfjcglalaaMem
import Derived.Test.YtffehmfjcglalaaG0
import Derived.Test.YtffehmfjcglalaaBase
set_option linter.unusedSimpArgs false
set_option linter.unusedVariables false

namespace Go.Proofs.Ytffehmfjcglalaa
open Go.RowKit Go.Mem Go.Pure

/-- Block g is a Reader with the bytes l (in the block bo) and the error e. -/
def RdrAt (w : World) (g : Nat) (bo : Option Nat) (l : List UInt8) (e : Int) : Prop :=
  ∃ A n c, Blk w g 125 #[.slice A n c, .int .i64 e] ∧ Rd w A n (bs l) ∧ n ≤ c ∧ c ≤ maxLen ∧ blk A = bo ∧ bo ≠ some g ∧ ∀ k, bo = some k → k < w.heap.size

set_option maxHeartbeats 1000000 in
set_option maxRecDepth 100000 in
theorem rFail_any (g : Nat) (bo : Option Nat) (l : List UInt8) (e0 x : Int) (w : World) (hw : RdrAt w g bo l e0) :
    Calls Try.prog 94 #[.pointer (some ⟨g, 0, none⟩), .int .i64 x] w fun e w' => e = .returned (.tuple #[]) ∧
      RdrAt w' g bo l (if e0 = 0 then x else e0) ∧ Chg (fun k => k = g) w w' := by
  obtain ⟨A, n, c, hb, hr, hnc, hcm, hbo, hne, hbk⟩ := hw
  have HBK := Lib.hid hbk
  clear hbk
  have hc0 := hb.cell 0 rfl
  have hc1 := hb.cell 1 rfl
  have hf1 := hb.frozen 1
  have HB := Lib.hid hb
  have HBO := Lib.hid hbo
  clear hb hbo
  by_cases h : e0 = 0
  · subst h
    go_enter Try.func94, Try.ntmps94
    go_wp2
    go_end0
    have hchg : Chg (fun k => k = g) w (w.setCell ⟨g, 1, none⟩ (.int .i64 x)) := (Chg.refl (fun k => k = g) w).setCell (p := ⟨g, 1, none⟩) (fun _ => rfl) _
    have hbk' : ∀ k, bo = some k → k < (w.setCell ⟨g, 1, none⟩ (.int .i64 x)).heap.size := fun k hk => Nat.lt_of_lt_of_le (HBK.out k hk) hchg.size
    exact ⟨rfl, ⟨A, n, c, HB.out.set_ 1 _, hr.chg hchg (fun k hk _ e => hne (by rw [← HBO.out, hk, e])), hnc, hcm, HBO.out, hne, hbk'⟩, hchg⟩
  · have h' : (e0 == 0) = false := by simpa using h
    have H := Lib.hid h
    clear h
    go_enter Try.func94, Try.ntmps94
    go_wp2
    go_end0
    have hbk' := HBK.out
    exact ⟨rfl, ⟨A, n, c, HB.out, hr, hnc, hcm, HBO.out, hne, hbk'⟩, Chg.refl _ w⟩

set_option maxHeartbeats 1000000 in
set_option maxRecDepth 100000 in
theorem rUint_any (g : Nat) (bo : Option Nat) (l : List UInt8) (e0 : Int) (w : World) (hw : RdrAt w g bo l e0) :
    Calls Try.prog 74 #[.pointer (some ⟨g, 0, none⟩)] w fun e w' => e = .returned (.int .u64 (uintR l e0).1) ∧
      RdrAt w' g bo (uintR l e0).2.1 (uintR l e0).2.2 ∧ Chg (fun k => k = g) w w' := by
  have HW := Lib.hid hw
  obtain ⟨A, n, c, hb, hr, hnc, hcm, hbo, hne, hbk⟩ := hw
  have hcm' : c ≤ 9223372036854775807 := hcm
  have HBK := Lib.hid hbk
  clear hbk
  have hc0 := hb.cell 0 rfl
  have hc1 := hb.cell 1 rfl
  have hf0 := hb.frozen 0
  have hln : l.length = n := by have := hr.len; rwa [bs_length] at this
  have HLN := Lib.hid hln
  have HB := Lib.hid hb
  have HBO := Lib.hid hbo
  have HR := Lib.hid hr
  clear hb hbo hr hln
  by_cases h : e0 = 0
  · subst h
    go_enter Try.func74, Try.ntmps74
    go_wp2
    go_loop [3, 4] (fun v i => ∃ k acc : Nat, k ≤ 9 ∧ k ≤ n ∧ i = .int .i64 k ∧ v = .int .u64 acc ∧ acc < 128 ^ k ∧ scanU k acc (l.drop k) = getU l) (fun _ i => 10 - (intOf i).toNat)
    case atStart => exact ⟨0, 0, by omega, by omega, rfl, rfl, by simp, by simp [getU]⟩
    case round =>
      obtain ⟨k, acc, hk9, hkn, rfl, rfl, hacc, hsc⟩ := hrel
      have HSC := Lib.hid hsc
      have HACC := Lib.hid hacc
      clear hsc hacc
      by_cases hlt : k < n
      · obtain ⟨ad, u, rfl, hu, hcu⟩ := HR.out.at_ hlt
        obtain ⟨x, hx, rfl⟩ := bs_at hu
        have HX := Lib.hid hx
        clear hx hu
        have hx2 := x.toNat_lt
        have hcut := fun W => run_cut elemBytes .i64 (some ad) n c (k + 1) ((k : Int) + 1) (by omega) (by omega) W
        by_cases hbad : (k = 9 ∧ 1 < x.toNat) ∨ (0 < k ∧ x.toNat = 0)
        · have hg : getU l = .error 2 := by rw [← HSC.out, drop_cons HX.out, scanU_bad hbad]
          have HG := Lib.hid (uintR_err hg)
          clear hg
          by_cases hk : k = 9
          · have h9 : (((k : Int)) == 9) = true := by rw [hk]; rfl
            have HK := Lib.hid hk
            have hk0 : 0 < k := by omega
            by_cases h1 : 1 < x.toNat
            · have h1' : decide (1 < (x.toNat : Int)) = true := by simp; omega
              clear hbad hcut hk
              go_wp2_with fail
              refine (rFail_any g bo l 0 2 w HW.out).mono ?_
              rintro e w1 ⟨rfl, hw1, hc1⟩
              go_wp2
              go_ret
              rw [HG.out]
              exact ⟨rfl, hw1, hc1⟩
            · have h1' : decide (1 < (x.toNat : Int)) = false := by simp; omega
              have h0' : ((x.toNat : Int) == 0) = true := by
                rcases hbad with h | h
                · omega
                · simp [h.2]
              clear hbad hcut hk
              go_wp2_with fail
              refine (rFail_any g bo l 0 2 w HW.out).mono ?_
              rintro e w1 ⟨rfl, hw1, hc1⟩
              go_wp2
              go_ret
              rw [HG.out]
              exact ⟨rfl, hw1, hc1⟩
          · have h9 : (((k : Int)) == 9) = false := by simp; omega
            have hk0 : 0 < k := by omega
            have h0' : ((x.toNat : Int) == 0) = true := by
              rcases hbad with h | h
              · omega
              · simp [h.2]
            clear hbad hcut hk
            go_wp2_with fail
            refine (rFail_any g bo l 0 2 w HW.out).mono ?_
            rintro e w1 ⟨rfl, hw1, hc1⟩
            go_wp2
            go_ret
            rw [HG.out]
            exact ⟨rfl, hw1, hc1⟩
        · have HBAD := Lib.hid hbad
          clear hbad
          have hval := Lib.hid (uint_val (x := x.toNat) hk9 HACC.out hx2 (fun h => by have := HBAD.out; omega))
          by_cases hend : x.toNat < 128
          · have hg : getU l = .ok (acc + x.toNat * 128 ^ k, l.drop (k + 1)) := by rw [← HSC.out, drop_cons HX.out, scanU_end HBAD.out hend]
            have HG := Lib.hid (uintR_ok hg)
            clear hg
            have fin : ∀ v : Int, v = bits .or .u64 (acc : Int) (IntKind.u64.wrap (IntKind.u64.wrap (bits .and .u8 (x.toNat : Int) 127) * 2 ^ (7 * k))) →
                Ending.returned (.int .u64 v) = .returned (.int .u64 (uintR l 0).1) ∧ RdrAt (w.setCell ⟨g, 0, none⟩ (.slice (cutA (some ad) c (k + 1)) (n - (k + 1)) (c - (k + 1)))) g bo (uintR l 0).2.1 (uintR l 0).2.2 ∧ Chg (fun k => k = g) w (w.setCell ⟨g, 0, none⟩ (.slice (cutA (some ad) c (k + 1)) (n - (k + 1)) (c - (k + 1)))) := by
              intro v hv
              have hchg : Chg (fun k => k = g) w (w.setCell ⟨g, 0, none⟩ (.slice (cutA (some ad) c (k + 1)) (n - (k + 1)) (c - (k + 1)))) := (Chg.refl (fun k => k = g) w).setCell (p := ⟨g, 0, none⟩) (fun _ => rfl) _
              rw [HG.out]
              refine ⟨ret_int (by rw [hv, hval.out, Nat.mod_eq_of_lt hend]), ⟨_, _, _, HB.out.set_ 0 _, ?_, by omega, Nat.le_trans (Nat.sub_le _ _) hcm, ?_, hne, fun k hk => Nat.lt_of_lt_of_le (HBK.out k hk) hchg.size⟩, hchg⟩
              · have := (HR.out.cutA (k := k + 1) (cap := c) (by omega) hnc).chg hchg (fun j hj _ e => hne (by rw [← HBO.out, ← blk_cutA _ c (k + 1), hj, e]))
                rwa [bs_drop] at this
              · rw [blk_cutA]; exact HBO.out
            have FIN := Lib.hid fin
            clear fin
            by_cases hk : k = 9
            · have h9 : (((k : Int)) == 9) = true := by rw [hk]; rfl
              have h1' : decide (1 < (x.toNat : Int)) = false := by have := HBAD.out; simp; omega
              have h0' : ((x.toNat : Int) == 0) = false := by have := HBAD.out; simp; omega
              have hk0 : 0 < k := by omega
              clear hk
              go_wp2_with fail
              go_ret
              exact FIN.out _ rfl
            · have h9 : (((k : Int)) == 9) = false := by simp; omega
              by_cases hk0 : 0 < k
              · have h0' : ((x.toNat : Int) == 0) = false := by have := HBAD.out; simp; omega
                go_wp2_with fail
                go_ret
                exact FIN.out _ rfl
              · go_wp2_with fail
                go_ret
                exact FIN.out _ rfl
          · have h9 : (((k : Int)) == 9) = false := by have := HBAD.out; simp; omega
            have h9' : k + 1 ≤ 9 := by have := HBAD.out; omega
            have h0 : ((x.toNat : Int) == 0) = false := by simp; omega
            have HG : Hid (scanU (k + 1) (acc + (x.toNat % 128) * 128 ^ k) (l.drop (k + 1)) = getU l) := by
              show _ = _
              rw [← HSC.out, drop_cons HX.out, scanU_on HBAD.out hend]
            clear hcut
            by_cases hk0 : 0 < k
            all_goals
              go_wp2_with fail
              go_round
              case rel => exact ⟨k + 1, _, h9', by omega, by go_num, by rw [hval.out], uint_lt HACC.out, HG.out⟩
              case measure => simp [intOf]; omega
      · have hk : k = n := by omega
        subst hk
        have hg : getU l = .error 3 := by rw [← HSC.out, List.drop_of_length_le (by rw [HLN.out]; omega), scanU_nil]
        have HG := Lib.hid (uintR_err hg)
        clear hg
        go_wp2_with fail
        refine (rFail_any g bo l 0 3 w HW.out).mono ?_
        rintro e w1 ⟨rfl, hw1, hc1⟩
        go_wp2
        go_ret
        rw [HG.out]
        exact ⟨rfl, hw1, hc1⟩
  · have HG := Lib.hid (uintR_bad (l := l) h)
    have h' : (e0 != 0) = true := by simpa using h
    clear h
    go_enter Try.func74, Try.ntmps74
    go_wp2
    go_ret
    rw [HG.out]
    exact ⟨rfl, HW.out, Chg.refl _ w⟩

end Go.Proofs.Ytffehmfjcglalaa

namespace Go.Proofs.Ytffehmfjcglalaa
open Go.RowKit Go.Mem Go.Pure

theorem RdrAt.chg {w w' : World} {g : Nat} {bo : Option Nat} {l : List UInt8} {e : Int} {S : Nat → Prop} (h : RdrAt w g bo l e) (hc : Chg S w w') (hg : ¬ S g) (hb : ∀ k, bo = some k → ¬ S k) : RdrAt w' g bo l e := by
  obtain ⟨A, n, c, h1, h2, h3, h4, h5, h6, h7⟩ := h
  exact ⟨A, n, c, h1.chg hc hg, h2.chg hc (fun k hk _ => hb k (by rw [← h5, hk])), h3, h4, h5, h6, fun k hk => Nat.lt_of_lt_of_le (h7 k hk) hc.size⟩
theorem RdrAt.blt {w : World} {g : Nat} {bo : Option Nat} {l : List UInt8} {e : Int} (h : RdrAt w g bo l e) {k : Nat} (hk : bo = some k) : k < w.heap.size := by
  obtain ⟨_, _, _, _, _, _, _, _, _, h7⟩ := h
  exact h7 k hk
theorem RdrAt.lt {w : World} {g : Nat} {bo : Option Nat} {l : List UInt8} {e : Int} (h : RdrAt w g bo l e) : g < w.heap.size := by
  obtain ⟨_, _, _, h1, _⟩ := h
  exact h1.lt
theorem RdrAt.len {w : World} {g : Nat} {bo : Option Nat} {l : List UInt8} {e : Int} (h : RdrAt w g bo l e) : l.length ≤ maxLen := by
  obtain ⟨A, n, c, h1, h2, h3, h4, h5, h6, h7⟩ := h
  have := h2.len
  rw [bs_length] at this
  omega

set_option maxHeartbeats 1000000 in
set_option maxRecDepth 100000 in
theorem read_any (A : Option Addr) (n c : Nat) (l : List UInt8) (w : World) (hr : Rd w A n (bs l)) (hn : n ≤ 1000000000) :
    Calls Try.prog 73 #[.slice A n c] w fun e w' => ∃ g bo, e = .returned (.pointer (some ⟨g, 0, none⟩)) ∧ RdrAt w' g bo l 0 ∧ New w w' ∧ w.heap.size ≤ g ∧ (∀ k, bo = some k → w.heap.size ≤ k) := by
  have HR := Lib.hid hr
  clear hr
  go_enter Try.func73, Try.ntmps73
  go_wp2_with (at_builtin; refine wpList_app elemBytes rfl _ _ rfl rfl (World.ownsRow_made w _ 0 (Nat.le_refl _) (Nat.zero_le _) rfl) rfl (HR.out.new ((Chg.refl _ w).alloc _)) (bs_one _) (by simp only [maxLen]; omega) (by omega) (by simp) ?_; intro A' c' w2 hown2 hg2 hat2; have HO2 := Lib.hid hown2; clear hown2)
  go_ret
  have hn2 : New w w2 := ((Chg.refl _ w).alloc _).grown hg2 (fun k hk hlt => by simp [blk] at hk; omega)
  have hrd : Rd w2 A' n (bs l) := by have := Rd.of_own HO2.out; simpa using this
  have hcap := own_cap HO2.out
  refine ⟨w2.heap.size, blk A', rfl, ⟨A', n, c', Blk.new _ _ _, hrd.new ((Chg.refl _ w2).alloc _), by omega, hcap.2, rfl, fun h => ?_, fun k hk => by have := (own_blk_le HO2.out hk).2; simp; omega⟩, hn2.alloc _, hn2.size, fun k hk => (own_blk_le HO2.out hk).1⟩
  have := (own_blk_le HO2.out h).2
  omega

set_option maxHeartbeats 1000000 in
set_option maxRecDepth 100000 in
theorem rLength_any (g : Nat) (bo : Option Nat) (l : List UInt8) (e0 : Int) (w : World) (hw : RdrAt w g bo l e0) :
    Calls Try.prog 96 #[.pointer (some ⟨g, 0, none⟩)] w fun e w' => e = .returned (.int .i64 (lengthR l e0).1) ∧
      RdrAt w' g bo (lengthR l e0).2.1 (lengthR l e0).2.2 ∧ Chg (fun k => k = g) w w' := by
  have hu := uintR_lt l e0
  have HU := Lib.hid hu
  clear hu
  generalize hq : uintR l e0 = q at *
  obtain ⟨m, t, x⟩ := q
  have HQ := Lib.hid hq
  clear hq
  go_enter Try.func96, Try.ntmps96
  go_wp2_with fail
  refine (rUint_any g bo l e0 w hw).mono ?_
  rw [HQ.out]
  rintro e w1 ⟨rfl, hw1, hc1⟩
  have HW1 := Lib.hid hw1
  have HC1 := Lib.hid hc1
  obtain ⟨A, n, c, hb, hr, hnc, hcm, hbo, hne, hbk⟩ := hw1
  clear hbk
  have hcm' : c ≤ 9223372036854775807 := hcm
  have hln : t.length = n := by have := hr.len; rwa [bs_length] at this
  have HLN := Lib.hid hln
  have hcc0 := hb.cell 0 rfl
  have hcc1 := hb.cell 1 rfl
  clear hb hr hbo hln hc1
  by_cases hx : x = 0
  · subst hx
    by_cases hlt : n < m
    · have HG := Lib.hid (lengthR_big HQ.out (by rw [HLN.out]; exact hlt))
      have hlt' : decide ((n : Int) < (m : Int)) = true := by simp; omega
      go_wp2_with fail
      refine (rFail_any g bo t 0 3 w1 HW1.out).mono ?_
      rintro e w2 ⟨rfl, hw2, hc2⟩
      have HW2 := Lib.hid hw2
      obtain ⟨A2, n2, c2, hb2, _, _, _, _, _, _⟩ := hw2
      have hcd := hb2.cell 1 rfl
      simp only [if_true] at hcd
      clear hb2
      go_wp2
      go_ret
      rw [HG.out]
      exact ⟨rfl, HW2.out, HC1.out.trans hc2 (fun _ _ h => h)⟩
    · have HG := Lib.hid (lengthR_ok HQ.out (by rw [HLN.out]; exact hlt))
      have hlt' : decide ((n : Int) < (m : Int)) = false := by simp; omega
      go_wp2_with fail
      go_ret
      rw [HG.out]
      exact ⟨rfl, HW1.out, HC1.out⟩
  · have hx1 : (x == 0) = false := by simpa using hx
    have hx2 : (x != 0) = true := by simpa using hx
    have HG := Lib.hid (lengthR_err HQ.out hx)
    clear hx
    go_wp2_with fail
    go_ret
    rw [HG.out]
    exact ⟨rfl, HW1.out, HC1.out⟩

set_option maxHeartbeats 1000000 in
set_option maxRecDepth 100000 in
theorem rTake_any (g : Nat) (bo : Option Nat) (l : List UInt8) (e0 : Int) (m : Nat) (w : World) (hm : m ≤ l.length) (hw : RdrAt w g bo l e0) :
    Calls Try.prog 95 #[.pointer (some ⟨g, 0, none⟩), .int .i64 m] w fun e w' => ∃ A c, e = .returned (.slice A m c) ∧ blk A = bo ∧ Rd w' A m (bs (l.take m)) ∧
      RdrAt w' g bo (l.drop m) e0 ∧ Chg (fun k => k = g) w w' := by
  obtain ⟨A, n, c, hb, hr, hnc, hcm, hbo, hne, hbk⟩ := hw
  have HBK := Lib.hid hbk
  clear hbk
  have hcm' : c ≤ 9223372036854775807 := hcm
  have hln : l.length = n := by have := hr.len; rwa [bs_length] at this
  have hmn : m ≤ n := by omega
  have HLN := Lib.hid hln
  have hcc0 := hb.cell 0 rfl
  have hff0 := hb.frozen 0
  have HB := Lib.hid hb
  have HR := Lib.hid hr
  have HBO := Lib.hid hbo
  have hcut := fun W => run_cut elemBytes .i64 A n c m (m : Int) rfl (by omega) W
  have hupto := fun W => run_upto elemBytes .i64 A n c m (m : Int) rfl (by omega) W
  clear hb hr hbo hln hm
  go_enter Try.func95, Try.ntmps95
  go_wp2
  go_ret
  have hchg : Chg (fun k => k = g) w (w.setCell ⟨g, 0, none⟩ (.slice (cutA A c m) (n - m) (c - m))) := (Chg.refl (fun k => k = g) w).setCell (p := ⟨g, 0, none⟩) (fun _ => rfl) _
  refine ⟨A, c, rfl, HBO.out, ?_, ⟨_, _, _, HB.out.set_ 0 _, ?_, by omega, Nat.le_trans (Nat.sub_le _ _) hcm, ?_, hne, fun k hk => Nat.lt_of_lt_of_le (HBK.out k hk) hchg.size⟩, hchg⟩
  · have := (HR.out.take (k := m) hmn).chg hchg (fun j hj _ e => hne (by rw [← HBO.out, hj, e]))
    rwa [bs_take] at this
  · have := (HR.out.cutA (k := m) (cap := c) hmn hnc).chg hchg (fun j hj _ e => hne (by rw [← HBO.out, ← blk_cutA _ c m, hj, e]))
    rwa [bs_drop] at this
  · rw [blk_cutA]; exact HBO.out

set_option maxHeartbeats 1000000 in
set_option maxRecDepth 100000 in
theorem rRaw_any (g : Nat) (bo : Option Nat) (l : List UInt8) (e0 : Int) (w : World) (hw : RdrAt w g bo l e0) (hl : l.length ≤ 1000000000) :
    Calls Try.prog 75 #[.pointer (some ⟨g, 0, none⟩)] w fun e w' => ∃ A n c, e = .returned (.slice A n c) ∧ w'.ownsRow w.heap.size 5 1 (.slice A n c) n (bs (rawR l e0).1) ∧
      RdrAt w' g bo (rawR l e0).2.1 (rawR l e0).2.2 ∧ Chg (fun k => k = g) w w' := by
  have hle := lengthR_le l e0
  have hre := lengthR_rest l e0
  have HW := Lib.hid hw
  have hgl := hw.lt
  clear hw
  go_enter Try.func75, Try.ntmps75
  go_wp2_with fail
  have hw1 := HW.out.chg ((Chg.refl (fun _ => False) w).alloc (.cells #[] 5)) (fun h => h) (fun _ _ h => h)
  refine (rLength_any g bo l e0 _ hw1).mono ?_
  rintro e w1 ⟨rfl, hw2, hc2⟩
  have hn1 : Chg (fun k => k = g) w w1 := ((Chg.refl _ w).alloc (.cells #[] 5)).trans hc2 (fun _ _ h => h)
  have hbE : Blk w1 w.heap.size 5 #[] := (Blk.new w 5 #[]).chg hc2 (by omega)
  have H1 := Lib.hid (And.intro hw2 (And.intro hn1 hbE))
  clear hw1 hw2 hn1 hc2 hbE
  have hml : (lengthR l e0).2.1.length ≤ maxLen := H1.out.1.len
  generalize hq : lengthR l e0 = q at *
  obtain ⟨m, t, x⟩ := q
  have HQ := Lib.hid hq
  clear hq
  simp only at hle hre hml H1 ⊢
  have hml' : m ≤ 9223372036854775807 := by simp only [maxLen] at hml; omega
  go_wp2_with fail
  obtain ⟨hw2, hn1, hbE⟩ := H1.out
  refine (rTake_any g bo t x m w1 hle hw2).mono ?_
  rintro e w2 ⟨A, c, rfl, hA, hr, hw3, hc3⟩
  have hbE2 : Blk w2 w.heap.size 5 #[] := hbE.chg hc3 (by omega)
  have hown : w2.ownsRow w.heap.size 5 1 (.slice (some ⟨w.heap.size, 0, none⟩) 0 0) 0 [] := ⟨by simp, .inr ⟨w.heap.size, 0, #[], rfl, Nat.le_refl _, hbE2, Nat.le_refl _, Nat.zero_le _, rfl, by simp⟩⟩
  have H2 := Lib.hid (And.intro hw3 (And.intro (hn1.trans hc3 (fun _ _ h => h)) (And.intro hA hbE2)))
  have HO := Lib.hid hown
  have HR := Lib.hid hr
  clear hw2 hn1 hbE hr hw3 hc3 hbE2 hown H1 hA
  have hm2 : m ≤ 1000000000 := by omega
  go_wp2_with (at_builtin; refine wpList_app elemBytes rfl _ _ rfl rfl HO.out rfl HR.out (bs_one _) (by simp only [maxLen]; omega) (by omega) (by have := H2.out.2.1.size; omega) ?_; intro A' c' w4 hown4 hg4 hat4; have HO4 := Lib.hid hown4; clear hown4)
  go_ret
  obtain ⟨hw3, hn3, hA, hbE2⟩ := H2.out
  have hb3 : ∀ k, bo = some k → k < w.heap.size := fun k hk => HW.out.blt hk
  have hc4 : Chg (fun k => k = w.heap.size) w2 w4 := (Chg.refl _ w2).grown hg4 (fun k hk _ => by simpa [blk] using hk.symm)
  refine ⟨A', m, c', rfl, ?_, ?_, hn3.trans hc4 (fun k hk h => by omega)⟩
  · have := HO4.out
    unfold rawR
    rw [HQ.out]
    simpa using this
  · unfold rawR
    rw [HQ.out]
    exact hw3.chg hc4 (by omega) (fun k hk h => by have := hb3 k hk; omega)


set_option maxHeartbeats 1000000 in
set_option maxRecDepth 100000 in
theorem rInt_any (g : Nat) (bo : Option Nat) (l : List UInt8) (e0 : Int) (w : World) (hw : RdrAt w g bo l e0) :
    Calls Try.prog 76 #[.pointer (some ⟨g, 0, none⟩)] w fun e w' => e = .returned (.int .i64 (intR l e0).1) ∧
      RdrAt w' g bo (intR l e0).2.1 (intR l e0).2.2 ∧ Chg (fun k => k = g) w w' := by
  go_enter Try.func76, Try.ntmps76
  go_wp2_with fail
  refine (rUint_any g bo l e0 w hw).mono ?_
  rintro e w1 ⟨rfl, hw1, hc1⟩
  have hu := uintR_lt l e0
  generalize hm : (uintR l e0).1 = m at *
  have HM := Lib.hid hm
  clear hm
  have hz := Lib.hid (unzig_eq m hu)
  go_wp2
  go_ret
  refine ⟨?_, hw1, hc1⟩
  refine ret_int ?_
  show _ = unzig (uintR l e0).1
  rw [HM.out]
  exact hz.out

set_option maxHeartbeats 1000000 in
set_option maxRecDepth 100000 in
theorem rEnd_any (g : Nat) (bo : Option Nat) (l : List UInt8) (e0 : Int) (w : World) (hw : RdrAt w g bo l e0) :
    Calls Try.prog 77 #[.pointer (some ⟨g, 0, none⟩)] w fun e w' => e = .returned (.int .i64 (endR l e0)) ∧ w = w' := by
  obtain ⟨A, n, c, hb, hr, hnc, hcm, hbo, hne, hbk⟩ := hw
  clear hbk
  have hln : l.length = n := by have := hr.len; rwa [bs_length] at this
  have hcc0 := hb.cell 0 rfl
  have hcc1 := hb.cell 1 rfl
  have HLN := Lib.hid hln
  clear hb hr hbo hln
  by_cases hx : e0 = 0
  · subst hx
    by_cases h0 : n = 0
    · subst h0
      have : l = [] := List.eq_nil_of_length_eq_zero HLN.out
      subst this
      go_enter Try.func77, Try.ntmps77
      go_wp2
      go_ret
      exact ⟨rfl, rfl⟩
    · have hl : l ≠ [] := fun h => h0 (by rw [← HLN.out, h]; rfl)
      have HL := Lib.hid hl
      have h0' : 0 < n := by omega
      clear hl h0
      go_enter Try.func77, Try.ntmps77
      go_wp2
      go_ret
      exact ⟨by simp [endR, HL.out], rfl⟩
  · have hx2 : (e0 != 0) = true := by simpa using hx
    have HX := Lib.hid hx
    clear hx
    go_enter Try.func77, Try.ntmps77
    go_wp2
    go_ret
    exact ⟨by simp [endR, HX.out], rfl⟩

end Go.Proofs.Ytffehmfjcglalaa
