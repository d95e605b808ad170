/- The parts Reader, Reader2, PureFrame, PureFirst, PureScan, PureEq, Hash, Hash2, Hash3, Own, Ow, By, Obj, Wro, Lift, Args of the proof, in one text. -/
import Derived.Test.YtbocpkjajocpiaaGreatDoorProg
import Derived.Lib.ConvBytes
import Derived.Handed
import Derived.Test.YtbocpkjajocpiaaGreatDoorB5
set_option linter.unusedSimpArgs false
set_option linter.unusedVariables false

namespace Go.Proofs.YtbocpkjajocpiaaGreatDoor
open Go.RowKit Go.Mem Go.Pure

/-- Block g is a Reader with the bytes l (in the block bo) and the error e. -/
def RdrAt (w : World) (g : Nat) (bo : Option Nat) (l : List UInt8) (e : Int) : Prop :=
  ∃ A n c, Blk w g 158 #[.slice A n c, .int .i64 e] ∧ Rd w A n (bs l) ∧ n ≤ c ∧ c ≤ maxLen ∧ blk A = bo ∧ bo ≠ some g ∧ ∀ k, bo = some k → k < w.heap.size

set_option maxHeartbeats 1000000 in
set_option maxRecDepth 100000 in
theorem rFail_any (g : Nat) (bo : Option Nat) (l : List UInt8) (e0 x : Int) (w : World) (hw : RdrAt w g bo l e0) :
    Calls Tryz.prog 142 #[.pointer (some ⟨g, 0, none⟩), .int .i64 x] w fun e w' => e = .returned (.tuple #[]) ∧
      RdrAt w' g bo l (if e0 = 0 then x else e0) ∧ Chg (fun k => k = g) w w' := by
  obtain ⟨A, n, c, hb, hr, hnc, hcm, hbo, hne, hbk⟩ := hw
  have HBK := Lib.hid hbk
  clear hbk
  have hc0 := hb.cell 0 rfl
  have hc1 := hb.cell 1 rfl
  have hf1 := hb.frozen 1
  have HB := Lib.hid hb
  have HBO := Lib.hid hbo
  clear hb hbo
  by_cases h : e0 = 0
  · subst h
    go_enter Tryz.func142, Tryz.ntmps142
    go_wp2
    go_end0
    have hchg : Chg (fun k => k = g) w (w.setCell ⟨g, 1, none⟩ (.int .i64 x)) := (Chg.refl (fun k => k = g) w).setCell (p := ⟨g, 1, none⟩) (fun _ => rfl) _
    have hbk' : ∀ k, bo = some k → k < (w.setCell ⟨g, 1, none⟩ (.int .i64 x)).heap.size := fun k hk => Nat.lt_of_lt_of_le (HBK.out k hk) hchg.size
    exact ⟨rfl, ⟨A, n, c, HB.out.set_ 1 _, hr.chg hchg (fun k hk _ e => hne (by rw [← HBO.out, hk, e])), hnc, hcm, HBO.out, hne, hbk'⟩, hchg⟩
  · have h' : (e0 == 0) = false := by simpa using h
    have H := Lib.hid h
    clear h
    go_enter Tryz.func142, Tryz.ntmps142
    go_wp2
    go_end0
    have hbk' := HBK.out
    exact ⟨rfl, ⟨A, n, c, HB.out, hr, hnc, hcm, HBO.out, hne, hbk'⟩, Chg.refl _ w⟩

set_option maxHeartbeats 1000000 in
set_option maxRecDepth 100000 in
theorem rUint_any (g : Nat) (bo : Option Nat) (l : List UInt8) (e0 : Int) (w : World) (hw : RdrAt w g bo l e0) :
    Calls Tryz.prog 141 #[.pointer (some ⟨g, 0, none⟩)] w fun e w' => e = .returned (.int .u64 (uintR l e0).1) ∧
      RdrAt w' g bo (uintR l e0).2.1 (uintR l e0).2.2 ∧ Chg (fun k => k = g) w w' := by
  have HW := Lib.hid hw
  obtain ⟨A, n, c, hb, hr, hnc, hcm, hbo, hne, hbk⟩ := hw
  have hcm' : c ≤ 9223372036854775807 := hcm
  have HBK := Lib.hid hbk
  clear hbk
  have hc0 := hb.cell 0 rfl
  have hc1 := hb.cell 1 rfl
  have hf0 := hb.frozen 0
  have hln : l.length = n := by have := hr.len; rwa [bs_length] at this
  have HLN := Lib.hid hln
  have HB := Lib.hid hb
  have HBO := Lib.hid hbo
  have HR := Lib.hid hr
  clear hb hbo hr hln
  by_cases h : e0 = 0
  · subst h
    go_enter Tryz.func141, Tryz.ntmps141
    go_wp2
    go_loop [3, 4] (fun v i => ∃ k acc : Nat, k ≤ 9 ∧ k ≤ n ∧ i = .int .i64 k ∧ v = .int .u64 acc ∧ acc < 128 ^ k ∧ scanU k acc (l.drop k) = getU l) (fun _ i => 10 - (intOf i).toNat)
    case atStart => exact ⟨0, 0, by omega, by omega, rfl, rfl, by simp, by simp [getU]⟩
    case round =>
      obtain ⟨k, acc, hk9, hkn, rfl, rfl, hacc, hsc⟩ := hrel
      have HSC := Lib.hid hsc
      have HACC := Lib.hid hacc
      clear hsc hacc
      by_cases hlt : k < n
      · obtain ⟨ad, u, rfl, hu, hcu⟩ := HR.out.at_ hlt
        obtain ⟨x, hx, rfl⟩ := bs_at hu
        have HX := Lib.hid hx
        clear hx hu
        have hx2 := x.toNat_lt
        have hcut := fun W => run_cut elemBytes .i64 (some ad) n c (k + 1) ((k : Int) + 1) (by omega) (by omega) W
        by_cases hbad : (k = 9 ∧ 1 < x.toNat) ∨ (0 < k ∧ x.toNat = 0)
        · have hg : getU l = .error 2 := by rw [← HSC.out, drop_cons HX.out, scanU_bad hbad]
          have HG := Lib.hid (uintR_err hg)
          clear hg
          by_cases hk : k = 9
          · have h9 : (((k : Int)) == 9) = true := by rw [hk]; rfl
            have HK := Lib.hid hk
            have hk0 : 0 < k := by omega
            by_cases h1 : 1 < x.toNat
            · have h1' : decide (1 < (x.toNat : Int)) = true := by simp; omega
              clear hbad hcut hk
              go_wp2_with fail
              refine (rFail_any g bo l 0 2 w HW.out).mono ?_
              rintro e w1 ⟨rfl, hw1, hc1⟩
              go_wp2
              go_ret
              rw [HG.out]
              exact ⟨rfl, hw1, hc1⟩
            · have h1' : decide (1 < (x.toNat : Int)) = false := by simp; omega
              have h0' : ((x.toNat : Int) == 0) = true := by
                rcases hbad with h | h
                · omega
                · simp [h.2]
              clear hbad hcut hk
              go_wp2_with fail
              refine (rFail_any g bo l 0 2 w HW.out).mono ?_
              rintro e w1 ⟨rfl, hw1, hc1⟩
              go_wp2
              go_ret
              rw [HG.out]
              exact ⟨rfl, hw1, hc1⟩
          · have h9 : (((k : Int)) == 9) = false := by simp; omega
            have hk0 : 0 < k := by omega
            have h0' : ((x.toNat : Int) == 0) = true := by
              rcases hbad with h | h
              · omega
              · simp [h.2]
            clear hbad hcut hk
            go_wp2_with fail
            refine (rFail_any g bo l 0 2 w HW.out).mono ?_
            rintro e w1 ⟨rfl, hw1, hc1⟩
            go_wp2
            go_ret
            rw [HG.out]
            exact ⟨rfl, hw1, hc1⟩
        · have HBAD := Lib.hid hbad
          clear hbad
          have hval := Lib.hid (uint_val (x := x.toNat) hk9 HACC.out hx2 (fun h => by have := HBAD.out; omega))
          by_cases hend : x.toNat < 128
          · have hg : getU l = .ok (acc + x.toNat * 128 ^ k, l.drop (k + 1)) := by rw [← HSC.out, drop_cons HX.out, scanU_end HBAD.out hend]
            have HG := Lib.hid (uintR_ok hg)
            clear hg
            have fin : ∀ v : Int, v = bits .or .u64 (acc : Int) (IntKind.u64.wrap (IntKind.u64.wrap (bits .and .u8 (x.toNat : Int) 127) * 2 ^ (7 * k))) →
                Ending.returned (.int .u64 v) = .returned (.int .u64 (uintR l 0).1) ∧ RdrAt (w.setCell ⟨g, 0, none⟩ (.slice (cutA (some ad) c (k + 1)) (n - (k + 1)) (c - (k + 1)))) g bo (uintR l 0).2.1 (uintR l 0).2.2 ∧ Chg (fun k => k = g) w (w.setCell ⟨g, 0, none⟩ (.slice (cutA (some ad) c (k + 1)) (n - (k + 1)) (c - (k + 1)))) := by
              intro v hv
              have hchg : Chg (fun k => k = g) w (w.setCell ⟨g, 0, none⟩ (.slice (cutA (some ad) c (k + 1)) (n - (k + 1)) (c - (k + 1)))) := (Chg.refl (fun k => k = g) w).setCell (p := ⟨g, 0, none⟩) (fun _ => rfl) _
              rw [HG.out]
              refine ⟨ret_int (by rw [hv, hval.out, Nat.mod_eq_of_lt hend]), ⟨_, _, _, HB.out.set_ 0 _, ?_, by omega, Nat.le_trans (Nat.sub_le _ _) hcm, ?_, hne, fun k hk => Nat.lt_of_lt_of_le (HBK.out k hk) hchg.size⟩, hchg⟩
              · have := (HR.out.cutA (k := k + 1) (cap := c) (by omega) hnc).chg hchg (fun j hj _ e => hne (by rw [← HBO.out, ← blk_cutA _ c (k + 1), hj, e]))
                rwa [bs_drop] at this
              · rw [blk_cutA]; exact HBO.out
            have FIN := Lib.hid fin
            clear fin
            by_cases hk : k = 9
            · have h9 : (((k : Int)) == 9) = true := by rw [hk]; rfl
              have h1' : decide (1 < (x.toNat : Int)) = false := by have := HBAD.out; simp; omega
              have h0' : ((x.toNat : Int) == 0) = false := by have := HBAD.out; simp; omega
              have hk0 : 0 < k := by omega
              clear hk
              go_wp2_with fail
              go_ret
              exact FIN.out _ rfl
            · have h9 : (((k : Int)) == 9) = false := by simp; omega
              by_cases hk0 : 0 < k
              · have h0' : ((x.toNat : Int) == 0) = false := by have := HBAD.out; simp; omega
                go_wp2_with fail
                go_ret
                exact FIN.out _ rfl
              · go_wp2_with fail
                go_ret
                exact FIN.out _ rfl
          · have h9 : (((k : Int)) == 9) = false := by have := HBAD.out; simp; omega
            have h9' : k + 1 ≤ 9 := by have := HBAD.out; omega
            have h0 : ((x.toNat : Int) == 0) = false := by simp; omega
            have HG : Hid (scanU (k + 1) (acc + (x.toNat % 128) * 128 ^ k) (l.drop (k + 1)) = getU l) := by
              show _ = _
              rw [← HSC.out, drop_cons HX.out, scanU_on HBAD.out hend]
            clear hcut
            by_cases hk0 : 0 < k
            all_goals
              go_wp2_with fail
              go_round
              case rel => exact ⟨k + 1, _, h9', by omega, by go_num, by rw [hval.out], uint_lt HACC.out, HG.out⟩
              case measure => simp [intOf]; omega
      · have hk : k = n := by omega
        subst hk
        have hg : getU l = .error 3 := by rw [← HSC.out, List.drop_of_length_le (by rw [HLN.out]; omega), scanU_nil]
        have HG := Lib.hid (uintR_err hg)
        clear hg
        go_wp2_with fail
        refine (rFail_any g bo l 0 3 w HW.out).mono ?_
        rintro e w1 ⟨rfl, hw1, hc1⟩
        go_wp2
        go_ret
        rw [HG.out]
        exact ⟨rfl, hw1, hc1⟩
  · have HG := Lib.hid (uintR_bad (l := l) h)
    have h' : (e0 != 0) = true := by simpa using h
    clear h
    go_enter Tryz.func141, Tryz.ntmps141
    go_wp2
    go_ret
    rw [HG.out]
    exact ⟨rfl, HW.out, Chg.refl _ w⟩

end Go.Proofs.YtbocpkjajocpiaaGreatDoor

namespace Go.Proofs.YtbocpkjajocpiaaGreatDoor
open Go.RowKit Go.Mem Go.Pure

theorem RdrAt.chg {w w' : World} {g : Nat} {bo : Option Nat} {l : List UInt8} {e : Int} {S : Nat → Prop} (h : RdrAt w g bo l e) (hc : Chg S w w') (hg : ¬ S g) (hb : ∀ k, bo = some k → ¬ S k) : RdrAt w' g bo l e := by
  obtain ⟨A, n, c, h1, h2, h3, h4, h5, h6, h7⟩ := h
  exact ⟨A, n, c, h1.chg hc hg, h2.chg hc (fun k hk _ => hb k (by rw [← h5, hk])), h3, h4, h5, h6, fun k hk => Nat.lt_of_lt_of_le (h7 k hk) hc.size⟩
theorem RdrAt.blt {w : World} {g : Nat} {bo : Option Nat} {l : List UInt8} {e : Int} (h : RdrAt w g bo l e) {k : Nat} (hk : bo = some k) : k < w.heap.size := by
  obtain ⟨_, _, _, _, _, _, _, _, _, h7⟩ := h
  exact h7 k hk
theorem RdrAt.lt {w : World} {g : Nat} {bo : Option Nat} {l : List UInt8} {e : Int} (h : RdrAt w g bo l e) : g < w.heap.size := by
  obtain ⟨_, _, _, h1, _⟩ := h
  exact h1.lt
theorem RdrAt.len {w : World} {g : Nat} {bo : Option Nat} {l : List UInt8} {e : Int} (h : RdrAt w g bo l e) : l.length ≤ maxLen := by
  obtain ⟨A, n, c, h1, h2, h3, h4, h5, h6, h7⟩ := h
  have := h2.len
  rw [bs_length] at this
  omega

set_option maxHeartbeats 1000000 in
set_option maxRecDepth 100000 in
theorem read_any (A : Option Addr) (n c : Nat) (l : List UInt8) (w : World) (hr : Rd w A n (bs l)) (hn : n ≤ 1000000000) :
    Calls Tryz.prog 66 #[.slice A n c] w fun e w' => ∃ g bo, e = .returned (.pointer (some ⟨g, 0, none⟩)) ∧ RdrAt w' g bo l 0 ∧ New w w' ∧ w.heap.size ≤ g ∧ (∀ k, bo = some k → w.heap.size ≤ k) := by
  have HR := Lib.hid hr
  clear hr
  go_enter Tryz.func66, Tryz.ntmps66
  go_wp2_with (at_builtin; refine wpList_app elemBytes rfl _ _ rfl rfl (World.ownsRow_made w _ 0 (Nat.le_refl _) (Nat.zero_le _) rfl) rfl (HR.out.new ((Chg.refl _ w).alloc _)) (bs_one _) (by simp only [maxLen]; omega) (by omega) (by simp) ?_; intro A' c' w2 hown2 hg2 hat2; have HO2 := Lib.hid hown2; clear hown2)
  go_ret
  have hn2 : New w w2 := ((Chg.refl _ w).alloc _).grown hg2 (fun k hk hlt => by simp [blk] at hk; omega)
  have hrd : Rd w2 A' n (bs l) := by have := Rd.of_own HO2.out; simpa using this
  have hcap := own_cap HO2.out
  refine ⟨w2.heap.size, blk A', rfl, ⟨A', n, c', Blk.new _ _ _, hrd.new ((Chg.refl _ w2).alloc _), by omega, hcap.2, rfl, fun h => ?_, fun k hk => by have := (own_blk_le HO2.out hk).2; simp; omega⟩, hn2.alloc _, hn2.size, fun k hk => (own_blk_le HO2.out hk).1⟩
  have := (own_blk_le HO2.out h).2
  omega

set_option maxHeartbeats 1000000 in
set_option maxRecDepth 100000 in
theorem rLength_any (g : Nat) (bo : Option Nat) (l : List UInt8) (e0 : Int) (w : World) (hw : RdrAt w g bo l e0) :
    Calls Tryz.prog 115 #[.pointer (some ⟨g, 0, none⟩)] w fun e w' => e = .returned (.int .i64 (lengthR l e0).1) ∧
      RdrAt w' g bo (lengthR l e0).2.1 (lengthR l e0).2.2 ∧ Chg (fun k => k = g) w w' := by
  have hu := uintR_lt l e0
  have HU := Lib.hid hu
  clear hu
  generalize hq : uintR l e0 = q at *
  obtain ⟨m, t, x⟩ := q
  have HQ := Lib.hid hq
  clear hq
  go_enter Tryz.func115, Tryz.ntmps115
  go_wp2_with fail
  refine (rUint_any g bo l e0 w hw).mono ?_
  rw [HQ.out]
  rintro e w1 ⟨rfl, hw1, hc1⟩
  have HW1 := Lib.hid hw1
  have HC1 := Lib.hid hc1
  obtain ⟨A, n, c, hb, hr, hnc, hcm, hbo, hne, hbk⟩ := hw1
  clear hbk
  have hcm' : c ≤ 9223372036854775807 := hcm
  have hln : t.length = n := by have := hr.len; rwa [bs_length] at this
  have HLN := Lib.hid hln
  have hcc0 := hb.cell 0 rfl
  have hcc1 := hb.cell 1 rfl
  clear hb hr hbo hln hc1
  by_cases hx : x = 0
  · subst hx
    by_cases hlt : n < m
    · have HG := Lib.hid (lengthR_big HQ.out (by rw [HLN.out]; exact hlt))
      have hlt' : decide ((n : Int) < (m : Int)) = true := by simp; omega
      go_wp2_with fail
      refine (rFail_any g bo t 0 3 w1 HW1.out).mono ?_
      rintro e w2 ⟨rfl, hw2, hc2⟩
      have HW2 := Lib.hid hw2
      obtain ⟨A2, n2, c2, hb2, _, _, _, _, _, _⟩ := hw2
      have hcd := hb2.cell 1 rfl
      simp only [if_true] at hcd
      clear hb2
      go_wp2
      go_ret
      rw [HG.out]
      exact ⟨rfl, HW2.out, HC1.out.trans hc2 (fun _ _ h => h)⟩
    · have HG := Lib.hid (lengthR_ok HQ.out (by rw [HLN.out]; exact hlt))
      have hlt' : decide ((n : Int) < (m : Int)) = false := by simp; omega
      go_wp2_with fail
      go_ret
      rw [HG.out]
      exact ⟨rfl, HW1.out, HC1.out⟩
  · have hx1 : (x == 0) = false := by simpa using hx
    have hx2 : (x != 0) = true := by simpa using hx
    have HG := Lib.hid (lengthR_err HQ.out hx)
    clear hx
    go_wp2_with fail
    go_ret
    rw [HG.out]
    exact ⟨rfl, HW1.out, HC1.out⟩

set_option maxHeartbeats 1000000 in
set_option maxRecDepth 100000 in
theorem rTake_any (g : Nat) (bo : Option Nat) (l : List UInt8) (e0 : Int) (m : Nat) (w : World) (hm : m ≤ l.length) (hw : RdrAt w g bo l e0) :
    Calls Tryz.prog 114 #[.pointer (some ⟨g, 0, none⟩), .int .i64 m] w fun e w' => ∃ A c, e = .returned (.slice A m c) ∧ blk A = bo ∧ Rd w' A m (bs (l.take m)) ∧
      RdrAt w' g bo (l.drop m) e0 ∧ Chg (fun k => k = g) w w' := by
  obtain ⟨A, n, c, hb, hr, hnc, hcm, hbo, hne, hbk⟩ := hw
  have HBK := Lib.hid hbk
  clear hbk
  have hcm' : c ≤ 9223372036854775807 := hcm
  have hln : l.length = n := by have := hr.len; rwa [bs_length] at this
  have hmn : m ≤ n := by omega
  have HLN := Lib.hid hln
  have hcc0 := hb.cell 0 rfl
  have hff0 := hb.frozen 0
  have HB := Lib.hid hb
  have HR := Lib.hid hr
  have HBO := Lib.hid hbo
  have hcut := fun W => run_cut elemBytes .i64 A n c m (m : Int) rfl (by omega) W
  have hupto := fun W => run_upto elemBytes .i64 A n c m (m : Int) rfl (by omega) W
  clear hb hr hbo hln hm
  go_enter Tryz.func114, Tryz.ntmps114
  go_wp2
  go_ret
  have hchg : Chg (fun k => k = g) w (w.setCell ⟨g, 0, none⟩ (.slice (cutA A c m) (n - m) (c - m))) := (Chg.refl (fun k => k = g) w).setCell (p := ⟨g, 0, none⟩) (fun _ => rfl) _
  refine ⟨A, c, rfl, HBO.out, ?_, ⟨_, _, _, HB.out.set_ 0 _, ?_, by omega, Nat.le_trans (Nat.sub_le _ _) hcm, ?_, hne, fun k hk => Nat.lt_of_lt_of_le (HBK.out k hk) hchg.size⟩, hchg⟩
  · have := (HR.out.take (k := m) hmn).chg hchg (fun j hj _ e => hne (by rw [← HBO.out, hj, e]))
    rwa [bs_take] at this
  · have := (HR.out.cutA (k := m) (cap := c) hmn hnc).chg hchg (fun j hj _ e => hne (by rw [← HBO.out, ← blk_cutA _ c m, hj, e]))
    rwa [bs_drop] at this
  · rw [blk_cutA]; exact HBO.out


set_option maxHeartbeats 1000000 in
set_option maxRecDepth 100000 in
theorem rText_any (g : Nat) (bo : Option Nat) (l : List UInt8) (e0 : Int) (w : World) (hw : RdrAt w g bo l e0) (hl : l.length ≤ 1000000000) :
    Calls Tryz.prog 68 #[.pointer (some ⟨g, 0, none⟩)] w fun e w' => e = .returned (.string ⟨(rawR l e0).1.toArray⟩) ∧
      RdrAt w' g bo (rawR l e0).2.1 (rawR l e0).2.2 ∧ Chg (fun k => k = g) w w' := by
  have hle := lengthR_le l e0
  have hre := lengthR_rest l e0
  go_enter Tryz.func68, Tryz.ntmps68
  go_wp2_with fail
  refine (rLength_any g bo l e0 _ hw).mono ?_
  rintro e w1 ⟨rfl, hw2, hc2⟩
  have H1 := Lib.hid (And.intro hw2 hc2)
  clear hw2 hc2
  have hml : (lengthR l e0).2.1.length ≤ maxLen := H1.out.1.len
  generalize hq : lengthR l e0 = q at *
  obtain ⟨m, t, x⟩ := q
  have HQ := Lib.hid hq
  clear hq
  simp only at hle hre hml H1 ⊢
  have hml' : m ≤ 9223372036854775807 := by simp only [maxLen] at hml; omega
  go_wp2_with fail
  obtain ⟨hw2, hn1⟩ := H1.out
  refine (rTake_any g bo t x m w1 hle hw2).mono ?_
  rintro e w2 ⟨A, c, rfl, hA, hr, hw3, hc3⟩
  have H2 := Lib.hid (And.intro hw3 (hn1.trans hc3 (fun _ _ h => h)))
  have hst := run_tostr (P := Tryz.prog) (c := c) Tryz.underlying81 Tryz.underlying5 Tryz.underlying9 hr
  clear hw2 hn1 hr hw3 hc3 H1 hA
  go_wp2
  go_ret
  unfold rawR
  rw [HQ.out]
  exact ⟨rfl, H2.out.1, H2.out.2⟩


set_option maxHeartbeats 1000000 in
set_option maxRecDepth 100000 in
theorem rEnd_any (g : Nat) (bo : Option Nat) (l : List UInt8) (e0 : Int) (w : World) (hw : RdrAt w g bo l e0) :
    Calls Tryz.prog 69 #[.pointer (some ⟨g, 0, none⟩)] w fun e w' => e = .returned (.int .i64 (endR l e0)) ∧ w = w' := by
  obtain ⟨A, n, c, hb, hr, hnc, hcm, hbo, hne, hbk⟩ := hw
  clear hbk
  have hln : l.length = n := by have := hr.len; rwa [bs_length] at this
  have hcc0 := hb.cell 0 rfl
  have hcc1 := hb.cell 1 rfl
  have HLN := Lib.hid hln
  clear hb hr hbo hln
  by_cases hx : e0 = 0
  · subst hx
    by_cases h0 : n = 0
    · subst h0
      have : l = [] := List.eq_nil_of_length_eq_zero HLN.out
      subst this
      go_enter Tryz.func69, Tryz.ntmps69
      go_wp2
      go_ret
      exact ⟨rfl, rfl⟩
    · have hl : l ≠ [] := fun h => h0 (by rw [← HLN.out, h]; rfl)
      have HL := Lib.hid hl
      have h0' : 0 < n := by omega
      clear hl h0
      go_enter Tryz.func69, Tryz.ntmps69
      go_wp2
      go_ret
      exact ⟨by simp [endR, HL.out], rfl⟩
  · have hx2 : (e0 != 0) = true := by simpa using hx
    have HX := Lib.hid hx
    clear hx
    go_enter Tryz.func69, Tryz.ntmps69
    go_wp2
    go_ret
    exact ⟨by simp [endR, HX.out], rfl⟩

end Go.Proofs.YtbocpkjajocpiaaGreatDoor

namespace Go.Pure

end Go.Pure

namespace Go.Pure

end Go.Pure

namespace Go.Pure
set_option linter.unusedVariables false

end Go.Pure

namespace Go.Pure
set_option linter.unusedVariables false

theorem scanU_uvar (n : Nat) : ∀ (i acc : Nat) (t : List UInt8), n * 128 ^ i < 18446744073709551616 → (0 < i → 0 < n) → scanU i acc (uvar n ++ t) = .ok (acc + n * 128 ^ i, t) := by
  induction n using Nat.strongRecOn with
  | _ n ih =>
    intro i acc t hlt hpos
    have hp9 : (128 : Nat) ^ 9 = 9223372036854775808 := by decide
    by_cases hn : n < 128
    · rw [uvar_lt hn, List.singleton_append]
      have hc : (UInt8.ofNat n).toNat = n := by simp; omega
      rw [scanU_end, hc]
      · rw [hc]
        rintro (⟨rfl, h⟩ | ⟨h1, h2⟩)
        · rw [hp9] at hlt; omega
        · have := hpos h1; omega
      · rw [hc]; exact hn
    · rw [uvar_ge (by omega), List.cons_append]
      have hc : (UInt8.ofNat (128 + n % 128)).toNat = 128 + n % 128 := by simp; omega
      have hi : i ≤ 8 := by
        rcases Nat.lt_or_ge i 9 with h | h
        · omega
        · have h1 : 128 ^ 9 ≤ 128 ^ i := Nat.pow_le_pow_right (by omega) h
          have h2 : 128 * 128 ^ 9 ≤ n * 128 ^ i := Nat.mul_le_mul (by omega) h1
          rw [hp9] at h2
          omega
      rw [scanU_on, hc]
      · have e : n * 128 ^ i = n % 128 * 128 ^ i + n / 128 * 128 ^ (i + 1) := by
          rw [Nat.pow_succ, ← Nat.mul_assoc, Nat.mul_right_comm, ← Nat.add_mul, Nat.add_comm, Nat.div_add_mod' n 128]
        rw [ih (n / 128) (by omega) (i + 1) _ t (by omega) (fun _ => by omega)]
        rw [show (128 + n % 128) % 128 = n % 128 by omega, e, Nat.add_assoc]
      · rw [hc]; omega
      · rw [hc]; omega
theorem getU_uvar {n : Nat} (h : n < 18446744073709551616) (t : List UInt8) : getU (uvar n ++ t) = .ok (n, t) := by
  unfold getU
  rw [scanU_uvar n 0 0 t (by simpa using h) (fun h => by omega)]
  simp
theorem uintR_uvar {n : Nat} (h : n < 18446744073709551616) (t : List UInt8) : uintR (uvar n ++ t) 0 = (n, t, 0) := uintR_ok (getU_uvar h t)
end Go.Pure

namespace Go.Proofs.YtbocpkjajocpiaaGreatDoor
open Go.RowKit Go.Shelf Go.Mem Go.Pure
attribute [local go_sem] Oper.semAt_some

set_option maxHeartbeats 400000 in
theorem mix_any (a b : Int) (w : World) :
    Calls Tryz.prog 144 #[.int .u64 a, .int .u64 b] w fun e w' => e = .returned (.int .u64 (mixI a b)) ∧ w = w' := by
  go_enter Tryz.func144, Tryz.ntmps144
  go_wp2
  go_ret
  exact ⟨rfl, rfl⟩

set_option maxRecDepth 100000 in
set_option maxHeartbeats 2000000 in
/-- hash.groups's closure, for every loop body that keeps the bytes and the closure's box. -/
theorem groups1_in (n : Nat) (hn : 1 ≤ n) (l Bs : Nat) (A : Option Addr) (len cap : Nat) (b : List UInt8) (hlen : len ≤ 1000000000) (J Jx : List Nat → World → Prop)
    (hY : ∀ pre x W, J pre W → pre.length < nw b → YieldAt Fence.wide (n - 1) Tryz.prog l #[.int .u64 (x : Nat)] W fun e W' =>
      (e = .returned (.bool true) ∧ J (pre ++ [x]) W' ∧ Keep (fun k => k = Bs ∨ blk A = some k) W W') ∨ (e = .returned (.bool false) ∧ Jx (pre ++ [x]) W'))
    (W : World) (hBs : W.cell? ⟨Bs, 0, none⟩ = some (.slice A len cap)) (hr : Rd W A len (bs b)) (h0 : J [] W) :
    CallsIn Fence.wide n Tryz.prog 143 #[.func (.yield l) #[] #[], .pointer (some ⟨Bs, 0, none⟩)] W fun e W' => (∃ v, e = .returned v) ∧
      ((∃ ys, ys = wds b ∧ J ys W') ∨ (∃ pre, (∃ k, k ≤ nw b ∧ pre = wdsTo b k) ∧ Jx pre W')) := by
  have hbl : b.length = len := by simpa using hr.len
  have HBL := Lib.hid hbl
  clear hbl
  refine callsIn_of_wp Tryz.func143 rfl trivial ?_ rfl
  simp only [Tryz.ntmps143, List.size_toArray, List.length_cons, List.length_nil, Nat.reduceAdd, Nat.reduceSub, Array.replicate_succ, Array.replicate_zero, List.push_toArray, List.append_toArray, List.nil_append, List.cons_append]
  gi_wp2
  gi_loopw [3] (fun i wr => ∃ k : Nat, 8 * k ≤ len + 7 ∧ i = .int .i64 (8 * (k : Int)) ∧ J (wdsTo b k) wr ∧ Keep (fun k => k = Bs ∨ blk A = some k) W wr)
    (fun i _ => len + 8 - (intOf i).toNat)
  case atStart => exact ⟨0, by omega, rfl, h0, Keep.refl _ _⟩
  case round =>
    obtain ⟨k, hk, rfl, hJ, hK⟩ := hrel
    have hBs' : wr.cell? ⟨Bs, 0, none⟩ = some (.slice A len cap) := (hK.cell (p := ⟨Bs, 0, none⟩) (.inl rfl)).trans hBs
    by_cases hlt : 8 * k < len
    · have HJ := Lib.hid hJ
      have HK := Lib.hid hK
      have HR := Lib.hid hr
      have HY := Lib.hid hY
      clear hJ hK hr hY
      obtain ⟨cnt, hc1, hc8, hcl, hc9⟩ : ∃ cnt : Nat, 1 ≤ cnt ∧ cnt ≤ 8 ∧ 8 * k + cnt ≤ len ∧ (cnt = 8 ∨ 8 * k + cnt = len) := by
        rcases Nat.lt_or_ge (8 * k + 8) len with h | h
        · exact ⟨8, by omega, by omega, by omega, .inl rfl⟩
        · exact ⟨len - 8 * k, by omega, by omega, by omega, .inr (by omega)⟩
      have HC9 := Lib.hid hc9
      clear hc9
      by_cases h8 : 8 * k + 8 ≤ len
      all_goals
        gi_wp2
        gi_loop [4, 5] (fun v i => ∃ j : Nat, j ≤ cnt ∧ i = .int .i64 (8 * (k : Int) + (j : Int) - 1) ∧ v = .int .u64 (word ((b.drop (8 * k + j)).take (cnt - j))))
          (fun _ i => (intOf i - 8 * (k : Int) + 1).toNat)
        case atStart =>
          refine ⟨cnt, Nat.le_refl _, ?_, by simp [word]⟩
          have := HC9.out
          first | (rw [show (8 * (k : Int) + 8 - 1) = 8 * (k : Int) + (cnt : Int) - 1 by omega]) | (rw [show ((len : Int) - 1) = 8 * (k : Int) + (cnt : Int) - 1 by omega])
        case round =>
          obtain ⟨j, hj, rfl, rfl⟩ := hrel
          rcases Nat.eq_zero_or_pos j with h0' | h0'
          · subst h0'
            have hkw : (wdsTo b k).length < nw b := by rw [wdsTo_length]; unfold nw; rw [HBL.out]; omega
            obtain ⟨fn, tmps, assign, body, hy, hR⟩ := HY.out _ (word ((b.drop (8 * k)).take cnt)) wr HJ.out hkw
            have HRR := Lib.hid hR
            clear hR
            gi_wp2
            refine HRR.out.mono ?_
            rintro e W3 (⟨rfl, hJ3, hk3⟩ | ⟨rfl, hJx3⟩)
            · gi_wp2
              go_roundw
              case rel => exact ⟨k + 1, by omega, by go_num, by rw [wdsTo_succ, ← wd_of_cnt HBL.out HC9.out hc8]; exact hJ3, HK.out.trans hk3⟩
              case measure => simp [intOf]; omega
            · gi_wp2
              refine bodyPost_ret (results_none rfl _ _ _) rfl ?_
              exact ⟨⟨_, rfl⟩, .inr ⟨_, ⟨k + 1, by unfold nw; rw [HBL.out]; omega, by rw [wdsTo_succ, ← wd_of_cnt HBL.out HC9.out hc8]⟩, hJx3⟩⟩
          · obtain ⟨j, rfl⟩ : ∃ j', j = j' + 1 := ⟨j - 1, by omega⟩
            obtain ⟨ad, u, rfl, hu, hcu⟩ := (HK.out.rd HR.out (fun k hk => .inr hk)).at_ (k := 8 * k + j) (by omega)
            obtain ⟨x, hx, rfl⟩ := bs_at hu
            have hw7 := word_lt7 (l := (b.drop (8 * k + (j + 1))).take (cnt - (j + 1))) (by simp; omega)
            have hst := Lib.hid (grp_val (m := cnt - (j + 1)) hx (by omega))
            clear hu hx
            gi_wp2
            go_round
            case rel => exact ⟨j, by omega, by go_num, by have := hst.out; rw [show 8 * k + (j + 1) = 8 * k + j + 1 from rfl, this, show cnt - (j + 1) + 1 = cnt - j by omega]⟩
            case measure => simp [intOf]; omega
    · have hk' : k = nw b := by unfold nw; rw [HBL.out]; omega
      gi_wp2
      go_end0
      subst hk'
      exact ⟨⟨_, rfl⟩, .inl ⟨_, rfl, hJ⟩⟩

end Go.Proofs.YtbocpkjajocpiaaGreatDoor

namespace Go.Proofs.YtbocpkjajocpiaaGreatDoor
open Go.RowKit Go.Shelf Go.Mem Go.Pure
attribute [local go_sem] Oper.semAt_some

set_option maxHeartbeats 400000 in
theorem groups_any (A : Option Addr) (len cap : Nat) (w : World) :
    Calls Tryz.prog 116 #[.slice A len cap] w fun e w' => ∃ Bs, e = .returned (.func (.func 143) #[] #[.pointer (some ⟨Bs, 0, none⟩)]) ∧ Blk w' Bs 81 #[.slice A len cap] ∧ New w w' ∧ w.heap.size ≤ Bs := by
  go_enter Tryz.func116, Tryz.ntmps116
  go_wp2
  go_ret
  exact ⟨w.heap.size, rfl, Blk.new _ _ _, (Chg.refl _ w).alloc _, Nat.le_refl _⟩

theorem groups_stops (n : Nat) (hn : 1 ≤ n) (Bs : Nat) (A : Option Addr) (len cap : Nat) (b : List UInt8) (hlen : len ≤ 1000000000) (w : World) (hBs : w.cell? ⟨Bs, 0, none⟩ = some (.slice A len cap)) (hr : Rd w A len (bs b)) :
    SeqStopsK Fence.wide n Tryz.prog 143 #[.pointer (some ⟨Bs, 0, none⟩)] (fun x : Nat => #[Value.int .u64 x]) (Keep (fun k => k = Bs ∨ blk A = some k)) (fun ys => ys = wds b) (fun _ => True) (nw b) w := fun l J Jx W hW _ _ hY h0 => by
  have hnew := New.of_below hW
  refine (groups1_in n hn l Bs A len cap b hlen J Jx hY W (hnew.cell hBs (fun h => h)) (hr.new hnew) h0).mono ?_
  rintro e W' ⟨he, ⟨ys, rfl, hj⟩ | ⟨pre, _, hj⟩⟩
  · exact ⟨he, .inl ⟨_, rfl, hj⟩⟩
  · exact ⟨he, .inr ⟨_, trivial, hj⟩⟩

set_option maxRecDepth 100000 in
set_option maxHeartbeats 2000000 in
theorem sum_any (s : ByteArray) (hs : s.size ≤ 1000000) (A : Option Addr) (n c : Nat) (l : List Int) (w : World) (hr : Rd w A n (is l)) (hn : n ≤ 1000000000) :
    Calls Tryz.prog 117 #[.string s, .slice A n c] w fun e w' => e = .returned (.int .u64 (sumI s.data.toList l)) ∧ New w w' := by
  refine (callsIn_wide (n := 10)).1 ?_
  refine callsIn_of_wp_marks Tryz.func117 rfl trivial ?_ rfl
  simp only [Tryz.ntmps117, List.size_toArray, List.length_cons, List.length_nil, Nat.reduceAdd, Nat.reduceSub, Array.replicate_succ, Array.replicate_zero, List.push_toArray, List.append_toArray, List.nil_append, List.cons_append]
  have hcv := fun W => Lib.run_convert_string_bytes (P := Tryz.prog) W 9 81 5 s Tryz.underlying9 Tryz.underlying81 Tryz.underlying5
  gi_wp2_with (refine ⟨trivial, ?_⟩; gi_at_call 116; refine (callsIn_wide.2 (groups_any _ _ _ _)).mono ?_; rintro e w' ⟨Bs, rfl, hBs, hnew, hle⟩)
  obtain ⟨w0, hw0⟩ : ∃ w0, w.alloc (.cells #[.int .u64 0] 22) = w0 := ⟨_, rfl⟩
  have hb0 : Blk w0 w.heap.size 22 #[.int .u64 0] := by rw [← hw0]; exact Blk.new _ _ _
  have hn0 : New w w0 := by rw [← hw0]; exact (Chg.refl _ w).alloc _
  have hz0 : w0.heap.size = w.heap.size + 1 := by rw [← hw0]; simp
  rw [hw0] at hBs hnew hle ⊢
  clear hw0
  rw [Lib.bytesWorld_size, hz0] at hle
  have hrb : Rd w' (some ⟨w.heap.size + 1, 0, none⟩) s.size (bs s.data.toList) := by
    have := conv_rd w0 5 s
    rw [hz0] at this
    exact this.new hnew
  have hn1 : New w w' := (hn0.new (conv_new w0 _ s)).new hnew
  have hb1 : Blk w' w.heap.size 22 #[.int .u64 0] := (hb0.chg (conv_new w0 _ s) (fun h => h)).chg hnew (fun h => h)
  have hbs := hBs.cell 0 rfl
  have hbl := hBs.lt
  clear hnew hcv hn0 hb0
  refine wpIn_rangeFunc_ownF rfl (by omega) (gf := 143) (lb := #[.pointer (some ⟨Bs, 0, none⟩)]) rfl trivial (enters_of Tryz.func143 (by kernel_rfl) rfl)
    (groups_stops 9 (by omega) Bs _ _ _ s.data.toList (by omega) w' hbs hrb) (fun h h' => Keep.trans h h') ?kb (Below.refl _ _) (fun _ => rfl)
    (fun pre W => Blk W w.heap.size 22 #[.int .u64 (absorb 0 (pre.map (fun n : Nat => (n : Int))))] ∧ Below w.heap.size w W)
    (fun _ _ _ => False)
    (OwnFrom.and (Own.from (own_blk w.heap.size 22 (fun pre : List Nat => #[.int .u64 (absorb 0 (pre.map (fun n : Nat => (n : Int))))])) _) (ownFrom_below (Nat.le_refl _) (by omega)))
    (fun _ _ _ _ _ hs _ _ => hs)
    ⟨hb1, New.below hn1⟩ ?a1 ?assign ?body ?done ?stop
  case assign =>
    intro l x W K hK
    gi_wp2
    exact hK
  case kb =>
    intro W l' o o' hl' ho _ _ k hk
    refine World.putObj_heap_other ?_
    rcases hk with rfl | hk
    · omega
    · simp [blk] at hk; omega
  case body =>
    rintro l' pre x W ⟨hb, hB⟩ _
    have hcs := hb.cell 0 rfl
    have hfs := hb.frozen 0
    gi_wp2_with (refine ⟨trivial, ?_⟩; gi_at_call 144; refine (CallsIn.inRound l' (callsIn_wide.2 (mix_any _ _ _))).mono ?_; rintro e w2 ⟨rfl, rfl⟩)
    refine ⟨KeepsOthers.setCell _ _ _, ?_, ?_, hB.setCell (p := ⟨w.heap.size, 0, none⟩) (Nat.le_refl _) _⟩
    · intro k hk
      refine Below.heap_setCell W ⟨w.heap.size, 0, none⟩ _ k ?_
      rcases hk with rfl | hk
      · simp; omega
      · simp [blk] at hk; simp; omega
    · have := hb.set_ 0 (.int .u64 (mixI (absorb 0 (pre.map (fun n : Nat => (n : Int)))) x))
      rw [List.map_append, List.map_cons, List.map_nil, absorb_snoc]
      exact this
  case stop =>
    rintro D c pre W _ _ h _
    exact h.elim
  case done =>
    rintro D ys W hD rfl ⟨hb, hB⟩ hK
    have hcs := hb.cell 0 rfl
    have hfs := hb.frozen 0
    have hrw : Rd W A n (is l) := hr.new (New.of_below hB)
    have hDn : w.heap.size < D := by omega
    have HB := Lib.hid hb
    have HBB := Lib.hid hB
    have HK := Lib.hid hK
    clear hb hB hK
    gi_wp2_with (refine ⟨trivial, ?_⟩; gi_at_call 144; refine (callsIn_wide.2 (mix_any _ _ _)).mono ?_; rintro e w2 ⟨rfl, rfl⟩)
    have hll : l.length = n := by have := hr.len; rwa [is_length] at this
    have HLL := Lib.hid hll
    clear hll
    gi_loopw [28] (fun i wr => ∃ k : Nat, k ≤ n ∧ i = .int .i64 k ∧ Blk wr w.heap.size 22 #[.int .u64 (absTo (mixI (mixI (absorb 0 ((wds s.data.toList).map (fun n : Nat => (n : Int)))) s.size) n) l k)] ∧ Below w.heap.size w wr ∧ wr.heap[D]? = some (.deferred (some [])))
      (fun i _ => n - (intOf i).toNat)
    case atStart =>
      refine ⟨0, Nat.zero_le _, rfl, ?_, ?_, ?_⟩
      · exact (HB.out.set_ 0 _).set_ 0 _
      · exact (HBB.out.setCell (p := ⟨w.heap.size, 0, none⟩) (Nat.le_refl _) _).setCell (p := ⟨w.heap.size, 0, none⟩) (Nat.le_refl _) _
      · exact (KeepsOthers.setCell _ _ _).same D _ ((KeepsOthers.setCell _ _ _).same D _ HK.out rfl) rfl
    case round =>
      obtain ⟨k, hk, rfl, hb, hB, hKd⟩ := hrel
      have hcs := hb.cell 0 rfl
      have hfs := hb.frozen 0
      have HB := Lib.hid hb
      have HBB := Lib.hid hB
      have HK := Lib.hid hKd
      clear hb hB hKd
      by_cases hlt : k < n
      · obtain ⟨ad, u, rfl, hu, hcu⟩ := (hr.new (New.of_below HBB.out)).at_ hlt
        obtain ⟨z, hz, rfl⟩ := is_at hu
        have HZ := Lib.hid hz
        clear hu hz hr hrw
        gi_wp2_with (refine ⟨trivial, ?_⟩; gi_at_call 144; refine (callsIn_wide.2 (mix_any _ _ _)).mono ?_; rintro e w2 ⟨rfl, rfl⟩)
        go_roundw
        case rel =>
          refine ⟨k + 1, by omega, by go_num, ?_, HBB.out.setCell (p := ⟨w.heap.size, 0, none⟩) (Nat.le_refl _) _, (KeepsOthers.setCell _ _ _).same D _ HK.out rfl⟩
          rw [absTo_succ HZ.out]
          exact HB.out.set_ 0 _
        case measure => simp [intOf]; omega
      · obtain rfl : n = k := by omega
        gi_wp2_with (refine ⟨trivial, ?_⟩; gi_at_call 144; refine (callsIn_wide.2 (mix_any _ _ _)).mono ?_; rintro e w2 ⟨rfl, rfl⟩)
        refine ⟨by simp, .inl ⟨_, _, rfl, run_takeDeferred HK.out, ?_⟩⟩
        refine ⟨_, results_tmp rfl _ _ _, ?_, New.of_below (HBB.out.trans (belowK_b (w := w) (Nat.le_refl _) _ D _ _ (by omega) HK.out rfl rfl))⟩
        refine ret_int ?_
        have := HLL.out
        subst this
        rw [absTo_all]
        unfold sumI
        rw [Array.length_toList]
        rfl

end Go.Proofs.YtbocpkjajocpiaaGreatDoor

namespace Go.Proofs.YtbocpkjajocpiaaGreatDoor
open Go.RowKit Go.Shelf Go.Mem Go.Pure
attribute [local go_sem] Oper.semAt_some

/-- What the words of the bytes, as ints, are. -/
def iw (pre : List Nat) : List Int := pre.map (fun n : Nat => wrap64 (n : Int))
theorem iw_snoc (pre : List Nat) (x : Nat) : iw (pre ++ [x]) = iw pre ++ [wrap64 (x : Int)] := by simp [iw]
set_option maxRecDepth 100000 in
set_option maxHeartbeats 2000000 in
theorem hbytes_any (s : ByteArray) (hs : s.size ≤ 1000000) (A : Option Addr) (n c : Nat) (l : List UInt8) (w : World) (hr : Rd w A n (bs l)) (hn : n ≤ 1000000000) (hA : ∀ k, blk A = some k → k < w.heap.size) :
    Calls Tryz.prog 70 #[.string s, .slice A n c] w fun e w' => e = .returned (.int .u64 (bytesI s.data.toList l)) ∧ New w w' := by
  have hll : l.length = n := by have := hr.len; rwa [bs_length] at this
  have HLL := Lib.hid hll
  clear hll
  obtain ⟨i0, hi, hz0, hz1, hz2⟩ := elemInts.2.1
  refine (callsIn_wide (n := 10)).1 ?_
  refine callsIn_of_wp_marks Tryz.func70 rfl trivial ?_ rfl
  simp only [Tryz.ntmps70, List.size_toArray, List.length_cons, List.length_nil, Nat.reduceAdd, Nat.reduceSub, Array.replicate_succ, Array.replicate_zero, List.push_toArray, List.append_toArray, List.nil_append, List.cons_append]
  gi_wp2_with (first | (gi_at_make; refine wpListIn_make_own _ rfl _ _ 23 rfl w.heap.size 3 i0 (.int .i64 0) 1 Tryz.underlying23 hi hz0 hz1 _ _ _ (n / 8 + 2) rfl rfl (by omega) (by rw [hz2]; omega) (by simp only [maxLen]; omega) (Nat.le_refl _) ?_; intro w1 hown1 hg1) | (refine ⟨trivial, ?_⟩; gi_at_call 116; refine (callsIn_wide.2 (groups_any _ _ _ _)).mono ?_; rintro e w' ⟨Bs, rfl, hBs, hnew, hle⟩))
  obtain ⟨g, hgz⟩ : ∃ g, w1.heap.size = g := ⟨_, rfl⟩
  rw [World.size_alloc, hgz] at hle
  have hwg : w.heap.size ≤ g := by rw [← hgz]; exact hg1.size
  have hn1 : New w w' := (((Chg.refl _ w).grown hg1 (fun k hk => by cases hk)).alloc _).new hnew
  have hb1 : Blk w' g 23 #[.slice (some ⟨w.heap.size, 0, none⟩) 0 (n / 8 + 2)] := by
    have := Blk.new w1 23 #[.slice (some ⟨w.heap.size, 0, none⟩) 0 (n / 8 + 2)]
    rw [hgz] at this
    exact this.chg hnew (fun h => h)
  have ho1 : w'.ownsRow w.heap.size 3 1 (.slice (some ⟨w.heap.size, 0, none⟩) 0 (n / 8 + 2)) 0 [] := own_chg (hown1.alloc _) hnew (fun _ _ h => h)
  have hbs := hBs.cell 0 rfl
  have hbl := hBs.lt
  rw [hgz]
  clear hnew hown1 hg1 hgz
  have hr' := hr.new hn1
  refine wpIn_rangeFunc_ownF rfl (by omega) (gf := 143) (lb := #[.pointer (some ⟨Bs, 0, none⟩)]) rfl trivial (enters_of Tryz.func143 (by kernel_rfl) rfl)
    (groups_stops 9 (by omega) Bs A n c l (by omega) w' hbs hr') (fun h h' => Keep.trans h h') ?kb (Below.refl _ _) (fun _ => rfl)
    (fun pre W => ∃ A1 c1, Blk W g 23 #[.slice A1 pre.length c1] ∧ W.ownsRow w.heap.size 3 1 (.slice A1 pre.length c1) pre.length (is (iw pre)) ∧ Blk W Bs 81 #[.slice A n c] ∧ Below w.heap.size w W)
    (fun _ _ _ => False)
    ?hI (fun _ _ _ _ _ hs _ _ => hs) ⟨_, _, hb1, ho1, hBs, New.below hn1⟩ ?a1 ?assign ?body ?done ?stop
  case assign =>
    intro l' x W K hK
    gi_wp2
    exact hK
  case kb =>
    intro W l' o o' hl' ho _ _ k hk
    refine World.putObj_heap_other ?_
    rcases hk with rfl | hk
    · omega
    · have := hA k hk; omega
  case hI =>
    rintro pre W W' row ⟨A1, c1, h1, h2, h3, h4⟩ hg hr
    exact ⟨A1, c1, blk_kept h1 hg (fun r e => (hr r e).2), row_kept h2 hg (fun r e => (hr r e).2), blk_kept h3 hg (fun r e => (hr r e).2), h4.grown hg h4.size (fun k e => by have := (hr k e).1; omega)⟩
  case body =>
    rintro l' pre x W ⟨A1, c1, hb, ho, hB3, hB⟩ hlen
    have hnw : nw l ≤ 125000001 := by unfold nw; rw [HLL.out]; omega
    have hcs := hb.cell 0 rfl
    have hfs := hb.frozen 0
    have hgl := hb.lt
    obtain ⟨N, hN⟩ : ∃ N, pre.length = N := ⟨_, rfl⟩
    have HN := Lib.hid hN
    rw [hN] at hb ho hcs hlen
    have HB := Lib.hid hb
    have HO := Lib.hid ho
    have HB3 := Lib.hid hB3
    have HBB := Lib.hid hB
    clear hb ho hB3 hB hN
    gi_wp2_with (gi_at_builtin; refine wpListIn_app elemInts rfl _ _ rfl rfl (HO.out.alloc _) rfl Rd.one (by simp [Value.oneCell']) (by simp only [maxLen]; omega) (by omega) (by have := HBB.out.size; simp; omega) ?_; intro A' c' w2 hown2 hg2 hat2; have hb2 := (HB.out.alloc _).grown hg2 (HB.out.ne_own HO.out (by decide)); have hcc2 := hb2.cell 0 rfl; have hff2 := hb2.frozen 0; have HB2 := Lib.hid hb2; have HO2 := Lib.hid hown2; clear hb2 hown2)
    have hchg : Chg (fun k => k = g ∨ blk A1 = some k) W (w2.setCell ⟨g, 0, none⟩ (.slice A' (N + 1) c')) :=
      ((((Chg.refl _ W).alloc _).grown hg2 (fun k hk _ => .inr hk)).setCell (fun _ => .inl rfl) _)
    have hne := HB2.out.ne_own HO2.out (by decide)
    refine ⟨(KeepsOthers.alloc _ _).trans ((KeepsOthers.of_app (HO.out.alloc _) hg2).trans (KeepsOthers.setCell _ _ _)), Keep.of_chg hchg ?_, A', c', ?_, ?_, ?_, ?_⟩
    · rintro k (rfl | hk)
      · exact ⟨HB3.out.lt, fun h => by
          rcases h with h | h
          · omega
          · exact HB3.out.ne_own HO.out (by decide) h⟩
      · have h1 := hA k hk
        have h2 := HBB.out.size
        exact ⟨by omega, fun h => by
          rcases h with h | h
          · omega
          · have := own_blk_le HO.out h; omega⟩
    · rw [List.length_append, HN.out]
      exact HB2.out.set_ 0 _
    · rw [List.length_append, HN.out, iw_snoc, is_append]
      change World.ownsRow _ _ _ _ (.slice A' (N + 1) c') (N + 1) (is (iw pre) ++ [Value.int .i64 (wrap64 (x : Int))])
      exact own_chg (S := fun k => k = g) HO2.out ((Chg.refl (fun k => k = g) w2).setCell (p := ⟨g, 0, none⟩) (fun _ => rfl) _) (fun k hk e => hne (by rw [hk, e]))
    · exact HB3.out.chg hchg (fun h => by
        rcases h with h | h
        · omega
        · exact HB3.out.ne_own HO.out (by decide) h)
    · exact HBB.out.trans (hchg.below (fun k h => by
        rcases h with h | h
        · omega
        · exact (own_blk_le HO.out h).1) HBB.out.size)
  case stop =>
    rintro D c pre W _ _ h _
    exact h.elim
  case done =>
    rintro D ys W hD rfl ⟨A1, c1, hb, ho, hB3, hB⟩ hK
    have hnw : nw l ≤ 125000001 := by unfold nw; rw [HLL.out]; omega
    have hcs := hb.cell 0 rfl
    have hfs := hb.frozen 0
    have hgl := hb.lt
    have hN := wds_length l
    obtain ⟨N, hN2⟩ : ∃ N, nw l = N := ⟨_, rfl⟩
    rw [hN2] at hN hnw
    rw [hN] at hb ho hcs
    have HN := Lib.hid hN
    have HB := Lib.hid hb
    have HO := Lib.hid ho
    have HBB := Lib.hid hB
    have HK := Lib.hid hK
    clear hb ho hB3 hB hN hN2 hK
    gi_wp2_with (first | (gi_at_builtin; refine wpListIn_app elemInts rfl _ _ rfl rfl (HO.out.alloc _) rfl Rd.one (by simp [Value.oneCell']) (by simp only [maxLen]; omega) (by omega) (by have := HBB.out.size; simp; omega) ?_; intro A' c' w2 hown2 hg2 hat2; have hb2 := (HB.out.alloc _).grown hg2 (HB.out.ne_own HO.out (by decide)); have hcc2 := hb2.cell 0 rfl; have hff2 := hb2.frozen 0; have HB2 := Lib.hid hb2; have HO2 := Lib.hid hown2; clear hb2 hown2))
    have hchg : Chg (fun k => k = g ∨ blk A1 = some k) W (w2.setCell ⟨g, 0, none⟩ (.slice A' (N + 1) c')) :=
      ((((Chg.refl _ W).alloc _).grown hg2 (fun k hk _ => .inr hk)).setCell (fun _ => .inl rfl) _)
    have hne := HB2.out.ne_own HO2.out (by decide)
    have ho3 : (w2.setCell ⟨g, 0, none⟩ (.slice A' (N + 1) c')).ownsRow w.heap.size 3 1 (.slice A' (N + 1) c') (N + 1) (is (iw (wds l) ++ [(n : Int)])) := by
      rw [is_append]
      exact own_chg (S := fun k => k = g) HO2.out ((Chg.refl (fun k => k = g) w2).setCell (p := ⟨g, 0, none⟩) (fun _ => rfl) _) (fun k hk e => hne (by rw [hk, e]))
    have hB3 : Below w.heap.size w (w2.setCell ⟨g, 0, none⟩ (.slice A' (N + 1) c')) := HBB.out.trans (hchg.below (fun k h => by
      rcases h with h | h
      · omega
      · exact (own_blk_le HO.out h).1) HBB.out.size)
    have hK3 : (w2.setCell ⟨g, 0, none⟩ (.slice A' (N + 1) c')).heap[D]? = some (.deferred (some [])) :=
      ((KeepsOthers.alloc _ _).trans ((KeepsOthers.of_app (HO.out.alloc _) hg2).trans (KeepsOthers.setCell _ _ _))).same D _ HK.out rfl
    refine ⟨trivial, (callsIn_wide.2 (sum_any s hs A' (N + 1) c' (iw (wds l) ++ [(n : Int)]) _ (Rd.of_own ho3) (by omega))).mono ?_⟩
    rintro e w3 ⟨rfl, hn3⟩
    have hK4 := hn3.heap hK3 (fun h => h)
    have HB3 := Lib.hid hB3
    have HK4 := Lib.hid hK4
    clear hB3 hK3 hK4 hchg ho3
    gi_wp2
    refine ⟨by simp, .inl ⟨_, _, rfl, run_takeDeferred HK4.out, ?_⟩⟩
    refine ⟨_, results_tmp rfl _ _ _, ?_, New.of_below ((HB3.out.trans (New.below hn3 |>.mono HB3.out.size)).trans (belowK_b (w := w) (Nat.le_refl _) _ D _ _ (by have := HBB.out.size; omega) HK4.out rfl rfl))⟩
    refine ret_int ?_
    unfold bytesI
    rw [HLL.out]
    rfl

end Go.Proofs.YtbocpkjajocpiaaGreatDoor

namespace Go.Col
set_option linter.unusedVariables false
open Go.RowKit Go.Mem

/-- A slice of so many elements (sz cells each) that owns its row, of a colour; its cells. Without elements it may be nil. -/
def OwnRow (n sz : Nat) (t : TypeId) (v : Value) (len : Nat) (xs : List Value) (w : World) (c : Colr) : Prop :=
  xs.length = len * sz ∧ ((v = .slice none 0 0 ∧ len = 0) ∨ ∃ g cp cs, v = .slice (some ⟨g, 0, none⟩) len cp ∧ len ≤ cp ∧ c g = n ∧ Blk w g t cs ∧ cs.size = cp * sz ∧ cs.toList.take (len * sz) = xs)
section
variable {P : Program} {w w' : World} {c c' : Colr} {n sz len m : Nat} {t e ty : TypeId} {v z : Value} {xs news : List Value} {S : List Nat}
theorem OwnRow.ext (h : OwnRow n sz t v len xs w c) (he : Ext S w c w' c') (hn : S.contains n = false) : OwnRow n sz t v len xs w' c' := by
  refine ⟨h.1, h.2.imp id ?_⟩
  rintro ⟨g, cp, cs, h1, h2, h3, h4, h5, h6⟩
  obtain ⟨q1, q2⟩ := blk_ext h4 h3 he hn
  exact ⟨g, cp, cs, h1, h2, q2, q1, h5, h6⟩
theorem OwnRow.nil : OwnRow n sz t (.slice none 0 0) 0 [] w c := ⟨by simp, .inl ⟨rfl, rfl⟩⟩
theorem OwnRow.open (h : OwnRow n sz t v len xs w c) (hl : 0 < len) : ∃ g cp, v = .slice (some ⟨g, 0, none⟩) len cp := by
  rcases h.2 with ⟨_, h0⟩ | ⟨g, cp, cs, h1, _⟩
  · omega
  · exact ⟨g, cp, h1⟩
theorem OwnRow.cell (h : OwnRow n sz t v len xs w c) {g cp : Nat} (hv : v = .slice (some ⟨g, 0, none⟩) len cp) {j : Nat} {u : Value} (hu : xs[j]? = some u) : w.cell? ⟨g, j, none⟩ = some u := by
  rcases h.2 with ⟨h1, _⟩ | ⟨g', cp', cs, h1, h2, h3, h4, h5, h6⟩
  · rw [h1] at hv; cases hv
  · rw [h1] at hv
    injection hv with hv
    injection hv with hv
    injection hv with hv
    subst hv
    refine h4.cell j ?_
    rw [← h6, List.getElem?_take] at hu
    split at hu
    · simpa using hu
    · cases hu
theorem all_nb {l : List Value} : (l.all (fun v => !NB v) = true) ↔ ∀ v ∈ l, NB v = false := by simp
end
end Go.Col

namespace Go.Col
set_option linter.unusedVariables false
open Go.RowKit Go.Mem

theorem own_now {d : Nat} {τ : TyO} {b : BB} {f : FF} {u : Value} {w : World} {c : Colr} (h : τ.sat u w c) : (RF.own d τ).P b (upF (some d) u f) w c := fun v hv => by
  rw [up_at] at hv
  injection hv with hv
  exact hv ▸ h
theorem own_nyet {d p : Nat} {τ : TyO} {b : BB} {f : FF} {u : Value} {w : World} {c : Colr} (hp : (p == d) = false) (h : f p = none) : (RF.own p τ).P b (upF (some d) u f) w c := fun v hv => by
  have : upF (some d) u f p = f p := by
    have : ¬ p = d := by simpa using hp
    have h2 : ¬ d = p := fun e => this e.symm
    unfold upF
    split
    · rename_i h3
      injection h3 with h3
      exact absurd h3 h2
    · rfl
  rw [this, h] at hv
  cases hv
theorem All.co {v : Value} {τ : TyO} {L : List RF} {b : BB} {f : FF} {w : World} {c : Colr} (h : τ.sat v w c) (hL : All L b f w c) : All (.s (Fact.own τ v) :: L) b f w c := ⟨h, hL⟩
theorem All.own {L : List RF} {b : BB} {f : FF} {w : World} {c : Colr} {τ : TyO} {v : Value} (h : All L b f w c) (k : Nat) (hk : nthR L k = .s (Fact.own τ v)) : τ.sat v w c := by
  have := All.nth k h
  rw [hk] at this
  exact this
theorem All.no {L : List RF} {b : BB} {f : FF} {w : World} {c : Colr} {τ : TyO} {p : Nat} {v : Value} (h : All L b f w c) (k : Nat) (hk : nthR L k = .own p τ) (hf : f p = some v) : τ.sat v w c := by
  have := All.nth k h
  rw [hk] at this
  exact this v hf
theorem All.cown {L : List RF} {w : World} {c : Colr} (p : Nat) (τ : TyO) (h : All L b0 f0 w c) : All (.own p τ :: L) b0 f0 w c := ⟨RF.own_none, h⟩
section
variable {P : Program} {l : List Oper} {dt : List (List Nat)} {Q : Exit → Act → World → Prop} {n : Nat} {a : Act} {m : Nat → Option Value} {D CB : List Nat} {Fs : List RF} {V : Nat → TyC} {w0 : World} {c0 : Colr} {i : Nat}
theorem unset_of {b : BB} {f : FF} {w : World} {c : Colr} (hJ : J l.toArray w0 c0 CB Fs V b f w c) {j p : Nat} (hb : b j = false) (hp : dstOf l j = some p) : f p = none := by
  unfold dstOf at hp
  cases ho : nthL l j with
  | none => rw [ho] at hp; cases hp
  | some oj =>
    rw [ho] at hp
    rw [nthL_eq] at ho
    have := hJ.set j oj p (by simpa using ho) hp
    cases hf : f p with
    | none => rfl
    | some v =>
      have := this.2 (by rw [hf]; simp)
      rw [hb] at this
      cases this
/-- A move of an owned value. -/
theorem sMvO (q p k : Nat) {o : Oper} {τ : TyO} (j : Nat) (hi : nthL l i = some o := by rfl) (hop : o.op = .move (.tmp q) ∨ o.op = .assign (.tmp q) := by first | exact .inl rfl | exact .inr rfl) (hd : o.dst = some p := by rfl) (hA : Fs.filter (aff [] i (some p)) = [.own p τ] := by rfl) (hk : nthR Fs k = .own q τ := by rfl) (hV : V p = TyC.any := by rfl) (hq : dep dt i j = true ∧ decide (q < n) = true ∧ dstOf l j = some q := by exact ⟨rfl, rfl, rfl⟩) (hg : Gd l n dt V i o.guard := by first | exact trivial | exact ⟨rfl, _, ⟨rfl, rfl⟩, rfl⟩) : OpStep P l dt Q n a m D CB Fs V w0 c0 i := by
  intro b f w c x o' hJ hout hF hE ho K
  obtain rfl : o = o' := Option.some.inj (hi.symm.trans ho)
  obtain ⟨v, ev, hfv⟩ : ∃ v, x.eval (.tmp q) = v ∧ f q = some v := by
    obtain ⟨h1, h2, h3⟩ := hq
    unfold dstOf at h3
    split at h3
    · rename_i oj hoj
      rw [nthL_eq] at hoj
      have h4 := (hJ.set j oj q (by simpa using hoj) h3).1 (K.done j h1)
      cases hf : f q with
      | none => exact absurd hf h4
      | some v => exact ⟨v, hF.in (by rw [hE.1]; exact of_decide_eq_true h2) hf, rfl⟩
    · cases h3
  exact .pure p (hg.wanted hJ hF hE K) hd (by rw [hA]; exact ⟨own_now (All.no K.fac k hk hfv), trivial⟩) hJ.gi (ex_move hop ev) (by rw [hV]; trivial)
end
end Go.Col

namespace Go.Col
set_option linter.unusedVariables false
open Go.RowKit Go.Mem

/-- The string with these bytes. -/
abbrev Sb (l : List UInt8) : ByteArray := ⟨l.toArray⟩
/-- A byte slice that owns its row, of a colour. -/
def byO (n : Nat) (l : List UInt8) : TyO := ⟨[n], fun v w c => ∃ g cp cs t x, v = .slice (some ⟨g, 0, none⟩) l.length cp ∧ l.length ≤ cp ∧ c g = n ∧ w.heap[g]? = some (.cells cs t x) ∧ (∀ j, j < l.length → (decide (x.1 ≤ j) && decide (j < x.2)) = false) ∧ ∀ (j : Nat) (u : Value), (bs l)[j]? = some u → cs[j]? = some u,
  fun {S v w c w' c'} ⟨g, cp, cs, t, x, h1, h2, h3, h4, h5, h6⟩ gi e hn => by
    have hlt : g < w.heap.size := (Array.getElem?_eq_some_iff.1 h4).1
    exact ⟨g, cp, cs, t, x, h1, h2, (e.col g hlt).trans h3, e.chg.heap h4 (fun hs => by rw [h3] at hs; simp at hn; simp [hn] at hs), h5, h6⟩⟩
section
variable {P : Program} {w w' : World} {c c' : Colr} {n m : Nat} {v : Value} {l : List UInt8}
theorem byO_rd (h : (byO n l).sat v w c) : ∃ g cp, v = .slice (some ⟨g, 0, none⟩) l.length cp ∧ l.length ≤ cp ∧ Rd w (some ⟨g, 0, none⟩) l.length (bs l) := by
  obtain ⟨g, cp, cs, t, x, h1, h2, h3, h4, h5, h6⟩ := h
  refine ⟨g, cp, h1, h2, by simp [bs], fun _ => ⟨_, rfl, fun j u hu => ?_⟩⟩
  rw [Addr.add_lit, Nat.zero_add]
  exact (cell_of_row w g j cs t x h4).trans (h6 j u hu)
theorem bytes_nb (l : List UInt8) (k : Nat) : ((bs l).toArray ++ Array.replicate k (Value.int .u8 0)).toList.all (fun v => !NB v) = true := by
  rw [all_nb]
  intro v hv
  simp only [Array.toList_append, List.mem_append, Array.toList_replicate, List.mem_replicate, bs, List.mem_map] at hv
  rcases hv with ⟨x, _, rfl⟩ | ⟨_, rfl⟩
  · rfl
  · rfl
theorem bytesCells_eq (w : World) (e : TypeId) (l : List UInt8) : Lib.bytesCells w e (Sb l) = (bs l).toArray ++ Array.replicate (grownCap w (Sb l).size 0 e - (Sb l).size) (Value.int .u8 0) := by
  unfold Lib.bytesCells
  congr 1
  simp [Sb, bs, By]
/-- []byte(s). -/
theorem conv_own {e : TypeId} (l : List UInt8) (g : GI w c) (hS : ([n].contains 0 || [n].contains 1) = false) :
    Ext [n] w c (Lib.bytesWorld w e (Sb l)) (setC c w.heap.size n) ∧ (byO n l).sat (.slice (some ⟨w.heap.size, 0, none⟩) (Sb l).size (grownCap w (Sb l).size 0 e)) (Lib.bytesWorld w e (Sb l)) (setC c w.heap.size n) := by
  have hsz : (Sb l).size = l.length := by simp [Sb, ByteArray.size]
  have hnew := Lib.bytesWorld_at_new w e (Sb l)
  refine ⟨⟨hS, ⟨rfl, rfl, rfl, by rw [Lib.bytesWorld_size]; omega, fun k hk _ => Lib.bytesWorld_at_old w e _ k hk⟩, fun k hk => if_neg (show ¬ k = w.heap.size by omega), fun k h1 h2 => ?_, ?_⟩, ?_⟩
  · rw [Lib.bytesWorld_size] at h2
    obtain rfl : k = w.heap.size := by omega
    exact .inr (.inr (by simp [setC]))
  · intro k cs' t' x hb hc v hv
    by_cases hk : k = w.heap.size
    · subst hk
      rw [hnew] at hb
      injection hb with hb
      injection hb with hb
      subst hb
      rw [bytesCells_eq] at hv
      exact all_nb.1 (bytes_nb l _) v hv
    · have hlt : k < w.heap.size := by
        have := (Array.getElem?_eq_some_iff.1 hb).1
        rw [Lib.bytesWorld_size] at this; omega
      rw [Lib.bytesWorld_at_old w e _ k hlt] at hb
      simp only [setC, if_neg hk] at hc
      exact g k cs' t' x hb hc v hv
  · refine ⟨w.heap.size, _, _, e, _, by rw [hsz], by rw [← hsz]; exact grownCap_ge _ _ _ _, by simp [setC], hnew, fun j hj => ?_, fun j u hu => ?_⟩
    · have : (Lib.bytesCells w e (Sb l)).size ≥ l.length := by rw [bytesCells_eq]; simp [bs]
      simp
      omega
    · rw [bytesCells_eq, Array.getElem?_append_left]
      · simpa using hu
      · have := (List.getElem?_eq_some_iff.1 hu).1
        simpa using this
end
theorem RF.in0 {i : Nat} {F1 : Fact} {F0 : RF} {b : BB} {f : FF} {w : World} {c : Colr} (h : (RF.st i F1 F0).P b f w c) (hb : b i = false) : F0.P b f w c := h.2 hb
theorem RF.inS {F : Fact} {b : BB} {f : FF} {w : World} {c : Colr} (h : (RF.s F).P b f w c) : F.P w c := h
theorem st_now' {i : Nat} {F1 : Fact} {F0 : RF} {b : BB} {f : FF} {w : World} {c : Colr} (h : F1.P w c) : (RF.st i F1 F0).P (bup b i) f w c := ⟨fun _ => h, fun hbb => (by rw [bup_at] at hbb; cases hbb)⟩
section
variable {P : Program} {l : List Oper} {dt : List (List Nat)} {Q : Exit → Act → World → Prop} {n : Nat} {a : Act} {m : Nat → Option Value} {D CB : List Nat} {Fs : List RF} {V : Nat → TyC} {w0 : World} {c0 : Colr} {i : Nat}
/-- A call that changes an owned object. -/
theorem sM1 (nc d : Nat) {o : Oper} {fn : Nat} {tys : Array TypeId} {fd : Func} {F1 : Fact} {F0 : RF} (r0 : XA n l dt m D i) (L : ∀ {b : BB} {f : FF} {w : World} {c : Colr} {v0 : Value}, Kx dt w0 c0 CB Fs i b f w c → r0.r.T V w c v0 → CE P fn #[r0.r.W v0] w c [nc] (fun v w' c' => (V d).sat v w' c' ∧ F1.P w' c')) (hfn : P.funcs[fn]? = some fd) (hi : nthL l i = some o := by rfl) (hop : o.op = .call { callee := .value (.func fn), args := #[r0.r.opd], argTypes := tys } := by rfl) (hd : o.dst = some d := by rfl) (hA : Fs.filter (aff [nc] i (some d)) = [.st i F1 F0] := by rfl) (hCB : [nc].all (CB.contains ·) = true := by rfl) (hnb : (fd.name == "runtime.NumGoroutine" || fd.body.isNone) = false := by rfl) (hg : Gd l n dt V i o.guard := by first | exact trivial | exact ⟨rfl, _, ⟨rfl, rfl⟩, rfl⟩) : OpStep P l dt Q n a m D CB Fs V w0 c0 i := by
  intro b f w c x o' hJ hout hF hE ho K
  obtain rfl : o = o' := Option.some.inj (hi.symm.trans ho)
  obtain ⟨v0, ev0, sv0⟩ := r0.ev hJ hout hF hE K
  exact .callE d [nc] (hg.wanted hJ hF hE K) hd hCB hJ.gi hop (vs := #[r0.r.W v0]) (by simp [ev0]) (enter_of hfn hnb _) (L K sv0) (fun v w' c' h _ => ⟨h.1, by rw [hA]; exact ⟨st_now' h.2, trivial⟩⟩)
theorem sM2 (nc d : Nat) {o : Oper} {fn : Nat} {tys : Array TypeId} {fd : Func} {F1 : Fact} {F0 : RF} (r0 : XA n l dt m D i) (r1 : XA n l dt m D i) (L : ∀ {b : BB} {f : FF} {w : World} {c : Colr} {v0 v1 : Value}, Kx dt w0 c0 CB Fs i b f w c → r0.r.T V w c v0 → r1.r.T V w c v1 → CE P fn #[r0.r.W v0, r1.r.W v1] w c [nc] (fun v w' c' => (V d).sat v w' c' ∧ F1.P w' c')) (hfn : P.funcs[fn]? = some fd) (hi : nthL l i = some o := by rfl) (hop : o.op = .call { callee := .value (.func fn), args := #[r0.r.opd, r1.r.opd], argTypes := tys } := by rfl) (hd : o.dst = some d := by rfl) (hA : Fs.filter (aff [nc] i (some d)) = [.st i F1 F0] := by rfl) (hCB : [nc].all (CB.contains ·) = true := by rfl) (hnb : (fd.name == "runtime.NumGoroutine" || fd.body.isNone) = false := by rfl) (hg : Gd l n dt V i o.guard := by first | exact trivial | exact ⟨rfl, _, ⟨rfl, rfl⟩, rfl⟩) : OpStep P l dt Q n a m D CB Fs V w0 c0 i := by
  intro b f w c x o' hJ hout hF hE ho K
  obtain rfl : o = o' := Option.some.inj (hi.symm.trans ho)
  obtain ⟨v0, ev0, sv0⟩ := r0.ev hJ hout hF hE K
  obtain ⟨v1, ev1, sv1⟩ := r1.ev hJ hout hF hE K
  exact .callE d [nc] (hg.wanted hJ hF hE K) hd hCB hJ.gi hop (vs := #[r0.r.W v0, r1.r.W v1]) (by simp [ev0, ev1]) (enter_of hfn hnb _) (L K sv0 sv1) (fun v w' c' h _ => ⟨h.1, by rw [hA]; exact ⟨st_now' h.2, trivial⟩⟩)
end
end Go.Col

namespace Go.Col
set_option linter.unusedVariables false
open Go.RowKit Go.Mem

/-- A value that owns nothing. -/
def TyO.of (τ : TyC) : TyO := ⟨[], τ.sat, fun h g e _ => τ.stab h g e⟩
/-- The colours behind a call that changes an object of the colour n: own tells its new blocks. -/
def extO (c : Colr) (m n : Nat) (own : Nat → Bool) : Colr := fun k => if k < m then c k else if own k then n else 0
theorem extO_old {c : Colr} {m n k : Nat} {own : Nat → Bool} (h : k < m) : extO c m n own k = c k := if_pos h
theorem extO_own {c : Colr} {m n k : Nat} {own : Nat → Bool} (h : m ≤ k) (ho : own k = true) : extO c m n own k = n := by
  unfold extO
  rw [if_neg (by omega), if_pos ho]
theorem extO_plain {c : Colr} {m n k : Nat} {own : Nat → Bool} (h : m ≤ k) (ho : own k = false) : extO c m n own k = 0 := by
  unfold extO
  rw [if_neg (by omega), if_neg (by rw [ho]; simp)]
/-- A call that changes blocks of the colour n alone. -/
theorem Ext.of_obj {n : Nat} {S : Nat → Prop} {own : Nat → Bool} {w w' : World} {c : Colr} (g : GI w c) (hn : ([n].contains 0 || [n].contains 1) = false) (h : Chg S w w') (hc : ∀ k, S k → k < w.heap.size → c k = n)
    (hb : ∀ k, (k < w.heap.size ∧ S k) ∨ (w.heap.size ≤ k ∧ own k = true) → ∀ cs t x, w'.heap[k]? = some (.cells cs t x) → ∀ v ∈ cs.toList, NB v = false) : Ext [n] w c w' (extO c w.heap.size n own) := by
  refine ⟨hn, ⟨h.os, h.tape, h.output, h.size, fun k hk hs => h.block k hk (fun hS => hs (by rw [hc k hS hk]; simp))⟩, fun k hk => extO_old hk, fun k h1 h2 => ?_, ?_⟩
  · cases ho : own k with
    | true => rw [extO_own h1 ho]; exact .inr (.inr (by simp))
    | false => rw [extO_plain h1 ho]; exact .inl rfl
  · intro k cs t x hk hck v hv
    by_cases hlt : k < w.heap.size
    · by_cases hS : S k
      · exact hb k (.inl ⟨hlt, hS⟩) cs t x hk v hv
      · rw [h.block k hlt hS] at hk
        rw [extO_old hlt] at hck
        exact g k cs t x hk hck v hv
    · cases ho : own k with
      | true => exact hb k (.inr ⟨by omega, ho⟩) cs t x hk v hv
      | false => rw [extO_plain (by omega) ho] at hck; exact absurd rfl hck
theorem kind_nb {w : World} {t : TypeId} {k : Nat} (h : KindB w t IsU8 k) : ∀ cs t' x, w.heap[k]? = some (.cells cs t' x) → ∀ v ∈ cs.toList, NB v = false := by
  obtain ⟨cs', h1, h2⟩ := h
  intro cs t' x hk v hv
  unfold Blk at h1
  rw [h1] at hk
  injection hk with hk
  injection hk with hk
  subst hk
  obtain ⟨y, rfl⟩ := h2 v (by simpa using hv)
  rfl
theorem blk_nb {w : World} {t : TypeId} {k : Nat} {cs : Array Value} (h : Blk w k t cs) (hcs : ∀ v ∈ cs.toList, NB v = false) : ∀ cs t' x, w.heap[k]? = some (.cells cs t' x) → ∀ v ∈ cs.toList, NB v = false := by
  intro cs' t' x hk v hv
  unfold Blk at h
  rw [h] at hk
  injection hk with hk
  injection hk with hk
  subst hk
  exact hcs v hv
/-- Bytes in a plain block. -/
def byC (l : List UInt8) : TyC := ⟨fun v w c => ∃ A cp, v = .slice A l.length cp ∧ Rd w A l.length (bs l) ∧ ∀ ad, A = some ad → ad.block < w.heap.size ∧ c ad.block = 0, fun {S v w c w' c'} ⟨A, cp, h1, h2, h5⟩ g e => ⟨A, cp, h1, rd_ext0 h2 (fun ad h _ => (h5 ad h).2) e, fun ad h6 => ⟨Nat.lt_of_lt_of_le (h5 ad h6).1 e.chg.size, by rw [e.col _ (h5 ad h6).1, (h5 ad h6).2]⟩⟩⟩
theorem CV.of_newc {P : Program} {w : World} {c : Colr} {f : Nat} {vs : Array Value} {τ : TyC} {R : Value → World → Prop} (h : Calls P f vs w fun e w' => ∃ v, e = .returned v ∧ R v w' ∧ New w w') (hR : ∀ v w', New w w' → R v w' → τ.sat v w' (ext0 c w.heap.size)) : CV P f vs w c τ := fun hg =>
  h.mono fun e w' ⟨v, h1, h2, h3⟩ => ⟨v, _, h1, hR v w' h3 h2, Ext.of_new h3 hg⟩

/-- Facts about slots that are not written yet. -/
def unO (l : List Oper) (dt : List (List Nat)) (i d : Nat) : List RF → List Nat → Bool
  | [], [] => true
  | .own p σ :: r, j :: u => !(p == d) && (dep dt j i && (dstOf l j == some p && unO l dt i d r u))
  | _, _ => false
section
variable {P : Program} {l : List Oper} {dt : List (List Nat)} {Q : Exit → Act → World → Prop} {n : Nat} {a : Act} {m : Nat → Option Value} {D CB : List Nat} {Fs : List RF} {V : Nat → TyC} {w0 : World} {c0 : Colr} {i : Nat}
theorem unO_all {b : BB} {f : FF} {w w' : World} {c c' : Colr} {d : Nat} {v : Value} (hJ : J l.toArray w0 c0 CB Fs V b f w c) (K : Kx dt w0 c0 CB Fs i b f w c) : ∀ (r : List RF) (u : List Nat), unO l dt i d r u = true → All r (bup b i) (upF (some d) v f) w' c'
  | [], [], _ => trivial
  | .own p σ :: r, j :: u, h => by
    simp only [unO, Bool.and_eq_true, Bool.not_eq_true', beq_iff_eq] at h
    exact ⟨own_nyet h.1 (unset_of hJ (K.nyet j h.2.1) h.2.2.1), unO_all hJ K r u h.2.2.2⟩
  | .own _ _ :: _, [], h => by cases h
  | [], _ :: _, h => by cases h
  | .s _ :: _, _, h => by cases h
  | .st _ _ _ :: _, _, h => by cases h
  | .new _ _ _ _ _ _ :: _, _, h => by cases h
/-- A call that makes an object. -/
theorem sO1 (nc d : Nat) (un : List Nat) {o : Oper} {fn : Nat} {tys : Array TypeId} {fd : Func} {σ : TyO} {rest : List RF} (r0 : XA n l dt m D i) (L : ∀ {b : BB} {f : FF} {w : World} {c : Colr} {v0 : Value}, Kx dt w0 c0 CB Fs i b f w c → r0.r.T V w c v0 → CE P fn #[r0.r.W v0] w c [nc] (fun v w' c' => σ.sat v w' c')) (hfn : P.funcs[fn]? = some fd) (hi : nthL l i = some o := by rfl) (hop : o.op = .call { callee := .value (.func fn), args := #[r0.r.opd], argTypes := tys } := by rfl) (hd : o.dst = some d := by rfl) (hA : Fs.filter (aff [nc] i (some d)) = .own d σ :: rest := by rfl) (hun : unO l dt i d rest un = true := by rfl) (hV : V d = TyC.any := by rfl) (hCB : [nc].all (CB.contains ·) = true := by rfl) (hnb : (fd.name == "runtime.NumGoroutine" || fd.body.isNone) = false := by rfl) (hg : Gd l n dt V i o.guard := by first | exact trivial | exact ⟨rfl, _, ⟨rfl, rfl⟩, rfl⟩) : OpStep P l dt Q n a m D CB Fs V w0 c0 i := by
  intro b f w c x o' hJ hout hF hE ho K
  obtain rfl : o = o' := Option.some.inj (hi.symm.trans ho)
  obtain ⟨v0, ev0, sv0⟩ := r0.ev hJ hout hF hE K
  exact .callE d [nc] (hg.wanted hJ hF hE K) hd hCB hJ.gi hop (vs := #[r0.r.W v0]) (by simp [ev0]) (enter_of hfn hnb _) (L K sv0) (fun v w' c' h _ => ⟨by rw [hV]; trivial, by rw [hA]; exact ⟨own_now h, unO_all hJ K rest un hun⟩⟩)
end
theorem eqg_ptr {P : Program} {w : World} (op : BinOp) (t : TypeId) (x y : Operand) (i j : Option Addr) : (eqGuard op t x y (.pointer i) (.pointer j)).run P w = .ok () w := by
  unfold eqGuard
  split <;> simp [go_sem]
theorem run_eqp {P : Program} {w : World} {t te : TypeId} (hp : P.underlying t = some (.pointer te)) (g : Nat) : (binOp .eql t (.pointer (some ⟨g, 0, none⟩)) (.pointer none)).run P w = .ok (.bool false) w := by
  have h : ∀ d : Nat, (Op.equalIn (d + 1) t (.pointer (some ⟨g, 0, none⟩)) (.pointer none)).run P w = .ok false w := fun d => by
    simp [Op.equalIn, run_underlying hp]
  simp only [binOp]
  simp [Op.equal, Op.maxDepth, h 9999]
theorem run_eqK {P : Program} {w : World} (t : TypeId) (k : IntKind) {x y : Int} (h : x = y) : (binOp .eql t (.int k x) (.int k y)).run P w = .ok (.bool true) w := by
  subst h
  simp [binOp, go_sem]
theorem own_cast' {τ σ : TyO} {v : Value} {w : World} {c : Colr} (e : τ = σ) (h : τ.sat v w c) : σ.sat v w c := e ▸ h
end Go.Col

namespace Go.Col
set_option linter.unusedVariables false
open Go.RowKit Go.Mem

section
variable {P : Program} {l : List Oper} {dt : List (List Nat)} {Q : Exit → Act → World → Prop} {n : Nat} {a : Act} {m : Nat → Option Value} {D CB : List Nat} {Fs : List RF} {V : Nat → TyC} {w0 : World} {c0 : Colr} {i : Nat}
/-- []byte(s), in a plain block. -/
theorem sCvp (d : Nat) {o : Oper} {src dst e : TypeId} {u : TypeDesc} {x0 : List UInt8} (r0 : XA n l dt m D i) (hs : P.underlying src = some u) (hds : P.underlying dst = some (.slice e)) (he : P.underlying e = some (.int .u8)) (hz : ∀ {b : BB} {f : FF} {w : World} {c : Colr} {v : Value}, Kx dt w0 c0 CB Fs i b f w c → r0.r.T V w c v → r0.r.W v = .string (Sb x0))
    (hi : nthL l i = some o := by rfl) (hop : o.op = .convert src dst r0.r.opd := by rfl) (hd : o.dst = some d := by rfl) (hA : Fs.filter (aff [] i (some d)) = [] := by rfl) (hV : V d = byC x0 := by rfl) (hg : Gd l n dt V i o.guard := by first | exact trivial | exact ⟨rfl, _, ⟨rfl, rfl⟩, rfl⟩) : OpStep P l dt Q n a m D CB Fs V w0 c0 i := by
  intro b f w c x o' hJ hout hF hE ho K
  obtain rfl : o = o' := Option.some.inj (hi.symm.trans ho)
  obtain ⟨v0, ev0, sv0⟩ := r0.ev hJ hout hF hE K
  have hrun := Lib.run_convert_string_bytes (P := P) w src dst e (Sb x0) hs hds he
  have he' : (execOp x.eval o).run P w = .ok (.value (.slice (some ⟨w.heap.size, 0, none⟩) (Sb x0).size (grownCap w (Sb x0).size 0 e))) (Lib.bytesWorld w e (Sb x0)) := by
    simp [execOp, hop, ev0, hz K sv0, hrun, Result.andThen]
  have hnew : New w (Lib.bytesWorld w e (Sb x0)) := ⟨rfl, rfl, rfl, by rw [Lib.bytesWorld_size]; omega, fun k hk _ => Lib.bytesWorld_at_old w e _ k hk⟩
  obtain ⟨q1, q2⟩ := conv_own (n := 2) (w := w) (c := c) (e := e) x0 hJ.gi rfl
  obtain ⟨g, cp, q3, q4, q5⟩ := byO_rd q2
  refine .run [] (some d) (hg.wanted hJ hF hE K) hd rfl (wp_val he' ⟨_, _, rfl, Ext.of_new hnew hJ.gi, fun d' _ => ?_, ?_⟩)
  · injection ‹some d = some d'› with hdd
    subst hdd
    rw [hV]
    refine ⟨_, cp, q3, q5, fun ad hA => ?_⟩
    injection hA with hA
    injection q3 with q3
    injection q3 with q3
    injection q3 with q3
    subst q3
    subst hA
    refine ⟨?_, ?_⟩
    · rw [Lib.bytesWorld_size]; exact Nat.lt_succ_self _
    · simp [ext0]
  · rw [hA]
    trivial
end
end Go.Col
namespace Go.Proofs.YtbocpkjajocpiaaGreatDoor
set_option linter.unusedVariables false
open Go.RowKit Go.Mem Go.Pure Go.Dig Go.Fr Go.Col

/-- A Writer with these bytes, of a colour. -/
def wrO (n : Nat) (l : List UInt8) : TyO := ⟨[n], fun v w c => ∃ g bo, v = .pointer (some ⟨g, 0, none⟩) ∧ WrV w g bo l ∧ c g = n ∧ ∀ k, bo = some k → c k = n, fun {S v w c w' c'} ⟨g, bo, h1, h2, h3, h4⟩ gi e hn => by
  have hS : S.contains n = false := by simpa using hn
  have hlt := h2.blt.1
  obtain ⟨A, m, cp, h5, h6, h7⟩ := h2
  refine ⟨g, bo, h1, ⟨A, m, cp, h5.chg e.chg (fun h => by rw [h3, hS] at h; cases h), h6.chg e.chg (fun k hk h => ?_), h7⟩, (e.col g h5.lt).trans h3, fun k hk => (e.col k (hlt k hk)).trans (h4 k hk)⟩
  rw [h4 k (by rw [← hk, ← h7]; rfl), hS] at h; cases h⟩
/-- A Reader with these bytes left and no error, of a colour. -/
def rdO (n : Nat) (l : List UInt8) : TyO := ⟨[n], fun v w c => ∃ g bo, v = .pointer (some ⟨g, 0, none⟩) ∧ RdrAt w g bo l 0 ∧ c g = n ∧ ∀ k, bo = some k → c k = 0, fun {S v w c w' c'} ⟨g, bo, h1, h2, h3, h4⟩ gi e hn => by
  have hS : S.contains n = false := by simpa using hn
  exact ⟨g, bo, h1, h2.chg e.chg (fun h => by rw [h3, hS] at h; cases h) (fun k hk h => by rw [h4 k hk, e.z] at h; cases h), (e.col g h2.lt).trans h3, fun k hk => (e.col k (h2.blt hk)).trans (h4 k hk)⟩⟩
section
variable {w : World} {c : Colr} {v : Value} {n : Nat} {l : List UInt8}
theorem wr_of_box {g : Nat} {τ : TyC} (hb : BoxC w c g 92 n τ) (hτ : ∀ v w c, τ.sat v w c → v = .agg #[.slice none 0 0]) : (wrO n []).sat (.pointer (some ⟨g, 0, none⟩)) w c := by
  obtain ⟨h1, u, h2, h3⟩ := hb
  obtain rfl := hτ u w c h2
  exact ⟨g, none, rfl, ⟨none, 0, 0, h3, RowV.nil _ _ _, rfl⟩, h1, fun k hk => by cases hk⟩
theorem k_wtext {s : ByteArray} (hn : ([n].contains 0 || [n].contains 1) = false) (h : (wrO n l).sat v w c) (hs : s.size ≤ 1000000) (hl : l.length ≤ 900000000) : CE Tryz.prog 65 #[v, .string s] w c [n] (fun u w' c' => u = .tuple #[] ∧ (wrO n (l ++ (uvar s.size ++ s.data.toList))).sat v w' c') := by
  intro hg
  obtain ⟨g, bo, rfl, h2, h3, h4⟩ := h
  have hlt := h2.blt.1
  have hgl : g < w.heap.size := by obtain ⟨_, _, _, h5, _⟩ := h2; exact h5.lt
  refine (wvText_any g bo l s w hs h2 hl).mono ?_
  rintro e w' ⟨rfl, bo', hw, hc, ha, ho⟩
  have hE : Ext [n] w c w' (extO c w.heap.size n (fun k => decide (bo' = some k))) := by
    refine Ext.of_obj hg hn hc (fun k hk _ => ?_) (fun k hk => ?_)
    · rcases hk with rfl | hk
      · exact h3
      · exact h4 k hk
    · rcases hk with ⟨hk1, rfl | hk⟩ | ⟨hk1, hk⟩
      · obtain ⟨A, m, cp, h5, _⟩ := hw
        exact blk_nb h5 (by intro u hu; simp at hu; subst hu; rfl)
      · exact kind_nb (ho k hk)
      · exact kind_nb (hw.old k (by simpa using hk))
  refine ⟨_, _, rfl, ⟨rfl, g, bo', rfl, hw, (extO_old hgl).trans h3, fun k hk => ?_⟩, hE⟩
  by_cases hkl : k < w.heap.size
  · rw [extO_old hkl]
    rcases ha with rfl | ⟨k', hk', hle⟩
    · exact h4 k hk
    · rw [hk] at hk'; injection hk' with hk'; omega
  · exact extO_own (by omega) (by simpa using hk)
theorem k_wdone (h : (wrO n l).sat v w c) (hl : l.length ≤ 1000000000) : CV Tryz.prog 67 #[v] w c (byC l) := by
  obtain ⟨g, bo, rfl, h2, h3, h4⟩ := h
  refine CV.of_newc (R := fun u w' => ∃ A cp, u = .slice A l.length cp ∧ w'.ownsRow w.heap.size 5 1 (.slice A l.length cp) l.length (bs l)) ((wvDone_any g bo l w h2 hl).mono ?_) ?_
  · rintro e w' ⟨A, cp, rfl, h5, h6⟩
    exact ⟨_, rfl, ⟨A, cp, rfl, h5⟩, h6⟩
  · rintro u w' hN ⟨A, cp, rfl, h5⟩
    refine ⟨A, cp, rfl, Rd.of_own h5, fun ad hA => ?_⟩
    subst hA
    have := own_blk_le h5 (k := ad.block) rfl
    exact ⟨this.2, by simp [ext0]; intro h; omega⟩
theorem k_rdread (hn : ([n].contains 0 || [n].contains 1) = false) (h : (byC l).sat v w c) (hl : l.length ≤ 1000000000) : CE Tryz.prog 66 #[v] w c [n] (fun u w' c' => (rdO n l).sat u w' c') := by
  intro hg
  obtain ⟨A, cp, rfl, h2, h3⟩ := h
  refine (read_any A l.length cp l w h2 hl).mono ?_
  rintro e w' ⟨g, bo, rfl, hr, hN, hgl, hbo⟩
  have hE : Ext [n] w c w' (extO c w.heap.size n (fun k => decide (k = g))) := by
    refine Ext.of_obj hg hn hN (fun k hk _ => hk.elim) (fun k hk => ?_)
    rcases hk with ⟨_, hk⟩ | ⟨_, hk⟩
    · exact hk.elim
    · obtain rfl : k = g := by simpa using hk
      obtain ⟨A', m, cp', h5, _⟩ := hr
      refine blk_nb h5 ?_
      intro u hu
      simp at hu
      rcases hu with rfl | rfl <;> rfl
  have hbg : bo ≠ some g := by obtain ⟨_, _, _, _, _, _, _, _, h6, _⟩ := hr; exact h6
  refine ⟨_, _, rfl, ⟨g, bo, rfl, hr, extO_own hgl (by simp), fun k hk => extO_plain (hbo k hk) ?_⟩, hE⟩
  have : k ≠ g := fun e => hbg (by rw [hk, e])
  simp [this]
theorem rawR_text (a t : List UInt8) (ha : a.length ≤ 1000000000) : rawR (uvar a.length ++ (a ++ t)) 0 = (a, t, 0) := by
  have h := lengthR_ok (uintR_uvar (n := a.length) (by omega) (a ++ t)) (by simp)
  unfold rawR
  rw [h]
  simp
theorem k_rdtext {a t : List UInt8} (hn : ([n].contains 0 || [n].contains 1) = false) (h : (rdO n (uvar a.length ++ (a ++ t))).sat v w c) (hl : a.length + t.length ≤ 100000000) : CE Tryz.prog 68 #[v] w c [n] (fun u w' c' => u = .string (Sb a) ∧ (rdO n t).sat v w' c') := by
  intro hg
  obtain ⟨g, bo, rfl, h2, h3, h4⟩ := h
  have hu := uvar_len (n := a.length) (by omega)
  have hgl := h2.lt
  refine (rText_any g bo _ 0 w h2 (by simp only [List.length_append]; omega)).mono ?_
  rw [rawR_text a t (by omega)]
  rintro e w' ⟨rfl, hr, hc⟩
  have hE : Ext [n] w c w' (extO c w.heap.size n (fun _ => false)) := by
    refine Ext.of_obj hg hn hc (fun k hk _ => by rw [hk]; exact h3) (fun k hk => ?_)
    rcases hk with ⟨_, rfl⟩ | ⟨_, hk⟩
    · obtain ⟨A', m, cp', h5, _⟩ := hr
      refine blk_nb h5 ?_
      intro u hu
      simp at hu
      rcases hu with rfl | rfl <;> rfl
    · cases hk
  exact ⟨_, _, rfl, ⟨rfl, g, bo, rfl, hr, (extO_old hgl).trans h3, fun k hk => (extO_old (h2.blt hk)).trans (h4 k hk)⟩, hE⟩
theorem k_rdend (h : (rdO n []).sat v w c) : CV Tryz.prog 69 #[v] w c (TyC.eq (.int .i64 0)) := by
  obtain ⟨g, bo, rfl, h2, h3, h4⟩ := h
  refine CV.of_newc (R := fun u _ => u = .int .i64 0) ((rEnd_any g bo [] 0 w h2).mono ?_) (fun u w' _ h => h)
  rintro e w' ⟨rfl, rfl⟩
  exact ⟨_, rfl, by simp [endR], Chg.refl _ _⟩
theorem k_hbytes {s : ByteArray} (hs : s.size ≤ 1000000) (h : (byC l).sat v w c) (hl : l.length ≤ 1000000000) : CV Tryz.prog 70 #[.string s, v] w c (TyC.eq (.int .u64 (bytesI s.data.toList l))) := by
  obtain ⟨A, cp, rfl, h2, h3⟩ := h
  refine CV.of_newc (R := fun u _ => u = .int .u64 (bytesI s.data.toList l)) ((hbytes_any s hs A l.length cp l w h2 hl (fun k hk => ?_)).mono ?_) (fun u w' _ h => h)
  · cases A with
    | none => cases hk
    | some ad =>
      have : ad.block = k := by simpa [blk] using hk
      subst this
      exact (h3 ad rfl).1
  · rintro e w' ⟨rfl, hN⟩
    exact ⟨_, rfl, rfl, hN⟩
theorem k_wtextS {t : List UInt8} (hn : ([n].contains 0 || [n].contains 1) = false) (h : (wrO n l).sat v w c) (hs : t.length ≤ 1000000) (hl : l.length ≤ 900000000) : CE Tryz.prog 65 #[v, .string (St t)] w c [n] (fun u w' c' => u = .tuple #[] ∧ (wrO n (l ++ (uvar t.length ++ t))).sat v w' c') := by
  have := k_wtext (s := St t) hn h (by rw [St_size]; exact hs) hl
  rwa [St_size, show (St t).data.toList = t by simp [St]] at this
theorem rd_ptr (h : (rdO n l).sat v w c) : ∃ g, v = .pointer (some ⟨g, 0, none⟩) := by
  obtain ⟨g, bo, rfl, _⟩ := h
  exact ⟨g, rfl⟩
theorem zeroW (w : World) : (zeroValue 92).run Tryz.prog w = .ok (.agg #[.slice none 0 0]) w := by kernel_rfl
theorem k_fparse_w {x : Rat} (hf : ft x) (hl : (ftx x).length ≤ 4000) (he : Env w) : CV Tryz.prog 56 #[.string (St (ftx x))] w c ((ffC x).tup1 (.int .i64 0)) := by
  have h := k_fparse (w := w) (c := c) (ftx x) hl he
  rwa [(par_yes hf rfl).1, (par_yes hf rfl).2] at h
end
end Go.Proofs.YtbocpkjajocpiaaGreatDoor

namespace Go
section
variable {H : Type} {enc : TypeId × Value → H}
theorem lift_and_shaped {a : Assume} {C : Checked} {os : Os} {f : FuncId} {fn : Func} {s : ChangeSpec} {conds : List PathCond} {apart fresh handsOn again : Bool} {X : World → Array Value → Prop}
    (hX : ∀ (w w' : World) (args : Array Value), w.heap = w'.heap → X w args → X w' args)
    (own : ownKnob C.prog.godebug = none) (started : os.Started) (noInit : C.prog.inits.idxOf? f = none) (hfn : C.prog.funcs[f]? = some fn)
    (witness : ∃ (w : World) (tape : Tape) (i : Input), w.os = os ∧ (w.forCall tape i).Shaped C.prog ∧ i.vars = [] ∧ Input.okWide C.prog (w.forCall tape i) .any w.heap.size f i ∧
      ((s.pre enc C.prog fn conds apart (w.forCall tape i).memory i.args ∧ X (w.forCall tape i).memory i.args) ∧ sizedMet enc C.prog fn (OpenSpec.ofChange s) apart (w.forCall tape i).memory i.args) ∧ a.holds C.prog (lone (Frame.enter C.prog f i.args .normal) [] (w.forCall tape i)))
    (contract : ∀ (W : World) (base : Nat) (args : Array Value) (ds gs : List (DataW H)) (before : List MemPlace), W.ShapedOpen C.prog →
      (∀ (j : Nat) t v, fn.params[j]? = some t → args[j]? = some v → Value.okWide C.prog W .any base t v) →
      DataW.Whole enc C.prog fn.params.toList s.vars apart W args.toList ds gs before →
      conds.all (PathCond.test C.prog ⟨fn.params.toList, ds, s.plain.varTypes C.prog, gs⟩) = true →
      (DataW.weightsEach C.prog (fn.params.toList ++ s.plain.varTypes C.prog) (ds ++ gs)).all (· ≤ reachBytes) = true → X W args →
      a.holds C.prog (lone (Frame.enter C.prog f args .normal) [] W) →
      Calls C.prog f args W fun e W' => ∃ v, e = .returned v ∧ s.post enc C.prog fn apart fresh handsOn again W args v W') :
    ReturnsInHanded a C os f .any (fun w args => (s.pre enc C.prog fn conds apart w args ∧ X w args) ∧ sizedMet enc C.prog fn (OpenSpec.ofChange s) apart w args) (s.post enc C.prog fn apart fresh handsOn again) := by
  refine returnsInHanded_of_calls own started noInit witness ?_
  intro w tape i _ hsh _ hok hpre hholds
  obtain ⟨_, _, _, fn', hfn', _, _, _, _, hval⟩ := hok
  have e : fn' = fn := Option.some.inj (hfn'.symm.trans hfn)
  subst e
  obtain ⟨⟨⟨ds, gs, before, hw, hc⟩, hx⟩, hz⟩ := hpre
  have hw' := DataW.Whole.of_heap (w' := w.forCall tape i) (by rfl) hw
  refine (contract (w.forCall tape i) w.heap.size i.args ds gs before hsh hval hw' hc (hz.weights hw) (hX _ _ _ (by rfl) hx) hholds).mono fun e W' ⟨v, he, hp⟩ => ?_
  subst he
  exact ChangeSpec.post_blind hp
end
end Go

namespace Go.Mem
open Go.RowKit

theorem row_rd {k : IntKind} {w : World} {a : Option Addr} {len cap : Nat} {zs : List Int}
    (h : (a = none ∧ len = 0 ∧ cap = 0 ∧ zs = []) ∨ ∃ x, a = some x ∧ len ≤ cap ∧ cap ≤ maxLen ∧ zs.length = cap ∧ (∀ i, i < zs.length → w.cell? (x.add i) = some (.int k (zs.getD i 0))) ∧ ∀ n ∈ zs, (Lit.int k n).wf = true) :
    Rd w a len ((zs.take len).map (Value.int k)) ∧ len ≤ cap ∧ cap ≤ maxLen ∧ ∀ n ∈ zs.take len, (Lit.int k n).wf = true := by
  rcases h with ⟨rfl, rfl, rfl, rfl⟩ | ⟨x, rfl, h1, h2, h3, h4, h5⟩
  · exact ⟨Rd.nil _ _, Nat.le_refl _, Nat.zero_le _, by simp⟩
  · refine ⟨⟨by simp; omega, fun hn => ⟨x, rfl, fun j u hu => ?_⟩⟩, h1, h2, fun n hn => h5 n (List.mem_of_mem_take hn)⟩
    rw [List.getElem?_map, List.getElem?_take] at hu
    split at hu
    · rename_i hj
      have hj' : j < zs.length := by omega
      rw [h4 j hj']
      rw [List.getElem?_eq_getElem hj'] at hu
      simp at hu
      subst hu
      simp [List.getD, List.getElem?_eq_getElem hj']
    · cases hu
theorem row_ints {w : World} {a : Option Addr} {len cap : Nat} {zs : List Int}
    (h : (a = none ∧ len = 0 ∧ cap = 0 ∧ zs = []) ∨ ∃ x, a = some x ∧ len ≤ cap ∧ cap ≤ maxLen ∧ zs.length = cap ∧ (∀ i, i < zs.length → w.cell? (x.add i) = some (.int .i64 (zs.getD i 0))) ∧ ∀ n ∈ zs, (Lit.int .i64 n).wf = true) :
    ∃ l : List Int, Rd w a len (is l) ∧ len ≤ cap ∧ cap ≤ maxLen ∧ ∀ z ∈ l, -9223372036854775808 ≤ z ∧ z ≤ 9223372036854775807 := by
  obtain ⟨h1, h2, h3, h4⟩ := row_rd h
  refine ⟨zs.take len, h1, h2, h3, fun z hz => ?_⟩
  have := h4 z hz
  simp [Lit.wf, IntKind.min, IntKind.max, IntKind.signed, IntKind.bits] at this
  omega
end Go.Mem
