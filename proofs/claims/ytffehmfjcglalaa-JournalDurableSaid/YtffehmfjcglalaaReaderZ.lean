/- Contracts of wire.Reader: fail, Uint. -/
import Derived.Test.YtffehmfjcglalaaProg
import Derived.Test.YtffehmfjcglalaaMem
import Derived.Test.YtffehmfjcglalaaG0
import Derived.Test.YtffehmfjcglalaaBase
set_option linter.unusedSimpArgs false
set_option linter.unusedVariables false
namespace Go.Proofs.Ytffehmfjcglalaa
open Go.RowKit Go.Mem Go.Pure

/-- Block g is a Reader with the bytes l (in the block bo) and the error e. -/
def RdrAt (w : World) (g : Nat) (bo : Option Nat) (l : List UInt8) (e : Int) : Prop :=
  ∃ A n c, Blk w g 125 #[.slice A n c, .int .i64 e] ∧ Rd w A n (bs l) ∧ n ≤ c ∧ c ≤ maxLen ∧ blk A = bo ∧ bo ≠ some g ∧ ∀ k, bo = some k → k < w.heap.size

set_option maxHeartbeats 1000000 in
set_option maxRecDepth 100000 in
theorem rFail_any (g : Nat) (bo : Option Nat) (l : List UInt8) (e0 x : Int) (w : World) (hw : RdrAt w g bo l e0) :
    Calls Try.prog 94 #[.pointer (some ⟨g, 0, none⟩), .int .i64 x] w fun e w' => e = .returned (.tuple #[]) ∧
      RdrAt w' g bo l (if e0 = 0 then x else e0) ∧ Chg (fun k => k = g) w w' := by
  obtain ⟨A, n, c, hb, hr, hnc, hcm, hbo, hne, hbk⟩ := hw
  have HBK := Lib.hid hbk
  clear hbk
  have hc0 := hb.cell 0 rfl
  have hc1 := hb.cell 1 rfl
  have hf1 := hb.frozen 1
  have HB := Lib.hid hb
  have HBO := Lib.hid hbo
  clear hb hbo
  by_cases h : e0 = 0
  · subst h
    go_enter Try.func94, Try.ntmps94
    go_wp2
    go_end0
    have hchg : Chg (fun k => k = g) w (w.setCell ⟨g, 1, none⟩ (.int .i64 x)) := (Chg.refl (fun k => k = g) w).setCell (p := ⟨g, 1, none⟩) (fun _ => rfl) _
    have hbk' : ∀ k, bo = some k → k < (w.setCell ⟨g, 1, none⟩ (.int .i64 x)).heap.size := fun k hk => Nat.lt_of_lt_of_le (HBK.out k hk) hchg.size
    exact ⟨rfl, ⟨A, n, c, HB.out.set_ 1 _, hr.chg hchg (fun k hk _ e => hne (by rw [← HBO.out, hk, e])), hnc, hcm, HBO.out, hne, hbk'⟩, hchg⟩
  · have h' : (e0 == 0) = false := by simpa using h
    have H := Lib.hid h
    clear h
    go_enter Try.func94, Try.ntmps94
    go_wp2
    go_end0
    have hbk' := HBK.out
    exact ⟨rfl, ⟨A, n, c, HB.out, hr, hnc, hcm, HBO.out, hne, hbk'⟩, Chg.refl _ w⟩

set_option maxHeartbeats 1000000 in
set_option maxRecDepth 100000 in
theorem rUint_any (g : Nat) (bo : Option Nat) (l : List UInt8) (e0 : Int) (w : World) (hw : RdrAt w g bo l e0) :
    Calls Try.prog 74 #[.pointer (some ⟨g, 0, none⟩)] w fun e w' => e = .returned (.int .u64 (uintR l e0).1) ∧
      RdrAt w' g bo (uintR l e0).2.1 (uintR l e0).2.2 ∧ Chg (fun k => k = g) w w' := by
  have HW := Lib.hid hw
  obtain ⟨A, n, c, hb, hr, hnc, hcm, hbo, hne, hbk⟩ := hw
  have hcm' : c ≤ 9223372036854775807 := hcm
  have HBK := Lib.hid hbk
  clear hbk
  have hc0 := hb.cell 0 rfl
  have hc1 := hb.cell 1 rfl
  have hf0 := hb.frozen 0
  have hln : l.length = n := by have := hr.len; rwa [bs_length] at this
  have HLN := Lib.hid hln
  have HB := Lib.hid hb
  have HBO := Lib.hid hbo
  have HR := Lib.hid hr
  clear hb hbo hr hln
  by_cases h : e0 = 0
  · subst h
    go_enter Try.func74, Try.ntmps74
    go_wp2
    go_loop [3, 4] (fun v i => ∃ k acc : Nat, k ≤ 9 ∧ k ≤ n ∧ i = .int .i64 k ∧ v = .int .u64 acc ∧ acc < 128 ^ k ∧ scanU k acc (l.drop k) = getU l) (fun _ i => 10 - (intOf i).toNat)
    case atStart => exact ⟨0, 0, by omega, by omega, rfl, rfl, by simp, by simp [getU]⟩
    case round =>
      obtain ⟨k, acc, hk9, hkn, rfl, rfl, hacc, hsc⟩ := hrel
      have HSC := Lib.hid hsc
      have HACC := Lib.hid hacc
      clear hsc hacc
      by_cases hlt : k < n
      · obtain ⟨ad, u, rfl, hu, hcu⟩ := HR.out.at_ hlt
        obtain ⟨x, hx, rfl⟩ := bs_at hu
        have HX := Lib.hid hx
        clear hx hu
        have hx2 := x.toNat_lt
        have hcut := fun W => run_cut elemBytes .i64 (some ad) n c (k + 1) ((k : Int) + 1) (by omega) (by omega) W
        by_cases hbad : (k = 9 ∧ 1 < x.toNat) ∨ (0 < k ∧ x.toNat = 0)
        · have hg : getU l = .error 2 := by rw [← HSC.out, drop_cons HX.out, scanU_bad hbad]
          have HG := Lib.hid (uintR_err hg)
          clear hg
          by_cases hk : k = 9
          · have h9 : (((k : Int)) == 9) = true := by rw [hk]; rfl
            have HK := Lib.hid hk
            have hk0 : 0 < k := by omega
            by_cases h1 : 1 < x.toNat
            · have h1' : decide (1 < (x.toNat : Int)) = true := by simp; omega
              clear hbad hcut hk
              go_wp2_with fail
              refine (rFail_any g bo l 0 2 w HW.out).mono ?_
              rintro e w1 ⟨rfl, hw1, hc1⟩
              go_wp2
              go_ret
              rw [HG.out]
              exact ⟨rfl, hw1, hc1⟩
            · have h1' : decide (1 < (x.toNat : Int)) = false := by simp; omega
              have h0' : ((x.toNat : Int) == 0) = true := by
                rcases hbad with h | h
                · omega
                · simp [h.2]
              clear hbad hcut hk
              go_wp2_with fail
              refine (rFail_any g bo l 0 2 w HW.out).mono ?_
              rintro e w1 ⟨rfl, hw1, hc1⟩
              go_wp2
              go_ret
              rw [HG.out]
              exact ⟨rfl, hw1, hc1⟩
          · have h9 : (((k : Int)) == 9) = false := by simp; omega
            have hk0 : 0 < k := by omega
            have h0' : ((x.toNat : Int) == 0) = true := by
              rcases hbad with h | h
              · omega
              · simp [h.2]
            clear hbad hcut hk
            go_wp2_with fail
            refine (rFail_any g bo l 0 2 w HW.out).mono ?_
            rintro e w1 ⟨rfl, hw1, hc1⟩
            go_wp2
            go_ret
            rw [HG.out]
            exact ⟨rfl, hw1, hc1⟩
        · have HBAD := Lib.hid hbad
          clear hbad
          have hval := Lib.hid (uint_val (x := x.toNat) hk9 HACC.out hx2 (fun h => by have := HBAD.out; omega))
          by_cases hend : x.toNat < 128
          · have hg : getU l = .ok (acc + x.toNat * 128 ^ k, l.drop (k + 1)) := by rw [← HSC.out, drop_cons HX.out, scanU_end HBAD.out hend]
            have HG := Lib.hid (uintR_ok hg)
            clear hg
            have fin : ∀ v : Int, v = bits .or .u64 (acc : Int) (IntKind.u64.wrap (IntKind.u64.wrap (bits .and .u8 (x.toNat : Int) 127) * 2 ^ (7 * k))) →
                Ending.returned (.int .u64 v) = .returned (.int .u64 (uintR l 0).1) ∧ RdrAt (w.setCell ⟨g, 0, none⟩ (.slice (cutA (some ad) c (k + 1)) (n - (k + 1)) (c - (k + 1)))) g bo (uintR l 0).2.1 (uintR l 0).2.2 ∧ Chg (fun k => k = g) w (w.setCell ⟨g, 0, none⟩ (.slice (cutA (some ad) c (k + 1)) (n - (k + 1)) (c - (k + 1)))) := by
              intro v hv
              have hchg : Chg (fun k => k = g) w (w.setCell ⟨g, 0, none⟩ (.slice (cutA (some ad) c (k + 1)) (n - (k + 1)) (c - (k + 1)))) := (Chg.refl (fun k => k = g) w).setCell (p := ⟨g, 0, none⟩) (fun _ => rfl) _
              rw [HG.out]
              refine ⟨ret_int (by rw [hv, hval.out, Nat.mod_eq_of_lt hend]), ⟨_, _, _, HB.out.set_ 0 _, ?_, by omega, Nat.le_trans (Nat.sub_le _ _) hcm, ?_, hne, fun k hk => Nat.lt_of_lt_of_le (HBK.out k hk) hchg.size⟩, hchg⟩
              · have := (HR.out.cutA (k := k + 1) (cap := c) (by omega) hnc).chg hchg (fun j hj _ e => hne (by rw [← HBO.out, ← blk_cutA _ c (k + 1), hj, e]))
                rwa [bs_drop] at this
              · rw [blk_cutA]; exact HBO.out
            have FIN := Lib.hid fin
            clear fin
            by_cases hk : k = 9
            · have h9 : (((k : Int)) == 9) = true := by rw [hk]; rfl
              have h1' : decide (1 < (x.toNat : Int)) = false := by have := HBAD.out; simp; omega
              have h0' : ((x.toNat : Int) == 0) = false := by have := HBAD.out; simp; omega
              have hk0 : 0 < k := by omega
              clear hk
              go_wp2_with fail
              go_ret
              exact FIN.out _ rfl
            · have h9 : (((k : Int)) == 9) = false := by simp; omega
              by_cases hk0 : 0 < k
              · have h0' : ((x.toNat : Int) == 0) = false := by have := HBAD.out; simp; omega
                go_wp2_with fail
                go_ret
                exact FIN.out _ rfl
              · go_wp2_with fail
                go_ret
                exact FIN.out _ rfl
          · have h9 : (((k : Int)) == 9) = false := by have := HBAD.out; simp; omega
            have h9' : k + 1 ≤ 9 := by have := HBAD.out; omega
            have h0 : ((x.toNat : Int) == 0) = false := by simp; omega
            have HG : Hid (scanU (k + 1) (acc + (x.toNat % 128) * 128 ^ k) (l.drop (k + 1)) = getU l) := by
              show _ = _
              rw [← HSC.out, drop_cons HX.out, scanU_on HBAD.out hend]
            clear hcut
            by_cases hk0 : 0 < k
            all_goals
              go_wp2_with fail
              go_round
              case rel => exact ⟨k + 1, _, h9', by omega, by go_num, by rw [hval.out], uint_lt HACC.out, HG.out⟩
              case measure => simp [intOf]; omega
      · have hk : k = n := by omega
        subst hk
        have hg : getU l = .error 3 := by rw [← HSC.out, List.drop_of_length_le (by rw [HLN.out]; omega), scanU_nil]
        have HG := Lib.hid (uintR_err hg)
        clear hg
        go_wp2_with fail
        refine (rFail_any g bo l 0 3 w HW.out).mono ?_
        rintro e w1 ⟨rfl, hw1, hc1⟩
        go_wp2
        go_ret
        rw [HG.out]
        exact ⟨rfl, hw1, hc1⟩
  · have HG := Lib.hid (uintR_bad (l := l) h)
    have h' : (e0 != 0) = true := by simpa using h
    clear h
    go_enter Try.func74, Try.ntmps74
    go_wp2
    go_ret
    rw [HG.out]
    exact ⟨rfl, HW.out, Chg.refl _ w⟩

end Go.Proofs.Ytffehmfjcglalaa
