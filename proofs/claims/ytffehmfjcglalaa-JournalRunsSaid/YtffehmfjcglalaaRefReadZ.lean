/- Contracts of refuterref02.Reader: Uint, Back, Int, length, Raw. -/
import Derived.Test.YtffehmfjcglalaaProg
import Derived.Test.YtffehmfjcglalaaMem
import Derived.Test.YtffehmfjcglalaaG0
import Derived.Test.YtffehmfjcglalaaBase
set_option linter.unusedSimpArgs false
set_option linter.unusedVariables false
namespace Go.Proofs.Ytffehmfjcglalaa
open Go.RowKit Go.Mem Go.Pure

/-- Block g is a Reader of the reference with the bytes l (in the block bo) and the error e. -/
def RRdr (w : World) (g : Nat) (bo : Option Nat) (l : List UInt8) (e : Int) : Prop :=
  ∃ A n c, Blk w g 103 #[.slice A n c, .int .i64 e] ∧ Rd w A n (bs l) ∧ n ≤ c ∧ c ≤ maxLen ∧ blk A = bo ∧ bo ≠ some g ∧ ∀ k, bo = some k → k < w.heap.size
theorem RRdr.chg {w w' : World} {g : Nat} {bo : Option Nat} {l : List UInt8} {e : Int} {S : Nat → Prop} (h : RRdr w g bo l e) (hc : Chg S w w') (hg : ¬ S g) (hb : ∀ k, bo = some k → ¬ S k) : RRdr w' g bo l e := by
  obtain ⟨A, n, c, h1, h2, h3, h4, h5, h6, h7⟩ := h
  exact ⟨A, n, c, h1.chg hc hg, h2.chg hc (fun k hk _ => hb k (by rw [← h5, hk])), h3, h4, h5, h6, fun k hk => Nat.lt_of_lt_of_le (h7 k hk) hc.size⟩
theorem RRdr.lt {w : World} {g : Nat} {bo : Option Nat} {l : List UInt8} {e : Int} (h : RRdr w g bo l e) : g < w.heap.size := by
  obtain ⟨_, _, _, h1, _⟩ := h
  exact h1.lt
theorem RRdr.blt {w : World} {g : Nat} {bo : Option Nat} {l : List UInt8} {e : Int} (h : RRdr w g bo l e) {k : Nat} (hk : bo = some k) : k < w.heap.size := by
  obtain ⟨_, _, _, _, _, _, _, _, _, h7⟩ := h
  exact h7 k hk
theorem RRdr.len {w : World} {g : Nat} {bo : Option Nat} {l : List UInt8} {e : Int} (h : RRdr w g bo l e) : l.length ≤ maxLen := by
  obtain ⟨A, n, c, h1, h2, h3, h4, h5, h6, h7⟩ := h
  have := h2.len
  rw [bs_length] at this
  omega
theorem RRdr.put {w : World} {g : Nat} {bo : Option Nat} {l : List UInt8} {e : Int} (h : RRdr w g bo l e) (x : Int) : RRdr (w.setCell ⟨g, 1, none⟩ (.int .i64 x)) g bo l x ∧ Chg (fun k => k = g) w (w.setCell ⟨g, 1, none⟩ (.int .i64 x)) := by
  obtain ⟨A, n, c, h1, h2, h3, h4, h5, h6, h7⟩ := h
  have hchg : Chg (fun k => k = g) w (w.setCell ⟨g, 1, none⟩ (.int .i64 x)) := (Chg.refl (fun k => k = g) w).setCell (p := ⟨g, 1, none⟩) (fun _ => rfl) _
  exact ⟨⟨A, n, c, h1.set_ 1 _, h2.chg hchg (fun k hk _ e => h6 (by rw [← h5, hk, e])), h3, h4, h5, h6, fun k hk => Nat.lt_of_lt_of_le (h7 k hk) hchg.size⟩, hchg⟩

theorem ref_val {k acc x un : Nat} (hk : k ≤ 9) (hacc : acc < 128 ^ k) (hx : x < 256) (h9 : k = 9 → x ≤ 1) (hun : un = 128 ^ k) :
    IntKind.u64.wrap ((acc : Int) + IntKind.u64.wrap (((x : Int) % 128) * (un : Int))) = ((acc + x % 128 * 128 ^ k : Nat) : Int) := by
  have h := uint_val hk hacc hx h9
  have h2 := bits_hi_u64 .or (acc : Int) (IntKind.u64.wrap (IntKind.u64.wrap (bits .and .u8 (x : Int) 127) * 2 ^ (7 * k)))
  rw [h] at h2
  subst hun
  have e : ((x : Int) % 128) * ((128 ^ k : Nat) : Int) = ((x % 128 * 128 ^ k : Nat) : Int) := by push_cast; rfl
  rw [e, IntKind.wrap_u64, IntKind.wrap_u64]
  omega

set_option maxHeartbeats 2000000 in
set_option maxRecDepth 100000 in
theorem rrUint_any (g : Nat) (bo : Option Nat) (l : List UInt8) (e0 : Int) (w : World) (hw : RRdr w g bo l e0) :
    Calls Try.prog 91 #[.pointer (some ⟨g, 0, none⟩)] w fun e w' => e = .returned (.int .u64 (uintR l e0).1) ∧
      RRdr w' g bo (uintR l e0).2.1 (uintR l e0).2.2 ∧ Chg (fun k => k = g) w w' := by
  have HW := Lib.hid hw
  obtain ⟨A, n, c, hb, hr, hnc, hcm, hbo, hne, hbk⟩ := hw
  have hcm' : c ≤ 9223372036854775807 := hcm
  have HBK := Lib.hid hbk
  clear hbk
  have hc0 := hb.cell 0 rfl
  have hc1 := hb.cell 1 rfl
  have hf0 := hb.frozen 0
  have hf1 := hb.frozen 1
  have hln : l.length = n := by have := hr.len; rwa [bs_length] at this
  have HLN := Lib.hid hln
  have HB := Lib.hid hb
  have HBO := Lib.hid hbo
  have HR := Lib.hid hr
  clear hb hbo hr hln
  by_cases h : e0 = 0
  · subst h
    go_enter Try.func91, Try.ntmps91
    go_wp2
    go_loop [3, 4, 5] (fun v u i => ∃ k acc un : Nat, k ≤ 9 ∧ k ≤ n ∧ i = .int .i64 k ∧ v = .int .u64 acc ∧ u = .int .u64 un ∧ un = 128 ^ k ∧ acc < 128 ^ k ∧ scanU k acc (l.drop k) = getU l) (fun _ _ i => 10 - (intOf i).toNat)
    case atStart => exact ⟨0, 0, 1, by omega, by omega, rfl, rfl, rfl, rfl, by simp, by simp [getU]⟩
    case round =>
      obtain ⟨k, acc, un, hk9, hkn, rfl, rfl, rfl, hun, hacc, hsc⟩ := hrel
      have HSC := Lib.hid hsc
      have HACC := Lib.hid hacc
      have HUN := Lib.hid hun
      clear hsc hacc hun
      by_cases hlt : k < n
      · obtain ⟨ad, u, rfl, hu, hcu⟩ := HR.out.at_ hlt
        obtain ⟨x, hx, rfl⟩ := bs_at hu
        have HX := Lib.hid hx
        clear hx hu
        have hx2 := x.toNat_lt
        have hcut := fun W => run_cut elemBytes .i64 (some ad) n c (k + 1) ((k : Int) + 1) (by omega) (by omega) W
        by_cases hbad : (k = 9 ∧ 1 < x.toNat) ∨ (0 < k ∧ x.toNat = 0)
        · have hg : getU l = .error 2 := by rw [← HSC.out, drop_cons HX.out, scanU_bad hbad]
          have HG := Lib.hid (uintR_err hg)
          clear hg
          have hk0 : 0 < k := by omega
          have FIN : Hid (RRdr (w.setCell ⟨g, 1, none⟩ (.int .i64 2)) g bo (uintR l 0).2.1 (uintR l 0).2.2 ∧ Chg (fun k => k = g) w (w.setCell ⟨g, 1, none⟩ (.int .i64 2))) := by
            show _ ∧ _
            rw [HG.out]
            exact HW.out.put 2
          by_cases hk : k = 9
          · have h9 : (((k : Int)) == 9) = true := by rw [hk]; rfl
            by_cases h1 : 1 < x.toNat
            · have h1' : decide (1 < (x.toNat : Int)) = true := by simp; omega
              clear hbad hcut hk
              go_wp2_with fail
              go_ret
              rw [HG.out]
              exact ⟨rfl, by have := FIN.out; rwa [HG.out] at this⟩
            · have h1' : decide (1 < (x.toNat : Int)) = false := by simp; omega
              have h0' : ((x.toNat : Int) == 0) = true := by
                rcases hbad with h | h
                · omega
                · simp [h.2]
              clear hbad hcut hk
              go_wp2_with fail
              go_ret
              rw [HG.out]
              exact ⟨rfl, by have := FIN.out; rwa [HG.out] at this⟩
          · have h9 : (((k : Int)) == 9) = false := by simp; omega
            have h0' : ((x.toNat : Int) == 0) = true := by
              rcases hbad with h | h
              · omega
              · simp [h.2]
            clear hbad hcut hk
            go_wp2_with fail
            go_ret
            rw [HG.out]
            exact ⟨rfl, by have := FIN.out; rwa [HG.out] at this⟩
        · have HBAD := Lib.hid hbad
          clear hbad
          have hval := Lib.hid (ref_val (x := x.toNat) hk9 HACC.out hx2 (fun h => by have := HBAD.out; omega) HUN.out)
          by_cases hend : x.toNat < 128
          · have hg : getU l = .ok (acc + x.toNat * 128 ^ k, l.drop (k + 1)) := by rw [← HSC.out, drop_cons HX.out, scanU_end HBAD.out hend]
            have HG := Lib.hid (uintR_ok hg)
            clear hg
            have fin : ∀ v : Int, v = IntKind.u64.wrap ((acc : Int) + IntKind.u64.wrap (((x.toNat : Int) % 128) * (un : Int))) →
                Ending.returned (.int .u64 v) = .returned (.int .u64 (uintR l 0).1) ∧ RRdr (w.setCell ⟨g, 0, none⟩ (.slice (cutA (some ad) c (k + 1)) (n - (k + 1)) (c - (k + 1)))) g bo (uintR l 0).2.1 (uintR l 0).2.2 ∧ Chg (fun k => k = g) w (w.setCell ⟨g, 0, none⟩ (.slice (cutA (some ad) c (k + 1)) (n - (k + 1)) (c - (k + 1)))) := by
              intro v hv
              have hchg : Chg (fun k => k = g) w (w.setCell ⟨g, 0, none⟩ (.slice (cutA (some ad) c (k + 1)) (n - (k + 1)) (c - (k + 1)))) := (Chg.refl (fun k => k = g) w).setCell (p := ⟨g, 0, none⟩) (fun _ => rfl) _
              rw [HG.out]
              refine ⟨ret_int (by rw [hv, hval.out, Nat.mod_eq_of_lt hend]), ⟨_, _, _, HB.out.set_ 0 _, ?_, by omega, Nat.le_trans (Nat.sub_le _ _) hcm, ?_, hne, fun k hk => Nat.lt_of_lt_of_le (HBK.out k hk) hchg.size⟩, hchg⟩
              · have := (HR.out.cutA (k := k + 1) (cap := c) (by omega) hnc).chg hchg (fun j hj _ e => hne (by rw [← HBO.out, ← blk_cutA _ c (k + 1), hj, e]))
                rwa [bs_drop] at this
              · rw [blk_cutA]; exact HBO.out
            have FIN := Lib.hid fin
            clear fin
            by_cases hk : k = 9
            · have h9 : (((k : Int)) == 9) = true := by rw [hk]; rfl
              have h1' : decide (1 < (x.toNat : Int)) = false := by have := HBAD.out; simp; omega
              have h0' : ((x.toNat : Int) == 0) = false := by have := HBAD.out; simp; omega
              have hk0 : 0 < k := by omega
              clear hk
              go_wp2_with fail
              go_ret
              exact FIN.out _ rfl
            · have h9 : (((k : Int)) == 9) = false := by simp; omega
              by_cases hk0 : 0 < k
              · have h0' : ((x.toNat : Int) == 0) = false := by have := HBAD.out; simp; omega
                go_wp2_with fail
                go_ret
                exact FIN.out _ rfl
              · go_wp2_with fail
                go_ret
                exact FIN.out _ rfl
          · have h9 : (((k : Int)) == 9) = false := by have := HBAD.out; simp; omega
            have h9' : k + 1 ≤ 9 := by have := HBAD.out; omega
            have h0 : ((x.toNat : Int) == 0) = false := by simp; omega
            have HG : Hid (scanU (k + 1) (acc + (x.toNat % 128) * 128 ^ k) (l.drop (k + 1)) = getU l) := by
              show _ = _
              rw [← HSC.out, drop_cons HX.out, scanU_on HBAD.out hend]
            clear hcut
            have hunl : un ≤ 72057594037927936 := by
              rw [HUN.out]
              exact Nat.le_trans (Nat.pow_le_pow_right (by omega) (show k ≤ 8 by omega)) (by decide)
            by_cases hk0 : 0 < k
            all_goals
              go_wp2_with fail
              go_round
              case rel => exact ⟨k + 1, _, un * 128, h9', by omega, by go_num, by rw [hval.out], by go_num, by rw [HUN.out, Nat.pow_succ], uint_lt HACC.out, HG.out⟩
              case measure => simp [intOf]; omega
      · have hk : k = n := by omega
        subst hk
        have hg : getU l = .error 3 := by rw [← HSC.out, List.drop_of_length_le (by rw [HLN.out]; omega), scanU_nil]
        have HG := Lib.hid (uintR_err hg)
        clear hg
        go_wp2_with fail
        go_ret
        rw [HG.out]
        exact ⟨rfl, HW.out.put 3⟩
  · have HG := Lib.hid (uintR_bad (l := l) h)
    have h' : (e0 == 0) = false := by simpa using h
    clear h
    go_enter Try.func91, Try.ntmps91
    go_wp2
    refine wp_loop_rounds 1 ?_
    rw [rounds_succ]
    go_wp2
    go_ret
    rw [HG.out]
    exact ⟨rfl, HW.out, Chg.refl _ w⟩

end Go.Proofs.Ytffehmfjcglalaa
