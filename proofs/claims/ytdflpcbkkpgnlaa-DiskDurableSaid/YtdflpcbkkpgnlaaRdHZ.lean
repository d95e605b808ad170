/- An operation on the disk and on the reference's disk. (Printed by gen_do.py.) -/
import Derived.Test.YtdflpcbkkpgnlaaB0
import Derived.Test.YtdflpcbkkpgnlaaRdGZ
namespace Go.Dk
/-- An operation. -/
structure Op where
  kind : Int
  file : Int
  n : Int
  b : List UInt8
  keep : List Int
structure Op.Ok (o : Op) : Prop where
  kind : 0 ≤ o.kind ∧ o.kind ≤ 4
  file : -9223372036854775808 ≤ o.file ∧ o.file ≤ 9223372036854775807
  n : -9223372036854775808 ≤ o.n ∧ o.n ≤ 9223372036854775807
  b : o.b.length ≤ 1000000000
  keep : o.keep.length ≤ 1000000000
  kr : ∀ z ∈ o.keep, -9223372036854775808 ≤ z ∧ z ≤ 9223372036854775807
def doS (s : S) (o : Op) : S × Int := if o.kind = 0 then append s o.file o.b else if o.kind = 1 then sync s else if o.kind = 2 then truncate s o.file o.n else if o.kind = 3 then (arm s o.n, 0) else (crash s o.keep o.n, 0)
section
variable {s : S} {o : Op}
theorem doS0 (h : o.kind = 0) : doS s o = append s o.file o.b := if_pos h
theorem doS1 (h : o.kind = 1) : doS s o = sync s := by unfold doS; rw [if_neg (by omega), if_pos h]
theorem doS2 (h : o.kind = 2) : doS s o = truncate s o.file o.n := by unfold doS; rw [if_neg (by omega), if_neg (by omega), if_pos h]
theorem doS3 (h : o.kind = 3) : doS s o = (arm s o.n, 0) := by unfold doS; rw [if_neg (by omega), if_neg (by omega), if_neg (by omega), if_pos h]
theorem doS4 (h : o.kind = 4) : doS s o = (crash s o.keep o.n, 0) := by unfold doS; rw [if_neg (by omega), if_neg (by omega), if_neg (by omega), if_neg (by omega)]
theorem WF.doS (h : WF s) (ho : o.Ok) : WF (doS s o).1 := by
  have hk := ho.kind
  rcases (show o.kind = 0 ∨ o.kind = 1 ∨ o.kind = 2 ∨ o.kind = 3 ∨ o.kind = 4 by omega) with e | e | e | e | e
  · rw [doS0 e]; exact h.append _ _
  · rw [doS1 e]; exact h.sync
  · rw [doS2 e]; exact h.truncate _ _
  · rw [doS3 e]; exact h.arm ho.n.2
  · rw [doS4 e]; exact h.crash _ _
end
end Go.Dk
namespace Go.Proofs.Ytdflpcbkkpgnlaa
set_option linter.unusedVariables false
open Go.RowKit Go.Mem Go.Dk

set_option maxHeartbeats 2000000 in
set_option maxRecDepth 100000 in
theorem dDo_any (g m : Nat) (V : Nat → Value) (s : S) (w : World) (h : DI w g m V s) (o : Go.Dk.Op) (ho : o.Ok) (A K : Option Addr) (ca ck : Nat) (hA : Rd w A o.b.length (bs o.b)) (hK : Rd w K o.keep.length (is o.keep)) (hKo : ∀ k, blk K = some k → ¬ ownD g m V k ∧ k < w.heap.size) :
    Calls Try.prog 23 #[.pointer (some ⟨g, 0, none⟩), .agg #[.int .i64 o.kind, .int .i64 o.file, .int .i64 o.n, .slice A o.b.length ca, .slice K o.keep.length ck]] w fun e w' => e = .returned (.int .i64 (doS s o).2) ∧
      ∃ V', DI w' g m V' (doS s o).1 ∧ Did w w' g m V V' := by
  have HH := Lib.hid h
  have HA := Lib.hid hA
  have HK := Lib.hid hK
  have HKO := Lib.hid hKo
  obtain ⟨hkd, hfl, hon, hbl, hkl, hkr⟩ := ho
  have HKR := Lib.hid hkr
  clear h hA hK hKo hkr
  rcases (show o.kind = 0 ∨ o.kind = 1 ∨ o.kind = 2 ∨ o.kind = 3 ∨ o.kind = 4 by omega) with ek | ek | ek | ek | ek
  · rw [doS0 ek]
    have EK := Lib.hid ek
    rw [ek]
    clear ek hkd
    go_enter Try.func23, Try.ntmps23
    go_wp2_with (go_at_call 13; refine (dAppend_any g m V s _ (HH.out.new ((Chg.refl _ w).alloc _)) o.file A o.b.length ca o.b (HA.out.new ((Chg.refl _ w).alloc _)) hbl).mono ?_; rintro e w5 ⟨rfl, V5, hd5, hdd5⟩; have H5 := Lib.hid (And.intro hd5 hdd5); clear hd5 hdd5)
    go_ret
    exact ⟨rfl, V5, H5.out.1, (Did.of_new ((Chg.refl _ w).alloc _)).trans H5.out.2⟩
  · rw [doS1 ek]
    have EK := Lib.hid ek
    rw [ek]
    clear ek hkd
    go_enter Try.func23, Try.ntmps23
    go_wp2_with (go_at_call 14; refine (dSync_any g m V s _ (HH.out.new ((Chg.refl _ w).alloc _))).mono ?_; rintro e w5 ⟨rfl, hd5, hdd5⟩; have H5 := Lib.hid (And.intro hd5 hdd5); clear hd5 hdd5)
    go_ret
    exact ⟨rfl, V, H5.out.1, (Did.of_new ((Chg.refl _ w).alloc _)).trans H5.out.2⟩
  · rw [doS2 ek]
    have EK := Lib.hid ek
    rw [ek]
    clear ek hkd
    go_enter Try.func23, Try.ntmps23
    go_wp2_with (go_at_call 19; refine (dTruncate_any g m V s _ (HH.out.new ((Chg.refl _ w).alloc _)) o.file o.n).mono ?_; rintro e w5 ⟨rfl, V5, hd5, hdd5⟩; have H5 := Lib.hid (And.intro hd5 hdd5); clear hd5 hdd5)
    go_ret
    exact ⟨rfl, V5, H5.out.1, (Did.of_new ((Chg.refl _ w).alloc _)).trans H5.out.2⟩
  · rw [doS3 ek]
    have EK := Lib.hid ek
    rw [ek]
    clear ek hkd
    go_enter Try.func23, Try.ntmps23
    go_wp2_with fail
    refine (dArm_any g m s o.n hon _ (HH.out.new ((Chg.refl _ w).alloc _)).core.blk).mono ?_
    rintro e w5 ⟨rfl, hd5, hdd5⟩
    have H5 := Lib.hid (And.intro hd5 hdd5)
    clear hd5 hdd5
    go_wp2
    go_ret
    have hf : (arm s o.n).f = s.f ∧ (arm s o.n).firm = s.firm := by unfold arm; split <;> exact ⟨rfl, rfl⟩
    have hc := (HH.out.new ((Chg.refl _ w).alloc _)).cells hf H5.out.1 H5.out.2 (HH.out.wf.arm hon.2)
    exact ⟨rfl, V, hc.1, (Did.of_new ((Chg.refl _ w).alloc _)).trans hc.2⟩
  · rw [doS4 ek]
    have EK := Lib.hid ek
    rw [ek]
    clear ek hkd
    go_enter Try.func23, Try.ntmps23
    go_wp2_with fail
    refine (dCrash_any g m V s _ (HH.out.new ((Chg.refl _ w).alloc _)) K o.keep.length ck o.keep (HK.out.new ((Chg.refl _ w).alloc _)) (fun k hk => ⟨(HKO.out k hk).1, Nat.lt_of_lt_of_le (HKO.out k hk).2 ((Chg.refl (fun _ => False) w).alloc _).size⟩) hkl HKR.out o.n hon).mono ?_
    rintro e w5 ⟨rfl, V5, hd5, hdd5⟩
    have H5 := Lib.hid (And.intro hd5 hdd5)
    clear hd5 hdd5
    go_wp2
    go_ret
    exact ⟨rfl, V5, H5.out.1, (Did.of_new ((Chg.refl _ w).alloc _)).trans H5.out.2⟩

set_option maxHeartbeats 2000000 in
set_option maxRecDepth 100000 in
theorem rDo_any (g b f : Nat) (V : Nat → Value) (s : S) (w : World) (h : RI w g b f V s) (o : Go.Dk.Op) (ho : o.Ok) (A K : Option Addr) (ca ck : Nat) (hA : Rd w A o.b.length (bs o.b)) (hK : Rd w K o.keep.length (is o.keep)) (hKo : ∀ k, blk K = some k → ¬ ownR g b f V k ∧ k < w.heap.size) :
    Calls Try.prog 24 #[.pointer (some ⟨g, 0, none⟩), .agg #[.int .i64 o.kind, .int .i64 o.file, .int .i64 o.n, .slice A o.b.length ca, .slice K o.keep.length ck]] w fun e w' => e = .returned (.int .i64 (doS s o).2) ∧
      ∃ V', RI w' g b f V' (doS s o).1 ∧ DidR w w' g b f V V' := by
  have HH := Lib.hid h
  have HA := Lib.hid hA
  have HK := Lib.hid hK
  have HKO := Lib.hid hKo
  obtain ⟨hkd, hfl, hon, hbl, hkl, hkr⟩ := ho
  have HKR := Lib.hid hkr
  clear h hA hK hKo hkr
  rcases (show o.kind = 0 ∨ o.kind = 1 ∨ o.kind = 2 ∨ o.kind = 3 ∨ o.kind = 4 by omega) with ek | ek | ek | ek | ek
  · rw [doS0 ek]
    have EK := Lib.hid ek
    rw [ek]
    clear ek hkd
    go_enter Try.func24, Try.ntmps24
    go_wp2_with (go_at_call 36; refine (rAppend_any g b f V s _ (HH.out.new ((Chg.refl _ w).alloc _)) o.file A o.b.length ca o.b (HA.out.new ((Chg.refl _ w).alloc _)) hbl).mono ?_; rintro e w5 ⟨rfl, V5, hd5, hdd5⟩; have H5 := Lib.hid (And.intro hd5 hdd5); clear hd5 hdd5)
    go_ret
    exact ⟨rfl, V5, H5.out.1, (DidR.of_new ((Chg.refl _ w).alloc _)).trans H5.out.2⟩
  · rw [doS1 ek]
    have EK := Lib.hid ek
    rw [ek]
    clear ek hkd
    go_enter Try.func24, Try.ntmps24
    go_wp2_with (go_at_call 37; refine (rSync_any g b f V s _ (HH.out.new ((Chg.refl _ w).alloc _))).mono ?_; rintro e w5 ⟨rfl, hd5, hdd5⟩; have H5 := Lib.hid (And.intro hd5 hdd5); clear hd5 hdd5)
    go_ret
    exact ⟨rfl, V, H5.out.1, (DidR.of_new ((Chg.refl _ w).alloc _)).trans H5.out.2⟩
  · rw [doS2 ek]
    have EK := Lib.hid ek
    rw [ek]
    clear ek hkd
    go_enter Try.func24, Try.ntmps24
    go_wp2_with (go_at_call 38; refine (rTruncate_any g b f V s _ (HH.out.new ((Chg.refl _ w).alloc _)) o.file o.n).mono ?_; rintro e w5 ⟨rfl, V5, hd5, hdd5⟩; have H5 := Lib.hid (And.intro hd5 hdd5); clear hd5 hdd5)
    go_ret
    exact ⟨rfl, V5, H5.out.1, (DidR.of_new ((Chg.refl _ w).alloc _)).trans H5.out.2⟩
  · rw [doS3 ek]
    have EK := Lib.hid ek
    rw [ek]
    clear ek hkd
    go_enter Try.func24, Try.ntmps24
    go_wp2_with fail
    refine (rArm_any g b f s o.n hon _ (HH.out.new ((Chg.refl _ w).alloc _)).core.blk).mono ?_
    rintro e w5 ⟨rfl, hd5, hdd5⟩
    have H5 := Lib.hid (And.intro hd5 hdd5)
    clear hd5 hdd5
    go_wp2
    go_ret
    have hf : (arm s o.n).f = s.f ∧ (arm s o.n).firm = s.firm := by unfold arm; split <;> exact ⟨rfl, rfl⟩
    have hc := (HH.out.new ((Chg.refl _ w).alloc _)).cells hf H5.out.1 H5.out.2 (HH.out.wf.arm hon.2)
    exact ⟨rfl, V, hc.1, (DidR.of_new ((Chg.refl _ w).alloc _)).trans hc.2⟩
  · rw [doS4 ek]
    have EK := Lib.hid ek
    rw [ek]
    clear ek hkd
    go_enter Try.func24, Try.ntmps24
    go_wp2_with fail
    refine (rCrash_any g b f V s _ (HH.out.new ((Chg.refl _ w).alloc _)) K o.keep.length ck o.keep (HK.out.new ((Chg.refl _ w).alloc _)) (fun k hk => ⟨(HKO.out k hk).1, Nat.lt_of_lt_of_le (HKO.out k hk).2 ((Chg.refl (fun _ => False) w).alloc _).size⟩) hkl HKR.out o.n hon).mono ?_
    rintro e w5 ⟨rfl, V5, hd5, hdd5⟩
    have H5 := Lib.hid (And.intro hd5 hdd5)
    clear hd5 hdd5
    go_wp2
    go_ret
    exact ⟨rfl, V5, H5.out.1, (DidR.of_new ((Chg.refl _ w).alloc _)).trans H5.out.2⟩
end Go.Proofs.Ytdflpcbkkpgnlaa
