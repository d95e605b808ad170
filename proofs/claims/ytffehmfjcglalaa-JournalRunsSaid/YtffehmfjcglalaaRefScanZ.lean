/- Contract of refuterref07.Scan. -/
import Derived.Test.YtffehmfjcglalaaRefFirstZ
import Derived.Test.YtffehmfjcglalaaRefLists
import Derived.Test.YtffehmfjcglalaaG0
set_option linter.unusedSimpArgs false
set_option linter.unusedVariables false
namespace Go.Proofs.Ytffehmfjcglalaa
open Go.RowKit Go.Mem Go.Pure

/-- Byte slices that lie in the block of A. -/
def InA (A : Option Addr) (vs : List Value) : Prop := ∀ v ∈ vs, ∀ A' n c, v = .slice A' n c → ∀ k, blk A' = some k → blk A = some k
set_option maxHeartbeats 2000000 in
set_option maxRecDepth 100000 in
theorem rscan_new (A : Option Addr) (n c : Nat) (b : List UInt8) (w : World) (hr : Rd w A n (bs b)) (hn : n ≤ 100000000) (hnc : n ≤ c) (hcm : c ≤ maxLen) (hA : ∀ k, blk A = some k → k < w.heap.size) :
    Calls Try.prog 44 #[.slice A n c] w fun e w' => ∃ Al nl cl vs, e = .returned (.tuple #[.slice Al nl cl, .int .i64 (framesP 0 (scanRf b 0)).length]) ∧
      w'.ownsRow w.heap.size 33 1 (.slice Al nl cl) nl vs ∧ Lists w' vs (scanRf b 0) ∧ InA A vs ∧ New w w' := by
  have hll : b.length = n := by have := hr.len; rwa [bs_length] at this
  have HLL := Lib.hid hll
  clear hll
  have hcm' : c ≤ 9223372036854775807 := hcm
  go_enter Try.func44, Try.ntmps44
  go_wp2
  go_loopw [4, 5] (fun v p wr => ∃ (ls : List (List UInt8)) (k at_ : Nat) (A1 : Option Addr) (c1 : Nat) (vs : List Value), v = .slice A1 k c1 ∧ p = .int .i64 at_ ∧ at_ ≤ n ∧ k ≤ at_ ∧ ls.length = k ∧ scanRf b 0 = ls ++ scanRf (b.drop at_) k ∧ at_ = (framesP 0 ls).length ∧
      wr.ownsRow w.heap.size 33 1 (.slice A1 k c1) k vs ∧ Lists wr vs ls ∧ New w wr ∧ InA A vs)
    (fun _ p _ => n - (intOf p).toNat)
  case atStart => exact ⟨[], 0, 0, none, 0, [], rfl, rfl, by omega, by omega, rfl, by simp, by simp [framesP_nil], World.ownsRow_nil _ _ _ _, Lists.nil _, Chg.refl _ w, fun v hv => (by simp at hv)⟩
  case round =>
    obtain ⟨ls, k, at_, A1, c1, vs, rfl, rfl, hat, hkat, hlk, hsc, hfr, ho, hls, hnew, hbl⟩ := hrel
    have HSC := Lib.hid hsc
    have HLK := Lib.hid hlk
    have HFR := Lib.hid hfr
    have HO := Lib.hid ho
    have HLS := Lib.hid hls
    have HNW := Lib.hid hnew
    have HBL := Lib.hid hbl
    clear hsc hlk hfr ho hls hnew hbl
    by_cases hlt : at_ < n
    · have hcut := fun W => run_cut elemBytes .i64 A n c at_ (at_ : Int) rfl (by omega) W
      have HR := Lib.hid hr
      have HA := Lib.hid hA
      clear hr hA
      go_wp2_with fail
      refine (rfirst_any (k : Int) (cutA A c at_) (n - at_) (c - at_) (b.drop at_) wr (by omega) (by omega) (by have := (HR.out.new HNW.out).cutA (cap := c) hat hnc; rwa [bs_drop] at this) (by omega) (by omega) (Nat.le_trans (Nat.sub_le _ _) hcm) (by
        intro i hi
        rw [blk_cutA] at hi
        have := HA.out i hi
        have := HNW.out.size
        omega)).mono ?_
      rw [blk_cutA]
      rintro e w1 ⟨hn1, ⟨hf, rfl⟩ | ⟨r, A2, n2, c2, hf, rfl, hnc2, hcm2, hr2, hA2⟩⟩
      · have HF := Lib.hid (scanRf_none hf)
        have HN1 := Lib.hid hn1
        clear hf hn1 hcut
        go_wp2
        go_ret2
        have e : scanRf b 0 = ls := by rw [HSC.out, HF.out, List.append_nil]
        rw [e, ← HFR.out]
        exact ⟨A1, k, c1, vs, rfl, own_chg HO.out HN1.out (fun _ _ h => h), HLS.out.new HN1.out, HBL.out, HNW.out.new HN1.out⟩
      · have hfl := firstRf_le hf
        rw [List.length_drop, HLL.out] at hfl
        have hfp := frameP_pos (k : Int) r
        have hbl2 : r.length = n2 := by have := hr2.len; rwa [bs_length] at this
        have hrl : n2 ≤ 100000000 := by
          have : r.length ≤ (frameP (k : Int) r).length := by
            unfold frameP rawP coreP
            simp only [List.length_append]
            omega
          omega
        obtain ⟨sz, hszq⟩ : ∃ sz, (frameP (k : Int) r).length = sz := ⟨_, rfl⟩
        rw [hszq] at hfl hfp
        have HF := Lib.hid hf
        have HSZ := Lib.hid hszq
        have HN1 := Lib.hid hn1
        have HR2 := Lib.hid hr2
        have HA2 := Lib.hid hA2
        have HO1 := Lib.hid (own_chg HO.out hn1 (fun _ _ h => h))
        clear hf hszq hn1 hr2 hA2 hbl2 hcut
        go_wp2_with fail
        refine (refFrame_any (k : Int) A2 n2 c2 r w1 (by omega) (by omega) HR2.out hrl).mono ?_
        rintro e w2 ⟨A3, n3, c3, rfl, ho3, hn2⟩
        have hn3 : n3 = sz := by have := ho3.1; rw [bs_length, HSZ.out] at this; omega
        subst hn3
        have HN2 := Lib.hid hn2
        have HO2 := Lib.hid (own_chg HO1.out hn2 (fun _ _ h => h))
        clear ho3 hn2
        go_wp2_with (at_builtin; refine wpList_app elemListsB rfl _ _ rfl rfl (HO2.out.alloc _) rfl Rd.one (by simp [Value.oneCell']) (by simp only [maxLen]; omega) (by omega) (by have := HN2.out.size; have := HN1.out.size; have := HNW.out.size; simp; omega) ?_; intro A' c' w3 hown3 hg3 hat3; have HO3 := Lib.hid hown3; clear hown3)
        go_roundw
        case rel =>
          have hnw2 : New w w2 := (HNW.out.new HN1.out).new HN2.out
          have hchg : Chg (fun i => blk A1 = some i) w2 w3 := ((Chg.refl _ w2).alloc _).grown hg3 (fun i hi _ => hi)
          have hls2 : Lists w2 (vs ++ [.slice A2 n2 c2]) (ls ++ [r]) := ((HLS.out.new HN1.out).new HN2.out).snoc hnc2 hcm2 (HR2.out.new HN2.out) (fun i hi => by have := HA.out i (HA2.out i hi); have := hnw2.size; omega)
          have hblk : InA A (vs ++ [Value.slice A2 n2 c2]) := by
            intro v hv Av nv cv hve i hi
            rcases List.mem_append.1 hv with hv | hv
            · exact HBL.out v hv Av nv cv hve i hi
            · simp at hv
              subst hv
              injection hve with h1
              subst h1
              exact HA2.out i hi
          refine ⟨ls ++ [r], k + 1, at_ + n3, A', c', _, rfl, by go_num, by omega, by omega, by rw [List.length_append, HLK.out]; rfl, ?_, ?_, HO3.out, ?_, ?_, hblk⟩
          · rw [HSC.out, scanRf_some (fun h => by have := congrArg List.length h; rw [List.length_drop, HLL.out] at this; simp at this; omega) HF.out, HSZ.out]
            simp [List.drop_drop]
          · rw [framesP_snoc, List.length_append, ← HFR.out, HLK.out, Nat.zero_add, HSZ.out]
          · exact hls2.chg hchg (fun v hv Av nv cv hve i hi h => by
              have h1 := HA.out i (hblk v hv Av nv cv hve i hi)
              have h2 := (own_blk_le HO2.out h).1
              omega)
          · exact (hnw2.alloc _).grown hg3 (fun i hi hlt' => by have := own_blk_le HO2.out hi; omega)
        case measure => simp [intOf]; omega
    · go_wp2
      go_ret2
      have e : scanRf b 0 = ls := by
        rw [HSC.out, List.drop_of_length_le (by rw [HLL.out]; omega), scanRf_nil, List.append_nil]
      rw [e, ← HFR.out]
      exact ⟨A1, k, c1, vs, rfl, HO.out, HLS.out, HBL.out, HNW.out⟩

theorem rscan_any (A : Option Addr) (n c : Nat) (b : List UInt8) (w : World) (hr : Rd w A n (bs b)) (hn : n ≤ 100000000) (hnc : n ≤ c) (hcm : c ≤ maxLen) (hA : ∀ k, blk A = some k → k < w.heap.size) :
    Calls Try.prog 44 #[.slice A n c] w fun e w' => ∃ Al nl cl vs, e = .returned (.tuple #[.slice Al nl cl, .int .i64 (framesP 0 (scanRf b 0)).length]) ∧
      w'.ownsRow w.heap.size 33 1 (.slice Al nl cl) nl vs ∧ Lists w' vs (scanRf b 0) ∧ New w w' := by
  refine (rscan_new A n c b w hr hn hnc hcm hA).mono ?_
  rintro e w' ⟨Al, nl, cl, vs, h1, h2, h3, _, h4⟩
  exact ⟨Al, nl, cl, vs, h1, h2, h3, h4⟩
end Go.Proofs.Ytffehmfjcglalaa
