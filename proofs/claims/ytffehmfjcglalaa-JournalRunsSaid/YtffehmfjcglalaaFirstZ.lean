/- Contract of journal.first. -/
import Derived.Test.YtffehmfjcglalaaFrameZ
import Derived.Test.YtffehmfjcglalaaG3
import Derived.Test.YtffehmfjcglalaaG0
import Derived.Deep.QuietTactic
import Derived.BigQuiet
set_option linter.unusedSimpArgs false
set_option linter.unusedVariables false
namespace Go.Proofs.Ytffehmfjcglalaa
set_option linter.unusedVariables false
open Go.RowKit Go.Shelf Go.Mem Go.Pure

/-- What first returns. -/
def FirstPost (w : World) (b : List UInt8) (num : Int) (e : Ending) (w' : World) : Prop :=
  New w w' ∧ ((firstC b num = none ∧ e = .returned (.tuple #[.slice none 0 0, .int .i64 0, .bool false])) ∨
    ∃ r A n c, firstC b num = some r ∧ e = .returned (.tuple #[.slice A n c, .int .i64 (frameP num r).length, .bool true]) ∧ w'.ownsRow w.heap.size 5 1 (.slice A n c) n (bs r))

set_option maxHeartbeats 2000000 in
set_option maxRecDepth 100000 in
theorem first_any (num : Int) (A : Option Addr) (n c : Nat) (b : List UInt8) (w : World) (hlo : -9223372036854775808 ≤ num) (hhi : num ≤ 9223372036854775807) (hr : Rd w A n (bs b)) (hn : n ≤ 100000000) (hnc : n ≤ c) (hcm : c ≤ maxLen) (hA : ∀ k, blk A = some k → k < w.heap.size) :
    Calls Try.prog 62 #[.slice A n c, .int .i64 num] w (FirstPost w b num) := by
  have hbl : b.length = n := by have := hr.len; rwa [bs_length] at this
  subst hbl
  have hcm' : c ≤ 9223372036854775807 := hcm
  obtain ⟨m, hm1, hm2, hm3⟩ : ∃ m : Nat, m ≤ b.length ∧ b.take m = b.take 10 ∧ ((b.length : Int) ≤ 10 ∧ (m : Int) = b.length ∨ (10 : Int) ≤ b.length ∧ (m : Int) = 10) := by
    rcases Nat.lt_or_ge b.length 10 with h | h
    · exact ⟨b.length, Nat.le_refl _, by rw [List.take_of_length_le (Nat.le_refl _), List.take_of_length_le (by omega)], .inl ⟨by omega, rfl⟩⟩
    · exact ⟨10, h, rfl, .inr ⟨by omega, rfl⟩⟩
  have hmin := fun ts t W => run_min2 (P := Try.prog) (b.length : Int) 10 (m : Int) hm3 ts t W
  have hupto := fun W => run_upto elemBytes .i64 A b.length c m (m : Int) rfl (by omega) W
  have HM2 := Lib.hid hm2
  clear hm2 hm3
  go_enter Try.func62, Try.ntmps62
  go_wp2_with fail
  -- head := wire.Read(..)
  have hr1 : Rd w A m (bs (b.take 10)) := by
    have := hr.take hm1
    rwa [bs_take, HM2.out] at this
  refine (read_any A m c (b.take 10) w hr1 (by omega)).mono ?_
  rintro e w1 ⟨g1, bo1, rfl, hw1, hn1, hg1, hb1⟩
  have H1 := Lib.hid (And.intro hw1 (And.intro hn1 hg1))
  clear hw1 hn1 hb1 hr1 hmin hupto hg1
  go_wp2_with fail
  obtain ⟨hw1, hn1, hg1⟩ := H1.out
  refine (rUint_any g1 bo1 (b.take 10) 0 w1 hw1).mono ?_
  rintro e w2 ⟨rfl, _, hc2⟩
  have hn2 : New w w2 := hn1.trans hc2 (fun k hk h => by omega)
  have hr2 := hr.new hn2
  clear hw1 hn1 hg1 H1 hc2
  have hlen0 := uintR_lt (b.take 10) 0
  generalize hlq : (uintR (b.take 10) 0).1 = len at *
  have HL := Lib.hid hlq
  clear hlq
  have H2 := Lib.hid (And.intro hn2 hr2)
  clear hn2 hr2
  by_cases hbig : b.length < len
  · have HG := Lib.hid (firstC_big (num := num) HL.out hbig)
    have hbig' : decide ((b.length : Int) < (len : Int)) = true := by simp; omega
    go_wp2_with fail
    go_ret3
    exact ⟨H2.out.1, .inl ⟨HG.out, rfl⟩⟩
  have hbig' : decide ((b.length : Int) < (len : Int)) = false := by simp; omega
  obtain ⟨m2, hm1', hm2, hm3⟩ : ∃ m2 : Nat, m2 ≤ b.length ∧ b.take m2 = b.take (len + 20) ∧ ((b.length : Int) ≤ (len : Int) + 20 ∧ (m2 : Int) = b.length ∨ (len : Int) + 20 ≤ b.length ∧ (m2 : Int) = (len : Int) + 20) := by
    rcases Nat.lt_or_ge b.length (len + 20) with h | h
    · exact ⟨b.length, Nat.le_refl _, by rw [List.take_of_length_le (Nat.le_refl _), List.take_of_length_le (by omega)], .inl ⟨by omega, rfl⟩⟩
    · exact ⟨len + 20, h, rfl, .inr ⟨by omega, by omega⟩⟩
  have hmin := fun ts t W => run_min2 (P := Try.prog) (b.length : Int) ((len : Int) + 20) (m2 : Int) hm3 ts t W
  have hupto := fun W => run_upto elemBytes .i64 A b.length c m2 (m2 : Int) rfl (by omega) W
  have HM2' := Lib.hid hm2
  clear hm2 hm3 HM2
  go_wp2_with fail
  -- frame := wire.Read(..)
  have hr3 : Rd w2 A m2 (bs (b.take (len + 20))) := by
    have := H2.out.2.take hm1'
    rwa [bs_take, HM2'.out] at this
  refine (read_any A m2 c (b.take (len + 20)) w2 hr3 (by omega)).mono ?_
  rintro e w3 ⟨g3, bo3, rfl, hw3, hn3, hg3, hb3⟩
  have hn3' : New w w3 := H2.out.1.new hn3
  have hg3' : w.heap.size ≤ g3 := Nat.le_trans H2.out.1.size hg3
  have hb3' : ∀ k, bo3 = some k → w.heap.size ≤ k := fun k hk => Nat.le_trans H2.out.1.size (hb3 k hk)
  have H3 := Lib.hid (And.intro hw3 (And.intro hn3' hb3'))
  clear hw3 hn3 hn3' hb3 hb3' hr3 hmin hupto H2 hg3
  go_wp2_with fail
  obtain ⟨hw3, hn3, hb3⟩ := H3.out
  have hg3l := hw3.lt
  -- bytes := frame.Raw()
  refine (rRaw_any g3 bo3 (b.take (len + 20)) 0 w3 hw3 (by simp; omega)).mono ?_
  rintro e w4 ⟨A4, n4, c4, rfl, ho4, hw4, hc4⟩
  have hn4 : New w w4 := hn3.trans hc4 (fun k hk h => by omega)
  have hrl := rawR_rest (b.take (len + 20)) 0
  generalize hq4 : rawR (b.take (len + 20)) 0 = q4 at *
  obtain ⟨bytes, r1, e1⟩ := q4
  have HQ4 := Lib.hid hq4
  clear hq4
  simp only at ho4 hw4 hrl
  have hbn : bytes.length = n4 := by have := ho4.1; simpa using this
  have hbl2 : bytes.length ≤ 100000000 := by
    have : (b.take (len + 20)).length ≤ b.length := by simp; omega
    omega
  have hz4 := hc4.size
  have H4 := Lib.hid (And.intro hw4 (And.intro hn4 (And.intro ho4 hbn)))
  have hn4l : n4 ≤ 100000000 := by omega
  clear hw3 hn3 hb3 hw4 hn4 ho4 hc4 hbn H3 hrl
  go_wp2_with fail
  obtain ⟨hw4, hn4, ho4, hbn⟩ := H4.out
  -- sum := frame.Uint()
  refine (rUint_any g3 bo3 r1 e1 w4 hw4).mono ?_
  rintro e w5 ⟨rfl, _, hc5⟩
  have hn5 : New w w5 := hn4.trans hc5 (fun k hk h => by omega)
  have ho5 : w5.ownsRow w3.heap.size 5 1 (.slice A4 n4 c4) n4 (bs bytes) := own_chg ho4 hc5 (fun k hk h => by
    have := own_blk_le ho4 hk
    omega)
  have hsl := uintR_lt r1 e1
  generalize hq5 : (uintR r1 e1).1 = sum at *
  have HQ5 := Lib.hid hq5
  clear hq5
  have hs3 : w.heap.size ≤ w3.heap.size := Nat.le_trans hg3' (Nat.le_of_lt hg3l)
  have H5 := Lib.hid (And.intro hn5 (And.intro ho5 hbn))
  clear hw4 hn4 ho4 hbn hn5 ho5 hc5 H4 hz4
  go_wp2_with fail
  obtain ⟨hn5, ho5, hbn⟩ := H5.out
  -- core := wire.Read(bytes)
  refine (read_any A4 n4 c4 bytes w5 (Rd.of_own ho5) (by omega)).mono ?_
  rintro e w6 ⟨g6, bo6, rfl, hw6, hn6, hg6, hb6⟩
  have hn6' : New w w6 := hn5.new hn6
  have ho6 : w6.ownsRow w3.heap.size 5 1 (.slice A4 n4 c4) n4 (bs bytes) := own_chg ho5 hn6 (fun _ _ h => h)
  have hA4 : ∀ k, blk A4 = some k → k < w5.heap.size := fun k hk => (own_blk_le ho5 hk).2
  have hs5 := hn5.size
  have H6 := Lib.hid (And.intro hw6 (And.intro hn6' (And.intro ho6 (And.intro hA4 hbn))))
  clear hn5 ho5 hbn hw6 hn6 hn6' ho6 hA4 hb6 H5
  go_wp2_with fail
  obtain ⟨hw6, hn6, ho6, hA4, hbn⟩ := H6.out
  -- at := core.Int()
  refine (rInt_any g6 bo6 bytes 0 w6 hw6).mono ?_
  rintro e w7 ⟨rfl, hw7, hc7⟩
  have hn7 : New w w7 := hn6.trans hc7 (fun k hk h => by omega)
  have ho7 : w7.ownsRow w3.heap.size 5 1 (.slice A4 n4 c4) n4 (bs bytes) := own_chg ho6 hc7 (fun k hk h => by have := hA4 k hk; omega)
  have hir : (intR bytes 0).2.1.length ≤ bytes.length := uintR_rest bytes 0
  generalize hq7 : intR bytes 0 = q7 at *
  obtain ⟨at_, c1, x1⟩ := q7
  have HQ7 := Lib.hid hq7
  clear hq7
  simp only at hw7 hir ⊢
  have H7 := Lib.hid (And.intro hw7 (And.intro hn7 (And.intro ho7 (And.intro hA4 hbn))))
  clear hw6 hn6 ho6 hA4 hbn hw7 hn7 ho7 hc7 H6
  go_wp2_with fail
  obtain ⟨hw7, hn7, ho7, hA4, hbn⟩ := H7.out
  -- record := core.Raw()
  refine (rRaw_any g6 bo6 c1 x1 w7 hw7 (by omega)).mono ?_
  rintro e w8 ⟨A8, n8, c8, rfl, ho8, hw8, hc8⟩
  have hn8 : New w w8 := hn7.trans hc8 (fun k hk h => by omega)
  have ho8' : w8.ownsRow w3.heap.size 5 1 (.slice A4 n4 c4) n4 (bs bytes) := own_chg ho7 hc8 (fun k hk h => by have := hA4 k hk; omega)
  have hrr := rawR_rest c1 x1
  generalize hq8 : rawR c1 x1 = q8 at *
  obtain ⟨rcd, c2, x2⟩ := q8
  have HQ8 := Lib.hid hq8
  clear hq8
  simp only at ho8 hw8 hrr
  have hs7 := hn7.size
  have hr8n : rcd.length = n8 := by have := ho8.1; simpa using this
  have hn8l : n8 ≤ 100000000 := by omega
  have H8 := Lib.hid (And.intro hw8 (And.intro hn8 (And.intro ho8 (And.intro ho8' (And.intro hr8n hbn)))))
  clear hw7 hn7 ho7 hA4 hbn hw8 hn8 ho8 ho8' hc8 hr8n H7
  have HV := Lib.hid (firstC_val (num := num) HL.out hbig HQ4.out HQ5.out HQ7.out HQ8.out)
  go_wp2_with fail
  obtain ⟨hw8, hn8, ho8, ho8', hr8n, hbn⟩ := H8.out
  -- core.End()
  refine (rEnd_any g6 bo6 c2 x2 w8 hw8).mono ?_
  rintro e w9 ⟨rfl, rfl⟩
  clear hw8 hn8 ho8 ho8' hr8n hbn
  by_cases hE : endR c2 x2 = 0
  · have hE' : (endR c2 x2 != 0) = false := by simpa using hE
    have HE := Lib.hid hE
    clear hE
    by_cases hAt : at_ = num
    · subst hAt
      go_wp2_with fail
      obtain ⟨hw8, hn8, ho8, ho8', hr8n, hbn⟩ := H8.out
      have hA4 : ∀ k, blk A4 = some k → k < w8.heap.size := fun k hk => (own_blk_le ho8' hk).2
      refine (hbytes_any ⟨#[101, 110, 116, 114, 121]⟩ (by decide) A4 n4 c4 bytes w8 (Rd.of_own ho8') (by omega) hA4).mono ?_
      rintro e w9 ⟨rfl, hn9⟩
      rw [show bytesI (ByteArray.mk #[101, 110, 116, 114, 121]).data.toList bytes = (sumP bytes : Int) from bytesI_toNat _]
      have ho9 : w9.ownsRow w7.heap.size 5 1 (.slice A8 n8 c8) n8 (bs rcd) := own_chg ho8 hn9 (fun _ _ h => h)
      have hn9' : New w w9 := hn8.new hn9
      have H9 := Lib.hid (And.intro hn9' (And.intro ho9 hr8n))
      clear hw8 hn8 ho8 ho8' hr8n hbn hA4 hn9 ho9 hn9' H8
      by_cases hS : sum = sumP bytes
      · have hS' : ((sum : Int) != (sumP bytes : Int)) = false := by simp [hS]
        have HS := Lib.hid hS
        clear hS
        have HV2 := Lib.hid (HV.out.trans (if_neg (by have := HE.out; have := HS.out; simp [*])))
        go_wp2_with fail
        obtain ⟨hn9, ho9, hr8n⟩ := H9.out
        -- own := Frame(number, record)
        refine (frame_any at_ A8 n8 c8 rcd w9 hlo hhi (Rd.of_own ho9) (by omega) (fun k hk => (own_blk_le ho9 hk).2)).mono ?_
        rintro e w10 ⟨A10, c10, rfl, ho10, hn10⟩
        have hn10' := hn9.new hn10
        have hr10 := hr.new hn10'
        have ho10' : w10.ownsRow w7.heap.size 5 1 (.slice A8 n8 c8) n8 (bs rcd) := own_chg ho9 hn10 (fun _ _ h => h)
        have hfl := frameP_len at_ rcd hlo hhi (by omega)
        obtain ⟨fr, hfr⟩ : ∃ fr, frameP at_ rcd = fr := ⟨_, rfl⟩
        obtain ⟨fl, hfl2⟩ : ∃ fl, fr.length = fl := ⟨_, rfl⟩
        rw [hfr] at hfl ho10 ⊢
        rw [hfl2] at hfl ho10 ⊢
        have HFR := Lib.hid hfr
        have HFL := Lib.hid hfl2
        have H10 := Lib.hid (And.intro hn10' (And.intro ho10' (And.intro hr10 ho10)))
        clear hn9 ho9 hr8n ho10 ho10' hn10 hn10' hr10 hfr hfl2 H9
        by_cases hfl3 : b.length < fl
        · have hfl3' : decide ((b.length : Int) < (fl : Int)) = true := by simp; omega
          have HN : Hid (firstC b at_ = none) := by
            show _ = _
            rw [HV2.out, HFR.out, HFL.out, if_neg]
            intro h
            have := congrArg List.length h
            rw [HFL.out] at this
            simp at this
            omega
          go_wp2_with fail
          go_quiet (fail)
          go_wp2
          go_ret3
          exact ⟨H10.out.1.drewN _, .inl ⟨HN.out, rfl⟩⟩
        · have hfl3' : decide ((b.length : Int) < (fl : Int)) = false := by simp; omega
          have hupto := fun W => run_upto elemBytes .i64 A b.length c fl (fl : Int) rfl (by omega) W
          have hst1 := fun q => run_tostr (P := Try.prog) Try.underlying33 Try.underlying5 Try.underlying9 (W := w10.drewN q) (A := A10) (n := fl) (c := c10) (l := fr) (Rd.of_own H10.out.2.2.2)
          have hst2 := fun q => run_tostr (P := Try.prog) Try.underlying33 Try.underlying5 Try.underlying9 (W := w10.drewN q) (A := A) (n := fl) (c := c) (l := b.take fl) (by have := H10.out.2.2.1.take (k := fl) (by omega); rwa [bs_take] at this)
          go_wp2_with fail
          go_quiet (fail)
          go_wp2
          · have hne : (!fr == b.take fl) = true := by assumption
            have hne' : fr ≠ b.take fl := by simpa using hne
            go_ret3
            refine ⟨H10.out.1.drewN _, .inl ⟨?_, rfl⟩⟩
            rw [HV2.out, HFR.out, HFL.out, if_neg (fun h => hne' h.symm)]
          · have heq : (!fr == b.take fl) = false := by assumption
            have heq' : fr = b.take fl := by simpa using heq
            go_ret3
            refine ⟨H10.out.1.drewN _, .inr ⟨rcd, A8, n8, c8, ?_, ?_, ?_⟩⟩
            · rw [HV2.out, HFR.out, HFL.out, if_pos heq'.symm]
            · rw [HFR.out, HFL.out]; rfl
            · exact own_base H10.out.2.1 hs7
      · have hS' : ((sum : Int) != (sumP bytes : Int)) = true := by simp; omega
        have HS := Lib.hid hS
        clear hS
        go_wp2_with fail
        go_ret3
        refine ⟨H9.out.1, .inl ⟨?_, rfl⟩⟩
        rw [HV.out, if_pos (.inr (.inr HS.out))]
    · have hAt' : (at_ != num) = true := by simpa using hAt
      have HAt := Lib.hid hAt
      clear hAt
      go_wp2_with fail
      go_ret3
      refine ⟨H8.out.2.1, .inl ⟨?_, rfl⟩⟩
      rw [HV.out, if_pos (.inr (.inl HAt.out))]
  · have hE' : (endR c2 x2 != 0) = true := by simpa using hE
    have HE := Lib.hid hE
    clear hE
    go_wp2_with fail
    go_ret3
    refine ⟨H8.out.2.1, .inl ⟨?_, rfl⟩⟩
    rw [HV.out, if_pos (.inl HE.out)]

end Go.Proofs.Ytffehmfjcglalaa
