/- Contract of refuterref07.first. -/
import Derived.Test.YtffehmfjcglalaaRefRead2Z
import Derived.Test.YtffehmfjcglalaaRefWireZ
import Derived.Test.YtffehmfjcglalaaG0
set_option linter.unusedSimpArgs false
set_option linter.unusedVariables false
namespace Go.Proofs.Ytffehmfjcglalaa
open Go.RowKit Go.Mem Go.Pure

/-- What the reference's first returns: the record lies in the bytes that came in. -/
def RFirstPost (w : World) (bA : Option Nat) (b : List UInt8) (num : Int) (e : Ending) (w' : World) : Prop :=
  New w w' ∧ ((firstRf b num = none ∧ e = .returned (.tuple #[.slice none 0 0, .bool false])) ∨
    ∃ r A n c, firstRf b num = some r ∧ e = .returned (.tuple #[.slice A n c, .bool true]) ∧ n ≤ c ∧ c ≤ maxLen ∧ Rd w' A n (bs r) ∧ ∀ k, blk A = some k → bA = some k)

set_option maxHeartbeats 2000000 in
set_option maxRecDepth 100000 in
theorem rfirst_any (num : Int) (A : Option Addr) (n c : Nat) (b : List UInt8) (w : World) (hlo : -9223372036854775808 ≤ num) (hhi : num ≤ 9223372036854775807) (hr : Rd w A n (bs b)) (hn : n ≤ 100000000) (hnc : n ≤ c) (hcm : c ≤ maxLen) (hA : ∀ k, blk A = some k → k < w.heap.size) :
    Calls Try.prog 54 #[.int .i64 num, .slice A n c] w (RFirstPost w (blk A) b num) := by
  have hbl : b.length = n := by have := hr.len; rwa [bs_length] at this
  subst hbl
  have hcm' : c ≤ 9223372036854775807 := hcm
  go_enter Try.func54, Try.ntmps54
  go_wp2_with fail
  -- r := &Reader{B: b}; core := r.Raw()
  have hw0 : RRdr (w.alloc (.cells #[.slice A b.length c, .int .i64 0] 103)) w.heap.size (blk A) b 0 :=
    ⟨A, b.length, c, Blk.new _ _ _, hr.new ((Chg.refl _ w).alloc _), hnc, hcm, rfl, fun h => by have := hA _ h; omega, fun k hk => by have := hA k hk; simp; omega⟩
  refine (rrRaw_any w.heap.size (blk A) b 0 _ hw0).mono ?_
  rintro e w1 ⟨A1, n1, c1, rfl, hnc1, hcm1, hA1, hr1, hw1, hch1⟩
  have hn1 : New w w1 := ((Chg.refl _ w).alloc _).trans hch1 (fun k hk h => by omega)
  have hrl := rawR_rest b 0
  generalize hq1 : rawR b 0 = q1 at *
  obtain ⟨bytes, r1, e1⟩ := q1
  have HQ1 := Lib.hid hq1
  clear hq1
  simp only at hr1 hw1 hrl
  have hbn : bytes.length = n1 := by have := hr1.len; rwa [bs_length] at this
  have hz1 : w.heap.size < w1.heap.size := hw1.lt
  have H1 := Lib.hid (And.intro hn1 (And.intro hr1 (And.intro hw1 (And.intro hA1 hbn))))
  clear hw0 hn1 hr1 hw1 hch1 hA1 hbn
  have hnc1' : c1 ≤ 9223372036854775807 := hcm1
  go_wp2_with fail
  obtain ⟨hn1, hr1, hw1, hA1, hbn⟩ := H1.out
  -- in := &Reader{B: core}; in.Int()
  have hA1' : ∀ k, blk A1 = some k → k < w.heap.size := fun k hk => hA k (hA1 k hk)
  have hw2 : RRdr (w1.alloc (.cells #[.slice A1 n1 c1, .int .i64 0] 103)) w1.heap.size (blk A1) bytes 0 :=
    ⟨A1, n1, c1, Blk.new _ _ _, hr1.new ((Chg.refl _ w1).alloc _), hnc1, hcm1, rfl, fun h => by have := hA1' _ h; omega, fun k hk => by have := hA1' k hk; simp; omega⟩
  refine (rrInt_any w1.heap.size (blk A1) bytes 0 _ hw2).mono ?_
  rintro e w2 ⟨rfl, hw3, hch2⟩
  have hch2' : New w1 w2 := ((Chg.refl _ w1).alloc _).trans hch2 (fun k hk h => by omega)
  have hn2 := hn1.new hch2'
  have hwr2 := hw1.chg hch2' (fun h => h) (fun _ _ h => h)
  generalize hq2 : intR bytes 0 = q2 at *
  obtain ⟨at_, c2, x1⟩ := q2
  have HQ2 := Lib.hid hq2
  clear hq2
  simp only at hw3 ⊢
  have H2 := Lib.hid (And.intro hn2 (And.intro hwr2 (And.intro hw3 (And.intro hA1 hch2'.size))))
  clear hn1 hr1 hw1 hA1 hbn hw2 hch2 hch2' hn2 hwr2 hw3 H1 hA1'
  go_wp2_with fail
  obtain ⟨hn2, hwr2, hw3, hA1, hsz2⟩ := H2.out
  -- x := in.Raw()
  refine (rrRaw_any w1.heap.size (blk A1) c2 x1 w2 hw3).mono ?_
  rintro e w3 ⟨A3, n3, c3, rfl, hnc3, hcm3, hA3, hr3, hw4, hch3⟩
  have hn3 : New w w3 := hn2.trans hch3 (fun k hk h => by omega)
  have hwr3 := hwr2.chg hch3 (by omega) (fun k hk h => by have := hA k hk; omega)
  have hrl3 := rawR_rest c2 x1
  have hrl2 : c2.length ≤ bytes.length := by have := uintR_rest bytes 0; have h2 := HQ2.out; unfold intR at h2; injection h2 with _ h2; injection h2 with h2; rw [← h2]; exact this
  generalize hq3 : rawR c2 x1 = q3 at *
  obtain ⟨rcd, r3, x2⟩ := q3
  have HQ3 := Lib.hid hq3
  clear hq3
  simp only at hr3 hw4 hrl3
  have hbn3 : rcd.length = n3 := by have := hr3.len; rwa [bs_length] at this
  have hn3l : n3 ≤ 100000000 := by omega
  have hAA : ∀ k, blk A3 = some k → blk A = some k := fun k hk => hA1 k (hA3 k hk)
  have H3 := Lib.hid (And.intro hn3 (And.intro hr3 (And.intro hAA hbn3)))
  have HV := Lib.hid (firstRf_val (num := num) HQ1.out HQ2.out HQ3.out)
  obtain ⟨_, _, _, hbq, _⟩ := hwr3
  obtain ⟨_, _, _, hbr, _⟩ := hw4
  have hcq := hbq.cell 1 rfl
  have hcr := hbr.cell 1 rfl
  clear hn2 hwr2 hw3 hA1 hbq hbr hn3 hr3 hAA hbn3 hch3 hA3 H2
  by_cases he1 : e1 = 0
  · subst he1
    by_cases hx2 : x2 = 0
    · subst hx2
      go_wp2_with fail
      obtain ⟨hn3, hr3, hAA, hbn3⟩ := H3.out
      -- f := Frame(number, x)
      refine (refFrame_any num A3 n3 c3 rcd w3 hlo hhi hr3 hn3l).mono ?_
      rintro e w4 ⟨A4, n4, c4, rfl, ho4, hn4⟩
      have hr4 := (hr.new hn3).new hn4
      have hr3' := hr3.new hn4
      have hfl : (frameP num rcd).length = n4 := by have := ho4.1; simpa using this
      have hfl2 := frameP_len num rcd hlo hhi (by omega)
      have hn4l : n4 ≤ 100000040 := by omega
      have H4 := Lib.hid (And.intro (hn3.new hn4) (And.intro hr3' (And.intro hAA (And.intro hr4 (Rd.of_own ho4)))))
      have HFL := Lib.hid hfl
      clear hn3 hr3 hAA hbn3 ho4 hn4 hr4 hr3' hfl H3
      have HV2 := Lib.hid (HV.out.trans (if_neg (by simp)))
      by_cases hgt : b.length < n4
      · have hgt' : decide ((b.length : Int) < (n4 : Int)) = true := by simp; omega
        have HNN : Hid (firstRf b num = none) := by
          show _ = _
          rw [HV2.out, HFL.out, if_neg]
          intro h
          have := congrArg List.length h
          rw [HFL.out] at this
          simp at this
          omega
        go_wp2_with fail
        go_ret2
        exact ⟨H4.out.1, .inl ⟨HNN.out, rfl⟩⟩
      · have hgt' : decide ((b.length : Int) < (n4 : Int)) = false := by simp; omega
        have hupto := fun W => run_upto elemBytes .i64 A b.length c n4 (n4 : Int) rfl (by omega) W
        go_wp2_with fail
        refine (sameBytes_any A4 A n4 n4 c4 c (frameP num rcd) (b.take n4) w4 H4.out.2.2.2.2 (by have := H4.out.2.2.2.1.take (k := n4) (by omega); rwa [bs_take] at this) (by omega) (by omega)).mono ?_
        rintro e w5 ⟨rfl, hn5⟩
        have H5 := Lib.hid (And.intro (H4.out.1.new hn5) (And.intro (H4.out.2.1.new hn5) H4.out.2.2.1))
        clear hn5 H4
        by_cases heq : frameP num rcd = b.take n4
        · have hd : decide (frameP num rcd = b.take n4) = true := by simpa using heq
          rw [hd]
          have HE := Lib.hid heq
          clear hd heq
          go_wp2
          go_ret2
          refine ⟨H5.out.1, .inr ⟨rcd, A3, n3, c3, ?_, rfl, hnc3, hcm3, H5.out.2.1, H5.out.2.2⟩⟩
          rw [HV2.out, HFL.out, if_pos HE.out.symm]
        · have hd : decide (frameP num rcd = b.take n4) = false := by simpa using heq
          rw [hd]
          have HE := Lib.hid heq
          clear hd heq
          go_wp2
          go_ret2
          refine ⟨H5.out.1, .inl ⟨?_, rfl⟩⟩
          rw [HV2.out, HFL.out, if_neg (fun h => HE.out h.symm)]
    · have hx2' : (x2 != 0) = true := by simpa using hx2
      have HX := Lib.hid hx2
      clear hx2
      go_wp2_with fail
      go_ret2
      refine ⟨H3.out.1, .inl ⟨?_, rfl⟩⟩
      rw [HV.out, if_pos (.inr HX.out)]
  · have he1' : (e1 != 0) = true := by simpa using he1
    have HX := Lib.hid he1
    clear he1
    go_wp2_with fail
    go_ret2
    refine ⟨H3.out.1, .inl ⟨?_, rfl⟩⟩
    rw [HV.out, if_pos (.inl HX.out)]

end Go.Proofs.Ytffehmfjcglalaa
