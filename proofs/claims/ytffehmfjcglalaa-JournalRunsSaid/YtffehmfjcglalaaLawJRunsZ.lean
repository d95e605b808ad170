/- The law JournalRuns. -/
import Derived.Test.YtffehmfjcglalaaJrCZ
import Derived.Test.YtffehmfjcglalaaLives7Z
import Derived.Test.YtffehmfjcglalaaArgs
import Derived.Test.YtffehmfjcglalaaG4
import Derived.Deep.CutRange
import Derived.Test.YtffehmfjcglalaaHeld
import Derived.Deep.RegionHeld3
set_option linter.unusedSimpArgs false
set_option linter.unusedVariables false
namespace Go.Proofs.Ytffehmfjcglalaa
set_option linter.unusedVariables false
open Go.RowKit Go.Mem Go.Dk Go.Pure Go.Jn

theorem open_rows {s : S} (hw : WF s) (file : Int) : (openJ s file).2.2.length ≤ 16777216 := by
  have h0 : (read s file).1.length ≤ 16777216 := by
    unfold Dk.read
    split
    · simp
    · split
      · simp
      · exact hw.len _
  unfold openJ
  split
  · split
    · split
      · dsimp only
        have q1 := framesP_len (scanC (read s file).1 0) 0
        have q2 := (frames_scan _ (read s file).1 0 (Nat.le_refl _)).2
        omega
      · simp
    · simp
  · simp
theorem lgOf_size {s : S} (hw : WF s) (file : Int) {l : Lg} (h : lgOf file (openJ s file) = some l) : l.size ≤ 16777216 := by
  unfold lgOf at h
  split at h
  · injection h with h
    rw [← h]
    exact open_rows hw file
  · cases h
theorem appJ_size (s : S) (l : Lg) (x : List UInt8) : (appJ s l x).2.1.size ≤ l.size + 1 := by
  unfold appJ
  repeat' split
  all_goals simp
/-- What a round is handed. -/
def JRun (w : World) (g g2 : Nat) (v1 v2 : Value) (k : Nat) (wl : World) : Prop := ∃ U s o, JS U w g g2 s s v1 o v2 o wl ∧ ∀ l, o = some l → l.size ≤ 16777216 + k
theorem JS.lg2 {U : Nat → Prop} {w w1 : World} {g g2 gl : Nat} {sp sr : S} {v1 : Value} {o1 : Option Lg} {l : Lg} (h : JS U w g g2 sp sr v1 o1 (.pointer (some ⟨gl, 0, none⟩)) (some l) w1) : w1.cell? ⟨gl, 2, none⟩ = some (.int .i64 (l.size : Int)) ∧ w1.cell? ⟨gl, 3, none⟩ = some (.bool l.down) ∧ gl < w1.heap.size := by
  obtain ⟨m, V, b, f, V2, hz, rfl⟩ := h
  obtain ⟨gl', e, q1, _⟩ := hz.l2
  injection e with e
  injection e with e
  injection e with e
  subst e
  exact ⟨q1.cell 2 rfl, q1.cell 3 rfl, q1.lt⟩
theorem rec_one {w : World} {B m c : Nat} {A : Option Addr} {vs : List Value} {X : Int} (h : w.ownsRow B 33 1 (.slice A m c) m vs) (h2 : OLists w B 5 vs (recsOf [X])) : ∃ gr A0 n0 c0, A = some ⟨gr, 0, none⟩ ∧ m = 1 ∧ w.cell? ⟨gr, 0, none⟩ = some (.slice A0 n0 c0) ∧ Rd w A0 n0 (bs (recOf X)) ∧ (recOf X).length ≤ 10 ∧ ∀ k, blk A0 = some k → B ≤ k ∧ k < w.heap.size := by
  have hr := Rd.of_own h
  have hl := hr.len
  rw [h2.1] at hl
  obtain rfl : m = 1 := hl.symm
  have hv : vs.length = 1 := h2.1
  obtain ⟨ad, u, rfl, hu, hc⟩ := hr.at_ (k := 0) (by omega)
  obtain ⟨A0, n0, c0, rfl, ho⟩ := h2.2 0 u (recOf X) hu rfl
  obtain ⟨gr, q1, _⟩ := own_form h (by omega)
  injection q1 with q1
  subst q1
  exact ⟨gr, A0, n0, c0, rfl, rfl, own_cell h hu, Rd.of_own ho, recOf_len X, fun k hk => own_blk_le ho hk⟩
theorem tdiv8 {y : Int} (h : -9223372036854775808 ≤ y ∧ y ≤ 9223372036854775807) : -9223372036854775808 ≤ y.tdiv 8 ∧ y.tdiv 8 ≤ 9223372036854775807 := by
  by_cases h0 : 0 ≤ y
  · rw [Int.tdiv_eq_ediv_of_nonneg h0]; omega
  · obtain ⟨z, rfl⟩ : ∃ z, y = -z := ⟨-y, by omega⟩
    rw [Int.neg_tdiv, Int.tdiv_eq_ediv_of_nonneg (by omega)]; omega

set_option maxHeartbeats 8000000 in
set_option maxRecDepth 100000 in
theorem journalRuns_walk (rm : Int) (hrm : -9223372036854775808 ≤ rm ∧ rm ≤ 9223372036854775807) (A1 : Option Addr) (n c1 : Nat) (L : List Int) (w : World) (hr1 : Rd w A1 n (is L)) (hL : ∀ z ∈ L, -9223372036854775808 ≤ z ∧ z ≤ 9223372036854775807) (hn1 : n ≤ 9223372036854775807) :
    Calls Try.prog 5 #[.int .i64 rm, .slice A1 n c1] w fun e w' => e = .returned (.bool true) ∧ New w w' := by
  obtain ⟨q1, q2⟩ := aroundI_range rm 200 (by omega)
  obtain ⟨K, hK⟩ : ∃ K : Nat, aroundI rm 200 = (K : Int) := ⟨(aroundI rm 200).toNat, by omega⟩
  obtain ⟨M, hM⟩ : ∃ M : Nat, M = 40 + K := ⟨_, rfl⟩
  have hMI : 40 + (K : Int) = (M : Int) := by omega
  have hM240 : M ≤ 240 := by omega
  have HK := Lib.hid hK
  have HR1 := Lib.hid hr1
  have HL := Lib.hid hL
  obtain ⟨hrm1, hrm2⟩ := hrm
  clear hK hM q1 q2 hr1 hL
  go_enter Try.func5, Try.ntmps5
  go_wp2_with fail
  refine (around_any rm 200 _ hrm1 hrm2 (by omega) (by omega)).mono ?_
  rintro e w1 ⟨rfl, hw⟩
  subst hw
  rw [HK.out]
  go_wp2_with fail
  refine (fresh_any (M : Int) (by omega) w).mono ?_
  rintro e w1 ⟨g, m, rfl, p1, p2, p3, p4⟩
  have HP := Lib.hid (And.intro p1 (And.intro p2 (And.intro p3 p4)))
  clear p1 p2 p3 p4
  go_wp2_with fail
  refine (rNew_any (M : Int) (by omega) w1).mono ?_
  rintro e w2 ⟨g2, b, f, rfl, p1, p2, p3, p4, p5⟩
  obtain ⟨U0, hjs⟩ := JS.start HP.out.1 HP.out.2.1 (fun k hk => by
    rcases hk with rfl | rfl | ⟨i, hi⟩
    · exact HP.out.2.2.1
    · exact HP.out.2.2.2
    · cases hi) p1 p2 (fun k hk => by
    rcases hk with rfl | rfl | rfl | ⟨i, hi⟩
    · exact p3
    · exact p4
    · exact p5
    · cases hi)
  obtain ⟨s0, hs0⟩ : ∃ s0, Dk.new (M : Int).toNat = s0 := ⟨_, rfl⟩
  rw [hs0] at hjs
  have HJ := Lib.hid hjs
  clear p1 p2 p3 p4 p5 hjs HP hs0
  go_wp2_with fail
  refine (HJ.out.open_ 2).mono ?_
  rintro e w3 ⟨p, Ar, nl, cl, rfl, U1, hj1, hst1, _⟩
  have HJ1 := Lib.hid hj1
  clear hj1 hst1 HJ
  obtain ⟨s1, hs1⟩ : ∃ s1, (openJ s0 2).1 = s1 := ⟨_, rfl⟩
  obtain ⟨z, hz⟩ : ∃ z, (openJ s0 2).2.1 = z := ⟨_, rfl⟩
  rw [hz]
  go_wp2_with fail
  refine (HJ1.out.ropen 2 (by omega)).mono ?_
  rintro e w4 ⟨p2, Ar2, nl2, cl2, rfl, U2, hj2, hst2, _⟩
  have hz' : (openJ s0 ((2 : Nat) : Int)).2.1 = z := hz
  rw [hz']
  have HRUN := Lib.hid (show JRun w g g2 p p2 0 w4 from ⟨U2, _, _, hj2, fun l hl => by have := lgOf_size HJ1.out.wf.2 2 hl; omega⟩)
  clear hj2 hst2 HJ1 hs1 hz hz'
  go_wp2_with fail
  go_loopw [8, 10, 11, 13, 14] (fun v1 ve v2 vf vi wl => ∃ (i : Nat) (z : Int), vi = .int .i64 (i : Int) ∧ ve = .int .i64 z ∧ vf = .int .i64 z ∧ i ≤ 14 ∧ i ≤ n ∧ Hid (JRun w g g2 v1 v2 i wl)) (fun _ _ _ _ vi _ => n - (intOf vi).toNat)
  case atStart => exact ⟨0, z, rfl, rfl, rfl, by omega, by omega, HRUN⟩
  case round =>
    obtain ⟨i, z, rfl, rfl, rfl, hi14, hin, hh⟩ := hrel
    by_cases hn2 : i < n
    case neg =>
      obtain rfl : i = n := by omega
      obtain ⟨U, s, o, hj, _⟩ := hh.out
      have HW := Lib.hid hj.was
      clear hj hh
      go_wp2_with fail
      refine (lives_any _).mono ?_
      rintro e w9 ⟨rfl, hn9⟩
      have HN9 := Lib.hid (HW.out.trans hn9 (fun _ _ h => h) : New w w9)
      clear hn9
      go_wp2_with fail
      go_ret
      exact ⟨rfl, HN9.out⟩
    have hn3 : (i : Int) < (n : Int) := by omega
    by_cases h14 : i < 14
    case neg =>
      obtain rfl : i = 14 := by omega
      rw [show ((14 : Nat) : Int) = 14 from rfl] at *
      obtain ⟨U, s, o, hj, _⟩ := hh.out
      have HW := Lib.hid hj.was
      clear hj hh
      go_wp2_with fail
      refine (lives_any _).mono ?_
      rintro e w9 ⟨rfl, hn9⟩
      have HN9 := Lib.hid (HW.out.trans hn9 (fun _ _ h => h) : New w w9)
      clear hn9
      go_wp2_with fail
      go_ret
      exact ⟨rfl, HN9.out⟩
    have h143 : (i : Int) < 14 := by omega
    obtain ⟨U, s, o, hj, hsz⟩ := hh.out
    obtain ⟨ad, u, rfl, hu, hcu⟩ := (HR1.out.new hj.was).at_ (k := i) hn2
    obtain ⟨y, hy, rfl⟩ := is_at hu
    have hyr := HL.out y (List.mem_of_getElem? hy)
    have hy8 := tdiv8 hyr
    have HJ := Lib.hid hj
    have HSZ := Lib.hid hsz
    have HZ9 := Lib.hid (show ∀ l, o = some l → l.size ≤ 16777216 + (i + 1) from fun l hl => by have := hsz l hl; omega)
    clear hj hsz hu hy hh
    go_wp2_with fail
    refine (around_any (y.tdiv 8) 1048576 _ hy8.1 hy8.2 (by omega) (by omega)).mono ?_
    rintro e w5 ⟨rfl, hw⟩
    subst hw
    obtain ⟨X, hX⟩ : ∃ X : Nat, aroundI (y.tdiv 8) 1048576 = (X : Int) := ⟨(aroundI (y.tdiv 8) 1048576).toNat, by have := aroundI_range (y.tdiv 8) 1048576 (by omega); omega⟩
    have hXr := (aroundI_range (y.tdiv 8) 1048576 (by omega)).2
    rw [hX] at hXr ⊢
    clear hX hy8
    rcases HJ.out.val1 with ⟨ho, hv1⟩ | ⟨l, gl1, ho, hv1⟩
    case inl =>
      rcases HJ.out.val2 with ⟨_, hv2⟩ | ⟨l2, gl2, ho2, _⟩
      case inr => rw [ho] at ho2; cases ho2
      subst ho hv1 hv2
      go_wp2_with fail
      refine (around_any y 8 _ hyr.1 hyr.2 (by omega) (by omega)).mono ?_
      rintro e w5 ⟨rfl, hw⟩
      subst hw
      obtain ⟨kd, hkd⟩ : ∃ kd, aroundI y 8 = kd := ⟨_, rfl⟩
      have hkr := aroundI_range y 8 (by omega)
      rw [hkd] at hkr ⊢
      clear hkd
      rcases (show kd = 0 ∨ kd = 1 ∨ kd = 2 ∨ kd = 3 ∨ 4 ≤ kd by omega) with rfl | rfl | rfl | rfl | hk4
      · as_aux_lemma =>
          have hx5 : -9223372036854775808 ≤ (X : Int) % 5 ∧ (X : Int) % 5 ≤ 9223372036854775807 := by omega
          obtain ⟨a5, ha5⟩ : ∃ a5, (X : Int) % 5 = a5 := ⟨_, rfl⟩
          rw [ha5] at hx5
          go_wp2_with fail
          refine (HJ.out.arm a5 hx5).mono ?_
          rintro e w5 ⟨rfl, U5, hj5, hst5⟩
          have HJ5 := Lib.hid hj5
          clear hj5 hst5 HJ
          go_wp2_with fail
          refine (HJ5.out.rarm a5 hx5).mono ?_
          rintro e w6 ⟨rfl, U6, hj6, hst6⟩
          obtain ⟨s9, hs9⟩ : ∃ s9, Dk.arm s a5 = s9 := ⟨_, rfl⟩
          rw [hs9] at hj6
          have HT := Lib.hid hj6
          clear hj6 hst6 HJ5 hs9

          go_wp2_with fail
          refine (HT.out.read 2).mono ?_
          rintro e wa ⟨Aa, ca, rfl, hra, hna⟩
          have HTN := Lib.hid (HT.out.new hna)
          obtain ⟨k3, k31, bb, Ab, cb, k1, k2, k4, hrb⟩ := HTN.out.cells 2 (by omega)
          have hlf := HTN.out.wf.1.len 2
          have HRUN9 := Lib.hid (fun wx (hx : New wa wx) => (show JRun w g g2 _ _ (i + 1) wx from ⟨_, _, _, HTN.out.new hx, HZ9.out⟩))
          have HRB := Lib.hid hrb
          clear hrb hna HTN HT
          cases hoff : s9.off with
          | true =>
            rw [show Dk.read s9 2 = ([], 24) from by unfold Dk.read; rw [if_neg (by omega), if_pos hoff]] at hra ⊢
            rw [hoff] at k3
            clear hra
            go_wp2_with fail
            exact ⟨⟨i + 1, _, rfl, rfl, rfl, by omega, by omega, Lib.hid (HRUN9.out _ (Chg.refl _ _))⟩, by simp [intOf]; omega⟩
          | false =>
            rw [show Dk.read s9 2 = (s9.f 2, 0) from read_at (i := 2) (by omega) hoff] at hra ⊢
            rw [hoff] at k3
            dsimp only at hra ⊢
            obtain ⟨nf, hnf⟩ : ∃ nf, (s9.f 2).length = nf := ⟨_, rfl⟩
            have HRA := Lib.hid (show Rd wa Aa nf (bs (s9.f 2)) ∧ Rd wa Ab nf (bs (s9.f 2)) from ⟨hnf ▸ hra, hnf ▸ HRB.out⟩)
            rw [hnf] at k2 hlf ⊢
            clear hra hnf hoff
            go_wp2_with fail
            refine (sameBytes_any Aa Ab nf nf ca cb _ _ _ HRA.out.1 HRA.out.2 (by omega) (by omega)).mono ?_
            rintro e wb ⟨rfl, hnb⟩
            have HNB := Lib.hid hnb
            rw [decide_eq_true rfl]
            have k3b := hnb.cell k3 (fun h => h)
            have k31b := Nat.lt_of_lt_of_le k31 hnb.size
            clear hnb k1 k2 k3 k4 k31
            go_wp2_with fail
            exact ⟨⟨i + 1, _, rfl, rfl, rfl, by omega, by omega, Lib.hid (HRUN9.out _ HNB.out)⟩, by simp [intOf]; omega⟩
      · as_aux_lemma =>
          have hx30 : -9223372036854775808 ≤ (X : Int) % 30 ∧ (X : Int) % 30 ≤ 9223372036854775807 := by omega
          have hfl : -9223372036854775808 ≤ (X : Int) / 30 % 300 - 100 ∧ (X : Int) / 30 % 300 - 100 ≤ 9223372036854775807 := by omega
          obtain ⟨w5, hw5⟩ : ∃ w5, wr.alloc (.cells #[.int .i64 ((X : Int) % 30)] 3) = w5 := ⟨_, rfl⟩
          obtain ⟨BK, hBK⟩ : ∃ BK, wr.heap.size = BK := ⟨_, rfl⟩
          have hn5 : New wr w5 := by rw [← hw5]; exact (Chg.refl _ wr).alloc _
          have hrk : Rd w5 (some ⟨BK, 0, none⟩) 1 (is [(X : Int) % 30]) := by rw [← hw5, ← hBK]; exact Rd.one
          have hbk : ∀ k, blk (some (⟨BK, 0, none⟩ : Addr)) = some k → ¬ U k ∧ k < w5.heap.size := fun k hk => by
            have hk : BK = k := by simpa [blk] using hk
            refine ⟨fun hu => by have := (HJ.out.lt hu).1; omega, ?_⟩
            rw [← hw5, World.size_alloc]; omega
          have HJ5 := Lib.hid (HJ.out.new hn5)
          have HBK := Lib.hid (And.intro hrk hbk)
          clear hn5 hrk hbk HJ
          go_wp2_with fail
          refine (HJ5.out.crash _ 1 1 [(X : Int) % 30] HBK.out.1 HBK.out.2 (by omega) (fun z hz => by rcases List.mem_singleton.1 hz with rfl; exact hx30) _ hfl).mono ?_
          rintro e w6 ⟨rfl, U6, hj6, hst6⟩
          have HBK6 := Lib.hid (show Rd w6 (some ⟨BK, 0, none⟩) 1 (is [(X : Int) % 30]) ∧ ∀ k, blk (some (⟨BK, 0, none⟩ : Addr)) = some k → ¬ U6 k ∧ k < w6.heap.size from ⟨HBK.out.1.chg hst6.chg (fun k hk _ => (HBK.out.2 k hk).1), fun k hk => ⟨fun hu => by
            rcases hst6.own k hu with h | h
            · exact (HBK.out.2 k hk).1 h
            · have := (HBK.out.2 k hk).2; omega, Nat.lt_of_lt_of_le (HBK.out.2 k hk).2 hst6.chg.size⟩⟩)
          have HJ6 := Lib.hid hj6
          clear hj6 hst6 HJ5 HBK
          go_wp2_with fail
          refine (HJ6.out.rcrash _ 1 1 [(X : Int) % 30] HBK6.out.1 HBK6.out.2 (by omega) (fun z hz => by rcases List.mem_singleton.1 hz with rfl; exact hx30) _ hfl).mono ?_
          rintro e w6b ⟨rfl, U6b, hj6, hst6⟩
          obtain ⟨s6, hs6⟩ : ∃ s6, Dk.crash s [(X : Int) % 30] ((X : Int) / 30 % 300 - 100) = s6 := ⟨_, rfl⟩
          rw [hs6] at hj6
          have HJ6b := Lib.hid hj6
          clear hj6 hst6 HJ6 HBK6 hs6
          go_wp2_with fail

          refine (HJ6b.out.open_ 2).mono ?_
          rintro e w7 ⟨p7, Ar7, nl7, cl7, rfl, U7, hj7, hst7, hr7⟩
          have HJ7 := Lib.hid hj7
          obtain ⟨s7, hs7⟩ : ∃ s7, (openJ s6 2).1 = s7 := ⟨_, rfl⟩
          obtain ⟨z7, hz7⟩ : ∃ z7, (openJ s6 2).2.1 = z7 := ⟨_, rfl⟩
          have HLS := Lib.hid (fun l hl => lgOf_size HJ6b.out.wf.1 2 (l := l) hl)
          have HRW := Lib.hid hr7
          rw [hz7]
          clear hj7 hst7 hr7
          go_wp2_with fail
          refine (HJ7.out.ropen 2 (by omega)).mono ?_
          rintro e w8 ⟨p8, Ar8, nl8, cl8, rfl, U8, hj8, hst8, hr8⟩
          have hz8 : (openJ s6 ((2 : Nat) : Int)).2.1 = z7 := hz7
          have hs8 : (openJ s6 ((2 : Nat) : Int)).1 = s7 := hs7
          obtain ⟨o7, ho7⟩ : ∃ o7, lgOf 2 (openJ s6 2) = o7 := ⟨_, rfl⟩
          have ho8 : lgOf ((2 : Nat) : Int) (openJ s6 ((2 : Nat) : Int)) = o7 := ho7
          rw [hz8]
          rw [hs7, hs8, ho7, ho8] at hj8
          rw [ho7] at HLS
          have HT := Lib.hid hj8
          have HZ9 := Lib.hid (show ∀ l, o7 = some l → l.size ≤ 16777216 + (i + 1) from fun l hl => by have := HLS.out l hl; omega)
          have HRW2 := Lib.hid (show RrJ w8 (fun _ => False) Ar7 nl7 (openJ s6 2).2.2 ∧ RrJ w8 (fun _ => False) Ar8 nl8 (openJ s6 2).2.2 from ⟨HRW.out.chg hst8.chg, hr8⟩)
          clear hj8 hst8 hr8 hz8 hs8 ho8 ho7 hs7 hz7 HJ7 HRW HLS

          go_wp2_with fail
          refine (HT.out.read 2).mono ?_
          rintro e wa ⟨Aa, ca, rfl, hra, hna⟩
          have HTN := Lib.hid (HT.out.new hna)
          obtain ⟨k3, k31, bb, Ab, cb, k1, k2, k4, hrb⟩ := HTN.out.cells 2 (by omega)
          have hlf := HTN.out.wf.1.len 2
          have HRUN9 := Lib.hid (fun wx (hx : New wa wx) => (show JRun w g g2 _ _ (i + 1) wx from ⟨_, _, _, HTN.out.new hx, HZ9.out⟩))
          have HRB := Lib.hid hrb
          clear hrb hna HTN HT
          cases hoff : s7.off with
          | true =>
            rw [show Dk.read s7 2 = ([], 24) from by unfold Dk.read; rw [if_neg (by omega), if_pos hoff]] at hra ⊢
            rw [hoff] at k3
            clear hra
            go_wp2_with fail
            exact ⟨⟨i + 1, _, rfl, rfl, rfl, by omega, by omega, Lib.hid (HRUN9.out _ (Chg.refl _ _))⟩, by simp [intOf]; omega⟩
          | false =>
            rw [show Dk.read s7 2 = (s7.f 2, 0) from read_at (i := 2) (by omega) hoff] at hra ⊢
            rw [hoff] at k3
            dsimp only at hra ⊢
            obtain ⟨nf, hnf⟩ : ∃ nf, (s7.f 2).length = nf := ⟨_, rfl⟩
            have HRA := Lib.hid (show Rd wa Aa nf (bs (s7.f 2)) ∧ Rd wa Ab nf (bs (s7.f 2)) from ⟨hnf ▸ hra, hnf ▸ HRB.out⟩)
            rw [hnf] at k2 hlf ⊢
            clear hra hnf hoff
            go_wp2_with fail
            refine (sameBytes_any Aa Ab nf nf ca cb _ _ _ HRA.out.1 HRA.out.2 (by omega) (by omega)).mono ?_
            rintro e wb ⟨rfl, hnb⟩
            have HNB := Lib.hid hnb
            rw [decide_eq_true rfl]
            have k3b := hnb.cell k3 (fun h => h)
            have k31b := Nat.lt_of_lt_of_le k31 hnb.size
            clear hnb k1 k2 k3 k4 k31
            go_wp2_with fail
            exact ⟨⟨i + 1, _, rfl, rfl, rfl, by omega, by omega, Lib.hid (HRUN9.out _ HNB.out)⟩, by simp [intOf]; omega⟩
      · as_aux_lemma =>
          have hx30 : -9223372036854775808 ≤ (X : Int) % 30 ∧ (X : Int) % 30 ≤ 9223372036854775807 := by omega
          have hfl : -9223372036854775808 ≤ (X : Int) / 30 % 300 - 100 ∧ (X : Int) / 30 % 300 - 100 ≤ 9223372036854775807 := by omega
          obtain ⟨w5, hw5⟩ : ∃ w5, wr.alloc (.cells #[.int .i64 ((X : Int) % 30)] 3) = w5 := ⟨_, rfl⟩
          obtain ⟨BK, hBK⟩ : ∃ BK, wr.heap.size = BK := ⟨_, rfl⟩
          have hn5 : New wr w5 := by rw [← hw5]; exact (Chg.refl _ wr).alloc _
          have hrk : Rd w5 (some ⟨BK, 0, none⟩) 1 (is [(X : Int) % 30]) := by rw [← hw5, ← hBK]; exact Rd.one
          have hbk : ∀ k, blk (some (⟨BK, 0, none⟩ : Addr)) = some k → ¬ U k ∧ k < w5.heap.size := fun k hk => by
            have hk : BK = k := by simpa [blk] using hk
            refine ⟨fun hu => by have := (HJ.out.lt hu).1; omega, ?_⟩
            rw [← hw5, World.size_alloc]; omega
          have HJ5 := Lib.hid (HJ.out.new hn5)
          have HBK := Lib.hid (And.intro hrk hbk)
          clear hn5 hrk hbk HJ
          go_wp2_with fail
          refine (HJ5.out.crash _ 1 1 [(X : Int) % 30] HBK.out.1 HBK.out.2 (by omega) (fun z hz => by rcases List.mem_singleton.1 hz with rfl; exact hx30) _ hfl).mono ?_
          rintro e w6 ⟨rfl, U6, hj6, hst6⟩
          have HBK6 := Lib.hid (show Rd w6 (some ⟨BK, 0, none⟩) 1 (is [(X : Int) % 30]) ∧ ∀ k, blk (some (⟨BK, 0, none⟩ : Addr)) = some k → ¬ U6 k ∧ k < w6.heap.size from ⟨HBK.out.1.chg hst6.chg (fun k hk _ => (HBK.out.2 k hk).1), fun k hk => ⟨fun hu => by
            rcases hst6.own k hu with h | h
            · exact (HBK.out.2 k hk).1 h
            · have := (HBK.out.2 k hk).2; omega, Nat.lt_of_lt_of_le (HBK.out.2 k hk).2 hst6.chg.size⟩⟩)
          have HJ6 := Lib.hid hj6
          clear hj6 hst6 HJ5 HBK
          go_wp2_with fail
          refine (HJ6.out.rcrash _ 1 1 [(X : Int) % 30] HBK6.out.1 HBK6.out.2 (by omega) (fun z hz => by rcases List.mem_singleton.1 hz with rfl; exact hx30) _ hfl).mono ?_
          rintro e w6b ⟨rfl, U6b, hj6, hst6⟩
          obtain ⟨s6, hs6⟩ : ∃ s6, Dk.crash s [(X : Int) % 30] ((X : Int) / 30 % 300 - 100) = s6 := ⟨_, rfl⟩
          rw [hs6] at hj6
          have HJ6b := Lib.hid hj6
          clear hj6 hst6 HJ6 HBK6 hs6
          go_wp2_with fail

          refine (HJ6b.out.open_ 2).mono ?_
          rintro e w7 ⟨p7, Ar7, nl7, cl7, rfl, U7, hj7, hst7, hr7⟩
          have HJ7 := Lib.hid hj7
          obtain ⟨s7, hs7⟩ : ∃ s7, (openJ s6 2).1 = s7 := ⟨_, rfl⟩
          obtain ⟨z7, hz7⟩ : ∃ z7, (openJ s6 2).2.1 = z7 := ⟨_, rfl⟩
          have HLS := Lib.hid (fun l hl => lgOf_size HJ6b.out.wf.1 2 (l := l) hl)
          have HRW := Lib.hid hr7
          rw [hz7]
          clear hj7 hst7 hr7
          go_wp2_with fail
          refine (HJ7.out.ropen 2 (by omega)).mono ?_
          rintro e w8 ⟨p8, Ar8, nl8, cl8, rfl, U8, hj8, hst8, hr8⟩
          have hz8 : (openJ s6 ((2 : Nat) : Int)).2.1 = z7 := hz7
          have hs8 : (openJ s6 ((2 : Nat) : Int)).1 = s7 := hs7
          obtain ⟨o7, ho7⟩ : ∃ o7, lgOf 2 (openJ s6 2) = o7 := ⟨_, rfl⟩
          have ho8 : lgOf ((2 : Nat) : Int) (openJ s6 ((2 : Nat) : Int)) = o7 := ho7
          rw [hz8]
          rw [hs7, hs8, ho7, ho8] at hj8
          rw [ho7] at HLS
          have HT := Lib.hid hj8
          have HZ9 := Lib.hid (show ∀ l, o7 = some l → l.size ≤ 16777216 + (i + 1) from fun l hl => by have := HLS.out l hl; omega)
          have HRW2 := Lib.hid (show RrJ w8 (fun _ => False) Ar7 nl7 (openJ s6 2).2.2 ∧ RrJ w8 (fun _ => False) Ar8 nl8 (openJ s6 2).2.2 from ⟨HRW.out.chg hst8.chg, hr8⟩)
          clear hj8 hst8 hr8 hz8 hs8 ho8 ho7 hs7 hz7 HJ7 HRW HLS

          go_wp2_with fail
          refine (HT.out.read 2).mono ?_
          rintro e wa ⟨Aa, ca, rfl, hra, hna⟩
          have HTN := Lib.hid (HT.out.new hna)
          obtain ⟨k3, k31, bb, Ab, cb, k1, k2, k4, hrb⟩ := HTN.out.cells 2 (by omega)
          have hlf := HTN.out.wf.1.len 2
          have HRUN9 := Lib.hid (fun wx (hx : New wa wx) => (show JRun w g g2 _ _ (i + 1) wx from ⟨_, _, _, HTN.out.new hx, HZ9.out⟩))
          have HRB := Lib.hid hrb
          clear hrb hna HTN HT
          cases hoff : s7.off with
          | true =>
            rw [show Dk.read s7 2 = ([], 24) from by unfold Dk.read; rw [if_neg (by omega), if_pos hoff]] at hra ⊢
            rw [hoff] at k3
            clear hra
            go_wp2_with fail
            exact ⟨⟨i + 1, _, rfl, rfl, rfl, by omega, by omega, Lib.hid (HRUN9.out _ (Chg.refl _ _))⟩, by simp [intOf]; omega⟩
          | false =>
            rw [show Dk.read s7 2 = (s7.f 2, 0) from read_at (i := 2) (by omega) hoff] at hra ⊢
            rw [hoff] at k3
            dsimp only at hra ⊢
            obtain ⟨nf, hnf⟩ : ∃ nf, (s7.f 2).length = nf := ⟨_, rfl⟩
            have HRA := Lib.hid (show Rd wa Aa nf (bs (s7.f 2)) ∧ Rd wa Ab nf (bs (s7.f 2)) from ⟨hnf ▸ hra, hnf ▸ HRB.out⟩)
            rw [hnf] at k2 hlf ⊢
            clear hra hnf hoff
            go_wp2_with fail
            refine (sameBytes_any Aa Ab nf nf ca cb _ _ _ HRA.out.1 HRA.out.2 (by omega) (by omega)).mono ?_
            rintro e wb ⟨rfl, hnb⟩
            have HNB := Lib.hid hnb
            rw [decide_eq_true rfl]
            have k3b := hnb.cell k3 (fun h => h)
            have k31b := Nat.lt_of_lt_of_le k31 hnb.size
            clear hnb k1 k2 k3 k4 k31
            go_wp2_with fail
            exact ⟨⟨i + 1, _, rfl, rfl, rfl, by omega, by omega, Lib.hid (HRUN9.out _ HNB.out)⟩, by simp [intOf]; omega⟩
      · as_aux_lemma =>
          go_wp2_with fail

          refine (HJ.out.open_ 2).mono ?_
          rintro e w7 ⟨p7, Ar7, nl7, cl7, rfl, U7, hj7, hst7, hr7⟩
          have HJ7 := Lib.hid hj7
          obtain ⟨s7, hs7⟩ : ∃ s7, (openJ s 2).1 = s7 := ⟨_, rfl⟩
          obtain ⟨z7, hz7⟩ : ∃ z7, (openJ s 2).2.1 = z7 := ⟨_, rfl⟩
          have HLS := Lib.hid (fun l hl => lgOf_size HJ.out.wf.1 2 (l := l) hl)
          have HRW := Lib.hid hr7
          rw [hz7]
          clear hj7 hst7 hr7
          go_wp2_with fail
          refine (HJ7.out.ropen 2 (by omega)).mono ?_
          rintro e w8 ⟨p8, Ar8, nl8, cl8, rfl, U8, hj8, hst8, hr8⟩
          have hz8 : (openJ s ((2 : Nat) : Int)).2.1 = z7 := hz7
          have hs8 : (openJ s ((2 : Nat) : Int)).1 = s7 := hs7
          obtain ⟨o7, ho7⟩ : ∃ o7, lgOf 2 (openJ s 2) = o7 := ⟨_, rfl⟩
          have ho8 : lgOf ((2 : Nat) : Int) (openJ s ((2 : Nat) : Int)) = o7 := ho7
          rw [hz8]
          rw [hs7, hs8, ho7, ho8] at hj8
          rw [ho7] at HLS
          have HT := Lib.hid hj8
          have HZ9 := Lib.hid (show ∀ l, o7 = some l → l.size ≤ 16777216 + (i + 1) from fun l hl => by have := HLS.out l hl; omega)
          have HRW2 := Lib.hid (show RrJ w8 (fun _ => False) Ar7 nl7 (openJ s 2).2.2 ∧ RrJ w8 (fun _ => False) Ar8 nl8 (openJ s 2).2.2 from ⟨HRW.out.chg hst8.chg, hr8⟩)
          clear hj8 hst8 hr8 hz8 hs8 ho8 ho7 hs7 hz7 HJ7 HRW HLS

          obtain ⟨va, ra1, ra2, ra3, _⟩ := HRW2.out.1
          obtain ⟨vb, rb1, rb2, rb3, _⟩ := HRW2.out.2
          have HSL := Lib.hid (sameLists_w Ar7 Ar8 nl7 nl8 cl7 cl8 va vb _ _ w8 ra1 ra3 rb1 rb3 (by have := open_rows HJ.out.wf.1 2; omega) (by have := open_rows HJ.out.wf.1 2; omega))
          clear ra1 ra2 ra3 rb1 rb2 rb3 HRW2
          go_wp2_with fail
          refine HSL.out.mono ?_
          rintro e w9 ⟨rfl, q9, rfl⟩
          simp only [decide_true]
          have HT := Lib.hid (HT.out.new ((Chg.refl _ w8).drewN q9))

          go_wp2_with fail
          refine (HT.out.read 2).mono ?_
          rintro e wa ⟨Aa, ca, rfl, hra, hna⟩
          have HTN := Lib.hid (HT.out.new hna)
          obtain ⟨k3, k31, bb, Ab, cb, k1, k2, k4, hrb⟩ := HTN.out.cells 2 (by omega)
          have hlf := HTN.out.wf.1.len 2
          have HRUN9 := Lib.hid (fun wx (hx : New wa wx) => (show JRun w g g2 _ _ (i + 1) wx from ⟨_, _, _, HTN.out.new hx, HZ9.out⟩))
          have HRB := Lib.hid hrb
          clear hrb hna HTN HT
          cases hoff : s7.off with
          | true =>
            rw [show Dk.read s7 2 = ([], 24) from by unfold Dk.read; rw [if_neg (by omega), if_pos hoff]] at hra ⊢
            rw [hoff] at k3
            clear hra
            go_wp2_with fail
            exact ⟨⟨i + 1, _, rfl, rfl, rfl, by omega, by omega, Lib.hid (HRUN9.out _ (Chg.refl _ _))⟩, by simp [intOf]; omega⟩
          | false =>
            rw [show Dk.read s7 2 = (s7.f 2, 0) from read_at (i := 2) (by omega) hoff] at hra ⊢
            rw [hoff] at k3
            dsimp only at hra ⊢
            obtain ⟨nf, hnf⟩ : ∃ nf, (s7.f 2).length = nf := ⟨_, rfl⟩
            have HRA := Lib.hid (show Rd wa Aa nf (bs (s7.f 2)) ∧ Rd wa Ab nf (bs (s7.f 2)) from ⟨hnf ▸ hra, hnf ▸ HRB.out⟩)
            rw [hnf] at k2 hlf ⊢
            clear hra hnf hoff
            go_wp2_with fail
            refine (sameBytes_any Aa Ab nf nf ca cb _ _ _ HRA.out.1 HRA.out.2 (by omega) (by omega)).mono ?_
            rintro e wb ⟨rfl, hnb⟩
            have HNB := Lib.hid hnb
            rw [decide_eq_true rfl]
            have k3b := hnb.cell k3 (fun h => h)
            have k31b := Nat.lt_of_lt_of_le k31 hnb.size
            clear hnb k1 k2 k3 k4 k31
            go_wp2_with fail
            exact ⟨⟨i + 1, _, rfl, rfl, rfl, by omega, by omega, Lib.hid (HRUN9.out _ HNB.out)⟩, by simp [intOf]; omega⟩
      · as_aux_lemma =>
          have e0 : (kd == 0) = false := by simp; omega
          have e1 : (kd == 1) = false := by simp; omega
          have e2 : (kd == 2) = false := by simp; omega
          have e3 : (kd == 3) = false := by simp; omega
          go_wp2_with fail
          exact ⟨⟨i + 1, _, rfl, rfl, rfl, by omega, by omega, Lib.hid ⟨U, s, none, HJ.out, HZ9.out⟩⟩, by simp [intOf]; omega⟩
    case inr =>
      rcases HJ.out.val2 with ⟨ho2, _⟩ | ⟨l2, gl2, ho2, hv2, _⟩
      case inl => rw [ho] at ho2; cases ho2
      rw [ho] at ho2
      injection ho2 with ho2
      subst ho ho2 hv1 hv2
      go_wp2_with fail
      refine (around_any y 8 _ hyr.1 hyr.2 (by omega) (by omega)).mono ?_
      rintro e w5 ⟨rfl, hw⟩
      subst hw
      obtain ⟨kd, hkd⟩ : ∃ kd, aroundI y 8 = kd := ⟨_, rfl⟩
      have hkr := aroundI_range y 8 (by omega)
      rw [hkd] at hkr ⊢
      clear hkd
      rcases (show kd = 0 ∨ kd = 1 ∨ kd = 2 ∨ kd = 3 ∨ 4 ≤ kd by omega) with rfl | rfl | rfl | rfl | hk4
      · as_aux_lemma =>
          have hx5 : -9223372036854775808 ≤ (X : Int) % 5 ∧ (X : Int) % 5 ≤ 9223372036854775807 := by omega
          obtain ⟨a5, ha5⟩ : ∃ a5, (X : Int) % 5 = a5 := ⟨_, rfl⟩
          rw [ha5] at hx5
          go_wp2_with fail
          refine (HJ.out.arm a5 hx5).mono ?_
          rintro e w5 ⟨rfl, U5, hj5, hst5⟩
          have HJ5 := Lib.hid hj5
          clear hj5 hst5 HJ
          go_wp2_with fail
          refine (HJ5.out.rarm a5 hx5).mono ?_
          rintro e w6 ⟨rfl, U6, hj6, hst6⟩
          obtain ⟨s9, hs9⟩ : ∃ s9, Dk.arm s a5 = s9 := ⟨_, rfl⟩
          rw [hs9] at hj6
          have HT := Lib.hid hj6
          clear hj6 hst6 HJ5 hs9

          go_wp2_with fail
          refine (HT.out.read 2).mono ?_
          rintro e wa ⟨Aa, ca, rfl, hra, hna⟩
          have HTN := Lib.hid (HT.out.new hna)
          obtain ⟨k3, k31, bb, Ab, cb, k1, k2, k4, hrb⟩ := HTN.out.cells 2 (by omega)
          have hlf := HTN.out.wf.1.len 2
          have HRUN9 := Lib.hid (fun wx (hx : New wa wx) => (show JRun w g g2 _ _ (i + 1) wx from ⟨_, _, _, HTN.out.new hx, HZ9.out⟩))
          have HRB := Lib.hid hrb
          clear hrb hna HTN HT
          cases hoff : s9.off with
          | true =>
            rw [show Dk.read s9 2 = ([], 24) from by unfold Dk.read; rw [if_neg (by omega), if_pos hoff]] at hra ⊢
            rw [hoff] at k3
            clear hra
            go_wp2_with fail
            exact ⟨⟨i + 1, _, rfl, rfl, rfl, by omega, by omega, Lib.hid (HRUN9.out _ (Chg.refl _ _))⟩, by simp [intOf]; omega⟩
          | false =>
            rw [show Dk.read s9 2 = (s9.f 2, 0) from read_at (i := 2) (by omega) hoff] at hra ⊢
            rw [hoff] at k3
            dsimp only at hra ⊢
            obtain ⟨nf, hnf⟩ : ∃ nf, (s9.f 2).length = nf := ⟨_, rfl⟩
            have HRA := Lib.hid (show Rd wa Aa nf (bs (s9.f 2)) ∧ Rd wa Ab nf (bs (s9.f 2)) from ⟨hnf ▸ hra, hnf ▸ HRB.out⟩)
            rw [hnf] at k2 hlf ⊢
            clear hra hnf hoff
            go_wp2_with fail
            refine (sameBytes_any Aa Ab nf nf ca cb _ _ _ HRA.out.1 HRA.out.2 (by omega) (by omega)).mono ?_
            rintro e wb ⟨rfl, hnb⟩
            have HNB := Lib.hid hnb
            rw [decide_eq_true rfl]
            have k3b := hnb.cell k3 (fun h => h)
            have k31b := Nat.lt_of_lt_of_le k31 hnb.size
            clear hnb k1 k2 k3 k4 k31
            go_wp2_with fail
            exact ⟨⟨i + 1, _, rfl, rfl, rfl, by omega, by omega, Lib.hid (HRUN9.out _ HNB.out)⟩, by simp [intOf]; omega⟩
      · as_aux_lemma =>
          have hx30 : -9223372036854775808 ≤ (X : Int) % 30 ∧ (X : Int) % 30 ≤ 9223372036854775807 := by omega
          have hfl : -9223372036854775808 ≤ (X : Int) / 30 % 300 - 100 ∧ (X : Int) / 30 % 300 - 100 ≤ 9223372036854775807 := by omega
          obtain ⟨w5, hw5⟩ : ∃ w5, wr.alloc (.cells #[.int .i64 ((X : Int) % 30)] 3) = w5 := ⟨_, rfl⟩
          obtain ⟨BK, hBK⟩ : ∃ BK, wr.heap.size = BK := ⟨_, rfl⟩
          have hn5 : New wr w5 := by rw [← hw5]; exact (Chg.refl _ wr).alloc _
          have hrk : Rd w5 (some ⟨BK, 0, none⟩) 1 (is [(X : Int) % 30]) := by rw [← hw5, ← hBK]; exact Rd.one
          have hbk : ∀ k, blk (some (⟨BK, 0, none⟩ : Addr)) = some k → ¬ U k ∧ k < w5.heap.size := fun k hk => by
            have hk : BK = k := by simpa [blk] using hk
            refine ⟨fun hu => by have := (HJ.out.lt hu).1; omega, ?_⟩
            rw [← hw5, World.size_alloc]; omega
          have HJ5 := Lib.hid (HJ.out.new hn5)
          have HBK := Lib.hid (And.intro hrk hbk)
          clear hn5 hrk hbk HJ
          go_wp2_with fail
          refine (HJ5.out.crash _ 1 1 [(X : Int) % 30] HBK.out.1 HBK.out.2 (by omega) (fun z hz => by rcases List.mem_singleton.1 hz with rfl; exact hx30) _ hfl).mono ?_
          rintro e w6 ⟨rfl, U6, hj6, hst6⟩
          have HBK6 := Lib.hid (show Rd w6 (some ⟨BK, 0, none⟩) 1 (is [(X : Int) % 30]) ∧ ∀ k, blk (some (⟨BK, 0, none⟩ : Addr)) = some k → ¬ U6 k ∧ k < w6.heap.size from ⟨HBK.out.1.chg hst6.chg (fun k hk _ => (HBK.out.2 k hk).1), fun k hk => ⟨fun hu => by
            rcases hst6.own k hu with h | h
            · exact (HBK.out.2 k hk).1 h
            · have := (HBK.out.2 k hk).2; omega, Nat.lt_of_lt_of_le (HBK.out.2 k hk).2 hst6.chg.size⟩⟩)
          have HJ6 := Lib.hid hj6
          clear hj6 hst6 HJ5 HBK
          go_wp2_with fail
          refine (HJ6.out.rcrash _ 1 1 [(X : Int) % 30] HBK6.out.1 HBK6.out.2 (by omega) (fun z hz => by rcases List.mem_singleton.1 hz with rfl; exact hx30) _ hfl).mono ?_
          rintro e w6b ⟨rfl, U6b, hj6, hst6⟩
          obtain ⟨s6, hs6⟩ : ∃ s6, Dk.crash s [(X : Int) % 30] ((X : Int) / 30 % 300 - 100) = s6 := ⟨_, rfl⟩
          rw [hs6] at hj6
          have HJ6b := Lib.hid hj6
          clear hj6 hst6 HJ6 HBK6 hs6
          go_wp2_with fail

          refine (HJ6b.out.open_ 2).mono ?_
          rintro e w7 ⟨p7, Ar7, nl7, cl7, rfl, U7, hj7, hst7, hr7⟩
          have HJ7 := Lib.hid hj7
          obtain ⟨s7, hs7⟩ : ∃ s7, (openJ s6 2).1 = s7 := ⟨_, rfl⟩
          obtain ⟨z7, hz7⟩ : ∃ z7, (openJ s6 2).2.1 = z7 := ⟨_, rfl⟩
          have HLS := Lib.hid (fun l hl => lgOf_size HJ6b.out.wf.1 2 (l := l) hl)
          have HRW := Lib.hid hr7
          rw [hz7]
          clear hj7 hst7 hr7
          go_wp2_with fail
          refine (HJ7.out.ropen 2 (by omega)).mono ?_
          rintro e w8 ⟨p8, Ar8, nl8, cl8, rfl, U8, hj8, hst8, hr8⟩
          have hz8 : (openJ s6 ((2 : Nat) : Int)).2.1 = z7 := hz7
          have hs8 : (openJ s6 ((2 : Nat) : Int)).1 = s7 := hs7
          obtain ⟨o7, ho7⟩ : ∃ o7, lgOf 2 (openJ s6 2) = o7 := ⟨_, rfl⟩
          have ho8 : lgOf ((2 : Nat) : Int) (openJ s6 ((2 : Nat) : Int)) = o7 := ho7
          rw [hz8]
          rw [hs7, hs8, ho7, ho8] at hj8
          rw [ho7] at HLS
          have HT := Lib.hid hj8
          have HZ9 := Lib.hid (show ∀ l, o7 = some l → l.size ≤ 16777216 + (i + 1) from fun l hl => by have := HLS.out l hl; omega)
          have HRW2 := Lib.hid (show RrJ w8 (fun _ => False) Ar7 nl7 (openJ s6 2).2.2 ∧ RrJ w8 (fun _ => False) Ar8 nl8 (openJ s6 2).2.2 from ⟨HRW.out.chg hst8.chg, hr8⟩)
          clear hj8 hst8 hr8 hz8 hs8 ho8 ho7 hs7 hz7 HJ7 HRW HLS

          go_wp2_with fail
          refine (HT.out.read 2).mono ?_
          rintro e wa ⟨Aa, ca, rfl, hra, hna⟩
          have HTN := Lib.hid (HT.out.new hna)
          obtain ⟨k3, k31, bb, Ab, cb, k1, k2, k4, hrb⟩ := HTN.out.cells 2 (by omega)
          have hlf := HTN.out.wf.1.len 2
          have HRUN9 := Lib.hid (fun wx (hx : New wa wx) => (show JRun w g g2 _ _ (i + 1) wx from ⟨_, _, _, HTN.out.new hx, HZ9.out⟩))
          have HRB := Lib.hid hrb
          clear hrb hna HTN HT
          cases hoff : s7.off with
          | true =>
            rw [show Dk.read s7 2 = ([], 24) from by unfold Dk.read; rw [if_neg (by omega), if_pos hoff]] at hra ⊢
            rw [hoff] at k3
            clear hra
            go_wp2_with fail
            exact ⟨⟨i + 1, _, rfl, rfl, rfl, by omega, by omega, Lib.hid (HRUN9.out _ (Chg.refl _ _))⟩, by simp [intOf]; omega⟩
          | false =>
            rw [show Dk.read s7 2 = (s7.f 2, 0) from read_at (i := 2) (by omega) hoff] at hra ⊢
            rw [hoff] at k3
            dsimp only at hra ⊢
            obtain ⟨nf, hnf⟩ : ∃ nf, (s7.f 2).length = nf := ⟨_, rfl⟩
            have HRA := Lib.hid (show Rd wa Aa nf (bs (s7.f 2)) ∧ Rd wa Ab nf (bs (s7.f 2)) from ⟨hnf ▸ hra, hnf ▸ HRB.out⟩)
            rw [hnf] at k2 hlf ⊢
            clear hra hnf hoff
            go_wp2_with fail
            refine (sameBytes_any Aa Ab nf nf ca cb _ _ _ HRA.out.1 HRA.out.2 (by omega) (by omega)).mono ?_
            rintro e wb ⟨rfl, hnb⟩
            have HNB := Lib.hid hnb
            rw [decide_eq_true rfl]
            have k3b := hnb.cell k3 (fun h => h)
            have k31b := Nat.lt_of_lt_of_le k31 hnb.size
            clear hnb k1 k2 k3 k4 k31
            go_wp2_with fail
            exact ⟨⟨i + 1, _, rfl, rfl, rfl, by omega, by omega, Lib.hid (HRUN9.out _ HNB.out)⟩, by simp [intOf]; omega⟩
      · as_aux_lemma =>
          have hx30 : -9223372036854775808 ≤ (X : Int) % 30 ∧ (X : Int) % 30 ≤ 9223372036854775807 := by omega
          have hfl : -9223372036854775808 ≤ (X : Int) / 30 % 300 - 100 ∧ (X : Int) / 30 % 300 - 100 ≤ 9223372036854775807 := by omega
          obtain ⟨w5, hw5⟩ : ∃ w5, wr.alloc (.cells #[.int .i64 ((X : Int) % 30)] 3) = w5 := ⟨_, rfl⟩
          obtain ⟨BK, hBK⟩ : ∃ BK, wr.heap.size = BK := ⟨_, rfl⟩
          have hn5 : New wr w5 := by rw [← hw5]; exact (Chg.refl _ wr).alloc _
          have hrk : Rd w5 (some ⟨BK, 0, none⟩) 1 (is [(X : Int) % 30]) := by rw [← hw5, ← hBK]; exact Rd.one
          have hbk : ∀ k, blk (some (⟨BK, 0, none⟩ : Addr)) = some k → ¬ U k ∧ k < w5.heap.size := fun k hk => by
            have hk : BK = k := by simpa [blk] using hk
            refine ⟨fun hu => by have := (HJ.out.lt hu).1; omega, ?_⟩
            rw [← hw5, World.size_alloc]; omega
          have HJ5 := Lib.hid (HJ.out.new hn5)
          have HBK := Lib.hid (And.intro hrk hbk)
          clear hn5 hrk hbk HJ
          go_wp2_with fail
          refine (HJ5.out.crash _ 1 1 [(X : Int) % 30] HBK.out.1 HBK.out.2 (by omega) (fun z hz => by rcases List.mem_singleton.1 hz with rfl; exact hx30) _ hfl).mono ?_
          rintro e w6 ⟨rfl, U6, hj6, hst6⟩
          have HBK6 := Lib.hid (show Rd w6 (some ⟨BK, 0, none⟩) 1 (is [(X : Int) % 30]) ∧ ∀ k, blk (some (⟨BK, 0, none⟩ : Addr)) = some k → ¬ U6 k ∧ k < w6.heap.size from ⟨HBK.out.1.chg hst6.chg (fun k hk _ => (HBK.out.2 k hk).1), fun k hk => ⟨fun hu => by
            rcases hst6.own k hu with h | h
            · exact (HBK.out.2 k hk).1 h
            · have := (HBK.out.2 k hk).2; omega, Nat.lt_of_lt_of_le (HBK.out.2 k hk).2 hst6.chg.size⟩⟩)
          have HJ6 := Lib.hid hj6
          clear hj6 hst6 HJ5 HBK
          go_wp2_with fail
          refine (HJ6.out.rcrash _ 1 1 [(X : Int) % 30] HBK6.out.1 HBK6.out.2 (by omega) (fun z hz => by rcases List.mem_singleton.1 hz with rfl; exact hx30) _ hfl).mono ?_
          rintro e w6b ⟨rfl, U6b, hj6, hst6⟩
          obtain ⟨s6, hs6⟩ : ∃ s6, Dk.crash s [(X : Int) % 30] ((X : Int) / 30 % 300 - 100) = s6 := ⟨_, rfl⟩
          rw [hs6] at hj6
          have HJ6b := Lib.hid hj6
          clear hj6 hst6 HJ6 HBK6 hs6
          go_wp2_with fail

          refine (HJ6b.out.open_ 2).mono ?_
          rintro e w7 ⟨p7, Ar7, nl7, cl7, rfl, U7, hj7, hst7, hr7⟩
          have HJ7 := Lib.hid hj7
          obtain ⟨s7, hs7⟩ : ∃ s7, (openJ s6 2).1 = s7 := ⟨_, rfl⟩
          obtain ⟨z7, hz7⟩ : ∃ z7, (openJ s6 2).2.1 = z7 := ⟨_, rfl⟩
          have HLS := Lib.hid (fun l hl => lgOf_size HJ6b.out.wf.1 2 (l := l) hl)
          have HRW := Lib.hid hr7
          rw [hz7]
          clear hj7 hst7 hr7
          go_wp2_with fail
          refine (HJ7.out.ropen 2 (by omega)).mono ?_
          rintro e w8 ⟨p8, Ar8, nl8, cl8, rfl, U8, hj8, hst8, hr8⟩
          have hz8 : (openJ s6 ((2 : Nat) : Int)).2.1 = z7 := hz7
          have hs8 : (openJ s6 ((2 : Nat) : Int)).1 = s7 := hs7
          obtain ⟨o7, ho7⟩ : ∃ o7, lgOf 2 (openJ s6 2) = o7 := ⟨_, rfl⟩
          have ho8 : lgOf ((2 : Nat) : Int) (openJ s6 ((2 : Nat) : Int)) = o7 := ho7
          rw [hz8]
          rw [hs7, hs8, ho7, ho8] at hj8
          rw [ho7] at HLS
          have HT := Lib.hid hj8
          have HZ9 := Lib.hid (show ∀ l, o7 = some l → l.size ≤ 16777216 + (i + 1) from fun l hl => by have := HLS.out l hl; omega)
          have HRW2 := Lib.hid (show RrJ w8 (fun _ => False) Ar7 nl7 (openJ s6 2).2.2 ∧ RrJ w8 (fun _ => False) Ar8 nl8 (openJ s6 2).2.2 from ⟨HRW.out.chg hst8.chg, hr8⟩)
          clear hj8 hst8 hr8 hz8 hs8 ho8 ho7 hs7 hz7 HJ7 HRW HLS

          go_wp2_with fail
          refine (HT.out.read 2).mono ?_
          rintro e wa ⟨Aa, ca, rfl, hra, hna⟩
          have HTN := Lib.hid (HT.out.new hna)
          obtain ⟨k3, k31, bb, Ab, cb, k1, k2, k4, hrb⟩ := HTN.out.cells 2 (by omega)
          have hlf := HTN.out.wf.1.len 2
          have HRUN9 := Lib.hid (fun wx (hx : New wa wx) => (show JRun w g g2 _ _ (i + 1) wx from ⟨_, _, _, HTN.out.new hx, HZ9.out⟩))
          have HRB := Lib.hid hrb
          clear hrb hna HTN HT
          cases hoff : s7.off with
          | true =>
            rw [show Dk.read s7 2 = ([], 24) from by unfold Dk.read; rw [if_neg (by omega), if_pos hoff]] at hra ⊢
            rw [hoff] at k3
            clear hra
            go_wp2_with fail
            exact ⟨⟨i + 1, _, rfl, rfl, rfl, by omega, by omega, Lib.hid (HRUN9.out _ (Chg.refl _ _))⟩, by simp [intOf]; omega⟩
          | false =>
            rw [show Dk.read s7 2 = (s7.f 2, 0) from read_at (i := 2) (by omega) hoff] at hra ⊢
            rw [hoff] at k3
            dsimp only at hra ⊢
            obtain ⟨nf, hnf⟩ : ∃ nf, (s7.f 2).length = nf := ⟨_, rfl⟩
            have HRA := Lib.hid (show Rd wa Aa nf (bs (s7.f 2)) ∧ Rd wa Ab nf (bs (s7.f 2)) from ⟨hnf ▸ hra, hnf ▸ HRB.out⟩)
            rw [hnf] at k2 hlf ⊢
            clear hra hnf hoff
            go_wp2_with fail
            refine (sameBytes_any Aa Ab nf nf ca cb _ _ _ HRA.out.1 HRA.out.2 (by omega) (by omega)).mono ?_
            rintro e wb ⟨rfl, hnb⟩
            have HNB := Lib.hid hnb
            rw [decide_eq_true rfl]
            have k3b := hnb.cell k3 (fun h => h)
            have k31b := Nat.lt_of_lt_of_le k31 hnb.size
            clear hnb k1 k2 k3 k4 k31
            go_wp2_with fail
            exact ⟨⟨i + 1, _, rfl, rfl, rfl, by omega, by omega, Lib.hid (HRUN9.out _ HNB.out)⟩, by simp [intOf]; omega⟩
      · as_aux_lemma =>
          go_wp2_with fail

          refine (HJ.out.open_ 2).mono ?_
          rintro e w7 ⟨p7, Ar7, nl7, cl7, rfl, U7, hj7, hst7, hr7⟩
          have HJ7 := Lib.hid hj7
          obtain ⟨s7, hs7⟩ : ∃ s7, (openJ s 2).1 = s7 := ⟨_, rfl⟩
          obtain ⟨z7, hz7⟩ : ∃ z7, (openJ s 2).2.1 = z7 := ⟨_, rfl⟩
          have HLS := Lib.hid (fun l hl => lgOf_size HJ.out.wf.1 2 (l := l) hl)
          have HRW := Lib.hid hr7
          rw [hz7]
          clear hj7 hst7 hr7
          go_wp2_with fail
          refine (HJ7.out.ropen 2 (by omega)).mono ?_
          rintro e w8 ⟨p8, Ar8, nl8, cl8, rfl, U8, hj8, hst8, hr8⟩
          have hz8 : (openJ s ((2 : Nat) : Int)).2.1 = z7 := hz7
          have hs8 : (openJ s ((2 : Nat) : Int)).1 = s7 := hs7
          obtain ⟨o7, ho7⟩ : ∃ o7, lgOf 2 (openJ s 2) = o7 := ⟨_, rfl⟩
          have ho8 : lgOf ((2 : Nat) : Int) (openJ s ((2 : Nat) : Int)) = o7 := ho7
          rw [hz8]
          rw [hs7, hs8, ho7, ho8] at hj8
          rw [ho7] at HLS
          have HT := Lib.hid hj8
          have HZ9 := Lib.hid (show ∀ l, o7 = some l → l.size ≤ 16777216 + (i + 1) from fun l hl => by have := HLS.out l hl; omega)
          have HRW2 := Lib.hid (show RrJ w8 (fun _ => False) Ar7 nl7 (openJ s 2).2.2 ∧ RrJ w8 (fun _ => False) Ar8 nl8 (openJ s 2).2.2 from ⟨HRW.out.chg hst8.chg, hr8⟩)
          clear hj8 hst8 hr8 hz8 hs8 ho8 ho7 hs7 hz7 HJ7 HRW HLS

          obtain ⟨va, ra1, ra2, ra3, _⟩ := HRW2.out.1
          obtain ⟨vb, rb1, rb2, rb3, _⟩ := HRW2.out.2
          have HSL := Lib.hid (sameLists_w Ar7 Ar8 nl7 nl8 cl7 cl8 va vb _ _ w8 ra1 ra3 rb1 rb3 (by have := open_rows HJ.out.wf.1 2; omega) (by have := open_rows HJ.out.wf.1 2; omega))
          clear ra1 ra2 ra3 rb1 rb2 rb3 HRW2
          go_wp2_with fail
          refine HSL.out.mono ?_
          rintro e w9 ⟨rfl, q9, rfl⟩
          simp only [decide_true]
          have HT := Lib.hid (HT.out.new ((Chg.refl _ w8).drewN q9))

          go_wp2_with fail
          refine (HT.out.read 2).mono ?_
          rintro e wa ⟨Aa, ca, rfl, hra, hna⟩
          have HTN := Lib.hid (HT.out.new hna)
          obtain ⟨k3, k31, bb, Ab, cb, k1, k2, k4, hrb⟩ := HTN.out.cells 2 (by omega)
          have hlf := HTN.out.wf.1.len 2
          have HRUN9 := Lib.hid (fun wx (hx : New wa wx) => (show JRun w g g2 _ _ (i + 1) wx from ⟨_, _, _, HTN.out.new hx, HZ9.out⟩))
          have HRB := Lib.hid hrb
          clear hrb hna HTN HT
          cases hoff : s7.off with
          | true =>
            rw [show Dk.read s7 2 = ([], 24) from by unfold Dk.read; rw [if_neg (by omega), if_pos hoff]] at hra ⊢
            rw [hoff] at k3
            clear hra
            go_wp2_with fail
            exact ⟨⟨i + 1, _, rfl, rfl, rfl, by omega, by omega, Lib.hid (HRUN9.out _ (Chg.refl _ _))⟩, by simp [intOf]; omega⟩
          | false =>
            rw [show Dk.read s7 2 = (s7.f 2, 0) from read_at (i := 2) (by omega) hoff] at hra ⊢
            rw [hoff] at k3
            dsimp only at hra ⊢
            obtain ⟨nf, hnf⟩ : ∃ nf, (s7.f 2).length = nf := ⟨_, rfl⟩
            have HRA := Lib.hid (show Rd wa Aa nf (bs (s7.f 2)) ∧ Rd wa Ab nf (bs (s7.f 2)) from ⟨hnf ▸ hra, hnf ▸ HRB.out⟩)
            rw [hnf] at k2 hlf ⊢
            clear hra hnf hoff
            go_wp2_with fail
            refine (sameBytes_any Aa Ab nf nf ca cb _ _ _ HRA.out.1 HRA.out.2 (by omega) (by omega)).mono ?_
            rintro e wb ⟨rfl, hnb⟩
            have HNB := Lib.hid hnb
            rw [decide_eq_true rfl]
            have k3b := hnb.cell k3 (fun h => h)
            have k31b := Nat.lt_of_lt_of_le k31 hnb.size
            clear hnb k1 k2 k3 k4 k31
            go_wp2_with fail
            exact ⟨⟨i + 1, _, rfl, rfl, rfl, by omega, by omega, Lib.hid (HRUN9.out _ HNB.out)⟩, by simp [intOf]; omega⟩
      · as_aux_lemma =>
          have e0 : (kd == 0) = false := by simp; omega
          have e1 : (kd == 1) = false := by simp; omega
          have e2 : (kd == 2) = false := by simp; omega
          have e3 : (kd == 3) = false := by simp; omega
          obtain ⟨w5, hw5⟩ : ∃ w5, wr.alloc (.cells #[.int .i64 (X : Int)] 3) = w5 := ⟨_, rfl⟩
          obtain ⟨BK, hBK⟩ : ∃ BK, wr.heap.size = BK := ⟨_, rfl⟩
          have hn5 : New wr w5 := by rw [← hw5]; exact (Chg.refl _ wr).alloc _
          have hrk : Rd w5 (some ⟨BK, 0, none⟩) 1 (is [(X : Int)]) := by rw [← hw5, ← hBK]; exact Rd.one
          have HJ5 := Lib.hid (HJ.out.new hn5)
          have HLT := Lib.hid (show ∀ k, U k → k < w5.heap.size from fun k hk => Nat.lt_of_lt_of_le (HJ.out.lt hk).1 hn5.size)
          have HRK := Lib.hid hrk
          clear hn5 hrk HJ
          go_wp2_with fail
          refine (records_spec (some ⟨BK, 0, none⟩) 1 1 [(X : Int)] w5 HRK.out (by omega) (fun z hz => by rcases List.mem_singleton.1 hz with rfl; omega)).mono ?_
          rintro e w6 ⟨A6, m6, c6, vs6, rfl, ro, rl, rn⟩
          obtain ⟨gr, A0, n0, c0, rfl, rfl, kc, krd, kl, kb⟩ := rec_one ro rl
          obtain ⟨xb, hxb⟩ : ∃ xb, recOf (X : Int) = xb := ⟨_, rfl⟩
          rw [hxb] at krd kl
          have HJ6 := Lib.hid (HJ5.out.new rn)
          have HXB := Lib.hid kl
          have grl : gr < w6.heap.size := World.block_lt_of_cell? _ _ kc
          have HNU := Lib.hid (show ∀ k, blk A0 = some k → ¬ U k from fun k hk hu => by have := kb k hk; have := HLT.out k hu; omega)
          have HRD := Lib.hid krd
          have HKB := Lib.hid (show ∀ k, blk A0 = some k → k < w6.heap.size from fun k hk => (kb k hk).2)
          clear kb krd ro rl rn HJ5 HLT HRK hw5 hxb kl
          obtain ⟨s2, hs2⟩ : ∃ s2, (appJ s l xb).1 = s2 := ⟨_, rfl⟩
          obtain ⟨l2, hl2⟩ : ∃ l2, (appJ s l xb).2.1 = l2 := ⟨_, rfl⟩
          obtain ⟨cd, hcd⟩ : ∃ cd, (appJ s l xb).2.2 = cd := ⟨_, rfl⟩
          have hl2s : l2.size ≤ 16777216 + (i + 1) := by rw [← hl2]; have := appJ_size s l xb; have := HSZ.out l rfl; omega
          have HPA := Lib.hid (show ∀ W, New w6 W → Calls Try.prog 14 #[.pointer (some ⟨gl1, 0, none⟩), .slice A0 n0 c0] W fun e w' => e = .returned (.int .i64 cd) ∧ ∃ U', JS U' w g g2 s2 s (.pointer (some ⟨gl1, 0, none⟩)) (some l2) (.pointer (some ⟨gl2, 0, none⟩)) (some l) w' ∧ Rd w' A0 n0 (bs xb) from fun W hW => by
            refine ((HJ6.out.new hW).append l rfl A0 n0 c0 xb (HRD.out.new hW) (fun k hk => Nat.lt_of_lt_of_le (HKB.out k hk) hW.size) (by have := HXB.out; omega) (by have := HSZ.out l rfl; omega)).mono ?_
            rintro e w' ⟨rfl, U', q1, q2⟩
            rw [hs2, hl2] at q1
            exact ⟨by rw [hcd], U', q1, (HRD.out.new hW).chg q2.chg (fun k hk _ => HNU.out k hk)⟩)
          have HPB := Lib.hid (show ∀ W U', JS U' w g g2 s2 s (.pointer (some ⟨gl1, 0, none⟩)) (some l2) (.pointer (some ⟨gl2, 0, none⟩)) (some l) W → Rd W A0 n0 (bs xb) → Calls Try.prog 27 #[.pointer (some ⟨gl2, 0, none⟩), .slice A0 n0 c0] W fun e w' => e = .returned (.int .i64 cd) ∧ ∃ U', JS U' w g g2 s2 s2 (.pointer (some ⟨gl1, 0, none⟩)) (some l2) (.pointer (some ⟨gl2, 0, none⟩)) (some l2) w' from fun W U' hW hr => by
            refine (hW.rappend l rfl A0 n0 c0 xb hr (by have := HXB.out; omega) (by have := HSZ.out l rfl; omega)).mono ?_
            rintro e w' ⟨rfl, U'', q1, q2⟩
            rw [hs2, hl2] at q1
            exact ⟨by rw [hcd], U'', q1⟩)
          have HZ2 := Lib.hid (show ∀ l', some l2 = some l' → l'.size ≤ 16777216 + (i + 1) from fun l' h => by injection h with h; subst h; exact hl2s)
          obtain ⟨fz, sz, dn⟩ := l2
          have hbd : ((!dn) == dn) = false := by cases dn <;> rfl
          clear hs2 hl2 hcd hl2s
          go_upto_region 17 with fail
          go_cut [109] from 43 to 196 (fun v wx => v = .bool false ∧ Hid (∃ U', JS U' w g g2 s2 s2 (.pointer (some ⟨gl1, 0, none⟩)) (some ⟨fz, sz, dn⟩) (.pointer (some ⟨gl2, 0, none⟩)) (some ⟨fz, sz, dn⟩) wx))
          case first =>
            refine wp_region_held_drew (S := fun _ => True) (by kernel_rfl) trivial (fun hHeld => ?_)
            refine heldW (i := 0) (v := ?rv0) rfl (by kernel_rfl) (by kernel_rfl) (by kernel_rfl) (fun _ _ _ h => h) (by rfl) ?rhy0 hHeld ?rrest0
            case rhy0 => (intro w hSw; (try dsimp only at hSw); go_simp; try with_reducible rfl)
            simp only [Act.put, List.setIfInBounds_toArray, List.set_cons_zero, List.set_cons_succ]
            refine heldW (i := 1) (v := ?rv1) rfl (by kernel_rfl) (by kernel_rfl) (by kernel_rfl) (fun _ _ _ h => h) (by rfl) ?rhy1 hHeld ?rrest1
            case rhy1 => (intro w hSw; (try dsimp only at hSw); go_simp; try with_reducible rfl)
            simp only [Act.put, List.setIfInBounds_toArray, List.set_cons_zero, List.set_cons_succ]
            refine heldW (i := 3) (v := ?rv3) rfl (by kernel_rfl) (by kernel_rfl) (by kernel_rfl) (fun _ _ _ h => h) (by rfl) ?rhy3 hHeld ?rrest3
            case rhy3 => (intro w hSw; (try dsimp only at hSw); go_simp; try with_reducible rfl)
            simp only [Act.put, List.setIfInBounds_toArray, List.set_cons_zero, List.set_cons_succ]
            refine heldW (i := 4) (v := ?rv4) rfl (by kernel_rfl) (by kernel_rfl) (by kernel_rfl) (fun _ _ _ h => h) (by rfl) ?rhy4 hHeld ?rrest4
            case rhy4 => (intro w hSw; (try dsimp only at hSw); go_simp; try with_reducible rfl)
            simp only [Act.put, List.setIfInBounds_toArray, List.set_cons_zero, List.set_cons_succ]
            refine heldC (i := 2) rfl (by kernel_rfl) (by rfl) (fun K hK => ?_)
            go_simp
            refine (HPA.out _ (Chg.refl _ _).drew).mono ?_
            rintro e w7 ⟨rfl, U7, h7, hr7⟩
            have H7 := Lib.hid (And.intro h7 hr7)
            clear h7 hr7
            (try go_wp2_with fail)
            refine hK.out _ _ trivial (fun hHeld2 => ?_)
            clear hK K hHeld
            have hHeld := hHeld2
            clear hHeld2
            (try simp only [Act.put, List.setIfInBounds_toArray, List.set_cons_zero, List.set_cons_succ])
            refine heldC (i := 5) rfl (by kernel_rfl) (by rfl) (fun K hK => ?_)
            go_simp
            refine (HPB.out _ _ H7.out.1 H7.out.2).mono ?_
            rintro e w8 ⟨rfl, U8, h8⟩
            obtain ⟨k2, k3, kl⟩ := h8.lg2
            have H8 := Lib.hid h8
            clear h8
            (try go_wp2_with fail)
            refine hK.out _ _ trivial (fun hHeld2 => ?_)
            clear hK K hHeld
            have hHeld := hHeld2
            clear hHeld2
            (try simp only [Act.put, List.setIfInBounds_toArray, List.set_cons_zero, List.set_cons_succ])
            refine heldW (i := 6) (v := ?rv6) rfl (by kernel_rfl) (by kernel_rfl) (by kernel_rfl) (fun _ _ _ h => h) (by rfl) ?rhy6 hHeld ?rrest6
            case rhy6 => (intro w hSw; (try dsimp only at hSw); go_simp; try with_reducible rfl)
            simp only [Act.put, List.setIfInBounds_toArray, List.set_cons_zero, List.set_cons_succ]
            refine heldW (i := 7) (v := ?rv7) rfl (by kernel_rfl) (by kernel_rfl) (by kernel_rfl) (fun _ _ _ h => h) (by rfl) ?rhy7 hHeld ?rrest7
            case rhy7 => (intro w hSw; (try dsimp only at hSw); go_simp; try with_reducible rfl)
            simp only [Act.put, List.setIfInBounds_toArray, List.set_cons_zero, List.set_cons_succ]
            refine heldW (i := 8) (v := ?rv8) rfl (by kernel_rfl) (by kernel_rfl) (by kernel_rfl) (fun _ _ _ h => h) (by rfl) ?rhy8 hHeld ?rrest8
            case rhy8 => (intro w hSw; (try dsimp only at hSw); go_simp; try with_reducible rfl)
            simp only [Act.put, List.setIfInBounds_toArray, List.set_cons_zero, List.set_cons_succ]
            refine heldW (i := 10) (v := ?rv10) rfl (by kernel_rfl) (by kernel_rfl) (by kernel_rfl) (fun _ _ _ h => h) (by rfl) ?rhy10 hHeld ?rrest10
            case rhy10 => (intro w hSw; (try dsimp only at hSw); go_simp; try with_reducible rfl)
            simp only [Act.put, List.setIfInBounds_toArray, List.set_cons_zero, List.set_cons_succ]
            refine heldW (i := 11) (v := ?rv11) rfl (by kernel_rfl) (by kernel_rfl) (by kernel_rfl) (fun _ _ _ h => h) (by rfl) ?rhy11 hHeld ?rrest11
            case rhy11 => (intro w hSw; (try dsimp only at hSw); go_simp; try with_reducible rfl)
            simp only [Act.put, List.setIfInBounds_toArray, List.set_cons_zero, List.set_cons_succ]
            refine heldW (i := 12) (v := ?rv12) rfl (by kernel_rfl) (by kernel_rfl) (by kernel_rfl) (fun _ _ _ h => h) (by rfl) ?rhy12 hHeld ?rrest12
            case rhy12 => (intro w hSw; (try dsimp only at hSw); go_simp; try with_reducible rfl)
            simp only [Act.put, List.setIfInBounds_toArray, List.set_cons_zero, List.set_cons_succ]
            refine wpAnyH_ready (rs := [9, 13]) (by kernel_rfl) (by simp) (AllReadyH.cons rfl (fun K hK => ?_) (AllReadyH.cons rfl (fun K hK => ?_) AllReadyH.nil))
            · (try rw [if_pos (by rfl)])
              go_simp
              refine H8.out.len.mono ?_
              rintro e w9 ⟨rfl, hw9⟩
              subst hw9
              (try go_wp2_with fail)
              refine hK.out _ _ trivial (fun hHeld2 => ?_)
              clear hK K hHeld
              have hHeld := hHeld2
              clear hHeld2
              (try simp only [Act.put, List.setIfInBounds_toArray, List.set_cons_zero, List.set_cons_succ])
              refine heldC (i := 13) rfl (by kernel_rfl) (by rfl) (fun K hK => ?_)
              go_simp
              refine hK.out _ _ trivial (fun hHeld2 => ?_)
              clear hK K hHeld
              have hHeld := hHeld2
              clear hHeld2
              (try simp only [Act.put, List.setIfInBounds_toArray, List.set_cons_zero, List.set_cons_succ])
              refine heldW (i := 14) (v := ?r9v14) rfl (by kernel_rfl) (by kernel_rfl) (by kernel_rfl) (fun _ _ _ h => h) (by rfl) ?r9hy14 hHeld ?r9rest14
              case r9hy14 => (intro w hSw; (try dsimp only at hSw); go_simp; try with_reducible rfl)
              simp only [Act.put, List.setIfInBounds_toArray, List.set_cons_zero, List.set_cons_succ]
              refine heldW (i := 15) (v := ?r9v15) rfl (by kernel_rfl) (by kernel_rfl) (by kernel_rfl) (fun _ _ _ h => h) (by rfl) ?r9hy15 hHeld ?r9rest15
              case r9hy15 => (intro w hSw; (try dsimp only at hSw); go_simp; try with_reducible rfl)
              simp only [Act.put, List.setIfInBounds_toArray, List.set_cons_zero, List.set_cons_succ]
              refine heldW (i := 16) (v := ?r9v16) rfl (by kernel_rfl) (by kernel_rfl) (by kernel_rfl) (fun _ _ _ h => h) (by rfl) ?r9hy16 hHeld ?r9rest16
              case r9hy16 => (intro w hSw; (try dsimp only at hSw); go_simp; try with_reducible rfl)
              simp only [Act.put, List.setIfInBounds_toArray, List.set_cons_zero, List.set_cons_succ]
              refine heldW (i := 17) (v := ?r9v17) rfl (by kernel_rfl) (by kernel_rfl) (by kernel_rfl) (fun _ _ _ h => h) (by rfl) ?r9hy17 hHeld ?r9rest17
              case r9hy17 => (intro w hSw; (try dsimp only at hSw); go_simp; try with_reducible rfl)
              simp only [Act.put, List.setIfInBounds_toArray, List.set_cons_zero, List.set_cons_succ]
              refine heldW (i := 19) (v := ?r9v19) rfl (by kernel_rfl) (by kernel_rfl) (by kernel_rfl) (fun _ _ _ h => h) (by rfl) ?r9hy19 hHeld ?r9rest19
              case r9hy19 => (intro w hSw; (try dsimp only at hSw); go_simp; try with_reducible rfl)
              simp only [Act.put, List.setIfInBounds_toArray, List.set_cons_zero, List.set_cons_succ]
              refine heldW (i := 20) (v := ?r9v20) rfl (by kernel_rfl) (by kernel_rfl) (by kernel_rfl) (fun _ _ _ h => h) (by rfl) ?r9hy20 hHeld ?r9rest20
              case r9hy20 => (intro w hSw; (try dsimp only at hSw); go_simp; try with_reducible rfl)
              simp only [Act.put, List.setIfInBounds_toArray, List.set_cons_zero, List.set_cons_succ]
              refine heldW (i := 21) (v := ?r9v21) rfl (by kernel_rfl) (by kernel_rfl) (by kernel_rfl) (fun _ _ _ h => h) (by rfl) ?r9hy21 hHeld ?r9rest21
              case r9hy21 => (intro w hSw; (try dsimp only at hSw); go_simp; try with_reducible rfl)
              simp only [Act.put, List.setIfInBounds_toArray, List.set_cons_zero, List.set_cons_succ]
              refine wpAnyH_ready (rs := [18, 22]) (by kernel_rfl) (by simp) (AllReadyH.cons rfl (fun K hK => ?_) (AllReadyH.cons rfl (fun K hK => ?_) AllReadyH.nil))
              · (try rw [if_pos (by rfl)])
                go_simp
                refine H8.out.up.mono ?_
                rintro e w9 ⟨rfl, hw9⟩
                subst hw9
                (try go_wp2_with fail)
                refine hK.out _ _ trivial (fun hHeld2 => ?_)
                clear hK K hHeld
                have hHeld := hHeld2
                clear hHeld2
                (try simp only [Act.put, List.setIfInBounds_toArray, List.set_cons_zero, List.set_cons_succ])
                refine heldC (i := 22) rfl (by kernel_rfl) (by rfl) (fun K hK => ?_)
                go_simp
                refine hK.out _ _ trivial (fun hHeld2 => ?_)
                clear hK K hHeld
                have hHeld := hHeld2
                clear hHeld2
                (try simp only [Act.put, List.setIfInBounds_toArray, List.set_cons_zero, List.set_cons_succ])
                refine heldW (i := 23) (v := ?r918v23) rfl (by kernel_rfl) (by kernel_rfl) (by kernel_rfl) (fun _ _ _ h => h) (by rfl) ?r918hy23 hHeld ?r918rest23
                case r918hy23 => (intro w hSw; (try dsimp only at hSw); go_simp; try with_reducible rfl)
                simp only [Act.put, List.setIfInBounds_toArray, List.set_cons_zero, List.set_cons_succ]
                refine heldW (i := 24) (v := ?r918v24) rfl (by kernel_rfl) (by kernel_rfl) (by kernel_rfl) (fun _ _ _ h => h) (by rfl) ?r918hy24 hHeld ?r918rest24
                case r918hy24 => (intro w hSw; (try dsimp only at hSw); go_simp; try with_reducible rfl)
                simp only [Act.put, List.setIfInBounds_toArray, List.set_cons_zero, List.set_cons_succ]
                refine wpAnyH_done (by kernel_rfl) ?_ _
                go_wp2_with fail
                go_meet
                exact ⟨rfl, Lib.hid ⟨_, H8.out⟩⟩
              · (try rw [if_pos (by rfl)])
                go_simp
                refine hK.out _ _ trivial (fun hHeld2 => ?_)
                clear hK K hHeld
                have hHeld := hHeld2
                clear hHeld2
                (try simp only [Act.put, List.setIfInBounds_toArray, List.set_cons_zero, List.set_cons_succ])
                refine heldC (i := 18) rfl (by kernel_rfl) (by rfl) (fun K hK => ?_)
                go_simp
                refine H8.out.up.mono ?_
                rintro e w9 ⟨rfl, hw9⟩
                subst hw9
                (try go_wp2_with fail)
                refine hK.out _ _ trivial (fun hHeld2 => ?_)
                clear hK K hHeld
                have hHeld := hHeld2
                clear hHeld2
                (try simp only [Act.put, List.setIfInBounds_toArray, List.set_cons_zero, List.set_cons_succ])
                refine heldW (i := 23) (v := ?r922v23) rfl (by kernel_rfl) (by kernel_rfl) (by kernel_rfl) (fun _ _ _ h => h) (by rfl) ?r922hy23 hHeld ?r922rest23
                case r922hy23 => (intro w hSw; (try dsimp only at hSw); go_simp; try with_reducible rfl)
                simp only [Act.put, List.setIfInBounds_toArray, List.set_cons_zero, List.set_cons_succ]
                refine heldW (i := 24) (v := ?r922v24) rfl (by kernel_rfl) (by kernel_rfl) (by kernel_rfl) (fun _ _ _ h => h) (by rfl) ?r922hy24 hHeld ?r922rest24
                case r922hy24 => (intro w hSw; (try dsimp only at hSw); go_simp; try with_reducible rfl)
                simp only [Act.put, List.setIfInBounds_toArray, List.set_cons_zero, List.set_cons_succ]
                refine wpAnyH_done (by kernel_rfl) ?_ _
                go_wp2_with fail
                go_meet
                exact ⟨rfl, Lib.hid ⟨_, H8.out⟩⟩
            · (try rw [if_pos (by rfl)])
              go_simp
              refine hK.out _ _ trivial (fun hHeld2 => ?_)
              clear hK K hHeld
              have hHeld := hHeld2
              clear hHeld2
              (try simp only [Act.put, List.setIfInBounds_toArray, List.set_cons_zero, List.set_cons_succ])
              refine heldC (i := 9) rfl (by kernel_rfl) (by rfl) (fun K hK => ?_)
              go_simp
              refine H8.out.len.mono ?_
              rintro e w9 ⟨rfl, hw9⟩
              subst hw9
              (try go_wp2_with fail)
              refine hK.out _ _ trivial (fun hHeld2 => ?_)
              clear hK K hHeld
              have hHeld := hHeld2
              clear hHeld2
              (try simp only [Act.put, List.setIfInBounds_toArray, List.set_cons_zero, List.set_cons_succ])
              refine heldW (i := 14) (v := ?r13v14) rfl (by kernel_rfl) (by kernel_rfl) (by kernel_rfl) (fun _ _ _ h => h) (by rfl) ?r13hy14 hHeld ?r13rest14
              case r13hy14 => (intro w hSw; (try dsimp only at hSw); go_simp; try with_reducible rfl)
              simp only [Act.put, List.setIfInBounds_toArray, List.set_cons_zero, List.set_cons_succ]
              refine heldW (i := 15) (v := ?r13v15) rfl (by kernel_rfl) (by kernel_rfl) (by kernel_rfl) (fun _ _ _ h => h) (by rfl) ?r13hy15 hHeld ?r13rest15
              case r13hy15 => (intro w hSw; (try dsimp only at hSw); go_simp; try with_reducible rfl)
              simp only [Act.put, List.setIfInBounds_toArray, List.set_cons_zero, List.set_cons_succ]
              refine heldW (i := 16) (v := ?r13v16) rfl (by kernel_rfl) (by kernel_rfl) (by kernel_rfl) (fun _ _ _ h => h) (by rfl) ?r13hy16 hHeld ?r13rest16
              case r13hy16 => (intro w hSw; (try dsimp only at hSw); go_simp; try with_reducible rfl)
              simp only [Act.put, List.setIfInBounds_toArray, List.set_cons_zero, List.set_cons_succ]
              refine heldW (i := 17) (v := ?r13v17) rfl (by kernel_rfl) (by kernel_rfl) (by kernel_rfl) (fun _ _ _ h => h) (by rfl) ?r13hy17 hHeld ?r13rest17
              case r13hy17 => (intro w hSw; (try dsimp only at hSw); go_simp; try with_reducible rfl)
              simp only [Act.put, List.setIfInBounds_toArray, List.set_cons_zero, List.set_cons_succ]
              refine heldW (i := 19) (v := ?r13v19) rfl (by kernel_rfl) (by kernel_rfl) (by kernel_rfl) (fun _ _ _ h => h) (by rfl) ?r13hy19 hHeld ?r13rest19
              case r13hy19 => (intro w hSw; (try dsimp only at hSw); go_simp; try with_reducible rfl)
              simp only [Act.put, List.setIfInBounds_toArray, List.set_cons_zero, List.set_cons_succ]
              refine heldW (i := 20) (v := ?r13v20) rfl (by kernel_rfl) (by kernel_rfl) (by kernel_rfl) (fun _ _ _ h => h) (by rfl) ?r13hy20 hHeld ?r13rest20
              case r13hy20 => (intro w hSw; (try dsimp only at hSw); go_simp; try with_reducible rfl)
              simp only [Act.put, List.setIfInBounds_toArray, List.set_cons_zero, List.set_cons_succ]
              refine heldW (i := 21) (v := ?r13v21) rfl (by kernel_rfl) (by kernel_rfl) (by kernel_rfl) (fun _ _ _ h => h) (by rfl) ?r13hy21 hHeld ?r13rest21
              case r13hy21 => (intro w hSw; (try dsimp only at hSw); go_simp; try with_reducible rfl)
              simp only [Act.put, List.setIfInBounds_toArray, List.set_cons_zero, List.set_cons_succ]
              refine wpAnyH_ready (rs := [18, 22]) (by kernel_rfl) (by simp) (AllReadyH.cons rfl (fun K hK => ?_) (AllReadyH.cons rfl (fun K hK => ?_) AllReadyH.nil))
              · (try rw [if_pos (by rfl)])
                go_simp
                refine H8.out.up.mono ?_
                rintro e w9 ⟨rfl, hw9⟩
                subst hw9
                (try go_wp2_with fail)
                refine hK.out _ _ trivial (fun hHeld2 => ?_)
                clear hK K hHeld
                have hHeld := hHeld2
                clear hHeld2
                (try simp only [Act.put, List.setIfInBounds_toArray, List.set_cons_zero, List.set_cons_succ])
                refine heldC (i := 22) rfl (by kernel_rfl) (by rfl) (fun K hK => ?_)
                go_simp
                refine hK.out _ _ trivial (fun hHeld2 => ?_)
                clear hK K hHeld
                have hHeld := hHeld2
                clear hHeld2
                (try simp only [Act.put, List.setIfInBounds_toArray, List.set_cons_zero, List.set_cons_succ])
                refine heldW (i := 23) (v := ?r1318v23) rfl (by kernel_rfl) (by kernel_rfl) (by kernel_rfl) (fun _ _ _ h => h) (by rfl) ?r1318hy23 hHeld ?r1318rest23
                case r1318hy23 => (intro w hSw; (try dsimp only at hSw); go_simp; try with_reducible rfl)
                simp only [Act.put, List.setIfInBounds_toArray, List.set_cons_zero, List.set_cons_succ]
                refine heldW (i := 24) (v := ?r1318v24) rfl (by kernel_rfl) (by kernel_rfl) (by kernel_rfl) (fun _ _ _ h => h) (by rfl) ?r1318hy24 hHeld ?r1318rest24
                case r1318hy24 => (intro w hSw; (try dsimp only at hSw); go_simp; try with_reducible rfl)
                simp only [Act.put, List.setIfInBounds_toArray, List.set_cons_zero, List.set_cons_succ]
                refine wpAnyH_done (by kernel_rfl) ?_ _
                go_wp2_with fail
                go_meet
                exact ⟨rfl, Lib.hid ⟨_, H8.out⟩⟩
              · (try rw [if_pos (by rfl)])
                go_simp
                refine hK.out _ _ trivial (fun hHeld2 => ?_)
                clear hK K hHeld
                have hHeld := hHeld2
                clear hHeld2
                (try simp only [Act.put, List.setIfInBounds_toArray, List.set_cons_zero, List.set_cons_succ])
                refine heldC (i := 18) rfl (by kernel_rfl) (by rfl) (fun K hK => ?_)
                go_simp
                refine H8.out.up.mono ?_
                rintro e w9 ⟨rfl, hw9⟩
                subst hw9
                (try go_wp2_with fail)
                refine hK.out _ _ trivial (fun hHeld2 => ?_)
                clear hK K hHeld
                have hHeld := hHeld2
                clear hHeld2
                (try simp only [Act.put, List.setIfInBounds_toArray, List.set_cons_zero, List.set_cons_succ])
                refine heldW (i := 23) (v := ?r1322v23) rfl (by kernel_rfl) (by kernel_rfl) (by kernel_rfl) (fun _ _ _ h => h) (by rfl) ?r1322hy23 hHeld ?r1322rest23
                case r1322hy23 => (intro w hSw; (try dsimp only at hSw); go_simp; try with_reducible rfl)
                simp only [Act.put, List.setIfInBounds_toArray, List.set_cons_zero, List.set_cons_succ]
                refine heldW (i := 24) (v := ?r1322v24) rfl (by kernel_rfl) (by kernel_rfl) (by kernel_rfl) (fun _ _ _ h => h) (by rfl) ?r1322hy24 hHeld ?r1322rest24
                case r1322hy24 => (intro w hSw; (try dsimp only at hSw); go_simp; try with_reducible rfl)
                simp only [Act.put, List.setIfInBounds_toArray, List.set_cons_zero, List.set_cons_succ]
                refine wpAnyH_done (by kernel_rfl) ?_ _
                go_wp2_with fail
                go_meet
                exact ⟨rfl, Lib.hid ⟨_, H8.out⟩⟩
          case rest =>
            obtain ⟨rfl, hwc⟩ := hcut
            obtain ⟨UT, hjt⟩ := hwc.out
            have HT := Lib.hid hjt
            have HZ9 := Lib.hid HZ2.out
            clear hjt hwc HPA HPB HJ6 HKB HRD HNU kc grl
            go_wp2_with fail
            refine (HT.out.read 2).mono ?_
            rintro e wa ⟨Aa, ca, rfl, hra, hna⟩
            have HTN := Lib.hid (HT.out.new hna)
            obtain ⟨k3, k31, bb, Ab, cb, k1, k2, k4, hrb⟩ := HTN.out.cells 2 (by omega)
            have hlf := HTN.out.wf.1.len 2
            have HRUN9 := Lib.hid (fun wx (hx : New wa wx) => (show JRun w g g2 _ _ (i + 1) wx from ⟨_, _, _, HTN.out.new hx, HZ9.out⟩))
            have HRB := Lib.hid hrb
            clear hrb hna HTN HT
            cases hoff : s2.off with
            | true =>
              rw [show Dk.read s2 2 = ([], 24) from by unfold Dk.read; rw [if_neg (by omega), if_pos hoff]] at hra ⊢
              rw [hoff] at k3
              clear hra
              go_wp2_with fail
              exact ⟨⟨i + 1, _, rfl, rfl, rfl, by omega, by omega, Lib.hid (HRUN9.out _ (Chg.refl _ _))⟩, by simp [intOf]; omega⟩
            | false =>
              rw [show Dk.read s2 2 = (s2.f 2, 0) from read_at (i := 2) (by omega) hoff] at hra ⊢
              rw [hoff] at k3
              dsimp only at hra ⊢
              obtain ⟨nf, hnf⟩ : ∃ nf, (s2.f 2).length = nf := ⟨_, rfl⟩
              have HRA := Lib.hid (show Rd wa Aa nf (bs (s2.f 2)) ∧ Rd wa Ab nf (bs (s2.f 2)) from ⟨hnf ▸ hra, hnf ▸ HRB.out⟩)
              rw [hnf] at k2 hlf ⊢
              clear hra hnf hoff
              go_wp2_with fail
              refine (sameBytes_any Aa Ab nf nf ca cb _ _ _ HRA.out.1 HRA.out.2 (by omega) (by omega)).mono ?_
              rintro e wb ⟨rfl, hnb⟩
              have HNB := Lib.hid hnb
              rw [decide_eq_true rfl]
              have k3b := hnb.cell k3 (fun h => h)
              have k31b := Nat.lt_of_lt_of_le k31 hnb.size
              clear hnb k1 k2 k3 k4 k31
              go_wp2_with fail
              exact ⟨⟨i + 1, _, rfl, rfl, rfl, by omega, by omega, Lib.hid (HRUN9.out _ HNB.out)⟩, by simp [intOf]; omega⟩
end Go.Proofs.Ytffehmfjcglalaa
