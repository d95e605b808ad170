/- The law PoolArguments. -/
import Derived.Test.YtbmplfhcdkeooaaPmDZ
import Derived.Test.YtbmplfhcdkeooaaPmFZ
import Derived.Test.YtbmplfhcdkeooaaPlOZ
import Derived.Test.YtbmplfhcdkeooaaPlIZ
import Derived.Test.YtbmplfhcdkeooaaArgs
set_option linter.unusedSimpArgs false
set_option linter.unusedVariables false
namespace Go.Proofs.Ytbmplfhcdkeooaa
set_option linter.unusedVariables false
open Go.RowKit Go.Mem Go.Pl

theorem add_tries (s : S) (id : Int) (l : List UInt8) : (Pl.add s id l).1.tries = s.tries := by
  unfold Pl.add; repeat' split
  all_goals rfl
theorem zeros_bs (n : Nat) : List.replicate n (Value.int .u8 0) = bs (List.replicate n 0) := by simp [bs, By]
theorem make_zs (N : Nat) (hN : N ≤ 100000) (zs : List UInt8) (hz : List.replicate N (Value.int .u8 0) = bs zs) (W : World) : ∃ w', (Instr.makeSlice 28 (.int .i64 (N : Int)) (.int .i64 (N : Int))).run Try.prog W = .ok (.slice (some ⟨W.heap.size, 0, none⟩) N N) w' ∧ Rd w' (some ⟨W.heap.size, 0, none⟩) N (bs zs) ∧ New W w' ∧ w'.heap.size = W.heap.size + 1 := by
  refine ⟨W.alloc (.cells (madeCells #[.int .u8 0] N) 5), ?_, ?_, (Chg.refl _ _).alloc _, Array.size_push _⟩
  · obtain ⟨ht, ⟨i, hi, hz0, hz1, hz2⟩, hzs⟩ := elemBytes
    have hr := run_make (P := Try.prog) (w := W) 28 5 i (.int .u8 0) ht hi hz0 .i64 .i64 (N : Int) (N : Int) (by omega) (by omega) (by rw [hz2]; omega) (by omega)
    simp only [Int.toNat_natCast, hz1, Nat.mul_one] at hr
    exact hr
  · have := World.ownsRow_lit (e := 5) (size := 1) W (madeCells #[.int .u8 0] N) N (Nat.le_refl _) (by simp only [maxLen]; omega) (by rw [size_madeCells, Nat.mul_one])
    rw [toList_madeCells_one, hz] at this
    exact Rd.of_own this
theorem rd_one (w : World) : Rd (w.alloc (.cells #[.int .u8 1] 5)) (some ⟨w.heap.size, 0, none⟩) ([1] : List UInt8).length (bs [1]) := by
  have h1 : Blk (w.alloc (.cells #[.int .u8 1] 5)) w.heap.size 5 #[.int .u8 1] := Blk.new _ _ _
  have e : bs ([1] : List UInt8) = [.int .u8 1] := by simp [bs, By]
  rw [e]
  exact ⟨rfl, fun _ => ⟨_, rfl, fun j v hv => by rw [Addr.add_lit, Nat.zero_add]; exact h1.cell j (by simpa using hv)⟩⟩
theorem blk_one {w w' : World} (hs : w'.heap.size = w.heap.size + 1) {k : Nat} (hk : Go.Mem.blk (some ⟨w.heap.size, 0, none⟩) = some k) : w.heap.size ≤ k ∧ k < w'.heap.size := by
  have : w.heap.size = k := by injection hk
  omega
theorem ask_len (s : S) (a t : Int) : (Pl.ask s a t).1.tries.length ≤ s.tries.length + 1 := by
  unfold Pl.ask; repeat' split
  all_goals simp [giveOut]
theorem answer_len (s : S) (a b c t : Int) (l : List UInt8) : (Pl.answer s a b c l t).1.tries.length = s.tries.length := by
  unfold Pl.answer; repeat' split
  all_goals simp [setAns]
theorem add_limit (s : S) (l : List UInt8) (h : 65536 < l.length) : Pl.add s 4 l = (s, 4) := by
  unfold Pl.add
  rw [if_neg (by omega), if_pos (.inl h)]
set_option maxHeartbeats 0 in
set_option maxRecDepth 100000 in
theorem poolArgs_walk (nw tm wk tk id : Int) (w : World) (hnw : Go.Mem.I64 nw) (htm : Go.Mem.I64 tm) (hwk : Go.Mem.I64 wk) (htk : Go.Mem.I64 tk) (hid : Go.Mem.I64 id) :
    Calls Try.prog 5 #[.int .i64 nw, .int .i64 tm, .int .i64 wk, .int .i64 tk, .int .i64 id] w fun e w' => e = .returned (.bool true) ∧ New w w' := by
  have HID := Lib.hid hid
  clear hnw htm hwk htk hid
  go_enter Try.func5, Try.ntmps5
  by_cases hok : 1 ≤ nw ∧ nw ≤ 8 ∧ 1 ≤ tm ∧ tm ≤ 1099511627776
  · as_aux_lemma =>
    obtain ⟨N, rfl⟩ : ∃ N : Nat, nw = (N : Int) := ⟨nw.toNat, by omega⟩
    have hN : 1 ≤ N ∧ N ≤ 8 := by omega
    have ht := hok.2.2
    clear hok
    go_wp2_with fail
    refine (plNew_any N tm hN ht (fun _ => ⟨0, .slice none 0 0, .slice none 0 0, .slice none 0 0⟩) w).mono ?_
    rintro e w1 ⟨g0, m0, dv0, rfl, _, hn1, _⟩
    have HN1 := Lib.hid hn1
    clear hn1
    go_wp2_with fail
    refine (rNew_any N tm hN ht).mono ?_
    rintro e w2 ⟨h0, al0, rfl, _, hn2, _⟩
    have HN2 := Lib.hid (HN1.out.trans hn2 (fun _ _ h => h))
    clear hn2 HN1
    go_wp2_with fail
    refine (plNew_any 2 5 (by omega) (by omega) (fun _ => ⟨0, .slice none 0 0, .slice none 0 0, .slice none 0 0⟩) w2).mono ?_
    rintro e w3 ⟨g, m, dv, rfl, hp1, hp2, hp3⟩
    have HP1 := Lib.hid (And.intro (hp1 (fun _ => False) (fun k hk => hk.elim)) (And.intro hp2 hp3))
    clear hp1 hp2 hp3
    go_wp2_with fail
    refine (rNew_any 2 5 (by omega) (by omega)).mono ?_
    rintro e w4 ⟨h, al, rfl, hr2, hn4, ho2⟩
    obtain ⟨U0, X0, hp⟩ := PM.start HP1.out.1 HP1.out.2.1 HP1.out.2.2 hr2 hn4 ho2
    obtain ⟨s0, hs0⟩ : ∃ s0, new 2 5 = s0 := ⟨_, rfl⟩
    rw [hs0] at hp
    have HW4 := Lib.hid (HN2.out.trans hp.was (fun _ _ h => h))
    have HPS := Lib.hid (PS.init hp)
    have HT0 := Lib.hid (show s0.tries.length = 0 by rw [← hs0]; rfl)
    clear HP1 hr2 hn4 ho2 hp hs0
    go_wp2_with fail
    refine (HPS.out.pAdd id HID.out (List.mem_cons_self ..) 0 0 rfl (by omega)).mono ?_
    rintro e w5 ⟨rfl, h5⟩
    have HM5 := Lib.hid (h5.mAdd HPS.out.wf id HID.out (List.mem_cons_self ..) 0 0 rfl (by omega) (by simp only [maxLen]; omega) (fun _ _ => trivial))
    clear h5
    obtain ⟨R, hR⟩ : ∃ R, Pl.add s0 id [] = R := ⟨_, rfl⟩
    rw [hR] at HM5 ⊢
    obtain ⟨s1, e1⟩ := R
    dsimp only at HM5 ⊢
    have HT1 := Lib.hid (show s1.tries.length = 0 by rw [show s1 = (Pl.add s0 id []).1 by rw [hR], add_tries]; exact HT0.out)
    clear hR
    go_wp2_with fail
    refine HM5.out.mono ?_
    rintro e w6 ⟨rfl, h6⟩
    have H6 := Lib.hid h6
    clear h6 HM5
    go_wp2_with fail
    obtain ⟨R, hR⟩ : ∃ R, Pl.add s1 3 [1] = R := ⟨_, rfl⟩
    have P7 := H6.out.fresh ((Chg.refl _ _).alloc (.cells #[.int .u8 1] 5)) (rd_one w6) (fun k hk => blk_one (Array.size_push _) hk)
    refine (P7.pAdd 3 ⟨by omega, by omega⟩ (List.mem_cons_self ..) 1 1 rfl (by omega)).mono ?_
    rintro e w7 ⟨rfl, h7⟩
    have HW1 := Lib.hid H6.out.wf
    have H7 := Lib.hid h7
    rw [hR]
    clear h7 P7 H6
    go_wp2_with fail
    have P8 := H7.out.fresh ((Chg.refl _ _).alloc (.cells #[.int .u8 1] 5)) (rd_one w7) (fun k hk => blk_one (Array.size_push _) hk)
    refine (P8.mAdd HW1.out 3 ⟨by omega, by omega⟩ (List.mem_cons_self ..) 1 1 rfl (by omega) (by simp only [maxLen]; omega) (fun _ _ => trivial)).mono ?_
    rintro e w8 ⟨rfl, h8⟩
    rw [hR] at h8 ⊢
    obtain ⟨s2, e2⟩ := R
    dsimp only at h8 ⊢
    have HT2 := Lib.hid (show s2.tries.length = 0 by rw [show s2 = (Pl.add s1 3 [1]).1 by rw [hR], add_tries]; exact HT1.out)
    have H8 := Lib.hid h8
    clear h8 P8 H7 hR HW1
    go_wp2_with fail
    obtain ⟨R, hR⟩ : ∃ R, Pl.add s2 id [] = R := ⟨_, rfl⟩
    refine (H8.out.pAdd id HID.out (A := none) (l := []) (by simp) 0 0 rfl (by omega)).mono ?_
    rintro e w9 ⟨rfl, h9⟩
    have H9 := Lib.hid (h9.mAdd H8.out.wf id HID.out (A := none) (l := []) (by simp) 0 0 rfl (by omega) (by simp only [maxLen]; omega) (fun _ _ => trivial))
    rw [hR] at H9 ⊢
    clear h9 H8
    obtain ⟨s3, e3⟩ := R
    dsimp only at H9 ⊢
    have HT3 := Lib.hid (show s3.tries.length = 0 by rw [show s3 = (Pl.add s2 id []).1 by rw [hR], add_tries]; exact HT2.out)
    clear hR
    go_wp2_with fail
    refine H9.out.mono ?_
    rintro e w10 ⟨rfl, h10⟩
    have H10 := Lib.hid h10
    clear h10 H9
    obtain ⟨zs, hzs⟩ : ∃ zs : List UInt8, List.replicate 65537 0 = zs := ⟨_, rfl⟩
    have hzl : zs.length = 65537 := by rw [← hzs, List.length_replicate]
    have HZB := Lib.hid (show List.replicate 65537 (Value.int .u8 0) = bs zs by rw [← hzs]; exact zeros_bs 65537)
    have HZL := Lib.hid hzl
    clear hzs hzl
    obtain ⟨w11, hmk, hrd11, hn11, hs11⟩ := make_zs 65537 (by omega) zs HZB.out w10
    have hmk : (Instr.makeSlice 28 (.int .i64 65537) (.int .i64 65537)).run Try.prog w10 = .ok (.slice (some ⟨w10.heap.size, 0, none⟩) 65537 65537) w11 := hmk
    have HX11 := Lib.hid (And.intro hrd11 (And.intro hn11 hs11))
    clear hrd11 hn11 hs11
    go_wp2_with fail
    have P11 := H10.out.fresh HX11.out.2.1 (A := some ⟨w10.heap.size, 0, none⟩) (l := zs) (by rw [HZL.out]; exact HX11.out.1) (fun k hk => blk_one HX11.out.2.2 hk)
    refine (P11.pAdd 4 ⟨by omega, by omega⟩ (List.mem_cons_self ..) 65537 65537 HZL.out (by omega)).mono ?_
    rintro e w12 ⟨rfl, h12⟩
    rw [add_limit s3 zs (by rw [HZL.out]; omega)] at h12 ⊢
    dsimp only at h12 ⊢
    have H12 := Lib.hid h12
    clear h12 P11 hmk HX11
    go_wp2_with fail
    refine (H12.out.pAsk wk tk (by rw [HT3.out]; omega)).mono ?_
    have hl4 := ask_len s3 wk tk
    rintro e w13 ⟨A13, c13, rfl, h13⟩
    obtain ⟨R, hR⟩ : ∃ R, Pl.ask s3 wk tk = R := ⟨_, rfl⟩
    rw [hR] at h13 hl4 ⊢
    obtain ⟨s4, id4, body4, num4, is4, err4⟩ := R
    dsimp only at h13 hl4 ⊢
    obtain ⟨bl4, hbl4⟩ : ∃ bl4, body4.length = bl4 := ⟨_, rfl⟩
    rw [hbl4]
    clear hbl4
    obtain ⟨w14, hw14⟩ : ∃ w14, w13.alloc (.cells #[.int .i64 id4, .slice A13 bl4 c13] 30) = w14 := ⟨_, rfl⟩
    obtain ⟨Bt, hBt⟩ : ∃ Bt, w13.heap.size = Bt := ⟨_, rfl⟩
    have h14 := h13.box 30 #[.int .i64 id4, .slice A13 bl4 c13]
    rw [hw14, hBt] at h14
    have HM := h14.mAsk H12.out.wf (by rw [HT3.out]; omega) wk tk
    rw [hR] at HM
    dsimp only at HM
    have HT4 := Lib.hid (show s4.tries.length ≤ 1 by rw [HT3.out] at hl4; omega)
    have HM14 := Lib.hid HM
    clear HM hR h13 h14 hl4 H12
    go_wp2_with fail
    refine HM14.out.mono ?_
    rintro e w15 ⟨rfl, h15⟩
    have t0 := (h15.bx_at (List.mem_cons_self ..)).cell 0 (u := .int .i64 id4) rfl
    have tl := (h15.bx_at (List.mem_cons_self ..)).lt
    dsimp only at t0 tl
    have H15 := Lib.hid h15
    clear h15 HM14
    go_wp2_with fail
    obtain ⟨R, hR⟩ : ∃ R, Pl.answer s4 id wk 0 [] tk = R := ⟨_, rfl⟩
    have hl5 := answer_len s4 id wk 0 tk []
    refine (H15.out.pAnswer id wk 0 tk HID.out ⟨by omega, by omega⟩ (A := none) (l := []) (by simp) 0 0 rfl (by omega)).mono ?_
    rintro e w16 ⟨rfl, h16⟩
    have HM16 := Lib.hid (h16.mAnswer H15.out.wf (by have := HT4.out; omega) id wk 0 tk (A := none) (l := []) (by simp) 0 0 rfl (by omega) (by simp only [maxLen]; omega) (fun _ _ => trivial))
    rw [hR] at HM16 hl5 ⊢
    obtain ⟨s5, f5, e5⟩ := R
    dsimp only at HM16 hl5 ⊢
    have HT5 := Lib.hid (show s5.tries.length ≤ 1 by have := HT4.out; omega)
    clear hR hl5 h16 H15 t0 tl
    go_wp2_with fail
    refine HM16.out.mono ?_
    rintro e w17 ⟨rfl, h17⟩
    have H17 := Lib.hid h17
    clear h17 HM16
    go_wp2_with fail
    refine (H17.out.pAsk 0 3 (by have := HT5.out; omega)).mono ?_
    have hl6 := ask_len s5 0 3
    rintro e w18 ⟨A18, c18, rfl, h18⟩
    obtain ⟨R, hR⟩ : ∃ R, Pl.ask s5 0 3 = R := ⟨_, rfl⟩
    have HM := h18.mAsk H17.out.wf (by have := HT5.out; omega) 0 3
    rw [hR] at HM hl6 ⊢
    obtain ⟨s6, id6, body6, num6, is6, err6⟩ := R
    dsimp only at HM hl6 ⊢
    have HT6 := Lib.hid (show s6.tries.length ≤ 2 by have := HT5.out; omega)
    have HM18 := Lib.hid HM
    clear HM hR h18 hl6 H17
    go_wp2_with fail
    refine HM18.out.mono ?_
    rintro e w19 ⟨rfl, h19⟩
    have H19 := Lib.hid h19
    clear h19 HM18
    obtain ⟨w20, hmk, hrd20, hn20, hs20⟩ := make_zs 65537 (by omega) zs HZB.out w19
    have hmk : (Instr.makeSlice 28 (.int .i64 65537) (.int .i64 65537)).run Try.prog w19 = .ok (.slice (some ⟨w19.heap.size, 0, none⟩) 65537 65537) w20 := hmk
    have HX20 := Lib.hid (And.intro hrd20 (And.intro hn20 hs20))
    clear hrd20 hn20 hs20
    go_wp2_with fail
    have P20 := H19.out.fresh HX20.out.2.1 (A := some ⟨w19.heap.size, 0, none⟩) (l := zs) (by rw [HZL.out]; exact HX20.out.1) (fun k hk => blk_one HX20.out.2.2 hk)
    obtain ⟨R, hR⟩ : ∃ R, Pl.answer s6 3 0 0 zs 1099511627776 = R := ⟨_, rfl⟩
    have hl7 := answer_len s6 3 0 0 1099511627776 zs
    refine (P20.pAnswer 3 0 0 1099511627776 ⟨by omega, by omega⟩ ⟨by omega, by omega⟩ (List.mem_cons_self ..) 65537 65537 HZL.out (by omega)).mono ?_
    rintro e w21 ⟨rfl, h21⟩
    have HW6 := Lib.hid H19.out.wf
    have H21 := Lib.hid h21
    clear h21 P20 hmk HX20 H19
    obtain ⟨w22, hmk, hrd22, hn22, hs22⟩ := make_zs 65537 (by omega) zs HZB.out w21
    have hmk : (Instr.makeSlice 28 (.int .i64 65537) (.int .i64 65537)).run Try.prog w21 = .ok (.slice (some ⟨w21.heap.size, 0, none⟩) 65537 65537) w22 := hmk
    have HX22 := Lib.hid (And.intro hrd22 (And.intro hn22 hs22))
    clear hrd22 hn22 hs22
    have HM22 := Lib.hid ((H21.out.fresh HX22.out.2.1 (A := some ⟨w21.heap.size, 0, none⟩) (l := zs) (by rw [HZL.out]; exact HX22.out.1) (fun k hk => blk_one HX22.out.2.2 hk)).mAnswer HW6.out (by have := HT6.out; omega) 3 0 0 1099511627776 (List.mem_cons_self ..) 65537 65537 HZL.out (by omega) (by simp only [maxLen]; omega) (fun _ _ => trivial))
    rw [hR] at HM22 hl7 ⊢
    obtain ⟨s7, f7, e7⟩ := R
    dsimp only at HM22 hl7 ⊢
    have HT7 := Lib.hid (show s7.tries.length ≤ 2 by have := HT6.out; omega)
    clear hR hl7 H21 HX22
    go_wp2_with fail
    refine HM22.out.mono ?_
    rintro e w23 ⟨rfl, h23⟩
    have H23 := Lib.hid h23
    clear h23 HM22 hmk HW6
    go_wp2_with fail
    obtain ⟨R, hR⟩ : ∃ R, Pl.die s7 wk tk = R := ⟨_, rfl⟩
    refine (H23.out.pDie wk tk).mono ?_
    rintro e w24 ⟨rfl, h24⟩
    have HM24 := Lib.hid (h24.mDie H23.out.wf (by have := HT7.out; omega) wk tk)
    rw [hR] at HM24 ⊢
    obtain ⟨s8, e8⟩ := R
    dsimp only at HM24 ⊢
    clear hR h24 H23
    go_wp2_with fail
    refine HM24.out.mono ?_
    rintro e w25 ⟨rfl, h25⟩
    have H25 := Lib.hid h25
    clear h25 HM24
    go_wp2_with fail
    obtain ⟨R, hR⟩ : ∃ R, revive s8 wk = R := ⟨_, rfl⟩
    refine (H25.out.pRevive wk).mono ?_
    rintro e w26 ⟨rfl, h26⟩
    have HM26 := Lib.hid (h26.mRevive H25.out.wf wk)
    rw [hR] at HM26 ⊢
    obtain ⟨s9, e9⟩ := R
    dsimp only at HM26 ⊢
    clear hR h26 H25
    go_wp2_with fail
    refine HM26.out.mono ?_
    rintro e w27 ⟨rfl, h27⟩
    obtain ⟨U9, X9, hp9, _⟩ := h27.out
    have HAG := Lib.hid (agrees_any hp9)
    have HWA := Lib.hid hp9.was
    clear h27 hp9 HM26
    go_wp2_with fail
    refine HAG.out.mono ?_
    rintro e w28 ⟨rfl, hn28⟩
    have HN28 := Lib.hid (HN2.out.trans (HWA.out.trans hn28 (fun _ _ h => h)) (fun _ _ h => h))
    clear hn28 HAG HWA
    go_wp2_with fail
    refine (plives_any _).mono ?_
    rintro e w29 ⟨rfl, hn29⟩
    have HN29 := Lib.hid (HN28.out.trans hn29 (fun _ _ h => h))
    clear hn29 HN28
    go_wp2_with fail
    go_ret
    exact ⟨by simp, HN29.out⟩
  · as_aux_lemma =>
    have hbad : ¬ NewOk nw tm := hok
    have hbad2 : nw < 1 ∨ 8 < nw ∨ tm < 1 ∨ 1099511627776 < tm := by omega
    clear hok
    go_wp2_with fail
    refine (plNew_bad nw tm hbad w).mono ?_
    rintro e w1 ⟨rfl, hw1⟩
    subst hw1
    go_wp2_with fail
    refine (rNew_bad nw tm hbad2).mono ?_
    rintro e w2 ⟨rfl, hw2⟩
    subst hw2
    have HN2 := Lib.hid (show New w2 w2 from Chg.refl _ _)
    clear hbad hbad2
    go_wp2_with fail
    refine (plNew_any 2 5 (by omega) (by omega) (fun _ => ⟨0, .slice none 0 0, .slice none 0 0, .slice none 0 0⟩) w2).mono ?_
    rintro e w3 ⟨g, m, dv, rfl, hp1, hp2, hp3⟩
    have HP1 := Lib.hid (And.intro (hp1 (fun _ => False) (fun k hk => hk.elim)) (And.intro hp2 hp3))
    clear hp1 hp2 hp3
    go_wp2_with fail
    refine (rNew_any 2 5 (by omega) (by omega)).mono ?_
    rintro e w4 ⟨h, al, rfl, hr2, hn4, ho2⟩
    obtain ⟨U0, X0, hp⟩ := PM.start HP1.out.1 HP1.out.2.1 HP1.out.2.2 hr2 hn4 ho2
    obtain ⟨s0, hs0⟩ : ∃ s0, new 2 5 = s0 := ⟨_, rfl⟩
    rw [hs0] at hp
    have HW4 := Lib.hid (HN2.out.trans hp.was (fun _ _ h => h))
    have HPS := Lib.hid (PS.init hp)
    have HT0 := Lib.hid (show s0.tries.length = 0 by rw [← hs0]; rfl)
    clear HP1 hr2 hn4 ho2 hp hs0
    go_wp2_with fail
    refine (HPS.out.pAdd id HID.out (List.mem_cons_self ..) 0 0 rfl (by omega)).mono ?_
    rintro e w5 ⟨rfl, h5⟩
    have HM5 := Lib.hid (h5.mAdd HPS.out.wf id HID.out (List.mem_cons_self ..) 0 0 rfl (by omega) (by simp only [maxLen]; omega) (fun _ _ => trivial))
    clear h5
    obtain ⟨R, hR⟩ : ∃ R, Pl.add s0 id [] = R := ⟨_, rfl⟩
    rw [hR] at HM5 ⊢
    obtain ⟨s1, e1⟩ := R
    dsimp only at HM5 ⊢
    have HT1 := Lib.hid (show s1.tries.length = 0 by rw [show s1 = (Pl.add s0 id []).1 by rw [hR], add_tries]; exact HT0.out)
    clear hR
    go_wp2_with fail
    refine HM5.out.mono ?_
    rintro e w6 ⟨rfl, h6⟩
    have H6 := Lib.hid h6
    clear h6 HM5
    go_wp2_with fail
    obtain ⟨R, hR⟩ : ∃ R, Pl.add s1 3 [1] = R := ⟨_, rfl⟩
    have P7 := H6.out.fresh ((Chg.refl _ _).alloc (.cells #[.int .u8 1] 5)) (rd_one w6) (fun k hk => blk_one (Array.size_push _) hk)
    refine (P7.pAdd 3 ⟨by omega, by omega⟩ (List.mem_cons_self ..) 1 1 rfl (by omega)).mono ?_
    rintro e w7 ⟨rfl, h7⟩
    have HW1 := Lib.hid H6.out.wf
    have H7 := Lib.hid h7
    rw [hR]
    clear h7 P7 H6
    go_wp2_with fail
    have P8 := H7.out.fresh ((Chg.refl _ _).alloc (.cells #[.int .u8 1] 5)) (rd_one w7) (fun k hk => blk_one (Array.size_push _) hk)
    refine (P8.mAdd HW1.out 3 ⟨by omega, by omega⟩ (List.mem_cons_self ..) 1 1 rfl (by omega) (by simp only [maxLen]; omega) (fun _ _ => trivial)).mono ?_
    rintro e w8 ⟨rfl, h8⟩
    rw [hR] at h8 ⊢
    obtain ⟨s2, e2⟩ := R
    dsimp only at h8 ⊢
    have HT2 := Lib.hid (show s2.tries.length = 0 by rw [show s2 = (Pl.add s1 3 [1]).1 by rw [hR], add_tries]; exact HT1.out)
    have H8 := Lib.hid h8
    clear h8 P8 H7 hR HW1
    go_wp2_with fail
    obtain ⟨R, hR⟩ : ∃ R, Pl.add s2 id [] = R := ⟨_, rfl⟩
    refine (H8.out.pAdd id HID.out (A := none) (l := []) (by simp) 0 0 rfl (by omega)).mono ?_
    rintro e w9 ⟨rfl, h9⟩
    have H9 := Lib.hid (h9.mAdd H8.out.wf id HID.out (A := none) (l := []) (by simp) 0 0 rfl (by omega) (by simp only [maxLen]; omega) (fun _ _ => trivial))
    rw [hR] at H9 ⊢
    clear h9 H8
    obtain ⟨s3, e3⟩ := R
    dsimp only at H9 ⊢
    have HT3 := Lib.hid (show s3.tries.length = 0 by rw [show s3 = (Pl.add s2 id []).1 by rw [hR], add_tries]; exact HT2.out)
    clear hR
    go_wp2_with fail
    refine H9.out.mono ?_
    rintro e w10 ⟨rfl, h10⟩
    have H10 := Lib.hid h10
    clear h10 H9
    obtain ⟨zs, hzs⟩ : ∃ zs : List UInt8, List.replicate 65537 0 = zs := ⟨_, rfl⟩
    have hzl : zs.length = 65537 := by rw [← hzs, List.length_replicate]
    have HZB := Lib.hid (show List.replicate 65537 (Value.int .u8 0) = bs zs by rw [← hzs]; exact zeros_bs 65537)
    have HZL := Lib.hid hzl
    clear hzs hzl
    obtain ⟨w11, hmk, hrd11, hn11, hs11⟩ := make_zs 65537 (by omega) zs HZB.out w10
    have hmk : (Instr.makeSlice 28 (.int .i64 65537) (.int .i64 65537)).run Try.prog w10 = .ok (.slice (some ⟨w10.heap.size, 0, none⟩) 65537 65537) w11 := hmk
    have HX11 := Lib.hid (And.intro hrd11 (And.intro hn11 hs11))
    clear hrd11 hn11 hs11
    go_wp2_with fail
    have P11 := H10.out.fresh HX11.out.2.1 (A := some ⟨w10.heap.size, 0, none⟩) (l := zs) (by rw [HZL.out]; exact HX11.out.1) (fun k hk => blk_one HX11.out.2.2 hk)
    refine (P11.pAdd 4 ⟨by omega, by omega⟩ (List.mem_cons_self ..) 65537 65537 HZL.out (by omega)).mono ?_
    rintro e w12 ⟨rfl, h12⟩
    rw [add_limit s3 zs (by rw [HZL.out]; omega)] at h12 ⊢
    dsimp only at h12 ⊢
    have H12 := Lib.hid h12
    clear h12 P11 hmk HX11
    go_wp2_with fail
    refine (H12.out.pAsk wk tk (by rw [HT3.out]; omega)).mono ?_
    have hl4 := ask_len s3 wk tk
    rintro e w13 ⟨A13, c13, rfl, h13⟩
    obtain ⟨R, hR⟩ : ∃ R, Pl.ask s3 wk tk = R := ⟨_, rfl⟩
    rw [hR] at h13 hl4 ⊢
    obtain ⟨s4, id4, body4, num4, is4, err4⟩ := R
    dsimp only at h13 hl4 ⊢
    obtain ⟨bl4, hbl4⟩ : ∃ bl4, body4.length = bl4 := ⟨_, rfl⟩
    rw [hbl4]
    clear hbl4
    obtain ⟨w14, hw14⟩ : ∃ w14, w13.alloc (.cells #[.int .i64 id4, .slice A13 bl4 c13] 30) = w14 := ⟨_, rfl⟩
    obtain ⟨Bt, hBt⟩ : ∃ Bt, w13.heap.size = Bt := ⟨_, rfl⟩
    have h14 := h13.box 30 #[.int .i64 id4, .slice A13 bl4 c13]
    rw [hw14, hBt] at h14
    have HM := h14.mAsk H12.out.wf (by rw [HT3.out]; omega) wk tk
    rw [hR] at HM
    dsimp only at HM
    have HT4 := Lib.hid (show s4.tries.length ≤ 1 by rw [HT3.out] at hl4; omega)
    have HM14 := Lib.hid HM
    clear HM hR h13 h14 hl4 H12
    go_wp2_with fail
    refine HM14.out.mono ?_
    rintro e w15 ⟨rfl, h15⟩
    have t0 := (h15.bx_at (List.mem_cons_self ..)).cell 0 (u := .int .i64 id4) rfl
    have tl := (h15.bx_at (List.mem_cons_self ..)).lt
    dsimp only at t0 tl
    have H15 := Lib.hid h15
    clear h15 HM14
    go_wp2_with fail
    obtain ⟨R, hR⟩ : ∃ R, Pl.answer s4 id wk 0 [] tk = R := ⟨_, rfl⟩
    have hl5 := answer_len s4 id wk 0 tk []
    refine (H15.out.pAnswer id wk 0 tk HID.out ⟨by omega, by omega⟩ (A := none) (l := []) (by simp) 0 0 rfl (by omega)).mono ?_
    rintro e w16 ⟨rfl, h16⟩
    have HM16 := Lib.hid (h16.mAnswer H15.out.wf (by have := HT4.out; omega) id wk 0 tk (A := none) (l := []) (by simp) 0 0 rfl (by omega) (by simp only [maxLen]; omega) (fun _ _ => trivial))
    rw [hR] at HM16 hl5 ⊢
    obtain ⟨s5, f5, e5⟩ := R
    dsimp only at HM16 hl5 ⊢
    have HT5 := Lib.hid (show s5.tries.length ≤ 1 by have := HT4.out; omega)
    clear hR hl5 h16 H15 t0 tl
    go_wp2_with fail
    refine HM16.out.mono ?_
    rintro e w17 ⟨rfl, h17⟩
    have H17 := Lib.hid h17
    clear h17 HM16
    go_wp2_with fail
    refine (H17.out.pAsk 0 3 (by have := HT5.out; omega)).mono ?_
    have hl6 := ask_len s5 0 3
    rintro e w18 ⟨A18, c18, rfl, h18⟩
    obtain ⟨R, hR⟩ : ∃ R, Pl.ask s5 0 3 = R := ⟨_, rfl⟩
    have HM := h18.mAsk H17.out.wf (by have := HT5.out; omega) 0 3
    rw [hR] at HM hl6 ⊢
    obtain ⟨s6, id6, body6, num6, is6, err6⟩ := R
    dsimp only at HM hl6 ⊢
    have HT6 := Lib.hid (show s6.tries.length ≤ 2 by have := HT5.out; omega)
    have HM18 := Lib.hid HM
    clear HM hR h18 hl6 H17
    go_wp2_with fail
    refine HM18.out.mono ?_
    rintro e w19 ⟨rfl, h19⟩
    have H19 := Lib.hid h19
    clear h19 HM18
    obtain ⟨w20, hmk, hrd20, hn20, hs20⟩ := make_zs 65537 (by omega) zs HZB.out w19
    have hmk : (Instr.makeSlice 28 (.int .i64 65537) (.int .i64 65537)).run Try.prog w19 = .ok (.slice (some ⟨w19.heap.size, 0, none⟩) 65537 65537) w20 := hmk
    have HX20 := Lib.hid (And.intro hrd20 (And.intro hn20 hs20))
    clear hrd20 hn20 hs20
    go_wp2_with fail
    have P20 := H19.out.fresh HX20.out.2.1 (A := some ⟨w19.heap.size, 0, none⟩) (l := zs) (by rw [HZL.out]; exact HX20.out.1) (fun k hk => blk_one HX20.out.2.2 hk)
    obtain ⟨R, hR⟩ : ∃ R, Pl.answer s6 3 0 0 zs 1099511627776 = R := ⟨_, rfl⟩
    have hl7 := answer_len s6 3 0 0 1099511627776 zs
    refine (P20.pAnswer 3 0 0 1099511627776 ⟨by omega, by omega⟩ ⟨by omega, by omega⟩ (List.mem_cons_self ..) 65537 65537 HZL.out (by omega)).mono ?_
    rintro e w21 ⟨rfl, h21⟩
    have HW6 := Lib.hid H19.out.wf
    have H21 := Lib.hid h21
    clear h21 P20 hmk HX20 H19
    obtain ⟨w22, hmk, hrd22, hn22, hs22⟩ := make_zs 65537 (by omega) zs HZB.out w21
    have hmk : (Instr.makeSlice 28 (.int .i64 65537) (.int .i64 65537)).run Try.prog w21 = .ok (.slice (some ⟨w21.heap.size, 0, none⟩) 65537 65537) w22 := hmk
    have HX22 := Lib.hid (And.intro hrd22 (And.intro hn22 hs22))
    clear hrd22 hn22 hs22
    have HM22 := Lib.hid ((H21.out.fresh HX22.out.2.1 (A := some ⟨w21.heap.size, 0, none⟩) (l := zs) (by rw [HZL.out]; exact HX22.out.1) (fun k hk => blk_one HX22.out.2.2 hk)).mAnswer HW6.out (by have := HT6.out; omega) 3 0 0 1099511627776 (List.mem_cons_self ..) 65537 65537 HZL.out (by omega) (by simp only [maxLen]; omega) (fun _ _ => trivial))
    rw [hR] at HM22 hl7 ⊢
    obtain ⟨s7, f7, e7⟩ := R
    dsimp only at HM22 hl7 ⊢
    have HT7 := Lib.hid (show s7.tries.length ≤ 2 by have := HT6.out; omega)
    clear hR hl7 H21 HX22
    go_wp2_with fail
    refine HM22.out.mono ?_
    rintro e w23 ⟨rfl, h23⟩
    have H23 := Lib.hid h23
    clear h23 HM22 hmk HW6
    go_wp2_with fail
    obtain ⟨R, hR⟩ : ∃ R, Pl.die s7 wk tk = R := ⟨_, rfl⟩
    refine (H23.out.pDie wk tk).mono ?_
    rintro e w24 ⟨rfl, h24⟩
    have HM24 := Lib.hid (h24.mDie H23.out.wf (by have := HT7.out; omega) wk tk)
    rw [hR] at HM24 ⊢
    obtain ⟨s8, e8⟩ := R
    dsimp only at HM24 ⊢
    clear hR h24 H23
    go_wp2_with fail
    refine HM24.out.mono ?_
    rintro e w25 ⟨rfl, h25⟩
    have H25 := Lib.hid h25
    clear h25 HM24
    go_wp2_with fail
    obtain ⟨R, hR⟩ : ∃ R, revive s8 wk = R := ⟨_, rfl⟩
    refine (H25.out.pRevive wk).mono ?_
    rintro e w26 ⟨rfl, h26⟩
    have HM26 := Lib.hid (h26.mRevive H25.out.wf wk)
    rw [hR] at HM26 ⊢
    obtain ⟨s9, e9⟩ := R
    dsimp only at HM26 ⊢
    clear hR h26 H25
    go_wp2_with fail
    refine HM26.out.mono ?_
    rintro e w27 ⟨rfl, h27⟩
    obtain ⟨U9, X9, hp9, _⟩ := h27.out
    have HAG := Lib.hid (agrees_any hp9)
    have HWA := Lib.hid hp9.was
    clear h27 hp9 HM26
    go_wp2_with fail
    refine HAG.out.mono ?_
    rintro e w28 ⟨rfl, hn28⟩
    have HN28 := Lib.hid (HN2.out.trans (HWA.out.trans hn28 (fun _ _ h => h)) (fun _ _ h => h))
    clear hn28 HAG HWA
    go_wp2_with fail
    refine (plives_any _).mono ?_
    rintro e w29 ⟨rfl, hn29⟩
    have HN29 := Lib.hid (HN28.out.trans hn29 (fun _ _ h => h))
    clear hn29 HN28
    go_wp2_with fail
    go_ret
    exact ⟨by simp, HN29.out⟩
end Go.Proofs.Ytbmplfhcdkeooaa
