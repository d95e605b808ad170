/- An operation on a pool and on the model. -/
import Derived.Test.YtbmplfhcdkeooaaG6
import Derived.Deep.RegionLaw
import Derived.Test.YtbmplfhcdkeooaaG7
import Derived.Test.YtbmplfhcdkeooaaBase
set_option linter.unusedSimpArgs false
set_option linter.unusedVariables false
namespace Go.Proofs.Ytbmplfhcdkeooaa
set_option linter.unusedVariables false
open Go.RowKit Go.Mem Go.Pl

theorem try_range {s : S} (hw : WF s) (hN : s.tries.length ≤ 1000000) {t : Tr} (ht : t ∈ s.tries) : Go.Mem.I64 t.task ∧ Go.Mem.I64 t.num := by
  obtain ⟨⟨j, hj, ej⟩, _⟩ := hw.tr t ht
  have h1 := hw.idr j hj
  have hm : t ∈ triesOf s j.id := by unfold triesOf; exact List.mem_filter.2 ⟨ht, by simp [ej]⟩
  obtain ⟨k, hk⟩ := List.getElem?_of_mem hm
  have h2 := (hw.num j hj).2 k t hk
  have h3 : k < (triesOf s j.id).length := (List.getElem?_eq_some_iff.1 hk).1
  have h4 : (triesOf s j.id).length ≤ s.tries.length := by unfold triesOf; exact List.length_filter_le _ _
  unfold Go.Mem.I64
  omega
def opBx (Bo : Nat) (kd wk nn : Int) (Ab : Option Addr) (cb : Nat) (wt : Int) : Bxr := ⟨Bo, 47, #[.int .i64 kd, .int .i64 wk, .int .i64 nn, .slice Ab 2 cb, .int .i64 wt]⟩
set_option maxHeartbeats 0 in
set_option maxRecDepth 100000 in
theorem step_any {U X : Nat → Prop} {w wr : World} {g h : Nat} {s : S} (hp : PM U X w g h s s wr) (hN : s.tries.length ≤ 1000) (o : OpP) (ho : o.Ok) (Ab : Option Addr) (cb : Nat) (hr : Rd wr Ab 2 (bs o.body)) (hcb : 2 ≤ cb ∧ cb ≤ maxLen) (hA : ∀ k, blk Ab = some k → k < wr.heap.size ∧ ¬ U k) :
    Calls Try.prog 19 #[.pointer (some ⟨g, 0, none⟩), .pointer (some ⟨h, 0, none⟩), .agg #[.int .i64 o.kind, .int .i64 o.worker, .int .i64 o.n, .slice Ab 2 cb, .int .i64 o.wait]] wr fun e w' => e = .returned (.bool true) ∧ ∃ U' X', PM U' X' w g h (stepS s o) (stepS s o) w' ∧ PMStep (fun k => blk Ab = some k) U X U' X' wr w' := by
  obtain ⟨kd, wk, nn, bd, wt⟩ := o
  obtain ⟨o1, o2, o3, o4, o5, o6, o7⟩ := ho
  dsimp only at hr o1 o2 o3 o4 o5 o6 o7 ⊢
  obtain ⟨hcb1, hcb2⟩ := hcb
  have hwf := hp.wf
  have hps : PS (fun k => blk Ab = some k) U X w wr g h [] [(Ab, bd)] s s wr := PS.start hp _ (fun b hb => by
    rcases List.mem_singleton.1 hb with rfl
    exact ⟨by dsimp only; rw [o4]; exact hr, hA⟩)
  obtain ⟨w4, hw4⟩ : ∃ w4, wr.alloc (.cells #[.int .i64 kd, .int .i64 wk, .int .i64 nn, .slice Ab 2 cb, .int .i64 wt] 47) = w4 := ⟨_, rfl⟩
  obtain ⟨Bo, hBo⟩ : ∃ Bo, wr.heap.size = Bo := ⟨_, rfl⟩
  have hob := hps.box 47 #[.int .i64 kd, .int .i64 wk, .int .i64 nn, .slice Ab 2 cb, .int .i64 wt]
  rw [hw4] at hob
  rw [hBo] at hob
  obtain ⟨bo, hbo⟩ : ∃ bo, opBx Bo kd wk nn Ab cb wt = bo := ⟨_, rfl⟩
  have hbo' : (⟨Bo, 47, #[.int .i64 kd, .int .i64 wk, .int .i64 nn, .slice Ab 2 cb, .int .i64 wt]⟩ : Bxr) = bo := hbo
  rw [hbo'] at hob
  have HSK := Lib.hid (show ∀ (bx' : List Bxr) (by' : List (Option Addr × List UInt8)) (sp sr : S) (Wx : World), PS (fun k => blk Ab = some k) U X w wr g h (bx' ++ [bo]) by' sp sr Wx → Wx.cell? ⟨Bo, 0, none⟩ = some (.int .i64 kd) ∧ Wx.cell? ⟨Bo, 1, none⟩ = some (.int .i64 wk) ∧ Wx.cell? ⟨Bo, 2, none⟩ = some (.int .i64 nn) ∧ Wx.cell? ⟨Bo, 3, none⟩ = some (.slice Ab 2 cb) ∧ Wx.cell? ⟨Bo, 4, none⟩ = some (.int .i64 wt) from fun bx' by' sp sr Wx hx => by
    have hbx := hx.bx_at (List.mem_append_right _ (List.mem_cons_self ..))
    rw [← hbo] at hbx
    exact ⟨hbx.cell 0 rfl, hbx.cell 1 rfl, hbx.cell 2 rfl, hbx.cell 3 rfl, hbx.cell 4 rfl⟩)
  obtain ⟨b0, b1, b2, b3, b4⟩ := HSK.out [] _ _ _ _ hob
  have hbx := hob.bx_at (List.mem_cons_self ..)
  rw [← hbo] at hbx
  have hbl := hbx.lt
  obtain ⟨al, jv, tv, TR, hrf⟩ := hob.rf
  obtain ⟨m0, m1, m2, m3, m4⟩ := hrf.cells
  have hhl := hrf.blk.lt
  obtain ⟨tk1, tk2⟩ := hwf.tk
  have HRF := Lib.hid hrf
  have HWF := Lib.hid hwf
  have HOB := Lib.hid hob
  have HO4 := Lib.hid o4
  have HO6 := Lib.hid o6
  have HO7 := Lib.hid o7
  clear hp hr hA hwf hps hob hbx hrf o4 o6 o7 hbo hbo'
  obtain ⟨tk, htk⟩ : ∃ tk, s.tick + wt = tk := ⟨_, rfl⟩
  go_enter Try.func19, Try.ntmps19
  go_wp2_with fail
  go_quiet (fail)
  generalize hwd : World.drewN w4 _ = wd
  have hnd : New w4 wd := by rw [← hwd]; exact (Chg.refl _ _).drewN _
  have hod := HOB.out.new hnd
  have hbl0 : Bo < w4.heap.size := hbl
  clear b0 b1 b2 b3 b4 m0 m1 m2 m3 m4 hhl hwd HRF hbl
  obtain ⟨al, jv, tv, TR, hrf⟩ := hod.rf
  obtain ⟨m0, m1, m2, m3, m4⟩ := hrf.cells
  have hhl := hrf.blk.lt
  obtain ⟨b0, b1, b2, b3, b4⟩ := HSK.out [] _ _ _ _ hod
  have hbl : Bo < wd.heap.size := Nat.lt_of_lt_of_le hbl0 hnd.size
  have HRF := Lib.hid hrf
  have HOD := Lib.hid hod
  clear hrf hod HOB hnd

  have HTK := Lib.hid htk
  clear htk
  rcases (show kd = 0 ∨ kd = 4 ∨ kd = 1 ∨ kd = 3 ∨ kd = 2 by omega) with rfl | rfl | rfl | rfl | rfl
  · as_aux_lemma =>
      have HPA := Lib.hid (show ∀ Wx, New wd Wx → Calls Try.prog 12 #[.pointer (some ⟨g, 0, none⟩), .agg #[.int .i64 nn, .slice Ab 2 cb]] Wx fun e w' => e = .returned (.int .i64 (Pl.add s nn bd).2) ∧ PS (fun k => blk Ab = some k) U X w wr g h [bo] [(Ab, bd)] (Pl.add s nn bd).1 s w' from fun Wx hx => (HOD.out.new hx).pAdd nn ⟨by omega, by omega⟩ (List.mem_cons_self ..) 2 cb HO4.out (by omega))
      have HMA := Lib.hid (show ∀ Wx, PS (fun k => blk Ab = some k) U X w wr g h [bo] [(Ab, bd)] (Pl.add s nn bd).1 s Wx → Calls Try.prog 21 #[.pointer (some ⟨h, 0, none⟩), .int .i64 nn, .slice Ab 2 cb] Wx fun e w' => e = .returned (.int .i64 (Pl.add s nn bd).2) ∧ PS (fun k => blk Ab = some k) U X w wr g h [bo] [(Ab, bd)] (Pl.add s nn bd).1 (Pl.add s nn bd).1 w' from fun Wx hx => hx.mAdd HWF.out nn ⟨by omega, by omega⟩ (List.mem_cons_self ..) 2 cb HO4.out hcb1 hcb2 (fun k hk => hk))
      go_wp2_with fail
      go_region_held3 (fun Wx => Wx.cell? ⟨Bo, 2, none⟩ = some (.int .i64 nn) ∧ Wx.cell? ⟨Bo, 3, none⟩ = some (.slice Ab 2 cb)) (first | exact hS5 | exact hS6 | exact ⟨b2, b3⟩)
        (first
        | (go_at_call 12; (with_reducible refine (HPA.out _ ?_).mono ?_); (first | exact (Chg.refl _ _).drew | exact Chg.refl _ _); rintro e w5 ⟨rfl, h5⟩; (have hS5 : w5.cell? ⟨Bo, 2, none⟩ = some (.int .i64 nn) ∧ w5.cell? ⟨Bo, 3, none⟩ = some (.slice Ab 2 cb) := ⟨(HSK.out [] _ _ _ _ h5).2.2.1, (HSK.out [] _ _ _ _ h5).2.2.2.1⟩))
        | (go_at_call 21; (with_reducible refine (HMA.out _ h5).mono ?_); rintro e w6 ⟨rfl, h6⟩; (have hS6 : w6.cell? ⟨Bo, 2, none⟩ = some (.int .i64 nn) ∧ w6.cell? ⟨Bo, 3, none⟩ = some (.slice Ab 2 cb) := ⟨(HSK.out [] _ _ _ _ h6).2.2.1, (HSK.out [] _ _ _ _ h6).2.2.2.1⟩)))
      have H6 := Lib.hid h6
      clear h6
      obtain ⟨r, hr⟩ : ∃ r, (Pl.add s nn bd).2 = r := ⟨_, rfl⟩
      rw [hr]
      go_wp2_with fail
      go_ret
      exact ⟨by simp, H6.out.out⟩
  · as_aux_lemma =>
      have HPA := Lib.hid (show ∀ Wx, New wd Wx → Calls Try.prog 26 #[.pointer (some ⟨g, 0, none⟩), .int .i64 wk] Wx fun e w' => e = .returned (.int .i64 (revive s wk).2) ∧ PS (fun k => blk Ab = some k) U X w wr g h [bo] [(Ab, bd)] (revive s wk).1 s w' from fun Wx hx => (HOD.out.new hx).pRevive wk)
      have HMA := Lib.hid (show ∀ Wx, PS (fun k => blk Ab = some k) U X w wr g h [bo] [(Ab, bd)] (revive s wk).1 s Wx → Calls Try.prog 27 #[.pointer (some ⟨h, 0, none⟩), .int .i64 wk] Wx fun e w' => e = .returned (.int .i64 (revive s wk).2) ∧ PS (fun k => blk Ab = some k) U X w wr g h [bo] [(Ab, bd)] (revive s wk).1 (revive s wk).1 w' from fun Wx hx => hx.mRevive HWF.out wk)
      go_wp2_with fail
      go_region_held3 (fun Wx => Wx.cell? ⟨Bo, 1, none⟩ = some (.int .i64 wk)) (first | exact hS5 | exact hS6 | exact b1)
        (first
        | (go_at_call 26; (with_reducible refine (HPA.out _ ?_).mono ?_); (first | exact (Chg.refl _ _).drew | exact Chg.refl _ _); rintro e w5 ⟨rfl, h5⟩; (have hS5 : w5.cell? ⟨Bo, 1, none⟩ = some (.int .i64 wk) := (HSK.out [] _ _ _ _ h5).2.1))
        | (go_at_call 27; (with_reducible refine (HMA.out _ h5).mono ?_); rintro e w6 ⟨rfl, h6⟩; (have hS6 : w6.cell? ⟨Bo, 1, none⟩ = some (.int .i64 wk) := (HSK.out [] _ _ _ _ h6).2.1)))
      have H6 := Lib.hid h6
      clear h6
      obtain ⟨r, hr⟩ : ∃ r, (revive s wk).2 = r := ⟨_, rfl⟩
      rw [hr]
      go_wp2_with fail
      go_ret
      exact ⟨by simp, H6.out.out⟩
  · as_aux_lemma =>
      have hps := fun Wx (hx : Wx = wd) => (hx ▸ HOD.out : PS (fun k => blk Ab = some k) U X w wr g h [bo] [(Ab, bd)] s s Wx).pAsk wk tk (by omega)
      have HPS := Lib.hid (hps wd rfl)
      clear hps
      obtain ⟨R, hR⟩ : ∃ R, Pl.ask s wk tk = R := ⟨_, rfl⟩
      have hfind : R.2.is = true → WF R.1 → ∃ (i : Nat) (j : Job), find R.1 R.2.id = (i : Int) ∧ R.1.jobs[i]? = some j ∧ j.body = R.2.body := by rw [← hR]; exact fun a b => ask_find b a
      have hout : stepS s ⟨1, wk, nn, bd, wt⟩ = R.1 := by rw [← hR, ← HTK.out]; rfl
      rw [hR] at HPS
      obtain ⟨s5, id, body, num, isq, err⟩ := R
      dsimp only at HPS hfind hout
      have HOUT := Lib.hid hout
      obtain ⟨bl, hbl5⟩ : ∃ bl, body.length = bl := ⟨_, rfl⟩
      rw [hbl5] at HPS
      have HBL := Lib.hid hbl5
      have HFI := Lib.hid hfind
      clear hfind hbl5 hout
      go_wp2_with fail
      refine HPS.out.mono ?_
      rintro e w5 ⟨A5, c5, rfl, h5⟩
      obtain ⟨w6, hw6⟩ : ∃ w6, w5.alloc (.cells #[.int .i64 id, .slice A5 bl c5] 30) = w6 := ⟨_, rfl⟩
      obtain ⟨Bt, hBt⟩ : ∃ Bt, w5.heap.size = Bt := ⟨_, rfl⟩
      have h6 := h5.box 30 #[.int .i64 id, .slice A5 bl c5]
      rw [hw6, hBt] at h6
      obtain ⟨x0, x1, x2, x3, x4⟩ := HSK.out [_] _ _ _ _ h6
      have hma := h6.mAsk HWF.out (by omega) wk tk
      rw [hR] at hma
      dsimp only at hma
      have HMA := Lib.hid hma
      clear hma h6 h5 hR HPS
      go_wp2_with fail
      refine HMA.out.mono ?_
      rintro e w7 ⟨rfl, h7⟩
      have t0 := (h7.bx_at (List.mem_cons_self ..)).cell 0 (u := .int .i64 id) rfl
      have t1 := (h7.bx_at (List.mem_cons_self ..)).cell 1 (u := .slice A5 bl c5) rfl
      have tl := (h7.bx_at (List.mem_cons_self ..)).lt
      dsimp only at t0 t1 tl
      have HFF := Lib.hid (h7.mFind id)
      have H7 := Lib.hid h7
      clear h7 HMA
      cases isq with
      | false =>
        go_wp2_with fail
        refine HFF.out.mono ?_
        rintro e w8 ⟨rfl, hw8⟩
        subst hw8
        obtain ⟨fi, hfi⟩ : ∃ fi, find s5 id = fi := ⟨_, rfl⟩
        rw [hfi]
        clear hfi
        go_wp2_with fail
        go_quiet (fail)
        go_wp2_with fail
        go_ret
        exact ⟨rfl, by rw [HOUT.out]; exact (H7.out.new ((Chg.refl _ _).drewN _)).out⟩
      | true =>
        obtain ⟨i, j, hfi, hj, hjb⟩ := HFI.out rfl H7.out.wf
        rw [hfi] at HFF
        obtain ⟨al', jv', tv', TR', hrf'⟩ := H7.out.rf
        obtain ⟨n0, n1, n2, n3, n4⟩ := hrf'.cells
        have hhl' := hrf'.blk.lt
        obtain ⟨gj, cj, bv, av, hv, hbv, _, _, q1, _⟩ := hrf'.jobs.at_ hj
        obtain ⟨A9, c9, hbv1, hbv2, hbv3, hbv4, _⟩ := hbv
        rw [hjb, HBL.out] at hbv1 hbv2 hbv3
        have hr5 := H7.out.rd_at (List.mem_cons_self ..)
        dsimp only at hr5
        rw [HBL.out] at hr5
        have hjl : i < s5.jobs.length := (List.getElem?_eq_some_iff.1 hj).1
        obtain ⟨jl, hjl'⟩ : ∃ jl, s5.jobs.length = jl := ⟨_, rfl⟩
        rw [hjl'] at hv hjl
        subst hv hbv1
        have HQ := Lib.hid (fun d => sameBytes_q A5 A9 bl bl c5 c9 body body (w7.drewN d) (hr5.new ((Chg.refl _ _).drewN d)) (hbv2.new ((Chg.refl _ _).drewN d)) (by simp only [maxLen] at hbv4; omega) (by simp only [maxLen] at hbv4; omega))
        have hjl2 : (i : Int) < (jl : Int) := by omega
        clear hrf' hbv2 hr5 hj hfi hjb hjl'
        go_wp2_with fail
        refine HFF.out.mono ?_
        rintro e w8 ⟨rfl, hw8⟩
        subst hw8
        go_wp2_with fail
        go_quiet (first | (go_at_call 34; exact Calls.quiet_of (HQ.out _)))
        go_wp2_with fail
        go_ret
        exact ⟨by simp, by rw [HOUT.out]; exact (H7.out.new ((Chg.refl _ _).drewN _)).out⟩
  · as_aux_lemma =>
      have HPA := Lib.hid (show ∀ Wx, New wd Wx → Calls Try.prog 24 #[.pointer (some ⟨g, 0, none⟩), .int .i64 wk, .int .i64 tk] Wx fun e w' => e = .returned (.int .i64 (Pl.die s wk tk).2) ∧ PS (fun k => blk Ab = some k) U X w wr g h [bo] [(Ab, bd)] (Pl.die s wk tk).1 s w' from fun Wx hx => (HOD.out.new hx).pDie wk tk)
      have HMA := Lib.hid (show ∀ Wx, PS (fun k => blk Ab = some k) U X w wr g h [bo] [(Ab, bd)] (Pl.die s wk tk).1 s Wx → Calls Try.prog 25 #[.pointer (some ⟨h, 0, none⟩), .int .i64 wk, .int .i64 tk] Wx fun e w' => e = .returned (.int .i64 (Pl.die s wk tk).2) ∧ PS (fun k => blk Ab = some k) U X w wr g h [bo] [(Ab, bd)] (Pl.die s wk tk).1 (Pl.die s wk tk).1 w' from fun Wx hx => hx.mDie HWF.out (by omega) wk tk)
      go_wp2_with fail
      go_region_held3 (fun Wx => Wx.cell? ⟨Bo, 1, none⟩ = some (.int .i64 wk)) (first | exact hS5 | exact hS6 | exact b1)
        (first
        | (go_at_call 24; (with_reducible refine (HPA.out _ ?_).mono ?_); (first | exact (Chg.refl _ _).drew | exact Chg.refl _ _); rintro e w5 ⟨rfl, h5⟩; (have hS5 : w5.cell? ⟨Bo, 1, none⟩ = some (.int .i64 wk) := (HSK.out [] _ _ _ _ h5).2.1))
        | (go_at_call 25; (with_reducible refine (HMA.out _ h5).mono ?_); rintro e w6 ⟨rfl, h6⟩; (have hS6 : w6.cell? ⟨Bo, 1, none⟩ = some (.int .i64 wk) := (HSK.out [] _ _ _ _ h6).2.1)))
      have H6 := Lib.hid h6
      clear h6
      obtain ⟨r, hr⟩ : ∃ r, (Pl.die s wk tk).2 = r := ⟨_, rfl⟩
      rw [hr]
      go_wp2_with fail
      go_ret
      exact ⟨by simp, by rw [show stepS s ⟨3, wk, nn, bd, wt⟩ = (Pl.die s wk tk).1 by rw [← HTK.out]; rfl]; exact H6.out.out⟩
  · as_aux_lemma =>
      obtain ⟨q, rfl⟩ : ∃ q : Nat, nn = (q : Int) := ⟨nn.toNat, by have := HO7.out (by simp); omega⟩
      obtain ⟨T, hT⟩ : ∃ T, s.tries.length = T := ⟨_, rfl⟩
      obtain ⟨_, _, A3, c3, htv⟩ := HRF.out.shape
      have HNN := Lib.hid (show s.tries.length ≤ 1000000 by omega)
      rw [hT] at htv hN
      subst htv
      by_cases hT0 : T = 0
      · subst hT0
        obtain ⟨a13, ha13⟩ : ∃ z, (q : Int) % 13 = z := ⟨_, rfl⟩
        obtain ⟨b13, hb13⟩ : ∃ z, (q : Int) / 13 = z := ⟨_, rfl⟩
        have HI1 := Lib.hid (show Go.Mem.I64 a13 from ⟨by omega, by omega⟩)
        have HI2 := Lib.hid (show Go.Mem.I64 b13 from ⟨by omega, by omega⟩)
        have hpick : pickT s ⟨2, wk, (q : Int), bd, wt⟩ = (a13, wk, b13) := by
          unfold pickT
          rw [if_neg (by dsimp only; omega), ← ha13, ← hb13]
        have HOUT := Lib.hid (show stepS s ⟨2, wk, (q : Int), bd, wt⟩ = (Pl.answer s a13 wk b13 bd tk).1 by
          rw [show stepS s ⟨2, wk, (q : Int), bd, wt⟩ = (Pl.answer s (pickT s ⟨2, wk, (q : Int), bd, wt⟩).1 (pickT s ⟨2, wk, (q : Int), bd, wt⟩).2.1 (pickT s ⟨2, wk, (q : Int), bd, wt⟩).2.2 bd (s.tick + wt)).1 from rfl, hpick, HTK.out])
        clear hpick
        have HOE := HOD
        go_wp2_with fail
        refine (HOE.out.pAnswer a13 wk b13 tk HI1.out HI2.out (List.mem_cons_self ..) 2 cb HO4.out (by omega)).mono ?_
        rintro e w7 ⟨rfl, h7⟩
        obtain ⟨y0, y1, y2, y3, y4⟩ := HSK.out [] _ _ _ _ h7
        have HM7 := Lib.hid (h7.mAnswer HWF.out HNN.out a13 wk b13 tk (List.mem_cons_self ..) 2 cb HO4.out hcb1 hcb2 (fun k hk => hk))
        clear h7
        obtain ⟨R, hR⟩ : ∃ R, Pl.answer s a13 wk b13 bd tk = R := ⟨_, rfl⟩
        rw [hR] at HM7 HOUT ⊢
        obtain ⟨s5, first, err⟩ := R
        dsimp only at HM7 HOUT ⊢
        clear hR
        go_wp2_with fail
        refine HM7.out.mono ?_
        rintro e w8 ⟨rfl, h8⟩
        have H8 := Lib.hid h8
        clear h8 HM7
        go_wp2_with fail
        go_ret
        exact ⟨by simp, by rw [HOUT.out]; exact H8.out.out⟩
      by_cases hq5 : (q : Int) % 5 = 0
      · obtain ⟨a13, ha13⟩ : ∃ z, (q : Int) % 13 = z := ⟨_, rfl⟩
        obtain ⟨b13, hb13⟩ : ∃ z, (q : Int) / 13 = z := ⟨_, rfl⟩
        have HI1 := Lib.hid (show Go.Mem.I64 a13 from ⟨by omega, by omega⟩)
        have HI2 := Lib.hid (show Go.Mem.I64 b13 from ⟨by omega, by omega⟩)
        have hpick : pickT s ⟨2, wk, (q : Int), bd, wt⟩ = (a13, wk, b13) := by
          unfold pickT
          rw [if_neg (by dsimp only; omega), ← ha13, ← hb13]
        have HOUT := Lib.hid (show stepS s ⟨2, wk, (q : Int), bd, wt⟩ = (Pl.answer s a13 wk b13 bd tk).1 by
          rw [show stepS s ⟨2, wk, (q : Int), bd, wt⟩ = (Pl.answer s (pickT s ⟨2, wk, (q : Int), bd, wt⟩).1 (pickT s ⟨2, wk, (q : Int), bd, wt⟩).2.1 (pickT s ⟨2, wk, (q : Int), bd, wt⟩).2.2 bd (s.tick + wt)).1 from rfl, hpick, HTK.out])
        clear hpick
        have hT1 : (0 : Int) < (T : Int) := by omega
        have HOE := HOD
        go_wp2_with fail
        refine (HOE.out.pAnswer a13 wk b13 tk HI1.out HI2.out (List.mem_cons_self ..) 2 cb HO4.out (by omega)).mono ?_
        rintro e w7 ⟨rfl, h7⟩
        obtain ⟨y0, y1, y2, y3, y4⟩ := HSK.out [] _ _ _ _ h7
        have HM7 := Lib.hid (h7.mAnswer HWF.out HNN.out a13 wk b13 tk (List.mem_cons_self ..) 2 cb HO4.out hcb1 hcb2 (fun k hk => hk))
        clear h7
        obtain ⟨R, hR⟩ : ∃ R, Pl.answer s a13 wk b13 bd tk = R := ⟨_, rfl⟩
        rw [hR] at HM7 HOUT ⊢
        obtain ⟨s5, first, err⟩ := R
        dsimp only at HM7 HOUT ⊢
        clear hR
        go_wp2_with fail
        refine HM7.out.mono ?_
        rintro e w8 ⟨rfl, h8⟩
        have H8 := Lib.hid h8
        clear h8 HM7
        go_wp2_with fail
        go_ret
        exact ⟨by simp, by rw [HOUT.out]; exact H8.out.out⟩
      have hT1 : (0 : Int) < (T : Int) := by omega
      have hq6 : (0 : Int) < (q : Int) % 5 := by omega
      obtain ⟨k, hk⟩ : ∃ k : Nat, q % T = k := ⟨_, rfl⟩
      have hkT : k < T := by rw [← hk]; exact Nat.mod_lt _ (by omega)
      have hkI : (q : Int) % (T : Int) = (k : Int) := by rw [← hk]; omega
      have hkI2 : (q : Int).tmod (T : Int) = (k : Int) := by rw [Int.tmod_eq_emod_of_nonneg (by omega)]; exact hkI
      have hkT2 : (k : Int) < (T : Int) := by omega
      have bT : ((T : Int) == 0) = false := by rw [beq_eq_false_iff_ne]; omega
      obtain ⟨y, hy⟩ : ∃ y, s.tries[k]? = some y := ⟨_, List.getElem?_eq_getElem (by omega)⟩
      obtain ⟨gt, c9, hv, k0, k1, k2, k3, k4, _⟩ := HRF.out.try_at hy
      injection hv with hv1 hv2 hv3
      subst hv1 hv3
      have hyr := try_range HWF.out HNN.out (List.mem_of_getElem? hy)
      have hpick : pickT s ⟨2, wk, (q : Int), bd, wt⟩ = (y.task, y.worker, y.num) := by
        unfold pickT
        rw [if_pos (by dsimp only; omega)]
        dsimp only
        rw [hT, hkI, Int.toNat_natCast, hy]
      have HOUT := Lib.hid (show stepS s ⟨2, wk, (q : Int), bd, wt⟩ = (Pl.answer s y.task y.worker y.num bd tk).1 by
        rw [show stepS s ⟨2, wk, (q : Int), bd, wt⟩ = (Pl.answer s (pickT s ⟨2, wk, (q : Int), bd, wt⟩).1 (pickT s ⟨2, wk, (q : Int), bd, wt⟩).2.1 (pickT s ⟨2, wk, (q : Int), bd, wt⟩).2.2 bd (s.tick + wt)).1 from rfl, hpick, HTK.out])
      clear hpick hv2
      have p4 := (HRF.out.new ((Chg.refl _ _).alloc (.cells #[.int .i64 0, .int .i64 0, .int .i64 0, .int .i64 0, .bool false] 109))).cells.2.2.2.2
      have pb2 := (HSK.out [_] _ _ _ _ (HOD.out.box 109 #[.int .i64 0, .int .i64 0, .int .i64 0, .int .i64 0, .bool false])).2.2.1
      obtain ⟨gt', c9', hv', l0, l1, l2, l3, l4, _⟩ := (HRF.out.new ((Chg.refl _ _).alloc (.cells #[.int .i64 0, .int .i64 0, .int .i64 0, .int .i64 0, .bool false] 109))).try_at hy
      injection hv' with hv1' hv2' hv3'
      injection hv1' with hv1'
      injection hv1' with hv1'
      subst hv1' hv3'
      clear hv2'
      obtain ⟨yt, yn, yw, yk, yo⟩ := y
      dsimp only at k0 k1 k2 k3 k4 l0 l1 l2 l3 l4 hyr HOUT
      have HI1 := Lib.hid hyr.1
      have HI2 := Lib.hid hyr.2
      obtain ⟨w6, hw6⟩ : ∃ w6, wd.alloc (.cells #[.int .i64 yt, .int .i64 yn, .int .i64 yw, .int .i64 yk, .bool yo] 109) = w6 := ⟨_, rfl⟩
      obtain ⟨By_, hBy⟩ : ∃ By_, wd.heap.size = By_ := ⟨_, rfl⟩
      have h6 := HOD.out.box 109 #[.int .i64 yt, .int .i64 yn, .int .i64 yw, .int .i64 yk, .bool yo]
      rw [hw6, hBy] at h6
      obtain ⟨x0, x1, x2, x3, x4⟩ := HSK.out [_] _ _ _ _ h6
      have z0 := (h6.bx_at (List.mem_cons_self ..)).cell 0 (u := .int .i64 yt) rfl
      have z1 := (h6.bx_at (List.mem_cons_self ..)).cell 1 (u := .int .i64 yn) rfl
      have z2 := (h6.bx_at (List.mem_cons_self ..)).cell 2 (u := .int .i64 yw) rfl
      have zl := (h6.bx_at (List.mem_cons_self ..)).lt
      dsimp only at z0 z1 z2 zl
      obtain ⟨al2, jv2, tv2, TR2, hrf2⟩ := h6.rf
      have HOE := Lib.hid h6
      clear h6 hy hyr hrf2
      have hn6 : New wd w6 := by rw [← hw6]; exact (Chg.refl _ _).alloc _
      have r4 := hn6.cell m4 (fun h => h)
      have r0_ := hn6.cell k0 (fun h => h)
      have r1_ := hn6.cell k1 (fun h => h)
      have r2_ := hn6.cell k2 (fun h => h)
      have r3_ := hn6.cell k3 (fun h => h)
      have r4_ := hn6.cell k4 (fun h => h)
      go_upto_region 17 with fail
      go_cut [20] from 25 to 208 (fun v wx => v = .pointer (some ⟨By_, 0, none⟩) ∧ wx = w6.drew)
      case first =>
        go_region_held3 (fun Wx => Wx.cell? ⟨h, 4, none⟩ = some (.slice (some ⟨gt, 0, none⟩) T c3) ∧ Wx.cell? ⟨Bo, 2, none⟩ = some (.int .i64 (q : Int)) ∧ Wx.cell? ⟨gt, k * 5, none⟩ = some (.int .i64 yt) ∧ Wx.cell? ⟨gt, k * 5 + 1, none⟩ = some (.int .i64 yn) ∧ Wx.cell? ⟨gt, k * 5 + 2, none⟩ = some (.int .i64 yw) ∧ Wx.cell? ⟨gt, k * 5 + 3, none⟩ = some (.int .i64 yk) ∧ Wx.cell? ⟨gt, k * 5 + 4, none⟩ = some (.bool yo)) (first | exact ⟨m4, b2, k0, k1, k2, k3, k4⟩ | exact ⟨p4, pb2, l0, l1, l2, l3, l4⟩ | exact ⟨r4, x2, r0_, r1_, r2_, r3_, r4_⟩) (fail)
        all_goals (go_wp2_with fail; go_meet; exact ⟨rfl, rfl⟩)

      case rest =>
        obtain ⟨rfl, hwc⟩ := hcut
        subst hwc
        go_wp2_with fail
        refine ((HOE.out.new (Chg.refl _ _).drew).pAnswer yt yw yn tk HI1.out HI2.out (List.mem_cons_self ..) 2 cb HO4.out (by omega)).mono ?_
        rintro e w7 ⟨rfl, h7⟩
        obtain ⟨y0, y1, y2, y3, y4⟩ := HSK.out [_] _ _ _ _ h7
        have HM7 := Lib.hid (h7.mAnswer HWF.out HNN.out yt yw yn tk (List.mem_cons_self ..) 2 cb HO4.out hcb1 hcb2 (fun k hk => hk))
        clear h7
        obtain ⟨R, hR⟩ : ∃ R, Pl.answer s yt yw yn bd tk = R := ⟨_, rfl⟩
        rw [hR] at HM7 HOUT ⊢
        obtain ⟨s5, first, err⟩ := R
        dsimp only at HM7 HOUT ⊢
        clear hR
        go_wp2_with fail
        refine HM7.out.mono ?_
        rintro e w8 ⟨rfl, h8⟩
        have H8 := Lib.hid h8
        clear h8 HM7
        go_wp2_with fail
        go_ret
        exact ⟨by simp, by rw [HOUT.out]; exact H8.out.out⟩
end Go.Proofs.Ytbmplfhcdkeooaa
