/- The law PoolOnce. -/
import Derived.Test.YtbmplfhcdkeooaaPlT
import Derived.Test.YtbmplfhcdkeooaaMemMk
import Derived.Test.YtbmplfhcdkeooaaPlO
import Derived.Test.YtbmplfhcdkeooaaArgs
namespace Go.Proofs.Ytbmplfhcdkeooaa
set_option linter.unusedVariables false
open Go.RowKit Go.Mem Go.Pl

set_option maxHeartbeats 4000000 in
set_option maxRecDepth 100000 in
theorem poolOnce_walk (A1 : Option Addr) (n1 c1 : Nat) (L : List Int) (tm : Int) (w : World) (hr1 : Rd w A1 n1 (is L)) (hL : ∀ z ∈ L, -9223372036854775808 ≤ z ∧ z ≤ 9223372036854775807) (hn1 : n1 ≤ 9223372036854775807) (htm : Go.Mem.I64 tm) :
    Calls Try.prog 6 #[.slice A1 n1 c1, .int .i64 tm] w fun e w' => e = .returned (.bool true) ∧ New w w' := by
  obtain ⟨q3, q4⟩ := aroundI_range tm 9 (by omega)
  obtain ⟨K, hK⟩ : ∃ K : Nat, aroundI tm 9 = (K : Int) := ⟨(aroundI tm 9).toNat, by omega⟩
  have hK8 : K ≤ 8 := by omega
  have HK := Lib.hid hK
  have HR1 := Lib.hid hr1
  have HL := Lib.hid hL
  clear hK q3 q4 hr1 hL
  obtain ⟨htm1, htm2⟩ := htm
  go_enter Try.func6, Try.ntmps6
  go_wp2_with fail
  refine (around_any tm 9 _ htm1 htm2 (by omega) (by omega)).mono ?_
  rintro e w1 ⟨rfl, hw⟩
  subst hw
  rw [HK.out]
  go_wp2_with fail
  refine (p2New 4 (1 + (K : Int)) (by omega) (by omega) w w (Chg.refl _ _)).mono ?_
  rintro e w1 ⟨g, O1, Z1, rfl, hp, _⟩
  have HP := Lib.hid hp
  clear hp
  go_wp2_with fail
  refine (rScript_any A1 n1 c1 L 40 (by omega) w1 (HR1.out.new HP.out.was) HL.out hn1).mono ?_
  rintro e w2 ⟨A2, c2, rfl, hsc, hn2⟩
  obtain ⟨os, hos⟩ : ∃ os, script L 40 = os := ⟨_, rfl⟩
  have hos40 : os.length ≤ 40 := by rw [← hos]; unfold script; rw [scrTo_len]; omega
  have hok : ∀ (j : Nat) o, os[j]? = some o → o.Ok := fun j o h => by rw [← hos] at h; exact script_ok h
  rw [hos] at hsc ⊢
  obtain ⟨n, hn⟩ : ∃ n, os.length = n := ⟨_, rfl⟩
  rw [hn] at hsc hos40 ⊢
  have HSC := Lib.hid hsc
  have HOK := Lib.hid hok
  have HN := Lib.hid hn
  have HN2 := Lib.hid hn2
  clear hsc hok hn hn2 hos
  go_wp2_with (at_make; refine wpList_mk elemInts rfl rfl _ _ rfl (n := 16) rfl rfl (by omega) (by omega) (by omega) (by simp only [maxLen]; omega) ?_; intro w3 hown hn3 hsz3)
  obtain ⟨gv, hgv⟩ : ∃ gv, w2.heap.size = gv := ⟨_, rfl⟩
  obtain ⟨hon, hans⟩ := On.start (lim := 1 + (K : Int)) (by omega)
  have HOS := Lib.hid (show OS w w2 w1.heap.size g (1 + (K : Int)) (.slice none 0 0) (.slice (some ⟨gv, 0, none⟩) 16 16) [] [] (ansL (new 4 (1 + (K : Int)))) (new 4 (1 + (K : Int))) w3 from OS.start hon HP.out HN2.out hn3 (by rw [hans, ← hgv]; exact hown))
  rw [hgv]
  clear hown hn3 hsz3 hon hans hgv
  go_wp2_with fail
  go_loopw [9, 10, 12] (fun t v i wr => ∃ (k T : Nat) (A : Option Addr) (m c : Nat) (s : S), i = .int .i64 (k : Int) ∧ k ≤ n ∧ t = .int .i64 (T : Int) ∧ T ≤ 3 * k ∧ v = .slice A m c ∧ m ≤ k ∧ Hid (OS w w2 w1.heap.size g (1 + (K : Int)) (.slice A m c) (.slice (some ⟨gv, 0, none⟩) 16 16) [] s.tries (ansL s) s wr ∧ s.tick = (T : Int) ∧ s.tries.length = m)) (fun _ _ i _ => n - (intOf i).toNat)
  case atStart => exact ⟨0, 0, none, 0, 0, new 4 (1 + (K : Int)), rfl, by omega, rfl, by omega, rfl, by omega, Lib.hid ⟨HOS.out, rfl, rfl⟩⟩
  case round =>
    obtain ⟨k, T, A, m, c, s, rfl, hk, rfl, hT, rfl, hm, hh⟩ := hrel
    by_cases hlt : k < n
    · obtain ⟨o, ho⟩ : ∃ o, os[k]? = some o := ⟨_, List.getElem?_eq_getElem (by have := HN.out; omega)⟩
      have hok := HOK.out k o ho
      have hsc : ScrV wr w1.heap.size (.slice A2 n c2) os := HSC.out.chg hh.out.1.scr (fun k' _ h1 h2 => by omega)
      obtain ⟨ga, c9, Ab, cb, hv, k0, k1, k2, k3, k4, _, _⟩ := hsc.at_ ho
      injection hv with hv1 hv2 hv3
      subst hv1 hv3
      obtain ⟨kd, wk, nn, bd, wt⟩ := o
      obtain ⟨o1, o2, o3, o4, o5, o6, o7⟩ := hok
      dsimp only at k0 k1 k2 k3 k4 o1 o2 o3 o4 o5 o6 o7
      obtain ⟨bl, hbl⟩ : ∃ bl, bd.length = bl := ⟨_, rfl⟩
      rw [hbl] at k3
      have HO6 := Lib.hid o6
      have HO7 := Lib.hid o7
      clear ho hsc hv2 o4 hbl o6 o7
      obtain ⟨wp, hwp⟩ : ∃ wp : Nat, max (0 : Int) wt = (wp : Int) := ⟨(max (0 : Int) wt).toNat, by omega⟩
      have hwp3 : wp ≤ 3 := by omega
      obtain ⟨w4, hw4⟩ : ∃ w4, wr.alloc (.cells #[.int .i64 kd, .int .i64 wk, .int .i64 nn, .slice Ab bl cb, .int .i64 wt] 47) = w4 := ⟨_, rfl⟩
      obtain ⟨B, hB⟩ : ∃ B, wr.heap.size = B := ⟨_, rfl⟩
      have hob := hh.out.1.box 47 #[.int .i64 kd, .int .i64 wk, .int .i64 nn, .slice Ab bl cb, .int .i64 wt]
      rw [hw4, hB] at hob
      have hbx := hob.bx_at (List.mem_cons_self ..)
      dsimp only at hbx
      have b0 := hbx.cell 0 (u := .int .i64 kd) rfl
      have b1 := hbx.cell 1 (u := .int .i64 wk) rfl
      have b2 := hbx.cell 2 (u := .int .i64 nn) rfl
      have b4 := hbx.cell 4 (u := .int .i64 wt) rfl
      have hBl := hbx.lt
      have HOB := Lib.hid (And.intro hob hh.out.2)
      have HWAS := Lib.hid hh.out.1.was
      clear hob hbx hh
      rcases (show kd = 0 ∨ kd = 4 ∨ kd = 1 ∨ kd = 3 ∨ kd = 2 by omega) with rfl | rfl | rfl | rfl | rfl
      · as_aux_lemma =>
          go_wp2_with fail
          refine (HOB.out.1.add nn ⟨o3.1, HO6.out (by simp)⟩).mono ?_
          rintro e w5 ⟨⟨r, rfl⟩, s5, h5, ht5, hl5⟩
          have H5 := Lib.hid (show OS w w2 w1.heap.size g (1 + (K : Int)) (.slice A m c) (.slice (some ⟨gv, 0, none⟩) 16 16) [] s5.tries (ansL s5) s5 w5 ∧ s5.tick = (T : Int) ∧ s5.tries.length = m from ⟨h5.drop [] (fun b hb => by simp at hb), ht5.trans HOB.out.2.1, by rw [hl5]; exact HOB.out.2.2⟩)
          clear h5 ht5 hl5
          go_wp2_with fail
          exact ⟨⟨k + 1, T, A, m, c, s5, rfl, by omega, rfl, by omega, rfl, by omega, H5⟩, by simp [intOf]; omega⟩
      · as_aux_lemma =>
          go_wp2_with fail
          refine (HOB.out.1.revive wk).mono ?_
          rintro e w5 ⟨⟨r, rfl⟩, s5, h5, ht5, hl5⟩
          have H5 := Lib.hid (show OS w w2 w1.heap.size g (1 + (K : Int)) (.slice A m c) (.slice (some ⟨gv, 0, none⟩) 16 16) [] s5.tries (ansL s5) s5 w5 ∧ s5.tick = (T : Int) ∧ s5.tries.length = m from ⟨h5.drop [] (fun b hb => by simp at hb), ht5.trans HOB.out.2.1, by rw [hl5]; exact HOB.out.2.2⟩)
          clear h5 ht5 hl5
          go_wp2_with fail
          exact ⟨⟨k + 1, T, A, m, c, s5, rfl, by omega, rfl, by omega, rfl, by omega, H5⟩, by simp [intOf]; omega⟩
      · as_aux_lemma =>
          go_wp2_with fail
          obtain ⟨now, hnow⟩ : ∃ now : Nat, T + wp = now := ⟨_, rfl⟩
          have hnowI : (T : Int) + (wp : Int) = (now : Int) := by omega
          rw [hnowI]
          refine (HOB.out.1.ask wk (now : Int) (by have := HOB.out.2.2; omega)).mono ?_
          have hask := HOB.out.1.on.ask wk (now : Int)
          obtain ⟨R, hR⟩ : ∃ R, Pl.ask s wk (now : Int) = R := ⟨_, rfl⟩
          rw [hR] at hask ⊢
          obtain ⟨s5, id, body, num, isq, err⟩ := R
          dsimp only at hask ⊢
          rintro e w5 ⟨A5, n5, c5, rfl, h5⟩
          obtain ⟨a1, a2, a3, a4, a5⟩ := hask
          cases isq with
          | false =>
            have hl5 := a4 rfl
            by_cases herr : err = 0
            · subst herr
              have H5 := Lib.hid (show OS w w2 w1.heap.size g (1 + (K : Int)) (.slice A m c) (.slice (some ⟨gv, 0, none⟩) 16 16) [] s5.tries (ansL s5) s5 w5 ∧ s5.tick = (now : Int) ∧ s5.tries.length = m from ⟨by rw [hl5, a2]; exact h5.drop [] (fun b hb => by simp at hb), by simpa using a3, by rw [hl5]; exact HOB.out.2.2⟩)
              clear h5 hl5 a1 a2 a3 a4 a5 hR
              go_wp2_with fail
              exact ⟨⟨k + 1, now, A, m, c, s5, rfl, by omega, rfl, by omega, rfl, by omega, Lib.hid ⟨H5.out.1.new ((Chg.refl _ _).alloc _), H5.out.2⟩⟩, by simp [intOf]; omega⟩
            · have H5 := Lib.hid (show OS w w2 w1.heap.size g (1 + (K : Int)) (.slice A m c) (.slice (some ⟨gv, 0, none⟩) 16 16) [] s5.tries (ansL s5) s5 w5 ∧ s5.tick = (T : Int) ∧ s5.tries.length = m from ⟨by rw [hl5, a2]; exact h5.drop [] (fun b hb => by simp at hb), by rw [a3, if_neg herr]; exact HOB.out.2.1, by rw [hl5]; exact HOB.out.2.2⟩)
              have herrb : (err == 0) = false := by rw [beq_eq_false_iff_ne]; exact herr
              clear h5 hl5 a1 a2 a3 a4 a5 hR herr
              go_wp2_with fail
              exact ⟨⟨k + 1, T, A, m, c, s5, rfl, by omega, rfl, by omega, rfl, by omega, Lib.hid ⟨H5.out.1.new ((Chg.refl _ _).alloc _), H5.out.2⟩⟩, by simp [intOf]; omega⟩
          | true =>
            obtain ⟨e1, e2, e3, e4, e5⟩ := a5 rfl
            subst e1
            obtain ⟨q, rfl⟩ : ∃ q : Nat, id = (q : Int) := ⟨id.toNat, by omega⟩
            obtain ⟨w6, hw6⟩ : ∃ w6, w5.alloc (.cells #[.int .i64 (q : Int), .slice A5 n5 c5] 30) = w6 := ⟨_, rfl⟩
            obtain ⟨B2, hB2⟩ : ∃ B2, w5.heap.size = B2 := ⟨_, rfl⟩
            have h6 := h5.box 30 #[.int .i64 (q : Int), .slice A5 n5 c5]
            rw [hw6, hB2] at h6
            have t0 := (h6.bx_at (List.mem_cons_self ..)).cell 0 (u := .int .i64 (q : Int)) rfl
            have htl := (h6.bx_at (List.mem_cons_self ..)).lt
            dsimp only at t0 htl
            have hq12 : q ≤ 12 := by omega
            obtain ⟨gx, cx, hx, kq, _⟩ := h6.an_at (k := q) (x := 0) (by rw [ansL_get (by omega), e3])
            injection hx with hx1 hx2 hx3
            injection hx1 with hx1
            injection hx1 with hx1
            subst hx1
            have H6 := Lib.hid h6
            have HE4 := Lib.hid e4
            have HE5 := Lib.hid e5
            have HA2 := Lib.hid a2
            have HA3 := Lib.hid (show s5.tick = (now : Int) by simpa using a3)
            clear h5 h6 a1 a2 a3 a4 a5 e2 e3 e4 e5 hR hx2 hx3
            go_wp2_with fail
            go_loopw [19] (fun v wx => ∃ j : Nat, v = .int .i64 (j : Int) ∧ j ≤ m ∧ Hid (OS w w2 w1.heap.size g (1 + (K : Int)) (.slice A m c) (.slice (some ⟨gv, 0, none⟩) 16 16) [(B2, 30, #[.int .i64 (q : Int), .slice A5 n5 c5]), (B, 47, #[.int .i64 1, .int .i64 wk, .int .i64 nn, .slice Ab bl cb, .int .i64 wt])] s.tries (ansL s) s5 wx)) (fun v _ => m - (intOf v).toNat)
            case atStart => exact ⟨0, rfl, by omega, H6⟩
            case round =>
              obtain ⟨j, rfl, hj, h7⟩ := hrel
              by_cases hjm : j < m
              · obtain ⟨y, hy⟩ : ∃ y, s.tries[j]? = some y := ⟨_, List.getElem?_eq_getElem (by have := HOB.out.2.2; omega)⟩
                obtain ⟨gt, ct, hv, k0, k1, k2, k3, _⟩ := h7.out.tr_at hy
                rw [HOB.out.2.2] at hv
                injection hv with hv1 hv2 hv3
                subst hv1 hv3
                have hym := List.mem_of_getElem? hy
                obtain ⟨⟨jb, hjb, ejb⟩, _⟩ := HOB.out.1.on.wf.tr y hym
                have hid := HOB.out.1.on.id jb hjb
                rw [ejb] at hid
                obtain ⟨p, hp⟩ : ∃ p : Nat, y.task = (p : Int) := ⟨y.task.toNat, by omega⟩
                have hp12 : p ≤ 12 := by omega
                obtain ⟨gx, cx, hx, kp, _⟩ := h7.out.an_at (k := p) (x := ansOf s (p : Int)) (ansL_get (by omega))
                injection hx with hx1 hx2 hx3
                injection hx1 with hx1
                injection hx1 with hx1
                subst hx1
                have hstop := HE5.out y hym
                rw [hp] at k0 hstop
                obtain ⟨yw, hyw⟩ : ∃ z, y.worker = z := ⟨_, rfl⟩
                obtain ⟨yn, hyn⟩ : ∃ z, y.num = z := ⟨_, rfl⟩
                obtain ⟨x3, hx3⟩ : ∃ z, (if y.over then 0 else y.tick + (1 + (K : Int))) = z := ⟨_, rfl⟩
                obtain ⟨an, han⟩ : ∃ z, ansOf s (p : Int) = z := ⟨_, rfl⟩
                rw [hyw] at k1 hstop
                rw [hyn] at k2
                rw [hx3] at k3 hstop
                rw [han] at kp hstop
                obtain ⟨w8, hw8⟩ : ∃ w8, wr.alloc (.cells #[.int .i64 (p : Int), .int .i64 yw, .int .i64 yn, .int .i64 x3] 58) = w8 := ⟨_, rfl⟩
                obtain ⟨B3, hB3⟩ : ∃ B3, wr.heap.size = B3 := ⟨_, rfl⟩
                have h8 := h7.out.box 58 #[.int .i64 (p : Int), .int .i64 yw, .int .i64 yn, .int .i64 x3]
                rw [hw8, hB3] at h8
                have x0 := (h8.bx_at (List.mem_cons_self ..)).cell 0 (u := .int .i64 (p : Int)) rfl
                have x1 := (h8.bx_at (List.mem_cons_self ..)).cell 1 (u := .int .i64 yw) rfl
                have x2 := (h8.bx_at (List.mem_cons_self ..)).cell 2 (u := .int .i64 yn) rfl
                have x3c := (h8.bx_at (List.mem_cons_self ..)).cell 3 (u := .int .i64 x3) rfl
                have xl := (h8.bx_at (List.mem_cons_self ..)).lt
                have hn78 : New wr w8 := by rw [← hw8]; exact (Chg.refl _ _).alloc _
                have t0' := (h8.bx_at (b := (B2, 30, #[.int .i64 (q : Int), .slice A5 n5 c5])) (by simp)).cell 0 (u := .int .i64 (q : Int)) rfl
                have b1' := (h8.bx_at (b := (B, 47, #[.int .i64 1, .int .i64 wk, .int .i64 nn, .slice Ab bl cb, .int .i64 wt])) (by simp)).cell 1 (u := .int .i64 wk) rfl
                have kp' := hn78.cell kp (fun h => h)
                dsimp only at x0 x1 x2 x3c xl t0' b1'
                have H8 := Lib.hid (h8.drop [(B2, 30, #[.int .i64 (q : Int), .slice A5 n5 c5]), (B, 47, #[.int .i64 1, .int .i64 wk, .int .i64 nn, .slice Ab bl cb, .int .i64 wt])] (fun b hb => List.mem_cons_of_mem _ hb))
                clear h8 hy hym hjb ejb hid hp hx2 hyw hyn hx3 han hn78 h7
                by_cases g1 : (now : Int) < x3
                · have b_1 : decide ((now : Int) < x3) = true := decide_eq_true g1
                  by_cases g2 : p = q
                  · have b_2 : ((p : Int) == (q : Int)) = true := by rw [g2]; simp
                    have g4 := hstop g1 (.inl (by rw [g2]))
                    have b_4 : ((an : Int) == 0) = false := by rw [beq_eq_false_iff_ne]; omega
                    clear hstop g2
                    go_wp2_with fail
                    exact ⟨⟨j + 1, rfl, by omega, H8⟩, by simp [intOf]; omega⟩
                  · have b_2 : ((p : Int) == (q : Int)) = false := by rw [beq_eq_false_iff_ne]; omega
                    by_cases g3 : yw = wk
                    · have b_3 : (yw == wk) = true := by rw [g3]; simp
                      have g4 := hstop g1 (.inr g3)
                      have b_4 : ((an : Int) == 0) = false := by rw [beq_eq_false_iff_ne]; omega
                      clear hstop g2 g3
                      go_wp2_with fail
                      exact ⟨⟨j + 1, rfl, by omega, H8⟩, by simp [intOf]; omega⟩
                    · have b_3 : (yw == wk) = false := by rw [beq_eq_false_iff_ne]; omega
                      clear hstop g2 g3
                      go_wp2_with fail
                      exact ⟨⟨j + 1, rfl, by omega, H8⟩, by simp [intOf]; omega⟩
                · have b_1 : decide ((now : Int) < x3) = false := decide_eq_false g1
                  clear hstop
                  go_wp2_with fail
                  exact ⟨⟨j + 1, rfl, by omega, H8⟩, by simp [intOf]; omega⟩
              · obtain rfl : j = m := by omega
                have h8 := h7.out
                have t0' := (h8.bx_at (b := (B2, 30, #[.int .i64 (q : Int), .slice A5 n5 c5])) (by simp)).cell 0 (u := .int .i64 (q : Int)) rfl
                have b1' := (h8.bx_at (b := (B, 47, #[.int .i64 1, .int .i64 wk, .int .i64 nn, .slice Ab bl cb, .int .i64 wt])) (by simp)).cell 1 (u := .int .i64 wk) rfl
                dsimp only at t0' b1'
                obtain ⟨w8, hw8⟩ : ∃ w8, wr.alloc (.cells #[.int .i64 (q : Int), .int .i64 wk, .int .i64 num, .int .i64 ((now : Int) + (1 + (K : Int)))] 58) = w8 := ⟨_, rfl⟩
                obtain ⟨v9, w9, hrun9, h9, ⟨A9, c9', hv9⟩, _⟩ := h8.app ⟨(q : Int), num, wk, (now : Int), false⟩ rfl (gb := wr.heap.size) hw8.symm rfl (by have := HOB.out.2.2; omega)
                rw [HOB.out.2.2] at hv9
                subst hv9
                have H9 := Lib.hid (show OS w w2 w1.heap.size g (1 + (K : Int)) (.slice A9 (j + 1) c9') (.slice (some ⟨gv, 0, none⟩) 16 16) [] s5.tries (ansL s5) s5 w9 ∧ s5.tick = (now : Int) ∧ s5.tries.length = j + 1 from ⟨by rw [HE4.out, HA2.out]; exact h9.drop [] (fun b hb => by simp at hb), HA3.out, by rw [HE4.out, List.length_append, HOB.out.2.2]; rfl⟩)
                clear h8 h9 h7
                go_wp2_with (first
                  | (at_builtin; refine step_appN rfl _ _ _ rfl rfl rfl hrun9 ?_)
                  | (at_builtin; refine wpList_plain rfl fun Kq hKq => ?_; refine step_appN rfl _ _ _ rfl rfl rfl hrun9 (hKq _ _ ?_)))
                exact ⟨⟨k + 1, now, A9, j + 1, c9', s5, rfl, by omega, rfl, by omega, rfl, by omega, H9⟩, by simp [intOf]; omega⟩
      · as_aux_lemma =>
          go_wp2_with fail
          obtain ⟨now, hnow⟩ : ∃ now : Nat, T + wp = now := ⟨_, rfl⟩
          have hnowI : (T : Int) + (wp : Int) = (now : Int) := by omega
          rw [hnowI]
          refine (HOB.out.1.die wk (now : Int)).mono ?_
          have hd := HOB.out.1.on.die wk (now : Int)
          obtain ⟨R, hR⟩ : ∃ R, Pl.die s wk (now : Int) = R := ⟨_, rfl⟩
          rw [hR] at hd ⊢
          obtain ⟨s5, err⟩ := R
          dsimp only at hd ⊢
          rintro e w5 ⟨rfl, h5⟩
          obtain ⟨a1, a2, a3, a4⟩ := hd
          by_cases herr : err = 0
          · subst herr
            rw [if_pos rfl] at a3 a4
            have HA := Lib.hid (And.intro a2 (And.intro a3 a4))
            have H5 := Lib.hid h5
            clear h5 a1 a2 a3 a4 hR
            go_wp2_with fail
            go_loopw [21] (fun v wx => ∃ j : Nat, v = .int .i64 (j : Int) ∧ j ≤ m ∧ Hid (OS w w2 w1.heap.size g (1 + (K : Int)) (.slice A m c) (.slice (some ⟨gv, 0, none⟩) 16 16) [(B, 47, #[.int .i64 3, .int .i64 wk, .int .i64 nn, .slice Ab bl cb, .int .i64 wt])] (loseTo wk s.tries j) (ansL s) s5 wx)) (fun v _ => m - (intOf v).toNat)
            case atStart => exact ⟨0, rfl, by omega, Lib.hid (by rw [loseTo_zero]; exact H5.out)⟩
            case round =>
              obtain ⟨j, rfl, hj, h7⟩ := hrel
              by_cases hjm : j < m
              · obtain ⟨y, hy⟩ : ∃ y, s.tries[j]? = some y := ⟨_, List.getElem?_eq_getElem (by have := HOB.out.2.2; omega)⟩
                have hy2 := loseTo_at (w := wk) hy
                obtain ⟨gt, ct, hv, k0, k1, k2, k3, kf⟩ := h7.out.tr_at hy2
                have hv9 := hv
                rw [loseTo_len, HOB.out.2.2] at hv
                injection hv with hv1 hv2 hv3
                subst hv1 hv3
                have b1' := (h7.out.bx_at (List.mem_cons_self ..)).cell 1 (u := .int .i64 wk) rfl
                dsimp only at b1'
                obtain ⟨yw, hyw⟩ : ∃ z, y.worker = z := ⟨_, rfl⟩
                obtain ⟨x3, hx3⟩ : ∃ z, (if y.over then 0 else y.tick + (1 + (K : Int))) = z := ⟨_, rfl⟩
                rw [hyw] at k1
                rw [hx3] at k3
                by_cases hyk : yw = wk
                · have b_1 : (yw == wk) = true := by rw [hyk]; simp
                  have HM := Lib.hid (show ∀ d, OS w w2 w1.heap.size g (1 + (K : Int)) (.slice (some ⟨gt, 0, none⟩) m c) (.slice (some ⟨gv, 0, none⟩) 16 16) [(B, 47, #[.int .i64 3, .int .i64 wk, .int .i64 nn, .slice Ab bl cb, .int .i64 wt])] (loseTo wk s.tries (j + 1)) (ansL s) s5 ((wr.drewN d).setCell ⟨gt, j * 4 + 3, none⟩ (.int .i64 0)) from fun d => by
                    rw [← loseTo_hit hy (hyw.trans hyk)]; exact (h7.out.new ((Chg.refl _ _).drewN d)).mark hy2 hv9)
                  clear hy hy2 hyw hx3 hyk h7 hv9
                  go_wp2_with fail
                  go_quiet (fail)
                  all_goals go_wp2_with fail
                  all_goals exact ⟨⟨j + 1, rfl, by omega, Lib.hid (HM.out nq)⟩, by simp [intOf]; omega⟩
                · have b_1 : (yw == wk) = false := by rw [beq_eq_false_iff_ne]; exact hyk
                  have HM := Lib.hid (show OS w w2 w1.heap.size g (1 + (K : Int)) (.slice (some ⟨gt, 0, none⟩) m c) (.slice (some ⟨gv, 0, none⟩) 16 16) [(B, 47, #[.int .i64 3, .int .i64 wk, .int .i64 nn, .slice Ab bl cb, .int .i64 wt])] (loseTo wk s.tries (j + 1)) (ansL s) s5 wr from by
                    rw [loseTo_skip hy (fun e => hyk (hyw.symm.trans e))]; exact h7.out)
                  clear hy hy2 hyw hx3 hyk h7 hv9
                  go_wp2_with fail
                  go_quiet (fail)
                  all_goals go_wp2_with fail
                  all_goals exact ⟨⟨j + 1, rfl, by omega, Lib.hid (HM.out.new ((Chg.refl _ _).drewN _))⟩, by simp [intOf]; omega⟩
              · obtain rfl : j = m := by omega
                have H8 := Lib.hid (show OS w w2 w1.heap.size g (1 + (K : Int)) (.slice A j c) (.slice (some ⟨gv, 0, none⟩) 16 16) [] s5.tries (ansL s5) s5 wr ∧ s5.tick = (now : Int) ∧ s5.tries.length = j from ⟨by
                  obtain ⟨q1, q2, q3⟩ := HA.out
                  rw [q3, q1, ← loseTo_all, HOB.out.2.2]; exact h7.out.drop [] (fun b hb => by simp at hb), HA.out.2.1, by rw [HA.out.2.2, List.length_map]; exact HOB.out.2.2⟩)
                clear h7
                go_wp2_with fail
                exact ⟨⟨k + 1, now, A, j, c, s5, rfl, by omega, rfl, by omega, rfl, by omega, H8⟩, by simp [intOf]; omega⟩
          · have herrb : (err == 0) = false := by rw [beq_eq_false_iff_ne]; exact herr
            have H5 := Lib.hid (show OS w w2 w1.heap.size g (1 + (K : Int)) (.slice A m c) (.slice (some ⟨gv, 0, none⟩) 16 16) [] s5.tries (ansL s5) s5 w5 ∧ s5.tick = (T : Int) ∧ s5.tries.length = m from ⟨by rw [a4, if_neg herr, a2]; exact h5.drop [] (fun b hb => by simp at hb), by rw [a3, if_neg herr]; exact HOB.out.2.1, by rw [a4, if_neg herr]; exact HOB.out.2.2⟩)
            clear h5 a1 a2 a3 a4 hR herr
            go_wp2_with fail
            exact ⟨⟨k + 1, T, A, m, c, s5, rfl, by omega, rfl, by omega, rfl, by omega, H5⟩, by simp [intOf]; omega⟩
      · as_aux_lemma =>
          obtain ⟨pn, rfl⟩ : ∃ pn : Nat, nn = (pn : Int) := ⟨nn.toNat, by have := HO7.out (by simp); omega⟩
          by_cases hm0 : m = 0
          · subst hm0
            have H5 := Lib.hid (show OS w w2 w1.heap.size g (1 + (K : Int)) (.slice A 0 c) (.slice (some ⟨gv, 0, none⟩) 16 16) [] s.tries (ansL s) s w4 ∧ s.tick = (T : Int) ∧ s.tries.length = 0 from ⟨HOB.out.1.drop [] (fun b hb => by simp at hb), HOB.out.2⟩)
            go_wp2_with fail
            exact ⟨⟨k + 1, T, A, 0, c, s, rfl, by omega, rfl, by omega, rfl, by omega, H5⟩, by simp [intOf]; omega⟩
          · have b_m : ((m : Int) == 0) = false := by rw [beq_eq_false_iff_ne]; omega
            obtain ⟨q, hq⟩ : ∃ q : Nat, pn % m = q := ⟨_, rfl⟩
            have hqm : q < m := by rw [← hq]; exact Nat.mod_lt _ (by omega)
            have hqI : (pn : Int) % (m : Int) = (q : Int) := by rw [← hq]; omega
            obtain ⟨y, hy⟩ : ∃ y, s.tries[q]? = some y := ⟨_, List.getElem?_eq_getElem (by have := HOB.out.2.2; omega)⟩
            obtain ⟨gt, ct, hv, k0, k1, k2, k3, kf⟩ := HOB.out.1.tr_at hy
            rw [HOB.out.2.2] at hv
            injection hv with hv1 hv2 hv3
            subst hv1 hv3
            have hrun : (Instr.indexAt 57 (.slice (some ⟨gt, 0, none⟩) m c) (.int .i64 ((pn : Int) % (m : Int)))).run Try.prog w4 = .ok (.pointer (some ⟨gt, q * 4, none⟩)) w4 := by
              have hs : (sizeOf (Try.prog.elem 57)).run Try.prog w4 = .ok 4 w4 := by kernel_rfl
              rw [hqI, run_indexAt_slice (P := Try.prog) (w := w4) (t := 57) (a := ⟨gt, 0, none⟩) (len := m) (cap := c) (k := .i64) (i := (q : Int)) (h := by kernel_rfl), if_pos (by omega), hs]
              show Result.ok (Value.pointer (some (Addr.add _ _))) w4 = _
              rw [Addr.add_lit, Nat.zero_add, Int.toNat_natCast]
            obtain ⟨now, hnow⟩ : ∃ now : Nat, T + wp = now := ⟨_, rfl⟩
            have hnowI : (T : Int) + (wp : Int) = (now : Int) := by omega
            have hym := List.mem_of_getElem? hy
            obtain ⟨u, hu⟩ : ∃ u, u = UInt8.ofNat (k + 1) := ⟨_, rfl⟩
            have hun : u.toNat = k + 1 := by rw [hu]; simp; omega
            have hans := HOB.out.1.on.answer hym (now := (now : Int)) ⟨by rw [HOB.out.2.1]; omega, by omega⟩ (u := u) (by omega) (by have := HOB.out.2.2; omega)
            obtain ⟨d0, d1, d2, d3, d4, d5, d6⟩ := hans
            obtain ⟨p, hp⟩ : ∃ p : Nat, y.task = (p : Int) := ⟨y.task.toNat, by omega⟩
            have hp12 : p ≤ 12 := by omega
            obtain ⟨w5, hw5⟩ : ∃ w5, w4.alloc (.cells #[.int .i64 (p : Int), .int .i64 y.worker, .int .i64 y.num, .int .i64 (if y.over then 0 else y.tick + (1 + (K : Int)))] 58) = w5 := ⟨_, rfl⟩
            obtain ⟨B3, hB3⟩ : ∃ B3, w4.heap.size = B3 := ⟨_, rfl⟩
            have h5 := HOB.out.1.box 58 #[.int .i64 (p : Int), .int .i64 y.worker, .int .i64 y.num, .int .i64 (if y.over then 0 else y.tick + (1 + (K : Int)))]
            rw [hw5, hB3] at h5
            have x0 := (h5.bx_at (List.mem_cons_self ..)).cell 0 (u := .int .i64 (p : Int)) rfl
            have x1 := (h5.bx_at (List.mem_cons_self ..)).cell 1 (u := .int .i64 y.worker) rfl
            have x2 := (h5.bx_at (List.mem_cons_self ..)).cell 2 (u := .int .i64 y.num) rfl
            have xl := (h5.bx_at (List.mem_cons_self ..)).lt
            dsimp only at x0 x1 x2 xl
            obtain ⟨w6, hw6⟩ : ∃ w6, w5.alloc (.cells #[.int .u8 ((k : Int) + 1)] 5) = w6 := ⟨_, rfl⟩
            obtain ⟨B4, hB4⟩ : ∃ B4, w5.heap.size = B4 := ⟨_, rfl⟩
            have hn6 : New w5 w6 := by rw [← hw6]; exact (Chg.refl _ _).alloc _
            have hrb : Rd w6 (some ⟨B4, 0, none⟩) 1 (bs [u]) := by
              have h1 : Blk w6 B4 5 #[.int .u8 ((k : Int) + 1)] := by rw [← hw6, ← hB4]; exact Blk.new _ _ _
              have e : bs [u] = [.int .u8 ((k : Int) + 1)] := by simp [bs, By, hun]
              rw [e]
              exact ⟨rfl, fun _ => ⟨_, rfl, fun j v hv => by rw [Addr.add_lit, Nat.zero_add]; exact h1.cell j (by simpa using hv)⟩⟩
            have hcall := h5.answer hym (now := (now : Int)) ⟨by rw [HOB.out.2.1]; omega, by omega⟩ (u := u) (by omega) (by have := HOB.out.2.2; omega) hn6 (gb := B4) (by omega) hrb
            obtain ⟨s5, hs5⟩ : ∃ s5, (Pl.answer s y.task y.worker y.num [u] (now : Int)).1 = s5 := ⟨_, rfl⟩
            rw [hs5] at hcall d4 d5 d6
            rw [hp] at hcall d6 k0
            obtain ⟨an, han⟩ : ∃ z, ansOf s (p : Int) = z := ⟨_, rfl⟩
            rw [han] at hcall d6
            have hanL : (ansL s)[p]? = some an := by rw [ansL_get (by omega), han]
            obtain ⟨yw, hyw⟩ : ∃ z, y.worker = z := ⟨_, rfl⟩
            obtain ⟨yn, hyn⟩ : ∃ z, y.num = z := ⟨_, rfl⟩
            obtain ⟨x3, hx3⟩ : ∃ z, (if y.over then 0 else y.tick + (1 + (K : Int))) = z := ⟨_, rfl⟩
            rw [hyw] at k1 x1 hcall
            rw [hyn] at k2 x2 hcall
            rw [hx3] at k3
            rw [hyw, hyn, hx3] at hw5
            rw [hx3] at hcall
            have HC := Lib.hid hcall
            have HD := Lib.hid (And.intro d4 (And.intro d5 (show ansL s5 = if an = 0 then (ansL s).set p (k + 1) else ansL s by rw [d6, hun]; rfl)))
            have HAN := Lib.hid hanL
            have hx0 := hn6.cell x0 (fun h => h)
            have hx1 := hn6.cell x1 (fun h => h)
            have hx2 := hn6.cell x2 (fun h => h)
            clear h5 hq hy hym hu hun d0 d1 d2 d3 d4 d5 d6 hp hrb hcall hs5 han hanL hyw hyn hx3 hv2 hn6
            go_wp2_with fail
            refine HC.out.mono ?_
            rintro e w7 ⟨rfl, h7⟩
            have hx0 := (h7.bx_at (List.mem_cons_self ..)).cell 0 (u := .int .i64 (p : Int)) rfl
            dsimp only at hx0
            obtain ⟨gx, cx, hx, kp, kpf⟩ := h7.an_at HAN.out
            injection hx with hx1 hx2 hx3
            injection hx1 with hx1
            injection hx1 with hx1
            subst hx1
            have H7 := Lib.hid h7
            clear h7 hx2 hx3
            by_cases han : an = 0
            · subst han
              have HM := Lib.hid (show OS w w2 w1.heap.size g (1 + (K : Int)) (.slice (some ⟨gt, 0, none⟩) m c) (.slice (some ⟨gv, 0, none⟩) 16 16) [] s5.tries (ansL s5) s5 (w7.setCell ⟨gv, p, none⟩ (.int .i64 ((k : Int) + 1))) ∧ s5.tick = (now : Int) ∧ s5.tries.length = m from ⟨by
                obtain ⟨q1, q2, q3⟩ := HD.out
                rw [if_pos rfl] at q3
                rw [q2, q3]
                have := (H7.out.keep (k := p) (by omega) (k + 1) rfl).drop [] (fun b hb => by simp at hb)
                simpa using this, HD.out.1, by rw [HD.out.2.1]; exact HOB.out.2.2⟩)
              go_wp2_with fail
              exact ⟨⟨k + 1, now, _, m, c, s5, rfl, by omega, rfl, by omega, rfl, by omega, HM⟩, by simp [intOf]; omega⟩
            · have HM := Lib.hid (show OS w w2 w1.heap.size g (1 + (K : Int)) (.slice (some ⟨gt, 0, none⟩) m c) (.slice (some ⟨gv, 0, none⟩) 16 16) [] s5.tries (ansL s5) s5 w7 ∧ s5.tick = (now : Int) ∧ s5.tries.length = m from ⟨by
                obtain ⟨q1, q2, q3⟩ := HD.out
                rw [if_neg han] at q3
                rw [q2, q3]
                exact H7.out.drop [] (fun b hb => by simp at hb), HD.out.1, by rw [HD.out.2.1]; exact HOB.out.2.2⟩)
              have b_a : ((an : Int) == 0) = false := by rw [beq_eq_false_iff_ne]; omega
              rw [decide_eq_false han]
              clear han
              go_wp2_with fail
              exact ⟨⟨k + 1, now, _, m, c, s5, rfl, by omega, rfl, by omega, rfl, by omega, HM⟩, by simp [intOf]; omega⟩
    · as_aux_lemma =>
        obtain rfl : n = k := by omega
        have HWAS := Lib.hid hh.out.1.was
        have HH := Lib.hid hh.out.1
        clear hh
        go_wp2_with fail
        refine HH.out.done.mono ?_
        rintro e w5 ⟨A5, c5, rfl, hlate, h5⟩
        obtain ⟨fd, fc⟩ := h5.on.done
        obtain ⟨D, hD⟩ : ∃ D, (dones s).length = D := ⟨_, rfl⟩
        have hal := ansL_len s
        obtain ⟨al, hal2⟩ : ∃ al, ansL s = al := ⟨_, rfl⟩
        rw [hal2] at fd fc h5 hal
        rw [hD] at hlate fc ⊢
        have HFD := Lib.hid fd
        have HFC := Lib.hid (show cntA al 16 = D by rw [cntA_all al 16 (by omega)]; exact fc)
        have HL := Lib.hid hlate
        have H5 := Lib.hid h5
        have HDN := Lib.hid hD
        have HAL := Lib.hid hal
        have hD16 : D ≤ 16 := by have := cntA_le al 16; have := HFC.out; omega
        clear fd fc hlate h5 hal hal2 hD
        go_wp2_with fail
        go_loopw [26, 27] (fun mv iv wx => ∃ i : Nat, iv = .int .i64 (i : Int) ∧ i ≤ 16 ∧ mv = .int .i64 (cntA al i : Int) ∧ wx = w5) (fun _ iv _ => 16 - (intOf iv).toNat)
        case atStart => exact ⟨0, rfl, by omega, rfl, rfl⟩
        case round =>
          obtain ⟨i, rfl, hi, rfl, rfl⟩ := hrel
          by_cases hi16 : i < 16
          · obtain ⟨x, hx⟩ : ∃ x, al[i]? = some x := ⟨_, List.getElem?_eq_getElem (by have := HAL.out; omega)⟩
            obtain ⟨gx, cx, hxe, kp, _⟩ := H5.out.an_at hx
            injection hxe with hx1 hx2 hx3
            injection hx1 with hx1
            injection hx1 with hx1
            subst hx1
            have hs := cntA_succ hx
            have hle := cntA_le al i
            obtain ⟨cn, hcn⟩ : ∃ cn, cntA al i = cn := ⟨_, rfl⟩
            rw [hcn] at hs hle ⊢
            clear hx hcn hx2 hx3
            by_cases hx0 : 0 < x
            · have b_x : decide ((0 : Int) < (x : Int)) = true := decide_eq_true (by omega)
              rw [if_pos hx0] at hs
              have HS := Lib.hid hs
              clear hs
              go_wp2_with fail
              exact ⟨⟨i + 1, rfl, by omega, by rw [HS.out]; rfl, by first | rfl | trivial⟩, by simp [intOf]; omega⟩
            · have b_x : decide ((0 : Int) < (x : Int)) = false := decide_eq_false (by omega)
              rw [if_neg hx0] at hs
              have HS := Lib.hid hs
              clear hs
              go_wp2_with fail
              exact ⟨⟨i + 1, rfl, by omega, by rw [HS.out]; rfl, by first | rfl | trivial⟩, by simp [intOf]; omega⟩
          · obtain rfl : i = 16 := by omega
            rw [HFC.out, show ((16 : Nat) : Int) = (16 : Int) from rfl]
            go_wp2_with fail
            go_loopw [28] (fun iv wx => ∃ i : Nat, iv = .int .i64 (i : Int) ∧ i ≤ D ∧ Hid (LateV wx (fun _ => False) (.slice A5 D c5) (dones s) ∧ OS w w2 w1.heap.size g (1 + (K : Int)) (.slice A m c) (.slice (some ⟨gv, 0, none⟩) 16 16) [] s.tries al s wx)) (fun iv _ => D - (intOf iv).toNat)
            case atStart => exact ⟨0, rfl, by omega, Lib.hid ⟨HL.out, H5.out⟩⟩
            case round =>
              obtain ⟨i, rfl, hi, hh⟩ := hrel
              by_cases hiD : i < D
              · obtain ⟨d, hd⟩ : ∃ d, (dones s)[i]? = some d := ⟨_, List.getElem?_eq_getElem (by have := HDN.out; omega)⟩
                obtain ⟨f1, u, f2, f3⟩ := HFD.out d (List.mem_of_getElem? hd)
                obtain ⟨p, hp⟩ : ∃ p : Nat, d.1 = (p : Int) := ⟨d.1.toNat, by omega⟩
                have hp12 : p ≤ 12 := by omega
                obtain ⟨ga, c9, Ab, cb, hv, k0, k1, k2, k3, hr, _⟩ := hh.out.1.at_ hd
                rw [HDN.out] at hv
                injection hv with hv1 hv2 hv3
                subst hv1 hv3
                obtain ⟨ad, bu, rfl, hu, hcu⟩ := hr.at_ (k := 0) (by rw [f2]; simp)
                rw [f2] at k3 hu
                rw [hp] at k0 f3
                have hub : bu = .int .u8 (u.toNat : Int) := by simp [bs, By] at hu; exact hu.symm
                subst hub
                obtain ⟨gx, cx, hxe, kp, _⟩ := hh.out.2.an_at (k := p) (x := u.toNat) f3
                injection hxe with hx1 hx2 hx3
                injection hx1 with hx1
                injection hx1 with hx1
                subst hx1
                have hu8 := u.toNat_lt
                obtain ⟨un, hun⟩ : ∃ un, u.toNat = un := ⟨_, rfl⟩
                rw [hun] at hcu kp hu8
                obtain ⟨dw, hdw⟩ : ∃ z, d.2.worker = z := ⟨_, rfl⟩
                obtain ⟨dn, hdn⟩ : ∃ z, d.2.num = z := ⟨_, rfl⟩
                rw [hdw] at k1
                rw [hdn] at k2
                have hadd : ad.add 0 = ad := by cases ad; simp [Addr.add]
                rw [hadd] at hcu
                simp only [List.length_singleton] at k3
                have hb0 : ((1 : Int) != 1) = false := by decide
                have hb1 : decide ((p : Int) < 0) = false := decide_eq_false (by omega)
                have hb2 : decide ((12 : Int) < (p : Int)) = false := decide_eq_false (by omega)
                have hb3 : ((un : Int) != (un : Int)) = false := by simp
                clear hd f1 f2 f3 hp hr hu hun hdw hdn hv2 hx2 hx3
                go_wp2_with fail
                go_quiet (fail)
                all_goals go_wp2_with fail
                all_goals exact ⟨⟨i + 1, rfl, by omega, Lib.hid ⟨hh.out.1.new ((Chg.refl _ _).drewN _), hh.out.2.new ((Chg.refl _ _).drewN _)⟩⟩, by simp [intOf]; omega⟩
              · obtain rfl : i = D := by omega
                go_wp2_with fail
                refine (plives_any _).mono ?_
                rintro e w9 ⟨rfl, hn9⟩
                have HN9 := Lib.hid hn9
                clear hn9
                go_wp2_with fail
                go_ret
                exact ⟨rfl, hh.out.2.was.trans HN9.out (fun _ _ h => h)⟩
end Go.Proofs.Ytbmplfhcdkeooaa
