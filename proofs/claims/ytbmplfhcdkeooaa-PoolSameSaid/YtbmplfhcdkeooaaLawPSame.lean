/- The law PoolSame. -/
import Derived.Test.YtbmplfhcdkeooaaPlS
import Derived.Test.YtbmplfhcdkeooaaPlO
import Derived.Test.YtbmplfhcdkeooaaArgs
namespace Go.Proofs.Ytbmplfhcdkeooaa
set_option linter.unusedVariables false
open Go.RowKit Go.Mem Go.Pl Go.Pure

set_option maxHeartbeats 4000000 in
set_option maxRecDepth 100000 in
theorem poolSame_walk (A1 A2 : Option Addr) (n1 c1 n2 c2 : Nat) (B L : List Int) (wk tm : Int) (w : World) (hr1 : Rd w A1 n1 (is B)) (hr2 : Rd w A2 n2 (is L)) (hB : ∀ z ∈ B, -9223372036854775808 ≤ z ∧ z ≤ 9223372036854775807) (hL : ∀ z ∈ L, -9223372036854775808 ≤ z ∧ z ≤ 9223372036854775807)
    (hn1 : n1 ≤ 9223372036854775807) (hn2 : n2 ≤ 9223372036854775807) (hwk : Go.Mem.I64 wk) (htm : Go.Mem.I64 tm) :
    Calls Try.prog 8 #[.slice A1 n1 c1, .slice A2 n2 c2, .int .i64 wk, .int .i64 tm] w fun e w' => e = .returned (.bool true) ∧ New w w' := by
  obtain ⟨q1, q2⟩ := aroundI_range wk 8 (by omega)
  obtain ⟨M, hM⟩ : ∃ M : Nat, aroundI wk 8 = (M : Int) := ⟨(aroundI wk 8).toNat, by omega⟩
  obtain ⟨q3, q4⟩ := aroundI_range tm 6 (by omega)
  obtain ⟨K, hK⟩ : ∃ K : Nat, aroundI tm 6 = (K : Int) := ⟨(aroundI tm 6).toNat, by omega⟩
  have hM7 : M ≤ 7 := by omega
  have hK5 : K ≤ 5 := by omega
  have HM := Lib.hid hM
  have HK := Lib.hid hK
  have HR1 := Lib.hid hr1
  have HR2 := Lib.hid hr2
  have HB := Lib.hid hB
  have HL := Lib.hid hL
  obtain ⟨b, hb⟩ : ∃ b : Nat → List UInt8, b = fun k => uvar (zig (B.getD k 0)) := ⟨_, rfl⟩
  have Hb := Lib.hid hb
  clear hM hK q1 q2 q3 q4 hr1 hr2 hB hL hb
  obtain ⟨hwk1, hwk2⟩ := hwk
  obtain ⟨htm1, htm2⟩ := htm
  go_enter Try.func8, Try.ntmps8
  go_wp2_with fail
  refine (around_any wk 8 w hwk1 hwk2 (by omega) (by omega)).mono ?_
  rintro e w1 ⟨rfl, hw⟩
  subst hw
  rw [HM.out]
  go_wp2_with fail
  refine (around_any tm 6 _ htm1 htm2 (by omega) (by omega)).mono ?_
  rintro e w1 ⟨rfl, hw⟩
  subst hw
  rw [HK.out]
  go_wp2_with fail
  refine (show Calls Try.prog 10 #[.int .i64 (1 + (M : Int)), .int .i64 (1 + (K : Int))] w fun e w' => ∃ g O Z, e = .returned (.tuple #[.pointer (some ⟨g, 0, none⟩), .int .i64 0]) ∧ P2 w w' O Z g (new (1 + M) (1 + (K : Int))) ∧ New w w' from by
    have q := p2New (1 + M) (1 + (K : Int)) (by omega) (by omega) w w (Chg.refl _ _)
    rwa [show ((1 + M : Nat) : Int) = 1 + (M : Int) by omega] at q).mono ?_
  rintro e w1 ⟨g, O1, Z1, rfl, hp, _⟩
  have HAS := Lib.hid (show AS w g b (1 + M) (1 + (K : Int)) 0 w1 from ⟨_, _, _, Adds.start b (by omega) (by omega), hp⟩)
  clear hp
  go_wp2_with fail
  refine (around_any wk 8 _ hwk1 hwk2 (by omega) (by omega)).mono ?_
  rintro e w2 ⟨rfl, hw⟩
  subst hw
  rw [HM.out]
  obtain ⟨many, hmany⟩ : ∃ many : Nat, min (n1 : Int) 10 = (many : Int) := ⟨min n1 10, by omega⟩
  have hm10 : many ≤ 10 ∧ many ≤ n1 := by omega
  have HMA := Lib.hid hmany
  clear hmany
  go_wp2_with fail
  rw [HMA.out]
  go_loopw [13] (fun v wr => ∃ i : Nat, i ≤ many ∧ v = .int .i64 (i : Int) ∧ Hid (AS w g b (1 + M) (1 + (K : Int)) i wr)) (fun v _ => many - (intOf v).toNat)
  case atStart => exact ⟨0, by omega, rfl, HAS⟩
  case round =>
    obtain ⟨i, hi, rfl, hh⟩ := hrel
    by_cases hlt : i < many
    · have hnew : New w wr := by obtain ⟨s, O, Z, _, h⟩ := hh.out; exact h.was
      obtain ⟨ad, u, rfl, hu, hcu⟩ := (HR1.out.new (hnew.alloc (.cells #[.slice none 0 0] 66))).at_ (k := i) (by omega)
      obtain ⟨z, rfl, hz⟩ : ∃ z, u = .int .i64 z ∧ B[i]? = some z := by
        unfold is at hu
        rw [List.getElem?_map] at hu
        cases hq : B[i]? with
        | none => rw [hq] at hu; cases hu
        | some z => rw [hq] at hu; injection hu with hu; exact ⟨z, hu.symm, rfl⟩
      have hzr := HB.out z (List.mem_of_getElem? hz)
      have hbi : b i = uvar (zig z) := by rw [Hb.out]; show uvar (zig (B.getD i 0)) = _; rw [List.getD_eq_getElem?_getD, hz]; rfl
      have HBI := Lib.hid hbi
      have HNW := Lib.hid hnew
      clear hu hz hbi hnew
      have HWR := Lib.hid (wra_new wr)
      go_wp2_with fail
      refine (wInt_any wr.heap.size none [] z _ hzr.1 hzr.2 HWR.out (by simp)).mono ?_
      rintro e w3 ⟨rfl, b3, hw3, hc3, ha3⟩
      rw [List.nil_append, ← HBI.out] at hw3
      have hn3 : New wr w3 := ((Chg.refl (fun _ => False) wr).alloc _).trans hc3 (fun k hk h => by
        rcases h with h | h
        · omega
        · cases h)
      have hlen : (b i).length ≤ 10 := by rw [HBI.out]; exact uvar_len (zig_lt z hzr.1 hzr.2)
      have HW3 := Lib.hid hw3
      have HN3 := Lib.hid hn3
      clear hw3 hc3 ha3 hn3
      go_wp2_with fail
      refine (wDone_any wr.heap.size b3 (b i) w3 HW3.out (by omega)).mono ?_
      rintro e w4 ⟨A4, c4, rfl, ho4, hn4⟩
      have HO4 := Lib.hid (And.intro ho4 hn4)
      obtain ⟨N, hN⟩ : ∃ N, (b i).length = N := ⟨_, rfl⟩
      rw [hN] at HO4 ⊢
      have HLN := Lib.hid hN
      clear ho4 hn4 hN
      go_wp2_with fail
      refine (hh.out.add (by omega) hlen (HN3.out.new HO4.out.2) (Rd.of_own HO4.out.1)).mono ?_
      rintro e w5 ⟨rfl, h5⟩
      have H5 := Lib.hid h5
      clear h5
      go_wp2_with fail
      exact ⟨⟨i + 1, by omega, rfl, H5⟩, by simp [intOf]; omega⟩
    · obtain rfl : many = i := by omega
      have hLS := hh.out.late
      have HJ64 := Lib.hid (show ∀ p ∈ tasks b many, Go.Mem.I64 p.1 from fun p hp => by
        obtain ⟨k, hk, rfl⟩ := List.mem_map.1 hp
        have := List.mem_range.1 hk
        show Go.Mem.I64 (3 * (k : Int))
        unfold Go.Mem.I64
        omega)
      have HJL := Lib.hid (tasks_len b many)
      obtain ⟨J, hJ⟩ : ∃ J, tasks b many = J := ⟨_, rfl⟩
      have HJE := Lib.hid hJ
      rw [hJ] at hLS HJ64 HJL
      have HLS := Lib.hid hLS
      clear hLS hJ hh hi hlt
      go_wp2_with fail
      go_loopw [15, 16, 17] (fun t v i wr => ∃ (k T : Nat) (A : Option Addr) (c : Nat) (ds : List (Int × Ans)), i = .int .i64 (k : Int) ∧ k ≤ n2 ∧ k ≤ 40 ∧ t = .int .i64 (T : Int) ∧ T ≤ 2 * k ∧ v = .slice A ds.length c ∧ ds.length ≤ k ∧ Hid (LS w g J (1 + M) (1 + (K : Int)) T k (.slice A ds.length c) ds wr)) (fun _ _ i _ => 40 - (intOf i).toNat)
      case atStart => exact ⟨0, 0, none, 0, [], rfl, by omega, by omega, rfl, by omega, rfl, by simp, HLS⟩
      case round =>
        obtain ⟨k, T, A, c, ds, rfl, hk, hk40, rfl, hT, rfl, hds, hls⟩ := hrel
        obtain ⟨D, hD⟩ : ∃ D, ds.length = D := ⟨_, rfl⟩
        rw [hD] at hds hls ⊢
        have HD := Lib.hid hD
        have HLS1 := Lib.hid hls.out
        clear hD hls
        by_cases hlt : k < n2
        · by_cases hlt40 : k < 40
          · have hnew : New w wr := HLS1.out.was
            obtain ⟨ad, u, rfl, hu, hcu⟩ := (HR2.out.new hnew).at_ (k := k) (by omega)
            obtain ⟨z, rfl, hz⟩ : ∃ z, u = .int .i64 z ∧ L[k]? = some z := by
              unfold is at hu
              rw [List.getElem?_map] at hu
              cases hq : L[k]? with
              | none => rw [hq] at hu; cases hu
              | some z => rw [hq] at hu; injection hu with hu; exact ⟨z, hu.symm, rfl⟩
            have hzr := HL.out z (List.mem_of_getElem? hz)
            obtain ⟨r1, r2⟩ := aroundI_range z 1048576 (by omega)
            obtain ⟨R, hR⟩ : ∃ R : Nat, aroundI z 1048576 = (R : Int) := ⟨(aroundI z 1048576).toNat, by omega⟩
            have hRlt : R < 1048576 := by omega
            have HR := Lib.hid hR
            clear hu hz hnew hR r1 r2
            go_wp2_with fail
            refine (around_any z 1048576 _ hzr.1 hzr.2 (by omega) (by omega)).mono ?_
            rintro e w3 ⟨rfl, hw⟩
            subst hw
            rw [HR.out]
            obtain ⟨T2, hT2⟩ : ∃ T2, T + R % 3 = T2 := ⟨_, rfl⟩
            obtain ⟨W, hW⟩ : ∃ W : Int, (R : Int) / 3 % (1 + (M : Int)) = W := ⟨_, rfl⟩
            have hTT : (T : Int) + (R : Int) % 3 = (T2 : Int) := by omega
            have hT3 : T2 ≤ 2 * (k + 1) ∧ T ≤ T2 := by omega
            have HTT := Lib.hid hTT
            have HW := Lib.hid hW
            have HLS2 := Lib.hid (HLS1.out.up hT3.2 (Nat.le_refl k))
            clear hT2 hTT hW
            cases hb0 : ((R : Int) / 24 % 8 == 0) with
            | true =>
              go_wp2_with fail
              rw [HTT.out, HW.out]
              refine (HLS2.out.die W).mono ?_
              rintro e w4 ⟨⟨r, rfl⟩, h4⟩
              have H4 := Lib.hid (h4.up (Nat.le_refl T2) (Nat.le_succ k))
              clear h4
              go_wp2_with fail
              exact ⟨⟨k + 1, T2, A, c, ds, rfl, by omega, by omega, rfl, hT3.1, by rw [HD.out], by have := HD.out; omega, Lib.hid (by rw [HD.out]; exact H4.out)⟩, by simp [intOf]; omega⟩
            | false =>
              cases hb1 : ((R : Int) / 24 % 8 == 1) with
              | true =>
                go_wp2_with fail
                rw [HTT.out, HW.out]
                refine (HLS2.out.revive W).mono ?_
                rintro e w4 ⟨⟨r, rfl⟩, h4⟩
                have H4 := Lib.hid (h4.up (Nat.le_refl T2) (Nat.le_succ k))
                clear h4
                go_wp2_with fail
                exact ⟨⟨k + 1, T2, A, c, ds, rfl, by omega, by omega, rfl, hT3.1, by rw [HD.out], by have := HD.out; omega, Lib.hid (by rw [HD.out]; exact H4.out)⟩, by simp [intOf]; omega⟩
              | false =>
                cases hb2 : ((R : Int) / 24 % 8 == 2) with
                | true =>
                  by_cases hD0 : 0 < D
                  · obtain ⟨q, hq⟩ : ∃ q : Nat, (R : Int) / 192 % (D : Int) = (q : Int) := ⟨((R : Int) / 192 % (D : Int)).toNat, by have := Int.emod_nonneg ((R : Int) / 192) (show (D : Int) ≠ 0 by omega); omega⟩
                    have hqD : q < D := by have := Int.emod_lt_of_pos ((R : Int) / 192) (show (0 : Int) < (D : Int) by omega); omega
                    obtain ⟨d, hd⟩ : ∃ d, ds[q]? = some d := ⟨_, List.getElem?_eq_getElem (by rw [HD.out]; exact hqD)⟩
                    obtain ⟨ga, c9, A9, n9, ca9, hv, k0, k1, k2, k3, hcall⟩ := HLS2.out.ans HJ64.out hd
                    rw [HD.out] at hv
                    injection hv with hv1 hv2 hv3
                    subst hv1 hv3
                    have hrun : (Instr.indexAt 59 (.slice (some ⟨ga, 0, none⟩) D c) (.int .i64 ((R : Int) / 192 % (D : Int)))).run Try.prog wr = .ok (.pointer (some ⟨ga, q * 4, none⟩)) wr := by
                      have hs : (sizeOf (Try.prog.elem 59)).run Try.prog wr = .ok 4 wr := by kernel_rfl
                      rw [hq, run_indexAt_slice (P := Try.prog) (w := wr) (t := 59) (a := ⟨ga, 0, none⟩) (len := D) (cap := c) (k := .i64) (i := (q : Int)) (h := by kernel_rfl), if_pos (by omega), hs]
                      show Result.ok (Value.pointer (some (Addr.add _ _))) wr = _
                      rw [Addr.add_lit, Nat.zero_add, Int.toNat_natCast]
                    have HC := Lib.hid hcall
                    clear hcall hq hd
                    go_wp2_with fail
                    rw [HTT.out]
                    refine HC.out.mono ?_
                    rintro e w4 ⟨⟨b9, r9, rfl⟩, h4⟩
                    have H4 := Lib.hid (h4.up (Nat.le_refl T2) (Nat.le_succ k))
                    clear h4
                    go_wp2_with fail
                    exact ⟨⟨k + 1, T2, some ⟨ga, 0, none⟩, c, ds, rfl, by omega, by omega, rfl, hT3.1, by rw [HD.out], by have := HD.out; omega, Lib.hid (by rw [HD.out]; exact H4.out)⟩, by simp [intOf]; omega⟩
                  · go_wp2_with fail
                    rw [HTT.out]
                    have H4 := Lib.hid (HLS2.out.up (Nat.le_refl T2) (Nat.le_succ k))
                    exact ⟨⟨k + 1, T2, A, c, ds, rfl, by omega, by omega, rfl, hT3.1, by rw [HD.out], by have := HD.out; omega, Lib.hid (by rw [HD.out]; exact H4.out)⟩, by simp [intOf]; omega⟩
                | false =>
                  go_wp2_with fail
                  rw [HTT.out, HW.out]
                  refine (HLS2.out.ask W (by omega)).mono ?_
                  rintro e w4 ⟨At, nt, ct, id, num, isq, err, body, rfl, hnt, hrt, hbt, hnt2, hok, h4⟩
                  have HB4 := Lib.hid (And.intro hnt (And.intro hrt hbt))
                  have HOK := Lib.hid hok
                  have H4 := Lib.hid h4
                  clear hnt hrt hbt hok h4
                  cases isq with
                  | false =>
                    go_wp2_with fail
                    exact ⟨⟨k + 1, T2, A, c, ds, rfl, by omega, by omega, rfl, hT3.1, by rw [HD.out], by have := HD.out; omega, Lib.hid (by rw [HD.out]; exact H4.out.new ((Chg.refl _ _).alloc _))⟩, by simp [intOf]; omega⟩
                  | true =>
                    obtain ⟨w5, hw5⟩ : ∃ w5, w4.alloc (.cells #[.int .i64 id, .slice At nt ct] 30) = w5 := ⟨_, rfl⟩
                    obtain ⟨Bt, hBt⟩ : ∃ Bt, w4.heap.size = Bt := ⟨_, rfl⟩
                    have hbx : Blk w5 Bt 30 #[.int .i64 id, .slice At nt ct] := by rw [← hw5, ← hBt]; exact Blk.new _ _ _
                    have hn45 : New w4 w5 := by rw [← hw5]; exact (Chg.refl _ _).alloc _
                    have h5 := H4.out.new hn45
                    have hlow : ∀ x, (Value.slice A D c).ownBlock = some x → x < Bt := fun x hx => by rw [← hBt]; exact H4.out.low x hx
                    have hrt5 := HB4.out.2.1.new hn45
                    have hbl := hbx.lt
                    have hsz5 : w4.heap.size < w5.heap.size := by rw [hBt]; exact hbl
                    have HSK := Lib.hid (show ∀ Wx, Chg (fun x => (Value.slice A D c).ownBlock = some x) w5 Wx → Wx.cell? ⟨Bt, 0, none⟩ = some (.int .i64 id) ∧ Wx.cell? ⟨Bt, 1, none⟩ = some (.slice At nt ct) from fun Wx hW =>
                      ⟨(hbx.chg hW (fun e => by have := hlow _ e; omega)).cell 0 rfl, (hbx.chg hW (fun e => by have := hlow _ e; omega)).cell 1 rfl⟩)
                    have HQ := Lib.hid (show ∀ Wx, New w5 Wx → Calls Try.prog 33 #[.slice At nt ct] Wx fun e w' => ∃ A' c', e = .returned (.slice A' (resB body).length c') ∧ w'.ownsRow w5.heap.size 5 1 (.slice A' (resB body).length c') (resB body).length (bs (resB body)) ∧ New w5 w' from fun Wx hW =>
                      (result_any At nt ct body Wx (hrt5.new hW) (by omega) (fun x hx => by have := HB4.out.2.2 x hx; have := hW.size; omega)).mono (by
                        rintro e w' ⟨A', c', rfl, q1, q2⟩
                        exact ⟨A', c', rfl, own_base q1 hW.size, hW.new q2⟩))
                    have HAPP := Lib.hid (show ∀ w6 A' c', New w5 w6 → w6.ownsRow w5.heap.size 5 1 (.slice A' (resB body).length c') (resB body).length (bs (resB body)) → ∃ v' w', (Builtin.append_ #[59, 59] 59 #[.slice A D c, .slice (some ⟨w6.heap.size, 0, none⟩) 1 1]).run Try.prog (w6.alloc (.cells #[.int .i64 id, .int .i64 W, .int .i64 num, .slice A' (resB body).length c'] 38)) = .ok v' w' ∧ LS w g J (1 + M) (1 + (K : Int)) T2 (k + 1) v' (ds ++ [(id, ⟨W, num, resB body⟩)]) w' ∧ Chg (fun x => (Value.slice A D c).ownBlock = some x) w5 w' ∧ ∃ A'' c'', v' = .slice A'' (D + 1) c'' from fun w6 A' c' h6 ho => by
                      obtain ⟨v', w', z1, z2, z3, z4⟩ := h5.app (d := (id, ⟨W, num, resB body⟩)) (HOK.out rfl) h6 rfl ho rfl rfl (by have := HD.out; omega)
                      rw [HD.out] at z4
                      exact ⟨v', w', z1, z2, ((h6.mono (fun _ _ hf => hf.elim)).alloc _).trans z3 (fun _ _ h => h), z4⟩)
                    obtain ⟨LL, hLL⟩ : ∃ LL, (resB body).length = LL := ⟨_, rfl⟩
                    rw [hLL] at HQ HAPP
                    have hK0 : Chg (fun x => (Value.slice A D c).ownBlock = some x) w5 w5 := Chg.refl _ _
                    have hK1 : Chg (fun x => (Value.slice A D c).ownBlock = some x) w5 w5.drew := (Chg.refl _ _).drew
                    obtain ⟨s0, s1⟩ := HSK.out w5 hK0
                    clear hbx hn45 h5 hlow hrt5 hLL
                    go_wp2_with fail
                    go_region_held3 (fun Wx => Wx.cell? ⟨Bt, 0, none⟩ = some (.int .i64 id) ∧ Wx.cell? ⟨Bt, 1, none⟩ = some (.slice At nt ct)) (first | exact HSK.out _ (by assumption))
                      (first
                      | (go_at_call 33; (with_reducible refine (HQ.out _ ?_).mono ?_); (first | exact (Chg.refl _ _).drew | exact Chg.refl _ _); rintro e w6 ⟨A6, c6, rfl, ho6, hn6⟩; obtain ⟨v7, w7, hrun7, h7, hK7, A7, c7, rfl⟩ := HAPP.out w6 A6 c6 hn6 ho6; (have hK6 : Chg (fun x => (Value.slice A D c).ownBlock = some x) w5 w6 := hn6.mono (fun _ _ hf => hf.elim)); (have hK8 := hK6.alloc (.cells #[.int .i64 id, .int .i64 W, .int .i64 num, .slice A6 LL c6] 38)); (have H7 := Lib.hid h7); clear h7 ho6)
                      | (refine step_appN rfl _ _ _ rfl rfl rfl hrun7 ?_)
                      | (at_builtin; refine step_appN rfl _ _ _ rfl rfl rfl hrun7 ?_)
                      | (at_builtin; refine wpList_plain rfl fun Kq hKq => ?_; refine step_appN rfl _ _ _ rfl rfl rfl hrun7 (hKq _ _ ?_)))
                    have hD1 : (ds ++ [(id, (⟨W, num, resB body⟩ : Ans))]).length = D + 1 := by rw [List.length_append, HD.out]; rfl
                    cases hb4 : ((R : Int) / 192 % 2 == 0) with
                    | false =>
                      go_wp2_with fail
                      exact ⟨⟨k + 1, T2, A7, c7, _, rfl, by omega, by omega, rfl, hT3.1, by rw [hD1], by omega, Lib.hid (by rw [hD1]; exact H7.out)⟩, by simp [intOf]; omega⟩
                    | true =>
                      obtain ⟨ga, c9, A9, n9, ca9, hv, k0, k1, k2, k3, hcall⟩ := H7.out.ans HJ64.out (j := D) (d := (id, ⟨W, num, resB body⟩)) (by rw [← HD.out]; simp)
                      rw [hD1] at hv
                      injection hv with hv1 hv2 hv3
                      subst hv1 hv3
                      have HC := Lib.hid hcall
                      clear hcall
                      go_wp2_with fail
                      refine HC.out.mono ?_
                      rintro e w8 ⟨⟨b8, r8, rfl⟩, h8⟩
                      have H8 := Lib.hid h8
                      clear h8
                      go_wp2_with fail
                      exact ⟨⟨k + 1, T2, some ⟨ga, 0, none⟩, c7, _, rfl, by omega, by omega, rfl, hT3.1, by rw [hD1], by omega, Lib.hid (by rw [hD1]; exact H8.out)⟩, by simp [intOf]; omega⟩
          · obtain rfl : k = 40 := by omega
            go_wp2_with fail
            refine (HLS1.out.fin (by omega) (by rw [HJL.out]; omega) hk40).mono ?_
            rintro e w4 ⟨⟨r, rfl⟩, h4⟩
            have H4 := Lib.hid h4
            clear h4
            go_wp2_with fail
            go_loopw [15, 24] (fun t i wr => ∃ j T3 : Nat, i = .int .i64 (j : Int) ∧ j ≤ 12 ∧ t = .int .i64 (T3 : Int) ∧ T3 ≤ 80 + 7 * j ∧ Hid (FnS w g J (1 + M) (1 + (K : Int)) j T3 wr)) (fun _ i _ => 12 - (intOf i).toNat)
            case atStart => exact ⟨0, T, rfl, by omega, rfl, by omega, H4⟩
            case round =>
              obtain ⟨j, T3, rfl, hj, rfl, hT3', hfs⟩ := hrel
              by_cases hj12 : j < 12
              · go_wp2_with fail
                refine (hfs.out.ask (by omega) (by omega) (by omega) (by omega) hj12).mono ?_
                rintro e w5 ⟨At, nt, ct, id, num, isq, body, rfl, hnt, hrt, hbt, hnt2, hnw, hor⟩
                have HB5 := Lib.hid (And.intro hnt (And.intro hrt hbt))
                cases isq with
                | false =>
                  have h5 : FnS w g J (1 + M) (1 + (K : Int)) (j + 1) (T3 + 7) w5 := by
                    rcases hor with ⟨_, h⟩ | ⟨h, _⟩
                    · exact h
                    · cases h
                  have H5 := Lib.hid h5
                  clear hnt hrt hbt hor h5
                  go_wp2_with fail
                  exact ⟨⟨j + 1, T3 + 7, rfl, by omega, rfl, by omega, Lib.hid (H5.out.new ((Chg.refl _ _).alloc _))⟩, by simp [intOf]; omega⟩
                | true =>
                  have h5 : RepOk J (id, ⟨0, num, resB body⟩) ∧ FM w g J (1 + M) (1 + (K : Int)) (j + 1) (T3 + 7) id num body w5 := by
                    rcases hor with ⟨h, _⟩ | ⟨_, h1, h2⟩
                    · cases h
                    · exact ⟨h1, h2⟩
                  have H5 := Lib.hid h5
                  clear hnt hrt hbt hor h5
                  go_wp2_with fail
                  obtain ⟨w6, hw6⟩ : ∃ w6, w5.alloc (.cells #[.int .i64 id, .slice At nt ct] 30) = w6 := ⟨_, rfl⟩
                  obtain ⟨Bt, hBt⟩ : ∃ Bt, w5.heap.size = Bt := ⟨_, rfl⟩
                  rw [hw6, hBt]
                  have hbx : Blk w6 Bt 30 #[.int .i64 id, .slice At nt ct] := by rw [← hw6, ← hBt]; exact Blk.new _ _ _
                  have hn56 : New w5 w6 := by rw [← hw6]; exact (Chg.refl _ _).alloc _
                  have hrt6 := HB5.out.2.1.new hn56
                  have hbl := hbx.lt
                  have hsz6 : w5.heap.size < w6.heap.size := by rw [hBt]; exact hbl
                  have HSK := Lib.hid (show ∀ Wx, New w6 Wx → Wx.cell? ⟨Bt, 0, none⟩ = some (.int .i64 id) ∧ Wx.cell? ⟨Bt, 1, none⟩ = some (.slice At nt ct) from fun Wx hW =>
                    ⟨(hbx.chg hW (fun h => h)).cell 0 rfl, (hbx.chg hW (fun h => h)).cell 1 rfl⟩)
                  have HQ := Lib.hid (show ∀ Wx, New w6 Wx → Calls Try.prog 33 #[.slice At nt ct] Wx fun e w' => ∃ A' c', e = .returned (.slice A' (resB body).length c') ∧ w'.ownsRow w6.heap.size 5 1 (.slice A' (resB body).length c') (resB body).length (bs (resB body)) ∧ New w6 w' from fun Wx hW =>
                    (result_any At nt ct body Wx (hrt6.new hW) (by omega) (fun x hx => by have := HB5.out.2.2 x hx; have := hW.size; omega)).mono (by
                      rintro e w' ⟨A', c', rfl, q1, q2⟩
                      exact ⟨A', c', rfl, own_base q1 hW.size, hW.new q2⟩))
                  have HANS := Lib.hid (show ∀ Wx A' c', New w6 Wx → Wx.ownsRow w6.heap.size 5 1 (.slice A' (resB body).length c') (resB body).length (bs (resB body)) → Calls Try.prog 15 #[.pointer (some ⟨g, 0, none⟩), .agg #[.int .i64 id, .int .i64 0, .int .i64 num, .slice A' (resB body).length c'], .int .i64 ((T3 : Int) + 7)] Wx fun e w' => (∃ b r, e = .returned (.tuple #[.bool b, .int .i64 r])) ∧ FnS w g J (1 + M) (1 + (K : Int)) (j + 1) (T3 + 7) w' ∧ w'.cell? ⟨Bt, 0, none⟩ = some (.int .i64 id) ∧ w'.cell? ⟨Bt, 1, none⟩ = some (.slice At nt ct) from fun Wx A' c' hW ho =>
                    (H5.out.2.ans HJ64.out H5.out.1 (hn56.new hW) rfl (own_base ho hn56.size)).mono (by
                      rintro e w' ⟨z1, z2, z3⟩
                      have hk := z3 Bt _ _ (by omega) (hbx.chg hW (fun h => h))
                      exact ⟨z1, z2, hk.cell 0 rfl, hk.cell 1 rfl⟩))
                  obtain ⟨LL, hLL⟩ : ∃ LL, (resB body).length = LL := ⟨_, rfl⟩
                  rw [hLL] at HQ HANS
                  have hN0 : New w6 w6 := Chg.refl _ _
                  have hN1 : New w6 w6.drew := (Chg.refl _ _).drew
                  obtain ⟨s0, s1⟩ := HSK.out w6 hN0
                  clear hbx hn56 hrt6 hLL
                  go_region_held3 (fun Wx => Wx.cell? ⟨Bt, 0, none⟩ = some (.int .i64 id) ∧ Wx.cell? ⟨Bt, 1, none⟩ = some (.slice At nt ct)) (first | exact HSK.out _ (by assumption) | exact hS8)
                    (first
                    | (go_at_call 33; (with_reducible refine (HQ.out _ ?_).mono ?_); (first | exact (Chg.refl _ _).drew | exact Chg.refl _ _); rintro e w7 ⟨A7, c7, rfl, ho7, hn7⟩)
                    | (go_at_call 15; (with_reducible refine (HANS.out _ _ _ hn7 ho7).mono ?_); rintro e w8 ⟨⟨b8, r8, rfl⟩, h8, hS8⟩))
                  have H8 := Lib.hid h8
                  clear h8
                  go_wp2_with fail
                  exact ⟨⟨j + 1, T3 + 7, rfl, by omega, rfl, by omega, H8⟩, by simp [intOf]; omega⟩
              · obtain rfl : j = 12 := by omega
                obtain ⟨ds2, hd1, hd2, hdone⟩ := hfs.out.done
                rw [HJL.out] at hd1
                have HD2 := Lib.hid hd2
                have HDL := Lib.hid hd1
                rw [hd1] at hdone
                clear hd1 hd2
                go_wp2_with fail
                refine hdone.mono ?_
                rintro e w5 ⟨A5, c5, rfl, hlv, hf5, hn5⟩
                have HLV := Lib.hid hlv
                have HF5 := Lib.hid hf5
                clear hlv hf5
                go_wp2_with fail
                refine HF5.out.open.mono ?_
                rintro e w6 ⟨A6, c6, rfl, hn6⟩
                have HN6 := Lib.hid (HF5.out.was.new hn6)
                have HLV6 := Lib.hid (HLV.out.new hn6)
                clear hn5 hn6
                go_wp2_with fail
                go_loopw [30] (fun i wr => ∃ j : Nat, i = .int .i64 (j : Int) ∧ j ≤ many ∧ Hid (New w6 wr)) (fun i _ => many - (intOf i).toNat)
                case atStart => exact ⟨0, rfl, by omega, Lib.hid (Chg.refl _ _)⟩
                case round =>
                  obtain ⟨j, rfl, hjm, hnr⟩ := hrel
                  by_cases hjlt : j < many
                  · have hnw : New w wr := HN6.out.new hnr.out
                    obtain ⟨ad, u, rfl, hu, hcu⟩ := (HR1.out.new (hnw.alloc (.cells #[.slice none 0 0] 66))).at_ (k := j) (by omega)
                    obtain ⟨z, rfl, hz⟩ : ∃ z, u = .int .i64 z ∧ B[j]? = some z := by
                      unfold is at hu
                      rw [List.getElem?_map] at hu
                      cases hq : B[j]? with
                      | none => rw [hq] at hu; cases hu
                      | some z => rw [hq] at hu; injection hu with hu; exact ⟨z, hu.symm, rfl⟩
                    have hzr := HB.out z (List.mem_of_getElem? hz)
                    have hbi : b j = uvar (zig z) := by rw [Hb.out]; show uvar (zig (B.getD j 0)) = _; rw [List.getD_eq_getElem?_getD, hz]; rfl
                    have HBI := Lib.hid hbi
                    clear hu hz hbi hnw
                    have HWR := Lib.hid (wra_new wr)
                    go_wp2_with fail
                    refine (wInt_any wr.heap.size none [] z _ hzr.1 hzr.2 HWR.out (by simp)).mono ?_
                    rintro e w8 ⟨rfl, b3, hw3, hc3, ha3⟩
                    rw [List.nil_append, ← HBI.out] at hw3
                    have hn8 : New wr w8 := ((Chg.refl (fun _ => False) wr).alloc _).trans hc3 (fun k hk h => by
                      rcases h with h | h
                      · omega
                      · cases h)
                    have hlen : (b j).length ≤ 10 := by rw [HBI.out]; exact uvar_len (zig_lt z hzr.1 hzr.2)
                    have hJj : J[j]? = some (3 * (j : Int), b j) := by rw [← HJE.out]; exact tasks_at b hjlt
                    obtain ⟨a, ha1, ha2⟩ := HD2.out j _ hJj
                    obtain ⟨ga, c9, Ab, cab, hv, k0, _, _, k3, hrb, _⟩ := (HLV6.out.new (hnr.out.new hn8)).at_ ha1
                    dsimp only at k0 k3 hrb ha2
                    rw [ha2] at k3 hrb
                    have hga : ga < w8.heap.size := World.block_lt_of_cell? _ _ k0
                    injection hv with hv1 hv2 hv3
                    subst hv1 hv3
                    have HSK := Lib.hid (show ∀ Wx, New w8 Wx → Wx.cell? ⟨ga, j * 4, none⟩ = some (.int .i64 (3 * (j : Int))) ∧ Wx.cell? ⟨ga, j * 4 + 3, none⟩ = some (.slice Ab (resB (b j)).length cab) from fun Wx hW => ⟨hW.cell k0 (fun h => h), hW.cell k3 (fun h => h)⟩)
                    have HQD := Lib.hid (show ∀ Wx, New w8 Wx → Calls Try.prog 32 #[.pointer (some ⟨wr.heap.size, 0, none⟩)] Wx fun e w' => ∃ A' c', e = .returned (.slice A' (b j).length c') ∧ (Rd w' A' (b j).length (bs (b j)) ∧ ∀ k, Go.Mem.blk A' = some k → k < w'.heap.size) ∧ New w8 w' from fun Wx hW =>
                      (wDone_any wr.heap.size b3 (b j) Wx (wra_chg hw3 hW (fun h => h) (fun _ _ h => h)) (by omega)).mono (by
                        rintro e w' ⟨A', c', rfl, q1, q2⟩
                        exact ⟨A', c', rfl, ⟨Rd.of_own q1, fun k hk => (own_blk_le q1 hk).2⟩, hW.new q2⟩))
                    have HQR := Lib.hid (show ∀ Wx A' c', New w8 Wx → (Rd Wx A' (b j).length (bs (b j)) ∧ ∀ k, Go.Mem.blk A' = some k → k < Wx.heap.size) → Calls Try.prog 33 #[.slice A' (b j).length c'] Wx fun e w' => ∃ A'' c'', e = .returned (.slice A'' (resB (b j)).length c'') ∧ Rd w' A'' (resB (b j)).length (bs (resB (b j))) ∧ New w8 w' from fun Wx A' c' hW hR =>
                      (result_any A' _ c' (b j) Wx hR.1 (by omega) hR.2).mono (by
                        rintro e w' ⟨A'', c'', rfl, q1, q2⟩
                        exact ⟨A'', c'', rfl, Rd.of_own q1, hW.new q2⟩))
                    have HQS := Lib.hid (show ∀ Wx A'' c'', New w8 Wx → Rd Wx A'' (resB (b j)).length (bs (resB (b j))) → Calls Try.prog 34 #[.slice Ab (resB (b j)).length cab, .slice A'' (resB (b j)).length c''] Wx fun e w' => e = .returned (.bool true) ∧ New w8 w' from fun Wx A'' c'' hW hR =>
                      (sameBytes_any Ab A'' _ _ cab c'' _ _ Wx (hrb.new hW) hR (by have := resB_len (b j); omega) (by have := resB_len (b j); omega)).mono (by
                        rintro e w' ⟨rfl, q2⟩
                        exact ⟨by simp, hW.new q2⟩))
                    obtain ⟨L1, hL1⟩ : ∃ L1, (b j).length = L1 := ⟨_, rfl⟩
                    obtain ⟨L2, hL2⟩ : ∃ L2, (resB (b j)).length = L2 := ⟨_, rfl⟩
                    rw [hL2] at HQR HQS HSK
                    rw [hL1] at HQD HQR
                    have hN0 : New w8 w8 := Chg.refl _ _
                    have hN1 : New w8 w8.drew := (Chg.refl _ _).drew
                    obtain ⟨s0, s1⟩ := HSK.out w8 hN0
                    have hwr3 : IntKind.i64.wrap (3 * (j : Int)) = 3 * (j : Int) := IntWalk.i64_in _ (by omega)
                    have hne3 : (3 * (j : Int) != 3 * (j : Int)) = false := by simp
                    have HN8 := Lib.hid (hnr.out.new hn8)
                    clear hw3 hc3 ha3 hn8 hlen hJj ha1 ha2 k0 k3 hrb hv2 hL1 hL2
                    go_wp2_with fail
                    go_region_held3 (fun Wx => Wx.cell? ⟨ga, j * 4, none⟩ = some (.int .i64 (3 * (j : Int))) ∧ Wx.cell? ⟨ga, j * 4 + 3, none⟩ = some (.slice Ab L2 cab)) (first | exact HSK.out _ (by assumption))
                      (first
                      | (go_at_call 32; (with_reducible refine (HQD.out _ ?_).mono ?_); (first | exact (Chg.refl _ _).drew | exact Chg.refl _ _); rintro e w9 ⟨A9, c9, rfl, hr9, hn9⟩)
                      | (go_at_call 33; (with_reducible refine (HQR.out _ _ _ hn9 hr9).mono ?_); rintro e w10 ⟨A10, c10, rfl, hr10, hn10⟩)
                      | (go_at_call 34; (with_reducible refine (HQS.out _ _ _ hn10 hr10).mono ?_); rintro e w11 ⟨rfl, hn11⟩))
                    have HN11 := Lib.hid hn11
                    clear hn11
                    go_wp2_with fail
                    exact ⟨⟨j + 1, rfl, by omega, Lib.hid (HN8.out.new HN11.out)⟩, by simp [intOf]; omega⟩
                  · obtain rfl : many = j := by omega
                    go_wp2_with fail
                    refine (plives_any _).mono ?_
                    rintro e w7 ⟨rfl, hn7⟩
                    have HN7 := Lib.hid hn7
                    clear hn7
                    go_wp2_with fail
                    go_ret
                    exact ⟨rfl, (HN6.out.new hnr.out).new HN7.out⟩
        · obtain rfl : k = n2 := by omega
          go_wp2_with fail
          refine (HLS1.out.fin (by omega) (by rw [HJL.out]; omega) hk40).mono ?_
          rintro e w4 ⟨⟨r, rfl⟩, h4⟩
          have H4 := Lib.hid h4
          clear h4
          go_wp2_with fail
          go_loopw [15, 24] (fun t i wr => ∃ j T3 : Nat, i = .int .i64 (j : Int) ∧ j ≤ 12 ∧ t = .int .i64 (T3 : Int) ∧ T3 ≤ 80 + 7 * j ∧ Hid (FnS w g J (1 + M) (1 + (K : Int)) j T3 wr)) (fun _ i _ => 12 - (intOf i).toNat)
          case atStart => exact ⟨0, T, rfl, by omega, rfl, by omega, H4⟩
          case round =>
            obtain ⟨j, T3, rfl, hj, rfl, hT3', hfs⟩ := hrel
            by_cases hj12 : j < 12
            · go_wp2_with fail
              refine (hfs.out.ask (by omega) (by omega) (by omega) (by omega) hj12).mono ?_
              rintro e w5 ⟨At, nt, ct, id, num, isq, body, rfl, hnt, hrt, hbt, hnt2, hnw, hor⟩
              have HB5 := Lib.hid (And.intro hnt (And.intro hrt hbt))
              cases isq with
              | false =>
                have h5 : FnS w g J (1 + M) (1 + (K : Int)) (j + 1) (T3 + 7) w5 := by
                  rcases hor with ⟨_, h⟩ | ⟨h, _⟩
                  · exact h
                  · cases h
                have H5 := Lib.hid h5
                clear hnt hrt hbt hor h5
                go_wp2_with fail
                exact ⟨⟨j + 1, T3 + 7, rfl, by omega, rfl, by omega, Lib.hid (H5.out.new ((Chg.refl _ _).alloc _))⟩, by simp [intOf]; omega⟩
              | true =>
                have h5 : RepOk J (id, ⟨0, num, resB body⟩) ∧ FM w g J (1 + M) (1 + (K : Int)) (j + 1) (T3 + 7) id num body w5 := by
                  rcases hor with ⟨h, _⟩ | ⟨_, h1, h2⟩
                  · cases h
                  · exact ⟨h1, h2⟩
                have H5 := Lib.hid h5
                clear hnt hrt hbt hor h5
                go_wp2_with fail
                obtain ⟨w6, hw6⟩ : ∃ w6, w5.alloc (.cells #[.int .i64 id, .slice At nt ct] 30) = w6 := ⟨_, rfl⟩
                obtain ⟨Bt, hBt⟩ : ∃ Bt, w5.heap.size = Bt := ⟨_, rfl⟩
                rw [hw6, hBt]
                have hbx : Blk w6 Bt 30 #[.int .i64 id, .slice At nt ct] := by rw [← hw6, ← hBt]; exact Blk.new _ _ _
                have hn56 : New w5 w6 := by rw [← hw6]; exact (Chg.refl _ _).alloc _
                have hrt6 := HB5.out.2.1.new hn56
                have hbl := hbx.lt
                have hsz6 : w5.heap.size < w6.heap.size := by rw [hBt]; exact hbl
                have HSK := Lib.hid (show ∀ Wx, New w6 Wx → Wx.cell? ⟨Bt, 0, none⟩ = some (.int .i64 id) ∧ Wx.cell? ⟨Bt, 1, none⟩ = some (.slice At nt ct) from fun Wx hW =>
                  ⟨(hbx.chg hW (fun h => h)).cell 0 rfl, (hbx.chg hW (fun h => h)).cell 1 rfl⟩)
                have HQ := Lib.hid (show ∀ Wx, New w6 Wx → Calls Try.prog 33 #[.slice At nt ct] Wx fun e w' => ∃ A' c', e = .returned (.slice A' (resB body).length c') ∧ w'.ownsRow w6.heap.size 5 1 (.slice A' (resB body).length c') (resB body).length (bs (resB body)) ∧ New w6 w' from fun Wx hW =>
                  (result_any At nt ct body Wx (hrt6.new hW) (by omega) (fun x hx => by have := HB5.out.2.2 x hx; have := hW.size; omega)).mono (by
                    rintro e w' ⟨A', c', rfl, q1, q2⟩
                    exact ⟨A', c', rfl, own_base q1 hW.size, hW.new q2⟩))
                have HANS := Lib.hid (show ∀ Wx A' c', New w6 Wx → Wx.ownsRow w6.heap.size 5 1 (.slice A' (resB body).length c') (resB body).length (bs (resB body)) → Calls Try.prog 15 #[.pointer (some ⟨g, 0, none⟩), .agg #[.int .i64 id, .int .i64 0, .int .i64 num, .slice A' (resB body).length c'], .int .i64 ((T3 : Int) + 7)] Wx fun e w' => (∃ b r, e = .returned (.tuple #[.bool b, .int .i64 r])) ∧ FnS w g J (1 + M) (1 + (K : Int)) (j + 1) (T3 + 7) w' ∧ w'.cell? ⟨Bt, 0, none⟩ = some (.int .i64 id) ∧ w'.cell? ⟨Bt, 1, none⟩ = some (.slice At nt ct) from fun Wx A' c' hW ho =>
                  (H5.out.2.ans HJ64.out H5.out.1 (hn56.new hW) rfl (own_base ho hn56.size)).mono (by
                    rintro e w' ⟨z1, z2, z3⟩
                    have hk := z3 Bt _ _ (by omega) (hbx.chg hW (fun h => h))
                    exact ⟨z1, z2, hk.cell 0 rfl, hk.cell 1 rfl⟩))
                obtain ⟨LL, hLL⟩ : ∃ LL, (resB body).length = LL := ⟨_, rfl⟩
                rw [hLL] at HQ HANS
                have hN0 : New w6 w6 := Chg.refl _ _
                have hN1 : New w6 w6.drew := (Chg.refl _ _).drew
                obtain ⟨s0, s1⟩ := HSK.out w6 hN0
                clear hbx hn56 hrt6 hLL
                go_region_held3 (fun Wx => Wx.cell? ⟨Bt, 0, none⟩ = some (.int .i64 id) ∧ Wx.cell? ⟨Bt, 1, none⟩ = some (.slice At nt ct)) (first | exact HSK.out _ (by assumption) | exact hS8)
                  (first
                  | (go_at_call 33; (with_reducible refine (HQ.out _ ?_).mono ?_); (first | exact (Chg.refl _ _).drew | exact Chg.refl _ _); rintro e w7 ⟨A7, c7, rfl, ho7, hn7⟩)
                  | (go_at_call 15; (with_reducible refine (HANS.out _ _ _ hn7 ho7).mono ?_); rintro e w8 ⟨⟨b8, r8, rfl⟩, h8, hS8⟩))
                have H8 := Lib.hid h8
                clear h8
                go_wp2_with fail
                exact ⟨⟨j + 1, T3 + 7, rfl, by omega, rfl, by omega, H8⟩, by simp [intOf]; omega⟩
            · obtain rfl : j = 12 := by omega
              obtain ⟨ds2, hd1, hd2, hdone⟩ := hfs.out.done
              rw [HJL.out] at hd1
              have HD2 := Lib.hid hd2
              have HDL := Lib.hid hd1
              rw [hd1] at hdone
              clear hd1 hd2
              go_wp2_with fail
              refine hdone.mono ?_
              rintro e w5 ⟨A5, c5, rfl, hlv, hf5, hn5⟩
              have HLV := Lib.hid hlv
              have HF5 := Lib.hid hf5
              clear hlv hf5
              go_wp2_with fail
              refine HF5.out.open.mono ?_
              rintro e w6 ⟨A6, c6, rfl, hn6⟩
              have HN6 := Lib.hid (HF5.out.was.new hn6)
              have HLV6 := Lib.hid (HLV.out.new hn6)
              clear hn5 hn6
              go_wp2_with fail
              go_loopw [30] (fun i wr => ∃ j : Nat, i = .int .i64 (j : Int) ∧ j ≤ many ∧ Hid (New w6 wr)) (fun i _ => many - (intOf i).toNat)
              case atStart => exact ⟨0, rfl, by omega, Lib.hid (Chg.refl _ _)⟩
              case round =>
                obtain ⟨j, rfl, hjm, hnr⟩ := hrel
                by_cases hjlt : j < many
                · have hnw : New w wr := HN6.out.new hnr.out
                  obtain ⟨ad, u, rfl, hu, hcu⟩ := (HR1.out.new (hnw.alloc (.cells #[.slice none 0 0] 66))).at_ (k := j) (by omega)
                  obtain ⟨z, rfl, hz⟩ : ∃ z, u = .int .i64 z ∧ B[j]? = some z := by
                    unfold is at hu
                    rw [List.getElem?_map] at hu
                    cases hq : B[j]? with
                    | none => rw [hq] at hu; cases hu
                    | some z => rw [hq] at hu; injection hu with hu; exact ⟨z, hu.symm, rfl⟩
                  have hzr := HB.out z (List.mem_of_getElem? hz)
                  have hbi : b j = uvar (zig z) := by rw [Hb.out]; show uvar (zig (B.getD j 0)) = _; rw [List.getD_eq_getElem?_getD, hz]; rfl
                  have HBI := Lib.hid hbi
                  clear hu hz hbi hnw
                  have HWR := Lib.hid (wra_new wr)
                  go_wp2_with fail
                  refine (wInt_any wr.heap.size none [] z _ hzr.1 hzr.2 HWR.out (by simp)).mono ?_
                  rintro e w8 ⟨rfl, b3, hw3, hc3, ha3⟩
                  rw [List.nil_append, ← HBI.out] at hw3
                  have hn8 : New wr w8 := ((Chg.refl (fun _ => False) wr).alloc _).trans hc3 (fun k hk h => by
                    rcases h with h | h
                    · omega
                    · cases h)
                  have hlen : (b j).length ≤ 10 := by rw [HBI.out]; exact uvar_len (zig_lt z hzr.1 hzr.2)
                  have hJj : J[j]? = some (3 * (j : Int), b j) := by rw [← HJE.out]; exact tasks_at b hjlt
                  obtain ⟨a, ha1, ha2⟩ := HD2.out j _ hJj
                  obtain ⟨ga, c9, Ab, cab, hv, k0, _, _, k3, hrb, _⟩ := (HLV6.out.new (hnr.out.new hn8)).at_ ha1
                  dsimp only at k0 k3 hrb ha2
                  rw [ha2] at k3 hrb
                  have hga : ga < w8.heap.size := World.block_lt_of_cell? _ _ k0
                  injection hv with hv1 hv2 hv3
                  subst hv1 hv3
                  have HSK := Lib.hid (show ∀ Wx, New w8 Wx → Wx.cell? ⟨ga, j * 4, none⟩ = some (.int .i64 (3 * (j : Int))) ∧ Wx.cell? ⟨ga, j * 4 + 3, none⟩ = some (.slice Ab (resB (b j)).length cab) from fun Wx hW => ⟨hW.cell k0 (fun h => h), hW.cell k3 (fun h => h)⟩)
                  have HQD := Lib.hid (show ∀ Wx, New w8 Wx → Calls Try.prog 32 #[.pointer (some ⟨wr.heap.size, 0, none⟩)] Wx fun e w' => ∃ A' c', e = .returned (.slice A' (b j).length c') ∧ (Rd w' A' (b j).length (bs (b j)) ∧ ∀ k, Go.Mem.blk A' = some k → k < w'.heap.size) ∧ New w8 w' from fun Wx hW =>
                    (wDone_any wr.heap.size b3 (b j) Wx (wra_chg hw3 hW (fun h => h) (fun _ _ h => h)) (by omega)).mono (by
                      rintro e w' ⟨A', c', rfl, q1, q2⟩
                      exact ⟨A', c', rfl, ⟨Rd.of_own q1, fun k hk => (own_blk_le q1 hk).2⟩, hW.new q2⟩))
                  have HQR := Lib.hid (show ∀ Wx A' c', New w8 Wx → (Rd Wx A' (b j).length (bs (b j)) ∧ ∀ k, Go.Mem.blk A' = some k → k < Wx.heap.size) → Calls Try.prog 33 #[.slice A' (b j).length c'] Wx fun e w' => ∃ A'' c'', e = .returned (.slice A'' (resB (b j)).length c'') ∧ Rd w' A'' (resB (b j)).length (bs (resB (b j))) ∧ New w8 w' from fun Wx A' c' hW hR =>
                    (result_any A' _ c' (b j) Wx hR.1 (by omega) hR.2).mono (by
                      rintro e w' ⟨A'', c'', rfl, q1, q2⟩
                      exact ⟨A'', c'', rfl, Rd.of_own q1, hW.new q2⟩))
                  have HQS := Lib.hid (show ∀ Wx A'' c'', New w8 Wx → Rd Wx A'' (resB (b j)).length (bs (resB (b j))) → Calls Try.prog 34 #[.slice Ab (resB (b j)).length cab, .slice A'' (resB (b j)).length c''] Wx fun e w' => e = .returned (.bool true) ∧ New w8 w' from fun Wx A'' c'' hW hR =>
                    (sameBytes_any Ab A'' _ _ cab c'' _ _ Wx (hrb.new hW) hR (by have := resB_len (b j); omega) (by have := resB_len (b j); omega)).mono (by
                      rintro e w' ⟨rfl, q2⟩
                      exact ⟨by simp, hW.new q2⟩))
                  obtain ⟨L1, hL1⟩ : ∃ L1, (b j).length = L1 := ⟨_, rfl⟩
                  obtain ⟨L2, hL2⟩ : ∃ L2, (resB (b j)).length = L2 := ⟨_, rfl⟩
                  rw [hL2] at HQR HQS HSK
                  rw [hL1] at HQD HQR
                  have hN0 : New w8 w8 := Chg.refl _ _
                  have hN1 : New w8 w8.drew := (Chg.refl _ _).drew
                  obtain ⟨s0, s1⟩ := HSK.out w8 hN0
                  have hwr3 : IntKind.i64.wrap (3 * (j : Int)) = 3 * (j : Int) := IntWalk.i64_in _ (by omega)
                  have hne3 : (3 * (j : Int) != 3 * (j : Int)) = false := by simp
                  have HN8 := Lib.hid (hnr.out.new hn8)
                  clear hw3 hc3 ha3 hn8 hlen hJj ha1 ha2 k0 k3 hrb hv2 hL1 hL2
                  go_wp2_with fail
                  go_region_held3 (fun Wx => Wx.cell? ⟨ga, j * 4, none⟩ = some (.int .i64 (3 * (j : Int))) ∧ Wx.cell? ⟨ga, j * 4 + 3, none⟩ = some (.slice Ab L2 cab)) (first | exact HSK.out _ (by assumption))
                    (first
                    | (go_at_call 32; (with_reducible refine (HQD.out _ ?_).mono ?_); (first | exact (Chg.refl _ _).drew | exact Chg.refl _ _); rintro e w9 ⟨A9, c9, rfl, hr9, hn9⟩)
                    | (go_at_call 33; (with_reducible refine (HQR.out _ _ _ hn9 hr9).mono ?_); rintro e w10 ⟨A10, c10, rfl, hr10, hn10⟩)
                    | (go_at_call 34; (with_reducible refine (HQS.out _ _ _ hn10 hr10).mono ?_); rintro e w11 ⟨rfl, hn11⟩))
                  have HN11 := Lib.hid hn11
                  clear hn11
                  go_wp2_with fail
                  exact ⟨⟨j + 1, rfl, by omega, Lib.hid (HN8.out.new HN11.out)⟩, by simp [intOf]; omega⟩
                · obtain rfl : many = j := by omega
                  go_wp2_with fail
                  refine (plives_any _).mono ?_
                  rintro e w7 ⟨rfl, hn7⟩
                  have HN7 := Lib.hid hn7
                  clear hn7
                  go_wp2_with fail
                  go_ret
                  exact ⟨rfl, (HN6.out.new hnr.out).new HN7.out⟩
end Go.Proofs.Ytbmplfhcdkeooaa
