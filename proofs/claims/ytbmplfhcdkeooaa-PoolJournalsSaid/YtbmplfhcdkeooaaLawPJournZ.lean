/- The law PoolJournals. -/
import Derived.Test.YtbmplfhcdkeooaaPlUZ
import Derived.Test.YtbmplfhcdkeooaaPlOZ
import Derived.Test.YtbmplfhcdkeooaaG4
import Derived.Test.YtbmplfhcdkeooaaHas
import Derived.Test.YtbmplfhcdkeooaaArgs
set_option linter.unusedSimpArgs false
set_option linter.unusedVariables false
namespace Go.Proofs.Ytbmplfhcdkeooaa
set_option linter.unusedVariables false
open Go.RowKit Go.Mem Go.Pl

set_option maxHeartbeats 16000000 in
set_option maxRecDepth 100000 in
theorem poolJournals_walk (A1 : Option Addr) (n1 c1 : Nat) (L : List Int) (kp : Int) (w : World) (hr1 : Rd w A1 n1 (is L)) (hL : ∀ z ∈ L, -9223372036854775808 ≤ z ∧ z ≤ 9223372036854775807) (hn1 : n1 ≤ 9223372036854775807) (hkp : Go.Mem.I64 kp) :
    Calls Try.prog 9 #[.slice A1 n1 c1, .int .i64 kp] w fun e w' => e = .returned (.bool true) ∧ New w w' := by
  have HR1 := Lib.hid hr1
  have HL := Lib.hid hL
  have HKP := Lib.hid hkp
  clear hr1 hL hkp
  go_enter Try.func9, Try.ntmps9
  go_wp2_with fail
  refine (dNew_any 100000 (by omega) w).mono ?_
  rintro e w1 ⟨gd, m, rfl, hd, hn1', hgd, hm⟩
  obtain ⟨sd, heq, hheld⟩ := held_start
  have HD := Lib.hid (And.intro hd (And.intro hn1' (And.intro hgd hm)))
  have HEQ := Lib.hid heq
  have HHELD := Lib.hid hheld
  clear hd hn1' hgd hm heq hheld
  go_wp2_with fail
  refine (jOpen_any gd m _ _ w1 HD.out.1 2).mono ?_
  rintro e w2 ⟨p, A2, nl2, cl2, vs2, V2, rfl, q1, q2, q3⟩
  rw [show (100000 : Int).toNat = 100000 from rfl] at q1 q3 ⊢
  rw [HEQ.out] at q1 q3 ⊢
  dsimp only at q1 q3 ⊢
  obtain ⟨_, gl, rfl, hgl, hglo, hlg, _⟩ | ⟨hx, _⟩ := q3
  case inr => exact absurd rfl hx
  have H2 := Lib.hid (And.intro q1 (And.intro q2 (And.intro hgl (And.intro hglo hlg))))
  clear q1 q2 hgl hglo hlg
  go_wp2_with fail
  refine (p2NewZ 2 3 (by omega) (by omega) w w2 (HD.out.2.1.trans H2.out.2.1.chg (fun k hk ho => by
    rcases ho with rfl | rfl | ⟨i, hi⟩
    · have := HD.out.2.2.1; omega
    · have := HD.out.2.2.2; omega
    · cases hi))).mono ?_
  rintro e w3 ⟨gp, O3, Z3, rfl, hp, hn3, hz3⟩
  have HJ := Lib.hid (show JS w gp gd gl [] (new 2 3) sd ⟨2, 0, false⟩ w3 from JS.start (w1 := w) (Nat.le_refl _) H2.out.1 (fun k hk => by
    rcases H2.out.2.1.own k hk with ho | ho
    · rcases ho with rfl | rfl | ⟨i, hi⟩
      · exact HD.out.2.2.1
      · exact HD.out.2.2.2
      · cases hi
    · exact Nat.le_trans HD.out.2.1.size ho) H2.out.2.2.2.2 (Nat.le_trans HD.out.2.1.size H2.out.2.2.1) H2.out.2.2.2.1 hp hn3 hz3)
  clear hp hn3 hz3
  go_wp2_with fail
  go_loopw [12] (fun v wr => ∃ i : Nat, v = .int .i64 (i : Int) ∧ i ≤ 6 ∧ Hid (∃ s, JS w gp gd gl [] s sd ⟨2, 0, false⟩ wr ∧ Ad i s)) (fun v _ => 6 - (intOf v).toNat)
  case atStart => exact ⟨0, rfl, by omega, Lib.hid ⟨_, HJ.out, Ad.start⟩⟩
  case round =>
    obtain ⟨i, rfl, hi, hh⟩ := hrel
    obtain ⟨s, hs, had⟩ := hh.out
    have HS := Lib.hid hs
    have HA := Lib.hid had
    clear hs had hh
    by_cases hlt : i < 6
    · go_wp2_with fail
      refine (HS.out.add (i : Int) (by unfold Go.Mem.I64; omega)).mono ?_
      rintro e w4 ⟨rfl, h4⟩
      obtain ⟨a1, a2⟩ := HA.out.add hlt
      rw [a1]
      have H4 := Lib.hid (show ∃ s, JS w gp gd gl [] s sd ⟨2, 0, false⟩ w4 ∧ Ad (i + 1) s from ⟨_, h4, a2⟩)
      clear h4 a1 a2
      go_wp2_with fail
      exact ⟨⟨i + 1, rfl, by omega, H4⟩, by simp [intOf]; omega⟩
    · obtain rfl : i = 6 := by omega
      rw [show ((6 : Nat) : Int) = (6 : Int) from rfl]
      have HST := Lib.hid (show Jr s [] ∧ s.tries.length = 0 from ⟨HA.out.jr, by rw [HA.out.tr]; rfl⟩)
      clear HA
      go_wp2_with fail
      go_loopw [13] (fun v wr => ∃ i : Nat, v = .int .i64 (i : Int) ∧ i ≤ n1 ∧ i ≤ 24 ∧ Hid (∃ s sd lg rs, JS w gp gd gl [] s sd lg wr ∧ Jr s rs ∧ s.tries.length ≤ i ∧ Held rs sd lg ∧ rs.length ≤ i)) (fun v _ => 24 - (intOf v).toNat)
      case atStart => exact ⟨0, rfl, by omega, by omega, Lib.hid ⟨_, _, _, _, HS.out, HST.out.1, by rw [HST.out.2]; exact Nat.le_refl _, HHELD.out, Nat.le_refl _⟩⟩
      case round =>
        obtain ⟨i, rfl, hi, hi24, hh⟩ := hrel
        obtain ⟨s, sd, lg, rs, hs, hjr, htl, hheld, hrl⟩ := hh.out
        have HS := Lib.hid hs
        have HJR := Lib.hid hjr
        have HTL := Lib.hid htl
        have HHE := Lib.hid hheld
        have HRL := Lib.hid hrl
        clear hs hjr htl hheld hrl hh
        by_cases hrun : i < n1 ∧ i < 24
        · obtain ⟨hlt, hlt24⟩ := hrun
          obtain ⟨ad, u, rfl, hu, hcu⟩ := (HR1.out.new HS.out.was).at_ (k := i) (by omega)
          obtain ⟨z, rfl, hz⟩ : ∃ z, u = .int .i64 z ∧ L[i]? = some z := by
            unfold is at hu
            rw [List.getElem?_map] at hu
            cases hq : L[i]? with
            | none => rw [hq] at hu; cases hu
            | some z => rw [hq] at hu; injection hu with hu; exact ⟨z, hu.symm, rfl⟩
          have hzr := HL.out z (List.mem_of_getElem? hz)
          obtain ⟨r1, r2⟩ := aroundI_range z 65536 (by omega)
          obtain ⟨R, hR⟩ : ∃ R : Nat, aroundI z 65536 = (R : Int) := ⟨(aroundI z 65536).toNat, by omega⟩
          have hRlt : R < 65536 := by omega
          have HR := Lib.hid hR
          clear hu hz hR r1 r2
          go_wp2_with fail
          refine (around_any z 65536 _ hzr.1 hzr.2 (by omega) (by omega)).mono ?_
          rintro e w3 ⟨rfl, hw⟩
          subst hw
          rw [HR.out]
          obtain ⟨wk, hwk⟩ : ∃ wk : Int, (R : Int) % 2 = wk := ⟨_, rfl⟩
          have HWK := Lib.hid hwk
          clear hwk
          go_wp2_with fail
          rw [HWK.out]
          refine (HS.out.ask wk (i : Int) (by have := HTL.out; omega)).mono ?_
          have hask := HJR.out.ask wk (i : Int)
          obtain ⟨Q, hQ⟩ : ∃ Q, Pl.ask s wk (i : Int) = Q := ⟨_, rfl⟩
          rw [hQ] at hask ⊢
          obtain ⟨s5, id, body, num, isq, err⟩ := Q
          dsimp only at hask ⊢
          rintro e w5 ⟨A5, n5, c5, rfl, h5⟩
          obtain ⟨a1, a2, a3⟩ := hask
          cases isq with
          | false =>
            have H5 := Lib.hid (show ∃ s sd lg rs, JS w gp gd gl [] s sd lg w5 ∧ Jr s rs ∧ s.tries.length ≤ i + 1 ∧ Held rs sd lg ∧ rs.length ≤ i + 1 from ⟨_, _, _, _, h5, a1, by have := HTL.out; omega, HHE.out, by have := HRL.out; omega⟩)
            clear h5 a1 a2 a3 hQ
            go_wp2_with fail
            refine ⟨⟨i + 1, rfl, by omega, by omega, Lib.hid ?_⟩, by simp [intOf]; omega⟩
            obtain ⟨s, sd, lg, rs, q1, q2⟩ := H5.out
            exact ⟨s, sd, lg, rs, q1.new ((Chg.refl _ _).alloc _), q2⟩
          | true =>
            obtain ⟨e1, e2, e3, j, hj, ej, ea⟩ := a3 rfl
            by_cases hz : R / 2 % 3 = 0
            · have hzb : ((R : Int) / 2 % 3 == 0) = true := by rw [show (R : Int) / 2 % 3 = 0 by omega]; rfl
              have H5 := Lib.hid (show ∃ s sd lg rs, JS w gp gd gl [] s sd lg w5 ∧ Jr s rs ∧ s.tries.length ≤ i + 1 ∧ Held rs sd lg ∧ rs.length ≤ i + 1 from ⟨_, _, _, _, h5, a1, by have := HTL.out; omega, HHE.out, by have := HRL.out; omega⟩)
              clear h5 a1 a2 a3 hQ e1 e2 e3 hj ej ea hz
              go_wp2_with fail
              refine ⟨⟨i + 1, rfl, by omega, by omega, Lib.hid ?_⟩, by simp [intOf]; omega⟩
              obtain ⟨s, sd, lg, rs, q1, q2⟩ := H5.out
              exact ⟨s, sd, lg, rs, q1.new ((Chg.refl _ _).alloc _), q2⟩
            · have hzb : ((R : Int) / 2 % 3 == 0) = false := by rw [beq_eq_false_iff_ne]; omega
              obtain ⟨b, hb⟩ : ∃ b, b = [UInt8.ofNat R, UInt8.ofNat i] := ⟨_, rfl⟩
              have hbl : b.length = 2 := by rw [hb]; rfl
              have hbs : bs b = [.int .u8 ((R : Int) % 256), .int .u8 (i : Int)] := by rw [hb]; simp [bs, By]; omega
              have hans := a1.answer e1 (by have := HTL.out; omega) (now := (i : Int)) ⟨by show s5.tick ≤ (i : Int); omega, by omega⟩ hj ej ea (b := b) hbl (c := [1]) (by simp)
              dsimp only at hans
              have hnum := num_small a1.wf e1
              dsimp only at hnum
              obtain ⟨d1, d2, d3, d4, d5⟩ := hans
              have hid : Go.Mem.I64 id := by unfold Go.Mem.I64; omega
              have hnm : Go.Mem.I64 num := by unfold Go.Mem.I64; have := HTL.out; omega
              obtain ⟨w6, hw6⟩ : ∃ w6, w5.alloc (.cells #[.int .i64 id, .slice A5 n5 c5] 30) = w6 := ⟨_, rfl⟩
              obtain ⟨B2, hB2⟩ : ∃ B2, w5.heap.size = B2 := ⟨_, rfl⟩
              have h6 := h5.box 30 #[.int .i64 id, .slice A5 n5 c5]
              rw [hw6, hB2] at h6
              obtain ⟨w7, hw7⟩ : ∃ w7, w6.alloc (.cells #[.int .u8 ((R : Int) % 256), .int .u8 (i : Int)] 5) = w7 := ⟨_, rfl⟩
              obtain ⟨B3, hB3⟩ : ∃ B3, w6.heap.size = B3 := ⟨_, rfl⟩
              have h7 := h6.box 5 #[.int .u8 ((R : Int) % 256), .int .u8 (i : Int)]
              rw [hw7, hB3] at h7
              have t0 := (h7.bx_at (b := (B2, 30, #[.int .i64 id, .slice A5 n5 c5])) (by simp)).cell 0 (u := .int .i64 id) rfl
              dsimp only at t0
              have hc1 := h7.answer id wk num (i : Int) hid hnm (l := b) (n := 2) hbl (by omega) (List.mem_cons_self ..) (by rw [hbs])
              rw [d1] at hc1
              obtain ⟨s8, hs8⟩ : ∃ s8, (Pl.answer s5 id wk num b (i : Int)).1 = s8 := ⟨_, rfl⟩
              rw [hs8] at hc1 d2 d3 d4
              have HC1 := Lib.hid hc1
              have HD := Lib.hid (And.intro d2 (And.intro d3 d4))
              have HBS := Lib.hid hbs
              have HBL := Lib.hid hbl
              have HA2 := Lib.hid a2
              clear h5 h6 h7 a1 a2 a3 hQ e1 e2 e3 hj ej ea hz hb hbl hbs d1 d2 d3 d4 hc1 hnum hs8
              go_wp2_with fail
              rw [HWK.out]
              refine HC1.out.mono ?_
              rintro e w8 ⟨rfl, h8⟩
              have t0 := (h8.bx_at (b := (B2, 30, #[.int .i64 id, .slice A5 n5 c5])) (by simp)).cell 0 (u := .int .i64 id) rfl
              dsimp only at t0
              obtain ⟨w9, hw9⟩ : ∃ w9, w8.alloc (.cells #[.int .u8 1] 5) = w9 := ⟨_, rfl⟩
              obtain ⟨B4, hB4⟩ : ∃ B4, w8.heap.size = B4 := ⟨_, rfl⟩
              have h9 := h8.box 5 #[.int .u8 1]
              rw [hw9, hB4] at h9
              have t9 := (h9.bx_at (b := (B2, 30, #[.int .i64 id, .slice A5 n5 c5])) (by simp)).cell 0 (u := .int .i64 id) rfl
              dsimp only at t9
              have hc2 := h9.answer id wk num (i : Int) hid hnm (l := [1]) (n := 1) rfl (by omega) (List.mem_cons_self ..) rfl
              rw [HD.out.1] at hc2
              obtain ⟨s10, hs10⟩ : ∃ s10, (Pl.answer s8 id wk num [1] (i : Int)).1 = s10 := ⟨_, rfl⟩
              have hd3 := HD.out.2
              rw [hs10] at hc2 hd3
              have HC2 := Lib.hid hc2
              have HD3 := Lib.hid hd3
              clear h8 h9 hc2 hd3 hs10 HC1
              go_wp2_with fail
              rw [HWK.out]
              refine HC2.out.mono ?_
              rintro e w10 ⟨rfl, h10⟩
              have t10 := (h10.bx_at (b := (B2, 30, #[.int .i64 id, .slice A5 n5 c5])) (by simp)).cell 0 (u := .int .i64 id) rfl
              dsimp only at t10
              have hb3 := h10.bx_at (b := (B3, 5, #[.int .u8 ((R : Int) % 256), .int .u8 (i : Int)])) (by simp)
              dsimp only at hb3
              have hr3 : Rd w10 (some ⟨B3, 0, none⟩) 2 (bs b) := ⟨by rw [HBS.out]; rfl, fun _ => ⟨_, rfl, fun j u hu => by
                rw [Addr.add_lit, Nat.zero_add]
                rw [HBS.out] at hu
                exact hb3.cell j (by simpa using hu)⟩⟩
              have hb3l := hb3.lt
              obtain ⟨w11, hw11⟩ : ∃ w11, w10.alloc (.cells #[.slice none 0 0] 66) = w11 := ⟨_, rfl⟩
              obtain ⟨B5, hB5⟩ : ∃ B5, w10.heap.size = B5 := ⟨_, rfl⟩
              have hn11 : New w10 w11 := by rw [← hw11]; exact (Chg.refl _ _).alloc _
              have hwr : WrAt w11 B5 none [] := by rw [← hw11, ← hB5]; exact wra_new w10
              have t11 := hn11.cell t10 (fun h => h)
              have HJ10 := Lib.hid (h10.drop [] (fun b hb => by simp at hb))
              have HR3 := Lib.hid (And.intro hr3 (show B3 < B5 by omega))
              have HN11 := Lib.hid hn11
              have HWR := Lib.hid hwr
              clear h10 hb3 hr3 hn11 hwr hb3l HC2
              go_wp2_with fail
              refine (wInt_any B5 none [] id _ hid.1 hid.2 HWR.out (by simp)).mono ?_
              rintro e w12 ⟨rfl, b12, hw12, hc12, ha12⟩
              rw [List.nil_append] at hw12
              have hn12 : New w10 w12 := HN11.out.trans hc12 (fun k hk h => by
                rcases h with h | h
                · omega
                · cases h)
              have hb12 : b12 = none ∨ ∃ k, b12 = some k ∧ B5 ≤ k := by
                rcases ha12 with h | ⟨k, h1, h2⟩
                · exact .inl h
                · exact .inr ⟨k, h1, by have := HN11.out.size; omega⟩
              have HW12 := Lib.hid (And.intro hw12 (And.intro hn12 hb12))
              clear hw12 hc12 ha12 hn12 hb12
              go_wp2_with fail
              refine (wRaw_any B5 b12 _ (some ⟨B3, 0, none⟩) 2 2 b _ (HR3.out.1.new HW12.out.2.1) (by have := HR3.out.2; simp [blk]; omega) (by
                rcases HW12.out.2.2 with h | ⟨k, h1, h2⟩
                · exact .inl h
                · refine .inr ?_
                  rw [h1]
                  have := HR3.out.2
                  simp [blk]
                  omega) (by omega) HW12.out.1 (by have := Pure.uvar_len (Pure.zig_lt id hid.1 hid.2); omega)).mono ?_
              rintro e w13 ⟨rfl, b13, hw13, hc13, ha13⟩
              have hcore : Pure.uvar (Pure.zig id) ++ (Pure.uvar 2 ++ b) = Pure.coreP id b := by unfold Pure.coreP; rw [HBL.out]
              rw [hcore] at hw13
              have hn13 : New w10 w13 := HW12.out.2.1.trans hc13 (fun k hk h => by
                rcases h with h | h
                · omega
                · rcases HW12.out.2.2 with h' | ⟨k', h1, h2⟩
                  · rw [h'] at h; cases h
                  · rw [h1] at h; injection h with h; omega)
              have HW13 := Lib.hid (And.intro hw13 hn13)
              have hcl := Pure.coreP_len id b hid.1 hid.2 (by rw [HBL.out]; omega)
              rw [HBL.out] at hcl
              obtain ⟨C, hC⟩ : ∃ C, Pure.coreP id b = C := ⟨_, rfl⟩
              rw [hC] at hcl HW13
              have HCC := Lib.hid hC
              obtain ⟨sd', lg', hap, hhe'⟩ := HHE.out.app (by have := HRL.out; omega) (id := id) (b := b) HBL.out d5
              rw [hC] at hap
              have HAP := Lib.hid hap
              have HHE' := Lib.hid hhe'
              clear hw13 hc13 ha13 hn13 hcore hC hap hhe'
              go_wp2_with fail
              refine (wDone_any B5 b13 C w13 HW13.out.1 (by omega)).mono ?_
              rintro e w14 ⟨A14, c14, rfl, ho14, hn14⟩
              have HO14 := Lib.hid (And.intro ho14 hn14)
              clear ho14 hn14
              go_wp2_with fail
              refine ((HJ10.out.new (HW13.out.2.new HO14.out.2)).append A14 _ c14 C (Rd.of_own HO14.out.1) (fun k hk => (own_blk_le HO14.out.1 hk).2) (by omega) (by
                obtain ⟨_, _, _, e⟩ := HHE.out
                rw [e]
                have := HRL.out
                show rs.length ≤ _
                omega)).mono ?_
              rw [HAP.out]
              rintro e w15 ⟨rfl, h15⟩
              have H15 := Lib.hid (show ∃ s sd lg rs, JS w gp gd gl [] s sd lg w15 ∧ Jr s rs ∧ s.tries.length ≤ i + 1 ∧ Held rs sd lg ∧ rs.length ≤ i + 1 from ⟨_, _, _, _, h15, HD3.out.1, by rw [HD3.out.2]; have := HTL.out; have := HA2.out; omega, HHE'.out, by rw [List.length_append]; have := HRL.out; simp; omega⟩)
              clear h15
              go_wp2_with fail
              exact ⟨⟨i + 1, rfl, by omega, by omega, H15⟩, by simp [intOf]; omega⟩
        · rcases (show ¬ i < n1 ∨ (i < n1 ∧ ¬ i < 24) by omega) with hout | ⟨hout, hout2⟩
          all_goals clear hrun
          all_goals (
            obtain ⟨w4, hw4⟩ : ∃ w4, wr.alloc (.cells #[.int .i64 kp] 3) = w4 := ⟨_, rfl⟩
            obtain ⟨B4, hB4⟩ : ∃ B4, wr.heap.size = B4 := ⟨_, rfl⟩
            have hn4 : New wr w4 := by rw [← hw4]; exact (Chg.refl _ _).alloc _
            have hb4 : Blk w4 B4 3 #[.int .i64 kp] := by rw [← hw4, ← hB4]; exact Blk.new _ _ _
            have hr4 : Rd w4 (some ⟨B4, 0, none⟩) 1 (is [kp]) := ⟨rfl, fun _ => ⟨_, rfl, fun j u hu => by rw [Addr.add_lit, Nat.zero_add]; exact hb4.cell j (by simpa [is] using hu)⟩⟩
            have hc4 := HS.out.crash kp HKP.out hn4 (gb := B4) (by omega) hr4 hb4.lt
            have HC4 := Lib.hid hc4
            clear hn4 hb4 hr4 hc4
            go_wp2_with fail
            refine HC4.out.mono ?_
            rintro e w5 ⟨rfl, h5⟩
            obtain ⟨s', hopen⟩ := HHE.out.crash kp h5.dwf
            have hcall := h5.open (by rw [hopen])
            rw [hopen] at hcall
            dsimp only at hcall
            obtain ⟨ls, hls⟩ : ∃ ls, rs.map (fun r => Pure.coreP r.1 r.2) = ls := ⟨_, rfl⟩
            have hlsl : ls.length = rs.length := by rw [← hls, List.length_map]
            rw [hls, hlsl] at hcall
            have HCALL := Lib.hid hcall
            have HLS := Lib.hid hls
            clear h5 hopen hcall hls HC4
            go_wp2_with fail
            refine HCALL.out.mono ?_
            rintro e w6 ⟨p, A6, c6, vs, O6, Z6, rfl, hrd, hlists, hp⟩
            have HP6 := Lib.hid (And.intro hp (And.intro hrd hlists))
            clear hp hrd hlists HCALL
            go_wp2_with fail
            refine (p2Done HP6.out.1).mono ?_
            obtain ⟨dl, dm, db⟩ := HJR.out.done
            obtain ⟨ds, hds⟩ : ∃ ds, dones s = ds := ⟨_, rfl⟩
            rw [hds] at dl dm db ⊢
            obtain ⟨N, hN⟩ : ∃ N, rs.length = N := ⟨_, rfl⟩
            rw [hN] at dl hlsl HP6 ⊢
            rw [dl]
            have HRL2 := Lib.hid (show N ≤ 24 by rw [← hN]; have := HRL.out; omega)
            rintro e w7 ⟨A7, c7, rfl, hreps, hp7, hn7⟩
            have H7 := Lib.hid (show LateV w7 (fun _ => False) (.slice A7 N c7) ds from by
              rw [← dl] at hreps ⊢
              obtain ⟨css, h1, h2, h3⟩ := hreps
              refine ⟨css, ownN_base h1 (Nat.zero_le _), h2, fun j d hd => ?_, fun _ _ h => h⟩
              obtain ⟨cs, r1, r2⟩ := h3 j d hd
              exact ⟨cs, r1, r2.chg (Chg.refl (fun _ => False) _) (fun _ _ _ h => h) (fun k _ hk => ⟨fun h => h, hk.2⟩)⟩)
            have HW7 := Lib.hid (And.intro hp7.was hn7)
            have HDL := Lib.hid dl
            have HDM := Lib.hid dm
            have HDB := Lib.hid db
            have HLSL := Lib.hid hlsl
            have HND := Lib.hid HJR.out.nd
            have HBLR := Lib.hid HJR.out.bl
            have HNR := Lib.hid hN
            clear hreps hp7 hn7 dl dm db hlsl hds hN
            go_wp2_with fail
            go_loopw [29, 30] (fun sv iv wx => ∃ (q : Nat) (A : Option Addr) (c : Nat), iv = .int .i64 (q : Int) ∧ q ≤ N ∧ sv = .slice A q c ∧ Hid (wx.ownsRow w7.heap.size 3 1 (.slice A q c) q (is ((rs.take q).map (fun r => r.1))) ∧ New w7 wx)) (fun _ iv _ => N - (intOf iv).toNat)
            case atStart => exact ⟨0, none, 0, rfl, by omega, rfl, Lib.hid ⟨World.ownsRow_nil _ _ _ _, Chg.refl _ _⟩⟩
            case round =>
              obtain ⟨q, As, cs, rfl, hq, rfl, hh⟩ := hrel
              by_cases hqN : q < N
              · obtain ⟨r, hr⟩ : ∃ r, rs[q]? = some r := ⟨_, List.getElem?_eq_getElem (by rw [HNR.out]; exact hqN)⟩
                obtain ⟨ad6, v6, rfl, hv6, hcv⟩ := (HP6.out.2.1.new (HW7.out.2.trans hh.out.2 (fun _ _ h => h))).at_ (k := q) hqN
                have hlq : ls[q]? = some (Pure.coreP r.1 r.2) := by rw [← HLS.out, List.getElem?_map, hr]; rfl
                obtain ⟨Aq, nq9, cq, rfl, hq1, hq2, hq3, hq4⟩ := (HP6.out.2.2.new (HW7.out.2.trans hh.out.2 (fun _ _ h => h))).2 q v6 _ hv6 hlq
                have hbr := HBLR.out r (List.mem_of_getElem? hr)
                have hcl := Pure.coreP_len r.1 r.2 (by omega) (by omega) (by omega)
                have hnl : (Pure.coreP r.1 r.2).length = nq9 := by have := hq3.len; simpa using this
                have HQ := Lib.hid (And.intro hq3 hq4)
                have HRr := Lib.hid hr
                have HI := Lib.hid (show Pure.intR (Pure.coreP r.1 r.2) 0 = (r.1, Pure.rawP r.2, 0) from Pure.intR_uvar (by omega) (by omega) _)
                have HRW := Lib.hid (show Pure.rawR (Pure.rawP r.2) 0 = (r.2, [], 0) from by have := Pure.rawR_rawP r.2 [] (by omega); simpa using this)
                have HRP := Lib.hid (show (Pure.rawP r.2).length ≤ 100 from by
                  have h1 : (Pure.coreP r.1 r.2).length = (Pure.uvar (Pure.zig r.1)).length + (Pure.rawP r.2).length := by
                    show (Pure.uvar (Pure.zig r.1) ++ Pure.rawP r.2).length = _
                    rw [List.length_append]
                  omega)
                obtain ⟨id, b⟩ := r
                dsimp only at hbr hnl hcl HQ HI HRW HRP
                clear hv6 hlq hq3 hq4 hr
                go_wp2_with fail
                refine (read_any Aq nq9 cq _ _ HQ.out.1 (by omega)).mono ?_
                rintro e w8 ⟨g8, bo8, rfl, hrd8, hn8, hg8, hbo8⟩
                have H8 := Lib.hid (And.intro hrd8 (And.intro hn8 (And.intro hg8 hbo8)))
                clear hrd8 hn8 hg8 hbo8
                go_wp2_with fail
                refine (rInt_any g8 bo8 _ 0 w8 H8.out.1).mono ?_
                rw [HI.out]
                rintro e w9 ⟨rfl, hrd9, hc9⟩
                have H9 := Lib.hid (And.intro hrd9 (show New wr w9 from H8.out.2.1.trans hc9 (fun k hk e => by have := H8.out.2.2.1; omega)))
                clear hrd9 hc9
                go_wp2_with fail
                refine (rRaw_any g8 bo8 (Pure.rawP b) 0 w9 H9.out.1 (by have := HRP.out; omega)).mono ?_
                rw [HRW.out]
                rintro e w10 ⟨A10, n10, c10, rfl, ho10, hrd10, hc10⟩
                have hb10 : n10 = 2 := by have := (Rd.of_own ho10).len; simp at this; omega
                subst hb10
                have H10 := Lib.hid (And.intro hrd10 (And.intro (Rd.of_own ho10) (show New wr w10 from H9.out.2.trans hc10 (fun k hk e => by have := H8.out.2.2.1; omega))))
                clear hrd10 ho10 hc10
                go_wp2_with fail
                go_loopw [34, 35] (fun fv iv wx => ∃ k : Nat, iv = .int .i64 (k : Int) ∧ k ≤ N ∧ fv = .bool ((ds.take k).any (fun d => d.1 == id && d.2.body == b)) ∧ Hid (New w10 wx)) (fun _ iv _ => N - (intOf iv).toNat)
                case atStart => exact ⟨0, rfl, by omega, by simp, Lib.hid (Chg.refl _ _)⟩
                case round =>
                  obtain ⟨k, rfl, hk, rfl, hx⟩ := hrel
                  have hkb : k ≤ 24 := by have := HRL2.out; omega
                  have hnx : New w7 wr := ((hh.out.2.trans H10.out.2.2 (fun _ _ h => h)).trans hx.out (fun _ _ h => h))
                  by_cases hkN : k < N
                  · obtain ⟨d, hd⟩ : ∃ d, ds[k]? = some d := ⟨_, List.getElem?_eq_getElem (by have := HDL.out; omega)⟩
                    have hany : (ds.take (k + 1)).any (fun d => d.1 == id && d.2.body == b) = ((ds.take k).any (fun d => d.1 == id && d.2.body == b) || (d.1 == id && d.2.body == b)) := by
                      rw [List.take_add_one, hd, List.any_append]
                      simp
                    obtain ⟨ga, c9, Ab, cb, hv, k0, k1, k2, k3, hrb, _⟩ := (H7.out.new hnx).at_ hd
                    rw [HDL.out] at hv
                    injection hv with hv1 hv2 hv3
                    subst hv1 hv3
                    have hdb := HDB.out d (List.mem_of_getElem? hd)
                    rw [hdb.1] at k3 hrb
                    obtain ⟨fb, hfb⟩ : ∃ fb, (ds.take k).any (fun d => d.1 == id && d.2.body == b) = fb := ⟨_, rfl⟩
                    rw [hfb] at hany ⊢
                    obtain ⟨did, dans⟩ := d
                    dsimp only at k0 k3 hrb hany
                    obtain ⟨db1, hdb1⟩ : ∃ x, dans.body = x := ⟨_, rfl⟩
                    rw [hdb1] at hrb hany
                    have HANY := Lib.hid hany
                    have HRB := Lib.hid hrb
                    clear hd hany hv2 hrb hfb hdb hdb1
                    cases fb with
                    | true =>
                      go_wp2_with fail
                      exact ⟨⟨k + 1, rfl, by omega, by rw [HANY.out]; rfl, hx⟩, by simp [intOf]; omega⟩
                    | false =>
                      by_cases hid2 : did = id
                      · have hb1 : (did == id) = true := by rw [hid2]; simp
                        clear hid2
                        go_wp2_with fail
                        refine (sameBytes_q Ab A10 2 2 cb c10 db1 b _ HRB.out (H10.out.2.1.new hx.out) (by omega) (by omega)).mono ?_
                        rintro e w11 ⟨rfl, nd, rfl⟩
                        have hfin : (decide (db1 = b)) = ((ds.take (k + 1)).any (fun d => d.1 == id && d.2.body == b)) := by
                          rw [HANY.out, hb1]
                          by_cases e : db1 = b
                          · subst e; simp
                          · simp [e]
                        have HFIN := Lib.hid hfin
                        clear hfin
                        go_wp2_with fail
                        exact ⟨⟨k + 1, rfl, by omega, by rw [HFIN.out], Lib.hid (hx.out.trans ((Chg.refl _ _).drewN _) (fun _ _ h => h))⟩, by simp [intOf]; omega⟩
                      · have hb1 : (did == id) = false := by rw [beq_eq_false_iff_ne]; exact hid2
                        clear hid2
                        go_wp2_with fail
                        exact ⟨⟨k + 1, rfl, by omega, by rw [HANY.out, hb1]; rfl, hx⟩, by simp [intOf]; omega⟩
                  · obtain rfl : k = N := by omega
                    have hall : (ds.take k).any (fun d => d.1 == id && d.2.body == b) = true := by
                      rw [List.take_of_length_le (by rw [HDL.out]; exact Nat.le_refl _)]
                      exact HDM.out (id, b) (List.mem_of_getElem? HRr.out)
                    rw [hall]
                    clear hall
                    have hownx := ownN_chg hh.out.1 (H10.out.2.2.trans hx.out (fun _ _ h => h)) (fun _ _ h => h)
                    have HOX := Lib.hid (And.intro hownx hnx)
                    clear hownx hnx
                    go_wp2_with fail
                    refine (has_any As q cs ((rs.take q).map (fun r => r.1)) id wr (Rd.of_own HOX.out.1) (by have := HRL2.out; omega)).mono ?_
                    have hno : ((rs.take q).map (fun r => r.1)).contains id = false := by
                      have hnd := HND.out
                      rw [← List.take_append_drop q rs, List.map_append, List.nodup_append] at hnd
                      have hmem : id ∈ (rs.drop q).map (fun r => r.1) := by
                        refine List.mem_map.2 ⟨(id, b), ?_, rfl⟩
                        refine List.mem_of_getElem? (i := 0) ?_
                        rw [List.getElem?_drop, Nat.add_zero]
                        exact HRr.out
                      refine Bool.eq_false_iff.2 (fun hc => ?_)
                      rw [List.contains_iff_mem] at hc
                      exact hnd.2.2 id hc id hmem rfl
                    rw [hno]
                    clear hno
                    rintro e w11 ⟨rfl, hn11⟩
                    have HN11 := Lib.hid hn11
                    clear hn11
                    go_wp2_with fail
                    refine (rEnd_any g8 bo8 [] 0 w11 (H10.out.1.chg (hx.out.trans HN11.out (fun _ _ h => h)) (fun h => h) (fun _ _ h => h))).mono ?_
                    rw [show Pure.endR [] 0 = 0 from rfl]
                    rintro e w12 ⟨rfl, hw⟩
                    subst hw
                    obtain ⟨w13, hw13⟩ : ∃ w13, w11.alloc (.cells #[.int .i64 id] 3) = w13 := ⟨_, rfl⟩
                    obtain ⟨B13, hB13⟩ : ∃ B13, w11.heap.size = B13 := ⟨_, rfl⟩
                    have hn13 : New w11 w13 := by rw [← hw13]; exact (Chg.refl _ _).alloc _
                    have hr13 : Rd w13 (some ⟨B13, 0, none⟩) 1 [.int .i64 id] := by rw [← hw13, ← hB13]; exact Rd.one
                    have hn713 : New w7 w13 := (HOX.out.2.trans HN11.out (fun _ _ h => h)).trans hn13 (fun _ _ h => h)
                    have ho13 := ownN_chg (ownN_chg HOX.out.1 HN11.out (fun _ _ h => h)) hn13 (fun _ _ h => h)
                    have HO13 := Lib.hid ho13
                    have HR13 := Lib.hid hr13
                    have HN13 := Lib.hid hn713
                    have hqb : q ≤ 24 := by omega
                    clear hn13 hr13 hn713 ho13
                    go_wp2_with (at_builtin; refine wpList_app (base := w7.heap.size) elemInts rfl _ _ rfl rfl HO13.out rfl HR13.out (by simp [Value.oneCell']) (by simp only [maxLen]; omega) (by omega) HN13.out.size ?_; intro A14 c14 w14 hown14 hg14 hat14; have HO14 := Lib.hid (And.intro hown14 hg14); clear hown14 hg14 hat14)
                    refine ⟨⟨q + 1, A14, c14, rfl, by omega, rfl, Lib.hid ⟨?_, ?_⟩⟩, by simp [intOf]; omega⟩
                    · have e : is ((rs.take (q + 1)).map (fun r => r.1)) = is ((rs.take q).map (fun r => r.1)) ++ [.int .i64 id] := by
                        rw [List.take_add_one, HRr.out]
                        simp [is]
                      rw [e]
                      exact HO14.out.1
                    · exact HN13.out.grown HO14.out.2 (fun k hk hlt => by have := (ownN_lt HO13.out (show (Value.slice As q cs).ownBlock = some k by rw [ownBlock_slice]; exact hk)).1; omega)
              · obtain rfl : q = N := by omega
                go_wp2_with fail
                refine (plives_any _).mono ?_
                rintro e w9 ⟨rfl, hn9⟩
                have HN9 := Lib.hid hn9
                clear hn9
                go_wp2_with fail
                go_ret
                exact ⟨rfl, ((HW7.out.1.trans hh.out.2 (fun _ _ h => h))).trans HN9.out (fun _ _ h => h)⟩)
end Go.Proofs.Ytbmplfhcdkeooaa
