/- The law DiskNumbers. -/
import Derived.Test.YtblcaeoeeepajaaGreatDoorB5
import Derived.Test.YtblcaeoeeepajaaGreatDoorArgsZ
import Derived.Test.YtblcaeoeeepajaaGreatDoorHeldZ
import Derived.Deep.CutRange
namespace Go.Proofs.YtblcaeoeeepajaaGreatDoor
set_option linter.unusedVariables false
open Go.RowKit Go.Mem Go.Dk Go.Pure Go.Dig

set_option maxHeartbeats 4000000 in
set_option maxRecDepth 100000 in
theorem diskNumbers_walk (n m ct : Int) (hn : -9223372036854775808 ≤ n ∧ n ≤ 9223372036854775807) (hm : -9223372036854775808 ≤ m ∧ m ≤ 9223372036854775807) (hct : -9223372036854775808 ≤ ct ∧ ct ≤ 9223372036854775807)
    (K : Option Addr) (nk ck : Nat) (keep : List Int) (flip : Int) (hfl : -9223372036854775808 ≤ flip ∧ flip ≤ 9223372036854775807) (w : World) (hrk : Rd w K nk (is keep)) (hck : nk ≤ ck) (hnk : ck ≤ 9223372036854775807) (hkr : ∀ z ∈ keep, -9223372036854775808 ≤ z ∧ z ≤ 9223372036854775807) (hpt : PowTab w) :
    Calls Tryz.prog 3 #[.int .i64 n, .int .i64 m, .int .i64 ct, .slice K nk ck, .int .i64 flip] w fun e w' => e = .returned (.bool true) ∧ New w w' := by
  have HRK := Lib.hid hrk
  have HKR := Lib.hid hkr
  have HPT := Lib.hid hpt
  have HN := Lib.hid hn
  have HM := Lib.hid hm
  have HCT := Lib.hid hct
  have HFL := Lib.hid hfl
  clear hrk hkr hpt hn hm hct hfl
  go_enter Tryz.func3, Tryz.ntmps3
  go_wp2_with fail
  refine (JD.start (w := w) 20000 (by omega) (Chg.refl _ w)).mono ?_
  rintro e w1 ⟨g, U1, rfl, hj1, _⟩
  have HJ1 := Lib.hid hj1
  clear hj1
  go_wp2_with fail
  refine (from_any n w1 HN.out.1 HN.out.2).mono ?_
  rintro e w2 ⟨va, rfl, ha2, hn2⟩
  obtain ⟨sa, Aa, na, ca, rfl⟩ := wi_form ha2
  obtain ⟨w3, hw3⟩ : ∃ w3, w2.alloc (.cells #[.bool sa, .slice Aa na ca] 29) = w3 := ⟨_, rfl⟩
  obtain ⟨ga, hga⟩ : ∃ ga, w2.heap.size = ga := ⟨_, rfl⟩
  have hb3 : Blk w3 ga 29 #[.bool sa, .slice Aa na ca] := by rw [← hw3, ← hga]; exact Blk.new _ _ _
  have hn3 : New w2 w3 := by rw [← hw3]; exact (Chg.refl _ w2).alloc _
  have HA3 := Lib.hid (And.intro hb3 (ha2.new hn3))
  have HJ3 := Lib.hid ((HJ1.out.new hn2).new hn3)
  have c0 := hb3.cell 0 (u := .bool sa) rfl
  have c1 := hb3.cell 1 (u := .slice Aa na ca) rfl
  have gal := hb3.lt
  have HGU := Lib.hid (show ∀ k, U1 k → k < ga from fun k hk => by have := (HJ1.out.lt hk).1; have := hn2.size; omega)
  clear hb3 ha2 hn2 hn3 HJ1
  have HSK := Lib.hid (show ∀ W, New w3 W → W.cell? ⟨ga, 0, none⟩ = some (.bool sa) ∧ W.cell? ⟨ga, 1, none⟩ = some (.slice Aa na ca) from fun W h => ⟨(HA3.out.1.chg h (fun h => h)).cell 0 rfl, (HA3.out.1.chg h (fun h => h)).cell 1 rfl⟩)
  have HQ1 := Lib.hid (show ∀ W, Calls Tryz.prog 6 #[.int .i64 m] W fun e w' => ∃ s A k c, e = .returned (.agg #[.bool s, .slice A k c]) ∧ Hid (WI w' (.agg #[.bool s, .slice A k c]) m ∧ New W w') from fun W => wfrom_s m W HM.out)
  have HQ2 := Lib.hid (show ∀ W s A k c, New w3 W → WI W (.agg #[.bool s, .slice A k c]) m → Calls Tryz.prog 7 #[.agg #[.bool sa, .slice Aa na ca], .agg #[.bool s, .slice A k c]] W fun e w' => ∃ s A n' c, e = .returned (.tuple #[.agg #[.bool s, .slice A n' c], .int .i64 0]) ∧ Hid (WI w' (.agg #[.bool s, .slice A n' c]) (n * m) ∧ New W w') from fun W s A k c h hv => wmul_s W _ _ n m (HA3.out.2.new h) hv (Sm.int HN.out) (Sm.int HM.out) (Sm.mul HN.out HM.out))
  go_wp2_with fail
  go_cut [14, 15] from 43 to 175 (fun v e wx => e = .int .i64 0 ∧ Hid (Box1 w3 v (n * m) wx))
  case first =>
    refine wp_region_held_drew (S := fun w' => w'.cell? ⟨ga, 0, none⟩ = some (.bool sa) ∧ w'.cell? ⟨ga, 1, none⟩ = some (.slice Aa na ca)) (by kernel_rfl) (HSK.out _ ((Chg.refl _ w3).drew)) (fun hHeld => ?_)
    obtain ⟨wd0, hwd0⟩ : ∃ x, w3.drew = x := ⟨_, rfl⟩
    have hB0 : New w3 wd0 := by rw [← hwd0]; exact (Chg.refl _ w3).drew
    rw [hwd0] at hHeld ⊢
    clear hwd0
    refine heldW (i := 0) (v := ?v1) rfl (by kernel_rfl) (by kernel_rfl) (by kernel_rfl) (fun _ _ _ h => h) (by rfl) ?hy1 hHeld ?rest1
    case hy1 => (intro w hSw; (try dsimp only at hSw); go_simp; try with_reducible rfl)
    simp only [Act.put, List.setIfInBounds_toArray, List.set_cons_zero, List.set_cons_succ]
    refine heldW (i := 1) (v := ?v2) rfl (by kernel_rfl) (by kernel_rfl) (by kernel_rfl) (fun _ _ _ h => h) (by rfl) ?hy2 hHeld ?rest2
    case hy2 => (intro w hSw; (try dsimp only at hSw); go_simp; try with_reducible rfl)
    simp only [Act.put, List.setIfInBounds_toArray, List.set_cons_zero, List.set_cons_succ]
    refine wpAnyH_ready (rs := [2, 7]) (by kernel_rfl) (by simp) (AllReadyH.cons rfl (fun K hK => ?_) (AllReadyH.cons rfl (fun K hK => ?_) AllReadyH.nil))
    · (try rw [if_pos (by rfl)])
      go_simp
      refine (HQ1.out wd0).mono ?_
      rintro e wc3 ⟨s3, A3, n3, c3, rfl, K3⟩
      have hB4 : New w3 wc3 := hB0.trans K3.out.2 (fun _ _ h => h)
      (try go_wp2_with fail)
      refine hK.out _ _ (HSK.out _ hB4) (fun hHeld2 => ?_)
      clear hK K hHeld
      have hHeld := hHeld2
      clear hHeld2
      (try simp only [Act.put, List.setIfInBounds_toArray, List.set_cons_zero, List.set_cons_succ])
      refine wpAnyH_ready (rs := [3, 7]) (by kernel_rfl) (by simp) (AllReadyH.cons rfl (fun K hK => ?_) (AllReadyH.cons rfl (fun K hK => ?_) AllReadyH.nil))
      · (try rw [if_pos (by rfl)])
        go_simp
        refine (HQ2.out _ _ _ _ _ hB4 K3.out.1).mono ?_
        rintro e wc5 ⟨sp, Ap, np, cp, rfl, K5⟩
        have hB6 : New w3 wc5 := hB4.trans K5.out.2 (fun _ _ h => h)
        have vm6 := K3.out.1.new K5.out.2
        (try go_wp2_with fail)
        refine hK.out _ _ (HSK.out _ hB6) (fun hHeld2 => ?_)
        clear hK K hHeld
        have hHeld := hHeld2
        clear hHeld2
        (try simp only [Act.put, List.setIfInBounds_toArray, List.set_cons_zero, List.set_cons_succ])
        refine heldW (i := 4) (v := ?v7) rfl (by kernel_rfl) (by kernel_rfl) (by kernel_rfl) (fun _ _ _ h => h) (by rfl) ?hy7 hHeld ?rest7
        case hy7 => (intro w hSw; (try dsimp only at hSw); go_simp; try with_reducible rfl)
        simp only [Act.put, List.setIfInBounds_toArray, List.set_cons_zero, List.set_cons_succ]
        refine heldW (i := 5) (v := ?v8) rfl (by kernel_rfl) (by kernel_rfl) (by kernel_rfl) (fun _ _ _ h => h) (by rfl) ?hy8 hHeld ?rest8
        case hy8 => (intro w hSw; (try dsimp only at hSw); go_simp; try with_reducible rfl)
        simp only [Act.put, List.setIfInBounds_toArray, List.set_cons_zero, List.set_cons_succ]
        refine heldW (i := 6) (v := ?v9) rfl (by kernel_rfl) (by kernel_rfl) (by kernel_rfl) (fun _ _ _ h => h) (by rfl) ?hy9 hHeld ?rest9
        case hy9 => (intro w hSw; (try dsimp only at hSw); go_simp; try with_reducible rfl)
        simp only [Act.put, List.setIfInBounds_toArray, List.set_cons_zero, List.set_cons_succ]
        refine heldC (i := 7) rfl (by kernel_rfl) (by rfl) (fun K hK => ?_)
        go_simp
        obtain ⟨wz10, hw10⟩ : ∃ x, wc5.alloc (.cells #[.bool false, .slice none 0 0] 29) = x := ⟨_, rfl⟩
        obtain ⟨bz10, hb10⟩ : ∃ x, wc5.heap.size = x := ⟨_, rfl⟩
        have kz10 : Blk wz10 bz10 29 #[.bool false, .slice none 0 0] := by rw [← hw10, ← hb10]; exact Blk.new _ _ _
        have nz10 : New wc5 wz10 := by rw [← hw10]; exact (Chg.refl _ wc5).alloc _
        have lz10 : w3.heap.size ≤ bz10 := by rw [← hb10]; exact (hB6).size
        rw [hw10, hb10]
        clear hw10 hb10
        have hB11 : New w3 wz10 := hB6.trans nz10 (fun _ _ h => h)
        have vm11 := vm6.new nz10
        have vp11 := K5.out.1.new nz10
        refine hK.out _ _ (HSK.out _ hB11) (fun hHeld2 => ?_)
        clear hK K hHeld
        have hHeld := hHeld2
        clear hHeld2
        (try simp only [Act.put, List.setIfInBounds_toArray, List.set_cons_zero, List.set_cons_succ])
        refine wpAnyH_ready (rs := [8]) (by kernel_rfl) (by simp) (AllReadyH.cons rfl (fun K hK => ?_) AllReadyH.nil)
        (try rw [if_pos (by rfl)])
        have c0_12 := kz10.cell 0 (u := .bool false) rfl
        have c1_12 := kz10.cell 1 (u := .slice none 0 0) rfl
        have f0_12 := kz10.frozen 0
        have f1_12 := kz10.frozen 1
        have l_12 := kz10.lt
        go_simp
        obtain ⟨ws12, hw12⟩ : ∃ x, (wz10.setCell ⟨bz10, 0, none⟩ (.bool sp)).setCell ⟨bz10, 1, none⟩ (.slice Ap np cp) = x := ⟨_, rfl⟩
        have ch12 : Chg (fun k => k = bz10) wz10 ws12 := by rw [← hw12]; exact Chg.at2 _ _ _ _
        have kb12 : Blk ws12 bz10 29 #[.bool sp, .slice Ap np cp] := by rw [← hw12]; exact kz10.set2 _ _
        rw [hw12]
        clear hw12 c0_12 c1_12 f0_12 f1_12 l_12
        have hB12 : New w3 ws12 := hB11.trans ch12 (fun k hk e => by have := lz10; omega)
        have vm12 := vm11.store kz10 (fun k z h => by simp at h) ch12
        have vp12 := vp11.store kz10 (fun k z h => by simp at h) ch12
        refine hK.out _ _ (HSK.out _ hB12) (fun hHeld2 => ?_)
        clear hK K hHeld
        have hHeld := hHeld2
        clear hHeld2
        (try simp only [Act.put, List.setIfInBounds_toArray, List.set_cons_zero, List.set_cons_succ])
        refine heldW (i := 9) (v := ?v13) rfl (by kernel_rfl) (by kernel_rfl) (by kernel_rfl) (fun _ _ _ h => h) (by rfl) ?hy13 hHeld ?rest13
        case hy13 => (intro w hSw; (try dsimp only at hSw); go_simp; try with_reducible rfl)
        simp only [Act.put, List.setIfInBounds_toArray, List.set_cons_zero, List.set_cons_succ]
        refine wpAnyH_done (by kernel_rfl) ?_ _
        go_wp2_with fail
        go_meet
        exact ⟨rfl, Lib.hid ⟨_, _, _, _, _, rfl, kb12, vp12, hB12, lz10⟩⟩
      · (try rw [if_pos (by rfl)])
        go_simp
        obtain ⟨wz14, hw14⟩ : ∃ x, wc3.alloc (.cells #[.bool false, .slice none 0 0] 29) = x := ⟨_, rfl⟩
        obtain ⟨bz14, hb14⟩ : ∃ x, wc3.heap.size = x := ⟨_, rfl⟩
        have kz14 : Blk wz14 bz14 29 #[.bool false, .slice none 0 0] := by rw [← hw14, ← hb14]; exact Blk.new _ _ _
        have nz14 : New wc3 wz14 := by rw [← hw14]; exact (Chg.refl _ wc3).alloc _
        have lz14 : w3.heap.size ≤ bz14 := by rw [← hb14]; exact (hB4).size
        rw [hw14, hb14]
        clear hw14 hb14
        have hB15 : New w3 wz14 := hB4.trans nz14 (fun _ _ h => h)
        have vm15 := K3.out.1.new nz14
        refine hK.out _ _ (HSK.out _ hB15) (fun hHeld2 => ?_)
        clear hK K hHeld
        have hHeld := hHeld2
        clear hHeld2
        (try simp only [Act.put, List.setIfInBounds_toArray, List.set_cons_zero, List.set_cons_succ])
        refine heldC (i := 3) rfl (by kernel_rfl) (by rfl) (fun K hK => ?_)
        go_simp
        refine (HQ2.out _ _ _ _ _ hB15 vm15).mono ?_
        rintro e wc16 ⟨sp, Ap, np, cp, rfl, K16⟩
        have hB17 : New w3 wc16 := hB15.trans K16.out.2 (fun _ _ h => h)
        have kp17 := kz14.chg K16.out.2 (fun h => h)
        have vm17 := vm15.new K16.out.2
        (try go_wp2_with fail)
        refine hK.out _ _ (HSK.out _ hB17) (fun hHeld2 => ?_)
        clear hK K hHeld
        have hHeld := hHeld2
        clear hHeld2
        (try simp only [Act.put, List.setIfInBounds_toArray, List.set_cons_zero, List.set_cons_succ])
        refine heldW (i := 4) (v := ?v18) rfl (by kernel_rfl) (by kernel_rfl) (by kernel_rfl) (fun _ _ _ h => h) (by rfl) ?hy18 hHeld ?rest18
        case hy18 => (intro w hSw; (try dsimp only at hSw); go_simp; try with_reducible rfl)
        simp only [Act.put, List.setIfInBounds_toArray, List.set_cons_zero, List.set_cons_succ]
        refine heldW (i := 5) (v := ?v19) rfl (by kernel_rfl) (by kernel_rfl) (by kernel_rfl) (fun _ _ _ h => h) (by rfl) ?hy19 hHeld ?rest19
        case hy19 => (intro w hSw; (try dsimp only at hSw); go_simp; try with_reducible rfl)
        simp only [Act.put, List.setIfInBounds_toArray, List.set_cons_zero, List.set_cons_succ]
        refine heldW (i := 6) (v := ?v20) rfl (by kernel_rfl) (by kernel_rfl) (by kernel_rfl) (fun _ _ _ h => h) (by rfl) ?hy20 hHeld ?rest20
        case hy20 => (intro w hSw; (try dsimp only at hSw); go_simp; try with_reducible rfl)
        simp only [Act.put, List.setIfInBounds_toArray, List.set_cons_zero, List.set_cons_succ]
        refine wpAnyH_ready (rs := [8]) (by kernel_rfl) (by simp) (AllReadyH.cons rfl (fun K hK => ?_) AllReadyH.nil)
        (try rw [if_pos (by rfl)])
        have c0_21 := kp17.cell 0 (u := .bool false) rfl
        have c1_21 := kp17.cell 1 (u := .slice none 0 0) rfl
        have f0_21 := kp17.frozen 0
        have f1_21 := kp17.frozen 1
        have l_21 := kp17.lt
        go_simp
        obtain ⟨ws21, hw21⟩ : ∃ x, (wc16.setCell ⟨bz14, 0, none⟩ (.bool sp)).setCell ⟨bz14, 1, none⟩ (.slice Ap np cp) = x := ⟨_, rfl⟩
        have ch21 : Chg (fun k => k = bz14) wc16 ws21 := by rw [← hw21]; exact Chg.at2 _ _ _ _
        have kb21 : Blk ws21 bz14 29 #[.bool sp, .slice Ap np cp] := by rw [← hw21]; exact kp17.set2 _ _
        rw [hw21]
        clear hw21 c0_21 c1_21 f0_21 f1_21 l_21
        have hB21 : New w3 ws21 := hB17.trans ch21 (fun k hk e => by have := lz14; omega)
        have vm21 := vm17.store kp17 (fun k z h => by simp at h) ch21
        have vp21 := K16.out.1.store kp17 (fun k z h => by simp at h) ch21
        refine hK.out _ _ (HSK.out _ hB21) (fun hHeld2 => ?_)
        clear hK K hHeld
        have hHeld := hHeld2
        clear hHeld2
        (try simp only [Act.put, List.setIfInBounds_toArray, List.set_cons_zero, List.set_cons_succ])
        refine heldW (i := 9) (v := ?v22) rfl (by kernel_rfl) (by kernel_rfl) (by kernel_rfl) (fun _ _ _ h => h) (by rfl) ?hy22 hHeld ?rest22
        case hy22 => (intro w hSw; (try dsimp only at hSw); go_simp; try with_reducible rfl)
        simp only [Act.put, List.setIfInBounds_toArray, List.set_cons_zero, List.set_cons_succ]
        refine wpAnyH_done (by kernel_rfl) ?_ _
        go_wp2_with fail
        go_meet
        exact ⟨rfl, Lib.hid ⟨_, _, _, _, _, rfl, kb21, vp21, hB21, lz14⟩⟩
    · (try rw [if_pos (by rfl)])
      go_simp
      obtain ⟨wz23, hw23⟩ : ∃ x, wd0.alloc (.cells #[.bool false, .slice none 0 0] 29) = x := ⟨_, rfl⟩
      obtain ⟨bz23, hb23⟩ : ∃ x, wd0.heap.size = x := ⟨_, rfl⟩
      have kz23 : Blk wz23 bz23 29 #[.bool false, .slice none 0 0] := by rw [← hw23, ← hb23]; exact Blk.new _ _ _
      have nz23 : New wd0 wz23 := by rw [← hw23]; exact (Chg.refl _ wd0).alloc _
      have lz23 : w3.heap.size ≤ bz23 := by rw [← hb23]; exact (hB0).size
      rw [hw23, hb23]
      clear hw23 hb23
      have hB24 : New w3 wz23 := hB0.trans nz23 (fun _ _ h => h)
      refine hK.out _ _ (HSK.out _ hB24) (fun hHeld2 => ?_)
      clear hK K hHeld
      have hHeld := hHeld2
      clear hHeld2
      (try simp only [Act.put, List.setIfInBounds_toArray, List.set_cons_zero, List.set_cons_succ])
      refine heldC (i := 2) rfl (by kernel_rfl) (by rfl) (fun K hK => ?_)
      go_simp
      refine (HQ1.out wz23).mono ?_
      rintro e wc25 ⟨s25, A25, n25, c25, rfl, K25⟩
      have hB26 : New w3 wc25 := hB24.trans K25.out.2 (fun _ _ h => h)
      have kp26 := kz23.chg K25.out.2 (fun h => h)
      (try go_wp2_with fail)
      refine hK.out _ _ (HSK.out _ hB26) (fun hHeld2 => ?_)
      clear hK K hHeld
      have hHeld := hHeld2
      clear hHeld2
      (try simp only [Act.put, List.setIfInBounds_toArray, List.set_cons_zero, List.set_cons_succ])
      refine heldC (i := 3) rfl (by kernel_rfl) (by rfl) (fun K hK => ?_)
      go_simp
      refine (HQ2.out _ _ _ _ _ hB26 K25.out.1).mono ?_
      rintro e wc27 ⟨sp, Ap, np, cp, rfl, K27⟩
      have hB28 : New w3 wc27 := hB26.trans K27.out.2 (fun _ _ h => h)
      have kp28 := kp26.chg K27.out.2 (fun h => h)
      have vm28 := K25.out.1.new K27.out.2
      (try go_wp2_with fail)
      refine hK.out _ _ (HSK.out _ hB28) (fun hHeld2 => ?_)
      clear hK K hHeld
      have hHeld := hHeld2
      clear hHeld2
      (try simp only [Act.put, List.setIfInBounds_toArray, List.set_cons_zero, List.set_cons_succ])
      refine heldW (i := 4) (v := ?v29) rfl (by kernel_rfl) (by kernel_rfl) (by kernel_rfl) (fun _ _ _ h => h) (by rfl) ?hy29 hHeld ?rest29
      case hy29 => (intro w hSw; (try dsimp only at hSw); go_simp; try with_reducible rfl)
      simp only [Act.put, List.setIfInBounds_toArray, List.set_cons_zero, List.set_cons_succ]
      refine heldW (i := 5) (v := ?v30) rfl (by kernel_rfl) (by kernel_rfl) (by kernel_rfl) (fun _ _ _ h => h) (by rfl) ?hy30 hHeld ?rest30
      case hy30 => (intro w hSw; (try dsimp only at hSw); go_simp; try with_reducible rfl)
      simp only [Act.put, List.setIfInBounds_toArray, List.set_cons_zero, List.set_cons_succ]
      refine heldW (i := 6) (v := ?v31) rfl (by kernel_rfl) (by kernel_rfl) (by kernel_rfl) (fun _ _ _ h => h) (by rfl) ?hy31 hHeld ?rest31
      case hy31 => (intro w hSw; (try dsimp only at hSw); go_simp; try with_reducible rfl)
      simp only [Act.put, List.setIfInBounds_toArray, List.set_cons_zero, List.set_cons_succ]
      refine wpAnyH_ready (rs := [8]) (by kernel_rfl) (by simp) (AllReadyH.cons rfl (fun K hK => ?_) AllReadyH.nil)
      (try rw [if_pos (by rfl)])
      have c0_32 := kp28.cell 0 (u := .bool false) rfl
      have c1_32 := kp28.cell 1 (u := .slice none 0 0) rfl
      have f0_32 := kp28.frozen 0
      have f1_32 := kp28.frozen 1
      have l_32 := kp28.lt
      go_simp
      obtain ⟨ws32, hw32⟩ : ∃ x, (wc27.setCell ⟨bz23, 0, none⟩ (.bool sp)).setCell ⟨bz23, 1, none⟩ (.slice Ap np cp) = x := ⟨_, rfl⟩
      have ch32 : Chg (fun k => k = bz23) wc27 ws32 := by rw [← hw32]; exact Chg.at2 _ _ _ _
      have kb32 : Blk ws32 bz23 29 #[.bool sp, .slice Ap np cp] := by rw [← hw32]; exact kp28.set2 _ _
      rw [hw32]
      clear hw32 c0_32 c1_32 f0_32 f1_32 l_32
      have hB32 : New w3 ws32 := hB28.trans ch32 (fun k hk e => by have := lz23; omega)
      have vm32 := vm28.store kp28 (fun k z h => by simp at h) ch32
      have vp32 := K27.out.1.store kp28 (fun k z h => by simp at h) ch32
      refine hK.out _ _ (HSK.out _ hB32) (fun hHeld2 => ?_)
      clear hK K hHeld
      have hHeld := hHeld2
      clear hHeld2
      (try simp only [Act.put, List.setIfInBounds_toArray, List.set_cons_zero, List.set_cons_succ])
      refine heldW (i := 9) (v := ?v33) rfl (by kernel_rfl) (by kernel_rfl) (by kernel_rfl) (fun _ _ _ h => h) (by rfl) ?hy33 hHeld ?rest33
      case hy33 => (intro w hSw; (try dsimp only at hSw); go_simp; try with_reducible rfl)
      simp only [Act.put, List.setIfInBounds_toArray, List.set_cons_zero, List.set_cons_succ]
      refine wpAnyH_done (by kernel_rfl) ?_ _
      go_wp2_with fail
      go_meet
      exact ⟨rfl, Lib.hid ⟨_, _, _, _, _, rfl, kb32, vp32, hB32, lz23⟩⟩
  case rest =>
    obtain ⟨rfl, hbx⟩ := hcut
    obtain ⟨gp, sp, Ap, np, cp, rfl, hbp, hwp, hnp, hlo⟩ := hbx.out
    have hal := HA3.out.1.lt
    have hnu : ∀ k, U1 k → k < ga ∧ ga < w3.heap.size ∧ w3.heap.size ≤ gp := fun k hk => ⟨HGU.out k hk, hal, hlo⟩
    have hD : DkN U1 w g (Dk.new (20000 : Int).toNat) [⟨ga, sa, Aa, na, ca, n⟩, ⟨gp, sp, Ap, np, cp, n * m⟩] wc := ⟨HJ3.out.new hnp, fun b hb => by
      rcases List.mem_cons.1 hb with rfl | hb
      · exact ⟨⟨HA3.out.1.chg hnp (fun h => h), HA3.out.2.new hnp⟩, fun hu => by have := hnu _ hu; dsimp only at this; omega⟩
      · rcases List.mem_singleton.1 hb with rfl
        exact ⟨⟨hbp, hwp⟩, fun hu => by have := hnu _ hu; dsimp only at this; omega⟩⟩
    obtain ⟨w4, hw4⟩ : ∃ w4, wc.alloc (.cells #[.slice none 0 0] 35) = w4 := ⟨_, rfl⟩
    obtain ⟨gw, hgw⟩ : ∃ gw, wc.heap.size = gw := ⟨_, rfl⟩
    have hn4 : New wc w4 := by rw [← hw4]; exact (Chg.refl _ wc).alloc _
    have hwr4 : WrV w4 gw none [] := by rw [← hw4, ← hgw]; exact WrV.made wc
    have HLO := Lib.hid (show w.heap.size ≤ gw ∧ (∀ k, U1 k → k < gw) ∧ ga < gw ∧ gp < gw from ⟨by rw [← hgw]; exact hD.jd.was.size, fun k hk => by rw [← hgw]; exact (hD.jd.lt hk).1, by rw [← hgw]; exact hD.two.al, by rw [← hgw]; exact hD.two.pl⟩)
    have HD4 := Lib.hid (hD.new hn4)
    have HW4 := Lib.hid hwr4
    obtain ⟨a0, a1, p0, p1, al, pl, _, _⟩ := HD4.out.two
    have hgwl : gw < w4.heap.size := by rw [← hw4, World.size_alloc, hgw]; exact Nat.lt_succ_self _
    have BXM : ∀ b ∈ ([⟨ga, sa, Aa, na, ca, n⟩, ⟨gp, sp, Ap, np, cp, n * m⟩] : List Bi), b.g < gw := fun b hb => by
      rcases List.mem_cons.1 hb with rfl | hb
      · exact HLO.out.2.2.1
      · rcases List.mem_singleton.1 hb with rfl
        exact HLO.out.2.2.2
    have HBX := Lib.hid BXM
    clear hbx hbp hwp hnp hlo hal hnu hD hn4 hwr4 BXM HA3 HJ3 HGU HSK HQ1 HQ2
    obtain ⟨ta, hta⟩ : ∃ ta, Txt.text n = ta := ⟨_, rfl⟩
    obtain ⟨tp, htp⟩ : ∃ tp, Txt.text (n * m) = tp := ⟨_, rfl⟩
    have hla : ta.length ≤ 40 := hta ▸ (Sm.int HN.out).text
    have hlp : tp.length ≤ 40 := htp ▸ (Sm.mul HN.out HM.out).text
    have hua := uvar_len (n := ta.length) (by omega)
    have hup := uvar_len (n := tp.length) (by omega)
    have HTA := Lib.hid hta
    have HTP := Lib.hid htp
    clear hta htp
    go_wp2_with fail
    refine (wstring_any _ n w4 HD4.out.two.wa (HPT.out.new HD4.out.jd.was) (Sm.int HN.out).p9).mono ?_
    rw [HTA.out]
    rintro e w5 ⟨rfl, hn5⟩
    have HD5 := Lib.hid (HD4.out.new hn5)
    have HW5 := Lib.hid (HW4.out.new hn5)
    clear hn5 HD4 HW4 a0 a1 p0 p1 al pl
    go_wp2_with fail
    refine (wvText_any gw none [] (St ta) w5 (by rw [St_size]; omega) HW5.out (by simp)).mono ?_
    rintro e w6 ⟨rfl, bo6, hw6, hc6, hb6, _⟩
    have hbo6 : ∀ k, bo6 = some k → gw ≤ k := fun k hk => by
      rcases hb6 with e | ⟨k', e, h1⟩
      · rw [e] at hk; cases hk
      · rw [e] at hk; injection hk with hk; have := (HW5.out.blt).1; obtain ⟨_, _, _, q1, _⟩ := HW5.out; have := q1.lt; omega
    have HD6 := Lib.hid (HD5.out.wr HW5.out hc6 gw (Nat.le_refl _) (fun k hk => by cases hk) HLO.out.1 HLO.out.2.1 HBX.out)
    have HW6 := Lib.hid (show WrV w6 gw bo6 (uvar ta.length ++ ta) from by rw [List.nil_append, St_size] at hw6; exact hw6)
    have HBO := Lib.hid hbo6
    obtain ⟨a0, a1, p0, p1, al, pl, _, _⟩ := HD6.out.two
    clear hw6 hc6 hb6 hbo6 HD5 HW5
    go_wp2_with fail
    refine (wstring_any _ (n * m) w6 HD6.out.two.wp (HPT.out.new HD6.out.jd.was) (Sm.mul HN.out HM.out).p9).mono ?_
    rw [HTP.out]
    rintro e w7 ⟨rfl, hn7⟩
    have HD7 := Lib.hid (HD6.out.new hn7)
    have HW7 := Lib.hid (HW6.out.new hn7)
    clear hn7 HD6 HW6 a0 a1 p0 p1 al pl
    go_wp2_with fail
    refine (wvText_any gw bo6 (uvar ta.length ++ ta) (St tp) w7 (by rw [St_size]; omega) HW7.out (by rw [List.length_append]; omega)).mono ?_
    rintro e w8 ⟨rfl, bo8, hw8, hc8, hb8, _⟩
    obtain ⟨L, hL⟩ : ∃ L, uvar ta.length ++ (ta ++ (uvar tp.length ++ (tp ++ []))) = L := ⟨_, rfl⟩
    have hLl : L.length ≤ 200 := by rw [← hL]; simp only [List.length_append, List.length_nil]; omega
    have HD8 := Lib.hid (HD7.out.wr HW7.out hc8 gw (Nat.le_refl _) HBO.out HLO.out.1 HLO.out.2.1 HBX.out)
    have HW8 := Lib.hid (show WrV w8 gw bo8 L from by rw [St_size] at hw8; rw [← hL, List.append_nil]; simpa [St] using hw8)
    have HL := Lib.hid hL
    clear hw8 hc8 hb8 hL HD7 HW7 HBO
    go_wp2_with fail
    refine (wvDone_any gw bo8 L w8 HW8.out (by omega)).mono ?_
    rintro e w9 ⟨A9, c9, rfl, ho9, hn9⟩
    have HD9 := Lib.hid (HD8.out.new hn9)
    have HR9 := Lib.hid (show Rd w9 A9 L.length (bs L) ∧ L.length ≤ c9 ∧ ∀ k, blk A9 = some k → ¬ U1 k ∧ k < w9.heap.size from ⟨Rd.of_own ho9, (own_cap ho9).1, fun k hk => ⟨fun hu => by have := (HD8.out.jd.lt hu).1; have := (own_blk_le ho9 hk).1; omega, (own_blk_le ho9 hk).2⟩⟩)
    clear ho9 hn9 HD8 HW8
    obtain ⟨N, hN⟩ : ∃ N, L.length = N := ⟨_, rfl⟩
    rw [hN] at HR9 hLl ⊢
    have hN1 : (N : Int) + 1 ≤ 201 := by omega
    go_wp2_with fail
    refine (around_any ct ((N : Int) + 1) w9 HCT.out.1 HCT.out.2 (by omega) (by omega)).mono ?_
    rintro e wa ⟨rfl, hwa⟩
    subst hwa
    obtain ⟨k, hk⟩ : ∃ k : Nat, aroundI ct ((N : Int) + 1) = (k : Int) := ⟨(aroundI ct ((N : Int) + 1)).toNat, by have := aroundI_range ct ((N : Int) + 1) (by omega); omega⟩
    have hkN : k ≤ N := by have := (aroundI_range ct ((N : Int) + 1) (by omega)).2; omega
    rw [hk]
    clear hk
    have HNL := Lib.hid hN
    have hcup : ∀ W : World, (Instr.slice 33 (.slice A9 N c9) none (some (.int .i64 (k : Int))) none).run Tryz.prog W = .ok (.slice A9 k c9) W := fun W => slice_up Tryz.underlying33 (by kernel_rfl) (by have := HR9.out.2.1; omega) W
    have hcfr : ∀ W : World, (Instr.slice 33 (.slice A9 N c9) (some (.int .i64 (k : Int))) none none).run Tryz.prog W = .ok (.slice (if c9 = k then A9 else A9.map (·.add k)) (N - k) (c9 - k)) W := fun W => slice_from Tryz.underlying33 (by kernel_rfl) hkN W
    obtain ⟨B9, hB9⟩ : ∃ B, (if c9 = k then A9 else A9.map (·.add k)) = B := ⟨_, rfl⟩
    rw [hB9] at hcfr
    have HB9 := Lib.hid hB9
    obtain ⟨BL, hBL⟩ : ∃ BL : List Bi, [⟨ga, sa, Aa, na, ca, n⟩, ⟨gp, sp, Ap, np, cp, n * m⟩] = BL := ⟨_, rfl⟩
    have HBL := Lib.hid hBL
    rw [hBL] at HD9 HBX
    have HS := Lib.hid (show DLoop w g BL L A9 N 5 w9 from ⟨U1, _, HD9.out, Fil.start L, HR9.out.1, HR9.out.2.2⟩)
    clear hN hB9 hBL HD9
    go_wp2_with fail
    go_loopw [19] (fun v wl => ∃ (i : Nat), v = .int .i64 (i : Int) ∧ 5 ≤ i ∧ i ≤ 7 ∧ Hid (DLoop w g BL L A9 N i wl)) (fun v _ => 7 - (intOf v).toNat)
    case atStart => exact ⟨5, rfl, by omega, by omega, HS⟩
    case round =>
      obtain ⟨i, rfl, hi5, hi7, hh⟩ := hrel
      by_cases hlt : i < 7
      · have hlt2 : (i : Int) < 7 := by omega
        obtain ⟨U, s, hD, hF, hR, hBk⟩ := hh.out
        have HAP := Lib.hid (hD.jd.append (i : Int) A9 k c9 (L.take k) (by rw [← bs_take']; exact hR.take hkN) (by omega))
        have HDF := Lib.hid (And.intro hD (And.intro hF (And.intro hR hBk)))
        clear hD hF hR hBk hh
        go_wp2_with fail
        refine HAP.out.mono ?_
        rintro e wb ⟨rfl, Ub, hjb, hsb⟩
        have HDb := Lib.hid (HDF.out.1.step hjb hsb)
        have HRb := Lib.hid (hsb.rd HDF.out.2.2.1 HDF.out.2.2.2)
        have HAP2 := Lib.hid (hjb.append (i : Int) B9 (N - k) (c9 - k) (L.drop k) (by rw [← bs_drop', ← HB9.out]; exact rd_from (hsb.rd HDF.out.2.2.1 HDF.out.2.2.2).1 hkN HR9.out.2.1) (by omega))
        clear hjb hsb HAP
        go_wp2_with fail
        refine HAP2.out.mono ?_
        rintro e wc2 ⟨rfl, Uc, hjc, hsc⟩
        have hd := HDb.out.step hjc hsc
        have hr := hsc.rd HRb.out.1 HRb.out.2
        have hf := HDF.out.2.1.step hi5 (by omega) (by have := HNL.out; omega) k (by have := HNL.out; omega)
        have HN2 := Lib.hid (show DLoop w g BL L A9 N (i + 1) wc2 from ⟨Uc, _, hd, hf, hr.1, hr.2⟩)
        clear hjc hsc hd hr hf HAP2 HDb HRb HDF
        go_wp2_with fail
        exact ⟨⟨i + 1, rfl, by omega, by omega, HN2⟩, by simp [intOf]; omega⟩
      · obtain rfl : i = 7 := by omega
        obtain ⟨U, s, hD, hF, hR, hBk⟩ := hh.out
        have HD := Lib.hid hD
        have HF := Lib.hid hF
        clear hD hF hR hBk hh hcup hcfr
        rw [show ((7 : Nat) : Int) = 7 from rfl]
        go_wp2_with fail
        refine HD.out.jd.sync.mono ?_
        rintro e x1 ⟨rfl, V1, hj1, hs1⟩
        have HE1 := Lib.hid (HD.out.step hj1 hs1)
        clear hj1 hs1 HD
        go_wp2_with fail
        refine ((HE1.out.jd.new ((Chg.refl _ x1).alloc _)).append 6 (some ⟨x1.heap.size, 0, none⟩) 3 3 [9, 9, 9] (rd_lit (bs [9, 9, 9])) (by omega)).mono ?_
        rintro e x2 ⟨rfl, V2, hj2, hs2⟩
        have HE2 := Lib.hid ((HE1.out.new ((Chg.refl _ x1).alloc _)).step hj2 hs2)
        clear hj2 hs2 HE1
        go_wp2_with fail
        refine ((HE2.out.jd.new ((Chg.refl _ x2).alloc _)).append 8 (some ⟨x2.heap.size, 0, none⟩) 1 1 [1] (rd_lit (bs [1])) (by omega)).mono ?_
        rintro e x3 ⟨rfl, V3, hj3, hs3⟩
        have HE3 := Lib.hid ((HE2.out.new ((Chg.refl _ x2).alloc _)).step hj3 hs3)
        clear hj3 hs3 HE2
        go_wp2_with fail
        refine (ints_any K nk ck 3 keep x3 (HRK.out.new HE3.out.jd.was) hck hnk (by omega)).mono ?_
        obtain ⟨k3, hk3⟩ : ∃ k3, (keep.take 3).length = k3 := ⟨_, rfl⟩
        have hk3' : k3 ≤ 3 := by rw [← hk3, List.length_take]; omega
        rw [hk3]
        rintro e x4 ⟨K4, ck4, rfl, ho4, hn4⟩
        have HE4 := Lib.hid (HE3.out.new hn4)
        have HK4 := Lib.hid (show Rd x4 K4 k3 (is (keep.take 3)) ∧ ∀ k, blk K4 = some k → ¬ V3 k ∧ k < x4.heap.size from ⟨Rd.of_own ho4, fun k hk => ⟨fun hu => by have := (HE3.out.jd.lt hu).1; have := (own_blk_le ho4 hk).1; omega, (own_blk_le ho4 hk).2⟩⟩)
        clear ho4 hn4 HE3 hk3
        go_wp2_with fail
        refine (HE4.out.jd.crash K4 k3 ck4 (keep.take 3) HK4.out.1 HK4.out.2 (by omega) (fun z hz => HKR.out z (List.mem_of_mem_take hz)) flip HFL.out).mono ?_
        rintro e x5 ⟨rfl, V5, hj5, hs5⟩
        obtain ⟨z, hz⟩ : ∃ z, Dk.crash (Dk.append (Dk.append (Dk.sync s).1 6 [9, 9, 9]).1 8 [1]).1 (keep.take 3) flip = z := ⟨_, rfl⟩
        rw [hz] at hj5
        have HE5 := Lib.hid (HE4.out.step hj5 hs5)
        have hfin := HF.out.fin (keep.take 3) flip
        rw [hz] at hfin
        have HFIN := Lib.hid hfin
        clear hj5 hs5 HE4 HK4 hfin hz hk3'
        go_wp2_with fail
        go_loopw [20] (fun v wl => ∃ (q : Nat), v = .int .i64 (q : Int) ∧ 5 ≤ q ∧ q ≤ 7 ∧ Hid (New x5 wl)) (fun v _ => 7 - (intOf v).toNat)
        case atStart => exact ⟨5, rfl, by omega, by omega, Chg.refl _ _⟩
        case round =>
          obtain ⟨q, rfl, hq5, hq7, hh⟩ := hrel
          by_cases hlt : q < 7
          · have hlt2 : (q : Int) < 7 := by omega
            obtain ⟨tt, ht3, ht5, hrdz⟩ : ∃ tt : List UInt8, tt.length ≤ 3 ∧ (q = 5 → tt = []) ∧ Dk.read z (q : Int) = (L ++ tt, 0) := by
              rcases (show q = 5 ∨ q = 6 by omega) with rfl | rfl
              · exact ⟨[], by simp, fun _ => rfl, by rw [List.append_nil]; exact HFIN.out.1⟩
              · obtain ⟨tt, h1, h2⟩ := HFIN.out.2
                exact ⟨tt, h1, fun e => by omega, h2⟩
            have HT5 := Lib.hid ht5
            have HDr := Lib.hid (HE5.out.new hh.out)
            obtain ⟨M, hM⟩ : ∃ M, (L ++ tt).length = M := ⟨_, rfl⟩
            have hM2 : M ≤ 203 := by rw [← hM, List.length_append]; have := HNL.out; omega
            have HRDZ := Lib.hid hrdz
            clear ht5 hrdz
            go_wp2_with fail
            refine (HDr.out.jd.read (q : Int)).mono ?_
            rw [HRDZ.out]
            dsimp only
            rw [hM]
            rintro e y1 ⟨Ay, cy, rfl, hry, hny, _⟩
            have HRY := Lib.hid hry
            have HN1 := Lib.hid (show NBx wr BL y1 from ⟨hny, fun b hb => Bi.new (HDr.out.bx b hb).1 hny⟩)
            clear hry hny
            go_wp2_with fail
            refine (read_any Ay M cy (L ++ tt) y1 HRY.out (by omega)).mono ?_
            rintro e y2 ⟨gr, bor, rfl, hr2, hn2, hgr, _⟩
            have HR2 := Lib.hid hr2
            have HN2 := Lib.hid (HN1.out.step hn2)
            have HGR := Lib.hid (show wr.heap.size ≤ gr ∧ ∀ b ∈ BL, b.g < gr from ⟨Nat.le_trans HN1.out.new.size hgr, fun b hb => Nat.lt_of_lt_of_le (HN1.out.bx b hb).1.lt hgr⟩)
            have HLT := Lib.hid (show L ++ tt = uvar ta.length ++ (ta ++ (uvar tp.length ++ (tp ++ tt))) from by rw [← HL.out]; simp [List.append_assoc])
            clear hr2 hn2 hgr HRY HN1 hM
            go_wp2_with fail
            have htx := rText_any gr bor (L ++ tt) 0 y2 HR2.out (by rw [List.length_append]; have := HNL.out; omega)
            rw [HLT.out, rawR_text _ _ (by omega)] at htx
            refine htx.mono ?_
            clear htx
            rintro e y3 ⟨rfl, hr3, hc3⟩
            dsimp only at hr3
            have HR3 := Lib.hid hr3
            have HN3 := Lib.hid (HN2.out.far hc3 HGR.out.1 (fun b hb => Nat.ne_of_lt (HGR.out.2 b hb)) (rdr_no32 HR2.out).1)
            clear hr3 hc3 HR2 HN2
            have hst : (⟨ta.toArray⟩ : ByteArray) = St (Txt.text n) := by rw [HTA.out]; rfl
            dsimp only
            rw [hst]
            clear hst
            go_wp2_with fail
            refine (wparse_s n (Sm.int HN.out) y3).mono ?_
            rintro e y4 ⟨s1, A1, n1, c1, rfl, K1⟩
            obtain ⟨y5, hy5⟩ : ∃ y5, y4.alloc (.cells #[.bool s1, .slice A1 n1 c1] 29) = y5 := ⟨_, rfl⟩
            obtain ⟨g1, hg1⟩ : ∃ g1, y4.heap.size = g1 := ⟨_, rfl⟩
            have hn5 : New y4 y5 := by rw [← hy5]; exact (Chg.refl _ y4).alloc _
            have hb5 : (⟨g1, s1, A1, n1, c1, n⟩ : Bi).sat y5 := by rw [← hy5, ← hg1]; exact bi_box K1.out.1
            have hgr1 : gr < g1 := by rw [← hg1]; exact Nat.lt_of_lt_of_le (rdr_no32 HR3.out).2 K1.out.2.size
            have HN5 := Lib.hid (((HN3.out.step K1.out.2).step hn5).add hb5)
            have HR5 := Lib.hid (HR3.out.chg (K1.out.2.trans hn5 (fun _ _ h => h) : New y3 y5) (fun h => h) (fun _ _ h => h))
            have HGR5 := Lib.hid (show wr.heap.size ≤ gr ∧ ∀ b ∈ ((⟨g1, s1, A1, n1, c1, n⟩ : Bi) :: BL), b.g ≠ gr from ⟨HGR.out.1, fun b hb => by
              rcases List.mem_cons.1 hb with rfl | hb
              · exact Nat.ne_of_gt hgr1
              · exact Nat.ne_of_lt (HGR.out.2 b hb)⟩)
            clear hn5 hb5 hgr1 HN3 HR3 K1
            go_wp2_with fail
            have htx := rText_any gr bor (uvar tp.length ++ (tp ++ tt)) 0 y5 HR5.out (by simp only [List.length_append]; omega)
            rw [rawR_text _ _ (by omega)] at htx
            refine htx.mono ?_
            clear htx
            rintro e y6 ⟨rfl, hr6, hc6⟩
            dsimp only at hr6
            have HR6 := Lib.hid hr6
            have HN6 := Lib.hid (HN5.out.far hc6 HGR5.out.1 HGR5.out.2 (rdr_no32 HR5.out).1)
            clear hr6 hc6 HR5 HN5
            have hst : (⟨tp.toArray⟩ : ByteArray) = St (Txt.text (n * m)) := by rw [HTP.out]; rfl
            dsimp only
            rw [hst]
            clear hst
            go_wp2_with fail
            refine (wparse_s (n * m) (Sm.mul HN.out HM.out) y6).mono ?_
            rintro e y7 ⟨s2, A2, n2, c2, rfl, K2⟩
            obtain ⟨y8, hy8⟩ : ∃ y8, y7.alloc (.cells #[.bool s2, .slice A2 n2 c2] 29) = y8 := ⟨_, rfl⟩
            obtain ⟨g2, hg2⟩ : ∃ g2, y7.heap.size = g2 := ⟨_, rfl⟩
            have hn8 : New y7 y8 := by rw [← hy8]; exact (Chg.refl _ y7).alloc _
            have hb8 : (⟨g2, s2, A2, n2, c2, n * m⟩ : Bi).sat y8 := by rw [← hy8, ← hg2]; exact bi_box K2.out.1
            have hN8 := ((HN6.out.step K2.out.2).step hn8).add hb8
            rw [← HBL.out] at hN8
            obtain ⟨d0, d1, dl, _⟩ := hN8.at_ (b := ⟨g2, s2, A2, n2, c2, n * m⟩) (by simp)
            obtain ⟨f0, f1, fl, _⟩ := hN8.at_ (b := ⟨g1, s1, A1, n1, c1, n⟩) (by simp)
            obtain ⟨h0, h1, hl, _⟩ := hN8.at_ (b := ⟨ga, sa, Aa, na, ca, n⟩) (by simp)
            obtain ⟨j0, j1, jl, _⟩ := hN8.at_ (b := ⟨gp, sp, Ap, np, cp, n * m⟩) (by simp)
            dsimp only at d0 d1 dl f0 f1 fl h0 h1 hl j0 j1 jl
            have HN8 := Lib.hid hN8
            have HR8 := Lib.hid (HR6.out.chg (K2.out.2.trans hn8 (fun _ _ h => h) : New y6 y8) (fun h => h) (fun _ _ h => h))
            clear hn8 hb8 hN8 HN6 HR6 K2
            go_upto_region 31 with fail
            go_cut [149] from 93 to 174 (fun v wx => v = .bool false ∧ Hid (New y8 wx))
            case first =>
              go_wp2_with fail
              refine (compare_any _ _ n n y8 (HN8.out.at_ (b := ⟨g1, s1, A1, n1, c1, n⟩) (by simp)).2.2.2 (HN8.out.at_ (b := ⟨ga, sa, Aa, na, ca, n⟩) (by simp)).2.2.2).mono ?_
              rw [cmpI_same]
              rintro e y9 ⟨rfl, hn9⟩
              have HN9 := Lib.hid (HN8.out.step hn9)
              have e0 := hn9.cell d0 (fun h => h)
              have e1 := hn9.cell d1 (fun h => h)
              have e2 := hn9.cell j0 (fun h => h)
              have e3 := hn9.cell j1 (fun h => h)
              have e4 := Nat.lt_of_lt_of_le dl hn9.size
              have e5 := Nat.lt_of_lt_of_le jl hn9.size
              have HY9 := Lib.hid hn9
              have HR9b := Lib.hid (HR8.out.chg hn9 (fun h => h) (fun _ _ h => h))
              clear hn9 d0 d1 f0 f1 h0 h1 j0 j1 dl fl hl jl
              go_wp2_with fail
              refine (compare_any _ _ (n * m) (n * m) y9 (HN9.out.at_ (b := ⟨g2, s2, A2, n2, c2, n * m⟩) (by simp)).2.2.2 (HN9.out.at_ (b := ⟨gp, sp, Ap, np, cp, n * m⟩) (by simp)).2.2.2).mono ?_
              rw [cmpI_same]
              rintro e y10 ⟨rfl, hn10⟩
              have HY10 := Lib.hid (HY9.out.trans hn10 (fun _ _ h => h) : New y8 y10)
              have HR10 := Lib.hid (HR9b.out.chg hn10 (fun h => h) (fun _ _ h => h))
              clear hn10 e0 e1 e2 e3 e4 e5
              rcases (show q = 5 ∨ q = 6 by omega) with rfl | rfl
              · rw [show ((5 : Nat) : Int) = 5 from rfl]
                go_wp2_with fail
                refine (rEnd_any gr bor tt 0 y10 HR10.out).mono ?_
                rw [HT5.out (by simp)]
                rintro e y11 ⟨rfl, hy11⟩
                subst hy11
                rw [show endR [] 0 = 0 from rfl]
                go_wp2_with fail
                go_meet
                exact ⟨rfl, HY10⟩
              · rw [show ((6 : Nat) : Int) = 6 from rfl]
                go_wp2_with fail
                go_meet
                exact ⟨rfl, HY10⟩
            case rest =>
              obtain ⟨rfl, hwc⟩ := hcut
              have HN12 := Lib.hid (HN8.out.step hwc.out)
              obtain ⟨w12, hw12⟩ : ∃ x, x = wc := ⟨_, rfl⟩
              subst hw12
              clear hwc HN8 HR8 d0 d1 f0 f1 h0 h1 j0 j1 dl fl hl jl
              obtain ⟨z1, z2, cd, hz, hdv⟩ := wdiv_s n m HN.out HM.out (.agg #[.bool s2, .slice A2 n2 c2])
              have HZ := Lib.hid hz
              have HQ4 := Lib.hid hdv
              have HQ3 := Lib.hid (show ∀ W, Calls Tryz.prog 6 #[.int .i64 m] W fun e w' => ∃ s A k c, e = .returned (.agg #[.bool s, .slice A k c]) ∧ Hid (WI w' (.agg #[.bool s, .slice A k c]) m ∧ New W w') from fun W => wfrom_s m W HM.out)
              have HSK2 := Lib.hid (show ∀ W, New w12 W → W.cell? ⟨g2, 0, none⟩ = some (.bool s2) ∧ W.cell? ⟨g2, 1, none⟩ = some (.slice A2 n2 c2) from fun W h => ⟨((HN12.out.step h).at_ (b := ⟨g2, s2, A2, n2, c2, n * m⟩) (by simp)).1, ((HN12.out.step h).at_ (b := ⟨g2, s2, A2, n2, c2, n * m⟩) (by simp)).2.1⟩)
              have HP2 := Lib.hid (show ∀ W, New w12 W → WI W (.agg #[.bool s2, .slice A2 n2 c2]) (n * m) from fun W h => ((HN12.out.step h).at_ (b := ⟨g2, s2, A2, n2, c2, n * m⟩) (by simp)).2.2.2)
              clear hz hdv
              go_upto_region 33 with fail
              go_cut [28, 29, 30] from 93 to 174 (fun v v' e wx => e = .int .i64 cd ∧ Hid (Box2 w12 v z1 v' z2 wx))
              case first =>
                refine wp_region_held_drew (S := fun w' => w'.cell? ⟨g2, 0, none⟩ = some (.bool s2) ∧ w'.cell? ⟨g2, 1, none⟩ = some (.slice A2 n2 c2)) (by kernel_rfl) (HSK2.out _ ((Chg.refl _ w12).drew)) (fun hHeld => ?_)
                obtain ⟨wd0, hwd0⟩ : ∃ x, w12.drew = x := ⟨_, rfl⟩
                have hB0 : New w12 wd0 := by rw [← hwd0]; exact (Chg.refl _ w12).drew
                rw [hwd0] at hHeld ⊢
                clear hwd0
                refine heldW (i := 0) (v := ?v5001) rfl (by kernel_rfl) (by kernel_rfl) (by kernel_rfl) (fun _ _ _ h => h) (by rfl) ?hy5001 hHeld ?rest5001
                case hy5001 => (intro w hSw; (try dsimp only at hSw); go_simp; try with_reducible rfl)
                simp only [Act.put, List.setIfInBounds_toArray, List.set_cons_zero, List.set_cons_succ]
                refine heldW (i := 1) (v := ?v5002) rfl (by kernel_rfl) (by kernel_rfl) (by kernel_rfl) (fun _ _ _ h => h) (by rfl) ?hy5002 hHeld ?rest5002
                case hy5002 => (intro w hSw; (try dsimp only at hSw); go_simp; try with_reducible rfl)
                simp only [Act.put, List.setIfInBounds_toArray, List.set_cons_zero, List.set_cons_succ]
                refine wpAnyH_ready (rs := [2, 8, 9]) (by kernel_rfl) (by simp) (AllReadyH.cons rfl (fun K hK => ?_) (AllReadyH.cons rfl (fun K hK => ?_) (AllReadyH.cons rfl (fun K hK => ?_) AllReadyH.nil)))
                · (try rw [if_pos (by rfl)])
                  go_simp
                  refine (HQ3.out wd0).mono ?_
                  rintro e wc5003 ⟨s5003, A5003, n5003, c5003, rfl, K5003⟩
                  have hB5004 : New w12 wc5003 := hB0.trans K5003.out.2 (fun _ _ h => h)
                  (try go_wp2_with fail)
                  refine hK.out _ _ (HSK2.out _ hB5004) (fun hHeld2 => ?_)
                  clear hK K hHeld
                  have hHeld := hHeld2
                  clear hHeld2
                  (try simp only [Act.put, List.setIfInBounds_toArray, List.set_cons_zero, List.set_cons_succ])
                  refine wpAnyH_ready (rs := [3, 8, 9]) (by kernel_rfl) (by simp) (AllReadyH.cons rfl (fun K hK => ?_) (AllReadyH.cons rfl (fun K hK => ?_) (AllReadyH.cons rfl (fun K hK => ?_) AllReadyH.nil)))
                  · (try rw [if_pos (by rfl)])
                    go_simp
                    refine (HQ4.out _ _ (HP2.out _ hB5004) K5003.out.1).mono ?_
                    rintro e wc5005 ⟨sq, Aq, nq, cq, sr, Ar, nr, cr, rfl, K5005⟩
                    have hB5006 : New w12 wc5005 := hB5004.trans K5005.out.2.2 (fun _ _ h => h)
                    have vm5006 := K5003.out.1.new K5005.out.2.2
                    (try go_wp2_with fail)
                    refine hK.out _ _ (HSK2.out _ hB5006) (fun hHeld2 => ?_)
                    clear hK K hHeld
                    have hHeld := hHeld2
                    clear hHeld2
                    (try simp only [Act.put, List.setIfInBounds_toArray, List.set_cons_zero, List.set_cons_succ])
                    refine heldW (i := 4) (v := ?v5007) rfl (by kernel_rfl) (by kernel_rfl) (by kernel_rfl) (fun _ _ _ h => h) (by rfl) ?hy5007 hHeld ?rest5007
                    case hy5007 => (intro w hSw; (try dsimp only at hSw); go_simp; try with_reducible rfl)
                    simp only [Act.put, List.setIfInBounds_toArray, List.set_cons_zero, List.set_cons_succ]
                    refine heldW (i := 5) (v := ?v5008) rfl (by kernel_rfl) (by kernel_rfl) (by kernel_rfl) (fun _ _ _ h => h) (by rfl) ?hy5008 hHeld ?rest5008
                    case hy5008 => (intro w hSw; (try dsimp only at hSw); go_simp; try with_reducible rfl)
                    simp only [Act.put, List.setIfInBounds_toArray, List.set_cons_zero, List.set_cons_succ]
                    refine heldW (i := 6) (v := ?v5009) rfl (by kernel_rfl) (by kernel_rfl) (by kernel_rfl) (fun _ _ _ h => h) (by rfl) ?hy5009 hHeld ?rest5009
                    case hy5009 => (intro w hSw; (try dsimp only at hSw); go_simp; try with_reducible rfl)
                    simp only [Act.put, List.setIfInBounds_toArray, List.set_cons_zero, List.set_cons_succ]
                    refine heldW (i := 7) (v := ?v5010) rfl (by kernel_rfl) (by kernel_rfl) (by kernel_rfl) (fun _ _ _ h => h) (by rfl) ?hy5010 hHeld ?rest5010
                    case hy5010 => (intro w hSw; (try dsimp only at hSw); go_simp; try with_reducible rfl)
                    simp only [Act.put, List.setIfInBounds_toArray, List.set_cons_zero, List.set_cons_succ]
                    refine wpAnyH_ready (rs := [8, 9]) (by kernel_rfl) (by simp) (AllReadyH.cons rfl (fun K hK => ?_) (AllReadyH.cons rfl (fun K hK => ?_) AllReadyH.nil))
                    · (try rw [if_pos (by rfl)])
                      go_simp
                      obtain ⟨wz5011, hw5011⟩ : ∃ x, wc5005.alloc (.cells #[.bool false, .slice none 0 0] 29) = x := ⟨_, rfl⟩
                      obtain ⟨bz5011, hb5011⟩ : ∃ x, wc5005.heap.size = x := ⟨_, rfl⟩
                      have kz5011 : Blk wz5011 bz5011 29 #[.bool false, .slice none 0 0] := by rw [← hw5011, ← hb5011]; exact Blk.new _ _ _
                      have nz5011 : New wc5005 wz5011 := by rw [← hw5011]; exact (Chg.refl _ wc5005).alloc _
                      have lz5011 : w12.heap.size ≤ bz5011 := by rw [← hb5011]; exact (hB5006).size
                      rw [hw5011, hb5011]
                      clear hw5011 hb5011
                      have hB5012 : New w12 wz5011 := hB5006.trans nz5011 (fun _ _ h => h)
                      have vm5012 := vm5006.new nz5011
                      have vq5012 := K5005.out.1.new nz5011
                      have vr5012 := K5005.out.2.1.new nz5011
                      refine hK.out _ _ (HSK2.out _ hB5012) (fun hHeld2 => ?_)
                      clear hK K hHeld
                      have hHeld := hHeld2
                      clear hHeld2
                      (try simp only [Act.put, List.setIfInBounds_toArray, List.set_cons_zero, List.set_cons_succ])
                      refine heldC (i := 9) rfl (by kernel_rfl) (by rfl) (fun K hK => ?_)
                      go_simp
                      obtain ⟨wz5013, hw5013⟩ : ∃ x, wz5011.alloc (.cells #[.bool false, .slice none 0 0] 29) = x := ⟨_, rfl⟩
                      obtain ⟨bz5013, hb5013⟩ : ∃ x, wz5011.heap.size = x := ⟨_, rfl⟩
                      have kz5013 : Blk wz5013 bz5013 29 #[.bool false, .slice none 0 0] := by rw [← hw5013, ← hb5013]; exact Blk.new _ _ _
                      have nz5013 : New wz5011 wz5013 := by rw [← hw5013]; exact (Chg.refl _ wz5011).alloc _
                      have lz5013 : w12.heap.size ≤ bz5013 := by rw [← hb5013]; exact (hB5012).size
                      have ne5013_q : bz5011 ≠ bz5013 := by have := (kz5011).lt; omega
                      rw [hw5013, hb5013]
                      clear hw5013 hb5013
                      have hB5014 : New w12 wz5013 := hB5012.trans nz5013 (fun _ _ h => h)
                      have kq5014 := kz5011.chg nz5013 (fun h => h)
                      have vm5014 := vm5012.new nz5013
                      have vq5014 := vq5012.new nz5013
                      have vr5014 := vr5012.new nz5013
                      refine hK.out _ _ (HSK2.out _ hB5014) (fun hHeld2 => ?_)
                      clear hK K hHeld
                      have hHeld := hHeld2
                      clear hHeld2
                      (try simp only [Act.put, List.setIfInBounds_toArray, List.set_cons_zero, List.set_cons_succ])
                      refine wpAnyH_ready (rs := [10]) (by kernel_rfl) (by simp) (AllReadyH.cons rfl (fun K hK => ?_) AllReadyH.nil)
                      (try rw [if_pos (by rfl)])
                      have c0_5015 := kq5014.cell 0 (u := .bool false) rfl
                      have c1_5015 := kq5014.cell 1 (u := .slice none 0 0) rfl
                      have f0_5015 := kq5014.frozen 0
                      have f1_5015 := kq5014.frozen 1
                      have l_5015 := kq5014.lt
                      go_simp
                      obtain ⟨ws5015, hw5015⟩ : ∃ x, (wz5013.setCell ⟨bz5011, 0, none⟩ (.bool sq)).setCell ⟨bz5011, 1, none⟩ (.slice Aq nq cq) = x := ⟨_, rfl⟩
                      have ch5015 : Chg (fun k => k = bz5011) wz5013 ws5015 := by rw [← hw5015]; exact Chg.at2 _ _ _ _
                      have kb5015 : Blk ws5015 bz5011 29 #[.bool sq, .slice Aq nq cq] := by rw [← hw5015]; exact kq5014.set2 _ _
                      rw [hw5015]
                      clear hw5015 c0_5015 c1_5015 f0_5015 f1_5015 l_5015
                      have hB5015 : New w12 ws5015 := hB5014.trans ch5015 (fun k hk e => by have := lz5011; omega)
                      have kr5015 := kz5013.chg ch5015 (fun e => ne5013_q e.symm)
                      have vm5015 := vm5014.store kq5014 (fun k z h => by simp at h) ch5015
                      have vq5015 := vq5014.store kq5014 (fun k z h => by simp at h) ch5015
                      have vr5015 := vr5014.store kq5014 (fun k z h => by simp at h) ch5015
                      refine hK.out _ _ (HSK2.out _ hB5015) (fun hHeld2 => ?_)
                      clear hK K hHeld
                      have hHeld := hHeld2
                      clear hHeld2
                      (try simp only [Act.put, List.setIfInBounds_toArray, List.set_cons_zero, List.set_cons_succ])
                      refine wpAnyH_ready (rs := [11]) (by kernel_rfl) (by simp) (AllReadyH.cons rfl (fun K hK => ?_) AllReadyH.nil)
                      (try rw [if_pos (by rfl)])
                      have c0_5016 := kr5015.cell 0 (u := .bool false) rfl
                      have c1_5016 := kr5015.cell 1 (u := .slice none 0 0) rfl
                      have f0_5016 := kr5015.frozen 0
                      have f1_5016 := kr5015.frozen 1
                      have l_5016 := kr5015.lt
                      go_simp
                      obtain ⟨ws5016, hw5016⟩ : ∃ x, (ws5015.setCell ⟨bz5013, 0, none⟩ (.bool sr)).setCell ⟨bz5013, 1, none⟩ (.slice Ar nr cr) = x := ⟨_, rfl⟩
                      have ch5016 : Chg (fun k => k = bz5013) ws5015 ws5016 := by rw [← hw5016]; exact Chg.at2 _ _ _ _
                      have kb5016 : Blk ws5016 bz5013 29 #[.bool sr, .slice Ar nr cr] := by rw [← hw5016]; exact kr5015.set2 _ _
                      rw [hw5016]
                      clear hw5016 c0_5016 c1_5016 f0_5016 f1_5016 l_5016
                      have hB5016 : New w12 ws5016 := hB5015.trans ch5016 (fun k hk e => by have := lz5013; omega)
                      have kq5016 := kb5015.chg ch5016 ne5013_q
                      have vm5016 := vm5015.store kr5015 (fun k z h => by simp at h) ch5016
                      have vq5016 := vq5015.store kr5015 (fun k z h => by simp at h) ch5016
                      have vr5016 := vr5015.store kr5015 (fun k z h => by simp at h) ch5016
                      refine hK.out _ _ (HSK2.out _ hB5016) (fun hHeld2 => ?_)
                      clear hK K hHeld
                      have hHeld := hHeld2
                      clear hHeld2
                      (try simp only [Act.put, List.setIfInBounds_toArray, List.set_cons_zero, List.set_cons_succ])
                      refine heldW (i := 12) (v := ?v5017) rfl (by kernel_rfl) (by kernel_rfl) (by kernel_rfl) (fun _ _ _ h => h) (by rfl) ?hy5017 hHeld ?rest5017
                      case hy5017 => (intro w hSw; (try dsimp only at hSw); go_simp; try with_reducible rfl)
                      simp only [Act.put, List.setIfInBounds_toArray, List.set_cons_zero, List.set_cons_succ]
                      refine wpAnyH_done (by kernel_rfl) ?_ _
                      go_wp2_with fail
                      go_meet
                      exact ⟨rfl, Lib.hid (box2_mk kq5016 kb5016 vq5016 vr5016 hB5016)⟩
                    · (try rw [if_pos (by rfl)])
                      go_simp
                      obtain ⟨wz5018, hw5018⟩ : ∃ x, wc5005.alloc (.cells #[.bool false, .slice none 0 0] 29) = x := ⟨_, rfl⟩
                      obtain ⟨bz5018, hb5018⟩ : ∃ x, wc5005.heap.size = x := ⟨_, rfl⟩
                      have kz5018 : Blk wz5018 bz5018 29 #[.bool false, .slice none 0 0] := by rw [← hw5018, ← hb5018]; exact Blk.new _ _ _
                      have nz5018 : New wc5005 wz5018 := by rw [← hw5018]; exact (Chg.refl _ wc5005).alloc _
                      have lz5018 : w12.heap.size ≤ bz5018 := by rw [← hb5018]; exact (hB5006).size
                      rw [hw5018, hb5018]
                      clear hw5018 hb5018
                      have hB5019 : New w12 wz5018 := hB5006.trans nz5018 (fun _ _ h => h)
                      have vm5019 := vm5006.new nz5018
                      have vq5019 := K5005.out.1.new nz5018
                      have vr5019 := K5005.out.2.1.new nz5018
                      refine hK.out _ _ (HSK2.out _ hB5019) (fun hHeld2 => ?_)
                      clear hK K hHeld
                      have hHeld := hHeld2
                      clear hHeld2
                      (try simp only [Act.put, List.setIfInBounds_toArray, List.set_cons_zero, List.set_cons_succ])
                      refine heldC (i := 8) rfl (by kernel_rfl) (by rfl) (fun K hK => ?_)
                      go_simp
                      obtain ⟨wz5020, hw5020⟩ : ∃ x, wz5018.alloc (.cells #[.bool false, .slice none 0 0] 29) = x := ⟨_, rfl⟩
                      obtain ⟨bz5020, hb5020⟩ : ∃ x, wz5018.heap.size = x := ⟨_, rfl⟩
                      have kz5020 : Blk wz5020 bz5020 29 #[.bool false, .slice none 0 0] := by rw [← hw5020, ← hb5020]; exact Blk.new _ _ _
                      have nz5020 : New wz5018 wz5020 := by rw [← hw5020]; exact (Chg.refl _ wz5018).alloc _
                      have lz5020 : w12.heap.size ≤ bz5020 := by rw [← hb5020]; exact (hB5019).size
                      have ne5020_r : bz5018 ≠ bz5020 := by have := (kz5018).lt; omega
                      rw [hw5020, hb5020]
                      clear hw5020 hb5020
                      have hB5021 : New w12 wz5020 := hB5019.trans nz5020 (fun _ _ h => h)
                      have kr5021 := kz5018.chg nz5020 (fun h => h)
                      have vm5021 := vm5019.new nz5020
                      have vq5021 := vq5019.new nz5020
                      have vr5021 := vr5019.new nz5020
                      refine hK.out _ _ (HSK2.out _ hB5021) (fun hHeld2 => ?_)
                      clear hK K hHeld
                      have hHeld := hHeld2
                      clear hHeld2
                      (try simp only [Act.put, List.setIfInBounds_toArray, List.set_cons_zero, List.set_cons_succ])
                      refine wpAnyH_ready (rs := [10]) (by kernel_rfl) (by simp) (AllReadyH.cons rfl (fun K hK => ?_) AllReadyH.nil)
                      (try rw [if_pos (by rfl)])
                      have c0_5022 := kz5020.cell 0 (u := .bool false) rfl
                      have c1_5022 := kz5020.cell 1 (u := .slice none 0 0) rfl
                      have f0_5022 := kz5020.frozen 0
                      have f1_5022 := kz5020.frozen 1
                      have l_5022 := kz5020.lt
                      go_simp
                      obtain ⟨ws5022, hw5022⟩ : ∃ x, (wz5020.setCell ⟨bz5020, 0, none⟩ (.bool sq)).setCell ⟨bz5020, 1, none⟩ (.slice Aq nq cq) = x := ⟨_, rfl⟩
                      have ch5022 : Chg (fun k => k = bz5020) wz5020 ws5022 := by rw [← hw5022]; exact Chg.at2 _ _ _ _
                      have kb5022 : Blk ws5022 bz5020 29 #[.bool sq, .slice Aq nq cq] := by rw [← hw5022]; exact kz5020.set2 _ _
                      rw [hw5022]
                      clear hw5022 c0_5022 c1_5022 f0_5022 f1_5022 l_5022
                      have hB5022 : New w12 ws5022 := hB5021.trans ch5022 (fun k hk e => by have := lz5020; omega)
                      have kr5022 := kr5021.chg ch5022 ne5020_r
                      have vm5022 := vm5021.store kz5020 (fun k z h => by simp at h) ch5022
                      have vq5022 := vq5021.store kz5020 (fun k z h => by simp at h) ch5022
                      have vr5022 := vr5021.store kz5020 (fun k z h => by simp at h) ch5022
                      refine hK.out _ _ (HSK2.out _ hB5022) (fun hHeld2 => ?_)
                      clear hK K hHeld
                      have hHeld := hHeld2
                      clear hHeld2
                      (try simp only [Act.put, List.setIfInBounds_toArray, List.set_cons_zero, List.set_cons_succ])
                      refine wpAnyH_ready (rs := [11]) (by kernel_rfl) (by simp) (AllReadyH.cons rfl (fun K hK => ?_) AllReadyH.nil)
                      (try rw [if_pos (by rfl)])
                      have c0_5023 := kr5022.cell 0 (u := .bool false) rfl
                      have c1_5023 := kr5022.cell 1 (u := .slice none 0 0) rfl
                      have f0_5023 := kr5022.frozen 0
                      have f1_5023 := kr5022.frozen 1
                      have l_5023 := kr5022.lt
                      go_simp
                      obtain ⟨ws5023, hw5023⟩ : ∃ x, (ws5022.setCell ⟨bz5018, 0, none⟩ (.bool sr)).setCell ⟨bz5018, 1, none⟩ (.slice Ar nr cr) = x := ⟨_, rfl⟩
                      have ch5023 : Chg (fun k => k = bz5018) ws5022 ws5023 := by rw [← hw5023]; exact Chg.at2 _ _ _ _
                      have kb5023 : Blk ws5023 bz5018 29 #[.bool sr, .slice Ar nr cr] := by rw [← hw5023]; exact kr5022.set2 _ _
                      rw [hw5023]
                      clear hw5023 c0_5023 c1_5023 f0_5023 f1_5023 l_5023
                      have hB5023 : New w12 ws5023 := hB5022.trans ch5023 (fun k hk e => by have := lz5018; omega)
                      have kq5023 := kb5022.chg ch5023 (fun e => ne5020_r e.symm)
                      have vm5023 := vm5022.store kr5022 (fun k z h => by simp at h) ch5023
                      have vq5023 := vq5022.store kr5022 (fun k z h => by simp at h) ch5023
                      have vr5023 := vr5022.store kr5022 (fun k z h => by simp at h) ch5023
                      refine hK.out _ _ (HSK2.out _ hB5023) (fun hHeld2 => ?_)
                      clear hK K hHeld
                      have hHeld := hHeld2
                      clear hHeld2
                      (try simp only [Act.put, List.setIfInBounds_toArray, List.set_cons_zero, List.set_cons_succ])
                      refine heldW (i := 12) (v := ?v5024) rfl (by kernel_rfl) (by kernel_rfl) (by kernel_rfl) (fun _ _ _ h => h) (by rfl) ?hy5024 hHeld ?rest5024
                      case hy5024 => (intro w hSw; (try dsimp only at hSw); go_simp; try with_reducible rfl)
                      simp only [Act.put, List.setIfInBounds_toArray, List.set_cons_zero, List.set_cons_succ]
                      refine wpAnyH_done (by kernel_rfl) ?_ _
                      go_wp2_with fail
                      go_meet
                      exact ⟨rfl, Lib.hid (box2_mk kq5023 kb5023 vq5023 vr5023 hB5023)⟩
                  · (try rw [if_pos (by rfl)])
                    go_simp
                    obtain ⟨wz5025, hw5025⟩ : ∃ x, wc5003.alloc (.cells #[.bool false, .slice none 0 0] 29) = x := ⟨_, rfl⟩
                    obtain ⟨bz5025, hb5025⟩ : ∃ x, wc5003.heap.size = x := ⟨_, rfl⟩
                    have kz5025 : Blk wz5025 bz5025 29 #[.bool false, .slice none 0 0] := by rw [← hw5025, ← hb5025]; exact Blk.new _ _ _
                    have nz5025 : New wc5003 wz5025 := by rw [← hw5025]; exact (Chg.refl _ wc5003).alloc _
                    have lz5025 : w12.heap.size ≤ bz5025 := by rw [← hb5025]; exact (hB5004).size
                    rw [hw5025, hb5025]
                    clear hw5025 hb5025
                    have hB5026 : New w12 wz5025 := hB5004.trans nz5025 (fun _ _ h => h)
                    have vm5026 := K5003.out.1.new nz5025
                    refine hK.out _ _ (HSK2.out _ hB5026) (fun hHeld2 => ?_)
                    clear hK K hHeld
                    have hHeld := hHeld2
                    clear hHeld2
                    (try simp only [Act.put, List.setIfInBounds_toArray, List.set_cons_zero, List.set_cons_succ])
                    refine wpAnyH_ready (rs := [3, 9]) (by kernel_rfl) (by simp) (AllReadyH.cons rfl (fun K hK => ?_) (AllReadyH.cons rfl (fun K hK => ?_) AllReadyH.nil))
                    · (try rw [if_pos (by rfl)])
                      go_simp
                      refine (HQ4.out _ _ (HP2.out _ hB5026) vm5026).mono ?_
                      rintro e wc5027 ⟨sq, Aq, nq, cq, sr, Ar, nr, cr, rfl, K5027⟩
                      have hB5028 : New w12 wc5027 := hB5026.trans K5027.out.2.2 (fun _ _ h => h)
                      have kq5028 := kz5025.chg K5027.out.2.2 (fun h => h)
                      have vm5028 := vm5026.new K5027.out.2.2
                      (try go_wp2_with fail)
                      refine hK.out _ _ (HSK2.out _ hB5028) (fun hHeld2 => ?_)
                      clear hK K hHeld
                      have hHeld := hHeld2
                      clear hHeld2
                      (try simp only [Act.put, List.setIfInBounds_toArray, List.set_cons_zero, List.set_cons_succ])
                      refine heldW (i := 4) (v := ?v5029) rfl (by kernel_rfl) (by kernel_rfl) (by kernel_rfl) (fun _ _ _ h => h) (by rfl) ?hy5029 hHeld ?rest5029
                      case hy5029 => (intro w hSw; (try dsimp only at hSw); go_simp; try with_reducible rfl)
                      simp only [Act.put, List.setIfInBounds_toArray, List.set_cons_zero, List.set_cons_succ]
                      refine heldW (i := 5) (v := ?v5030) rfl (by kernel_rfl) (by kernel_rfl) (by kernel_rfl) (fun _ _ _ h => h) (by rfl) ?hy5030 hHeld ?rest5030
                      case hy5030 => (intro w hSw; (try dsimp only at hSw); go_simp; try with_reducible rfl)
                      simp only [Act.put, List.setIfInBounds_toArray, List.set_cons_zero, List.set_cons_succ]
                      refine heldW (i := 6) (v := ?v5031) rfl (by kernel_rfl) (by kernel_rfl) (by kernel_rfl) (fun _ _ _ h => h) (by rfl) ?hy5031 hHeld ?rest5031
                      case hy5031 => (intro w hSw; (try dsimp only at hSw); go_simp; try with_reducible rfl)
                      simp only [Act.put, List.setIfInBounds_toArray, List.set_cons_zero, List.set_cons_succ]
                      refine heldW (i := 7) (v := ?v5032) rfl (by kernel_rfl) (by kernel_rfl) (by kernel_rfl) (fun _ _ _ h => h) (by rfl) ?hy5032 hHeld ?rest5032
                      case hy5032 => (intro w hSw; (try dsimp only at hSw); go_simp; try with_reducible rfl)
                      simp only [Act.put, List.setIfInBounds_toArray, List.set_cons_zero, List.set_cons_succ]
                      refine heldC (i := 9) rfl (by kernel_rfl) (by rfl) (fun K hK => ?_)
                      go_simp
                      obtain ⟨wz5033, hw5033⟩ : ∃ x, wc5027.alloc (.cells #[.bool false, .slice none 0 0] 29) = x := ⟨_, rfl⟩
                      obtain ⟨bz5033, hb5033⟩ : ∃ x, wc5027.heap.size = x := ⟨_, rfl⟩
                      have kz5033 : Blk wz5033 bz5033 29 #[.bool false, .slice none 0 0] := by rw [← hw5033, ← hb5033]; exact Blk.new _ _ _
                      have nz5033 : New wc5027 wz5033 := by rw [← hw5033]; exact (Chg.refl _ wc5027).alloc _
                      have lz5033 : w12.heap.size ≤ bz5033 := by rw [← hb5033]; exact (hB5028).size
                      have ne5033_q : bz5025 ≠ bz5033 := by have := (kq5028).lt; omega
                      rw [hw5033, hb5033]
                      clear hw5033 hb5033
                      have hB5034 : New w12 wz5033 := hB5028.trans nz5033 (fun _ _ h => h)
                      have kq5034 := kq5028.chg nz5033 (fun h => h)
                      have vm5034 := vm5028.new nz5033
                      have vq5034 := K5027.out.1.new nz5033
                      have vr5034 := K5027.out.2.1.new nz5033
                      refine hK.out _ _ (HSK2.out _ hB5034) (fun hHeld2 => ?_)
                      clear hK K hHeld
                      have hHeld := hHeld2
                      clear hHeld2
                      (try simp only [Act.put, List.setIfInBounds_toArray, List.set_cons_zero, List.set_cons_succ])
                      refine wpAnyH_ready (rs := [10]) (by kernel_rfl) (by simp) (AllReadyH.cons rfl (fun K hK => ?_) AllReadyH.nil)
                      (try rw [if_pos (by rfl)])
                      have c0_5035 := kq5034.cell 0 (u := .bool false) rfl
                      have c1_5035 := kq5034.cell 1 (u := .slice none 0 0) rfl
                      have f0_5035 := kq5034.frozen 0
                      have f1_5035 := kq5034.frozen 1
                      have l_5035 := kq5034.lt
                      go_simp
                      obtain ⟨ws5035, hw5035⟩ : ∃ x, (wz5033.setCell ⟨bz5025, 0, none⟩ (.bool sq)).setCell ⟨bz5025, 1, none⟩ (.slice Aq nq cq) = x := ⟨_, rfl⟩
                      have ch5035 : Chg (fun k => k = bz5025) wz5033 ws5035 := by rw [← hw5035]; exact Chg.at2 _ _ _ _
                      have kb5035 : Blk ws5035 bz5025 29 #[.bool sq, .slice Aq nq cq] := by rw [← hw5035]; exact kq5034.set2 _ _
                      rw [hw5035]
                      clear hw5035 c0_5035 c1_5035 f0_5035 f1_5035 l_5035
                      have hB5035 : New w12 ws5035 := hB5034.trans ch5035 (fun k hk e => by have := lz5025; omega)
                      have kr5035 := kz5033.chg ch5035 (fun e => ne5033_q e.symm)
                      have vm5035 := vm5034.store kq5034 (fun k z h => by simp at h) ch5035
                      have vq5035 := vq5034.store kq5034 (fun k z h => by simp at h) ch5035
                      have vr5035 := vr5034.store kq5034 (fun k z h => by simp at h) ch5035
                      refine hK.out _ _ (HSK2.out _ hB5035) (fun hHeld2 => ?_)
                      clear hK K hHeld
                      have hHeld := hHeld2
                      clear hHeld2
                      (try simp only [Act.put, List.setIfInBounds_toArray, List.set_cons_zero, List.set_cons_succ])
                      refine wpAnyH_ready (rs := [11]) (by kernel_rfl) (by simp) (AllReadyH.cons rfl (fun K hK => ?_) AllReadyH.nil)
                      (try rw [if_pos (by rfl)])
                      have c0_5036 := kr5035.cell 0 (u := .bool false) rfl
                      have c1_5036 := kr5035.cell 1 (u := .slice none 0 0) rfl
                      have f0_5036 := kr5035.frozen 0
                      have f1_5036 := kr5035.frozen 1
                      have l_5036 := kr5035.lt
                      go_simp
                      obtain ⟨ws5036, hw5036⟩ : ∃ x, (ws5035.setCell ⟨bz5033, 0, none⟩ (.bool sr)).setCell ⟨bz5033, 1, none⟩ (.slice Ar nr cr) = x := ⟨_, rfl⟩
                      have ch5036 : Chg (fun k => k = bz5033) ws5035 ws5036 := by rw [← hw5036]; exact Chg.at2 _ _ _ _
                      have kb5036 : Blk ws5036 bz5033 29 #[.bool sr, .slice Ar nr cr] := by rw [← hw5036]; exact kr5035.set2 _ _
                      rw [hw5036]
                      clear hw5036 c0_5036 c1_5036 f0_5036 f1_5036 l_5036
                      have hB5036 : New w12 ws5036 := hB5035.trans ch5036 (fun k hk e => by have := lz5033; omega)
                      have kq5036 := kb5035.chg ch5036 ne5033_q
                      have vm5036 := vm5035.store kr5035 (fun k z h => by simp at h) ch5036
                      have vq5036 := vq5035.store kr5035 (fun k z h => by simp at h) ch5036
                      have vr5036 := vr5035.store kr5035 (fun k z h => by simp at h) ch5036
                      refine hK.out _ _ (HSK2.out _ hB5036) (fun hHeld2 => ?_)
                      clear hK K hHeld
                      have hHeld := hHeld2
                      clear hHeld2
                      (try simp only [Act.put, List.setIfInBounds_toArray, List.set_cons_zero, List.set_cons_succ])
                      refine heldW (i := 12) (v := ?v5037) rfl (by kernel_rfl) (by kernel_rfl) (by kernel_rfl) (fun _ _ _ h => h) (by rfl) ?hy5037 hHeld ?rest5037
                      case hy5037 => (intro w hSw; (try dsimp only at hSw); go_simp; try with_reducible rfl)
                      simp only [Act.put, List.setIfInBounds_toArray, List.set_cons_zero, List.set_cons_succ]
                      refine wpAnyH_done (by kernel_rfl) ?_ _
                      go_wp2_with fail
                      go_meet
                      exact ⟨rfl, Lib.hid (box2_mk kq5036 kb5036 vq5036 vr5036 hB5036)⟩
                    · (try rw [if_pos (by rfl)])
                      go_simp
                      obtain ⟨wz5038, hw5038⟩ : ∃ x, wz5025.alloc (.cells #[.bool false, .slice none 0 0] 29) = x := ⟨_, rfl⟩
                      obtain ⟨bz5038, hb5038⟩ : ∃ x, wz5025.heap.size = x := ⟨_, rfl⟩
                      have kz5038 : Blk wz5038 bz5038 29 #[.bool false, .slice none 0 0] := by rw [← hw5038, ← hb5038]; exact Blk.new _ _ _
                      have nz5038 : New wz5025 wz5038 := by rw [← hw5038]; exact (Chg.refl _ wz5025).alloc _
                      have lz5038 : w12.heap.size ≤ bz5038 := by rw [← hb5038]; exact (hB5026).size
                      have ne5038_q : bz5025 ≠ bz5038 := by have := (kz5025).lt; omega
                      rw [hw5038, hb5038]
                      clear hw5038 hb5038
                      have hB5039 : New w12 wz5038 := hB5026.trans nz5038 (fun _ _ h => h)
                      have kq5039 := kz5025.chg nz5038 (fun h => h)
                      have vm5039 := vm5026.new nz5038
                      refine hK.out _ _ (HSK2.out _ hB5039) (fun hHeld2 => ?_)
                      clear hK K hHeld
                      have hHeld := hHeld2
                      clear hHeld2
                      (try simp only [Act.put, List.setIfInBounds_toArray, List.set_cons_zero, List.set_cons_succ])
                      refine heldC (i := 3) rfl (by kernel_rfl) (by rfl) (fun K hK => ?_)
                      go_simp
                      refine (HQ4.out _ _ (HP2.out _ hB5039) vm5039).mono ?_
                      rintro e wc5040 ⟨sq, Aq, nq, cq, sr, Ar, nr, cr, rfl, K5040⟩
                      have hB5041 : New w12 wc5040 := hB5039.trans K5040.out.2.2 (fun _ _ h => h)
                      have kq5041 := kq5039.chg K5040.out.2.2 (fun h => h)
                      have kr5041 := kz5038.chg K5040.out.2.2 (fun h => h)
                      have vm5041 := vm5039.new K5040.out.2.2
                      (try go_wp2_with fail)
                      refine hK.out _ _ (HSK2.out _ hB5041) (fun hHeld2 => ?_)
                      clear hK K hHeld
                      have hHeld := hHeld2
                      clear hHeld2
                      (try simp only [Act.put, List.setIfInBounds_toArray, List.set_cons_zero, List.set_cons_succ])
                      refine heldW (i := 4) (v := ?v5042) rfl (by kernel_rfl) (by kernel_rfl) (by kernel_rfl) (fun _ _ _ h => h) (by rfl) ?hy5042 hHeld ?rest5042
                      case hy5042 => (intro w hSw; (try dsimp only at hSw); go_simp; try with_reducible rfl)
                      simp only [Act.put, List.setIfInBounds_toArray, List.set_cons_zero, List.set_cons_succ]
                      refine heldW (i := 5) (v := ?v5043) rfl (by kernel_rfl) (by kernel_rfl) (by kernel_rfl) (fun _ _ _ h => h) (by rfl) ?hy5043 hHeld ?rest5043
                      case hy5043 => (intro w hSw; (try dsimp only at hSw); go_simp; try with_reducible rfl)
                      simp only [Act.put, List.setIfInBounds_toArray, List.set_cons_zero, List.set_cons_succ]
                      refine heldW (i := 6) (v := ?v5044) rfl (by kernel_rfl) (by kernel_rfl) (by kernel_rfl) (fun _ _ _ h => h) (by rfl) ?hy5044 hHeld ?rest5044
                      case hy5044 => (intro w hSw; (try dsimp only at hSw); go_simp; try with_reducible rfl)
                      simp only [Act.put, List.setIfInBounds_toArray, List.set_cons_zero, List.set_cons_succ]
                      refine heldW (i := 7) (v := ?v5045) rfl (by kernel_rfl) (by kernel_rfl) (by kernel_rfl) (fun _ _ _ h => h) (by rfl) ?hy5045 hHeld ?rest5045
                      case hy5045 => (intro w hSw; (try dsimp only at hSw); go_simp; try with_reducible rfl)
                      simp only [Act.put, List.setIfInBounds_toArray, List.set_cons_zero, List.set_cons_succ]
                      refine wpAnyH_ready (rs := [10]) (by kernel_rfl) (by simp) (AllReadyH.cons rfl (fun K hK => ?_) AllReadyH.nil)
                      (try rw [if_pos (by rfl)])
                      have c0_5046 := kq5041.cell 0 (u := .bool false) rfl
                      have c1_5046 := kq5041.cell 1 (u := .slice none 0 0) rfl
                      have f0_5046 := kq5041.frozen 0
                      have f1_5046 := kq5041.frozen 1
                      have l_5046 := kq5041.lt
                      go_simp
                      obtain ⟨ws5046, hw5046⟩ : ∃ x, (wc5040.setCell ⟨bz5025, 0, none⟩ (.bool sq)).setCell ⟨bz5025, 1, none⟩ (.slice Aq nq cq) = x := ⟨_, rfl⟩
                      have ch5046 : Chg (fun k => k = bz5025) wc5040 ws5046 := by rw [← hw5046]; exact Chg.at2 _ _ _ _
                      have kb5046 : Blk ws5046 bz5025 29 #[.bool sq, .slice Aq nq cq] := by rw [← hw5046]; exact kq5041.set2 _ _
                      rw [hw5046]
                      clear hw5046 c0_5046 c1_5046 f0_5046 f1_5046 l_5046
                      have hB5046 : New w12 ws5046 := hB5041.trans ch5046 (fun k hk e => by have := lz5025; omega)
                      have kr5046 := kr5041.chg ch5046 (fun e => ne5038_q e.symm)
                      have vm5046 := vm5041.store kq5041 (fun k z h => by simp at h) ch5046
                      have vq5046 := K5040.out.1.store kq5041 (fun k z h => by simp at h) ch5046
                      have vr5046 := K5040.out.2.1.store kq5041 (fun k z h => by simp at h) ch5046
                      refine hK.out _ _ (HSK2.out _ hB5046) (fun hHeld2 => ?_)
                      clear hK K hHeld
                      have hHeld := hHeld2
                      clear hHeld2
                      (try simp only [Act.put, List.setIfInBounds_toArray, List.set_cons_zero, List.set_cons_succ])
                      refine wpAnyH_ready (rs := [11]) (by kernel_rfl) (by simp) (AllReadyH.cons rfl (fun K hK => ?_) AllReadyH.nil)
                      (try rw [if_pos (by rfl)])
                      have c0_5047 := kr5046.cell 0 (u := .bool false) rfl
                      have c1_5047 := kr5046.cell 1 (u := .slice none 0 0) rfl
                      have f0_5047 := kr5046.frozen 0
                      have f1_5047 := kr5046.frozen 1
                      have l_5047 := kr5046.lt
                      go_simp
                      obtain ⟨ws5047, hw5047⟩ : ∃ x, (ws5046.setCell ⟨bz5038, 0, none⟩ (.bool sr)).setCell ⟨bz5038, 1, none⟩ (.slice Ar nr cr) = x := ⟨_, rfl⟩
                      have ch5047 : Chg (fun k => k = bz5038) ws5046 ws5047 := by rw [← hw5047]; exact Chg.at2 _ _ _ _
                      have kb5047 : Blk ws5047 bz5038 29 #[.bool sr, .slice Ar nr cr] := by rw [← hw5047]; exact kr5046.set2 _ _
                      rw [hw5047]
                      clear hw5047 c0_5047 c1_5047 f0_5047 f1_5047 l_5047
                      have hB5047 : New w12 ws5047 := hB5046.trans ch5047 (fun k hk e => by have := lz5038; omega)
                      have kq5047 := kb5046.chg ch5047 ne5038_q
                      have vm5047 := vm5046.store kr5046 (fun k z h => by simp at h) ch5047
                      have vq5047 := vq5046.store kr5046 (fun k z h => by simp at h) ch5047
                      have vr5047 := vr5046.store kr5046 (fun k z h => by simp at h) ch5047
                      refine hK.out _ _ (HSK2.out _ hB5047) (fun hHeld2 => ?_)
                      clear hK K hHeld
                      have hHeld := hHeld2
                      clear hHeld2
                      (try simp only [Act.put, List.setIfInBounds_toArray, List.set_cons_zero, List.set_cons_succ])
                      refine heldW (i := 12) (v := ?v5048) rfl (by kernel_rfl) (by kernel_rfl) (by kernel_rfl) (fun _ _ _ h => h) (by rfl) ?hy5048 hHeld ?rest5048
                      case hy5048 => (intro w hSw; (try dsimp only at hSw); go_simp; try with_reducible rfl)
                      simp only [Act.put, List.setIfInBounds_toArray, List.set_cons_zero, List.set_cons_succ]
                      refine wpAnyH_done (by kernel_rfl) ?_ _
                      go_wp2_with fail
                      go_meet
                      exact ⟨rfl, Lib.hid (box2_mk kq5047 kb5047 vq5047 vr5047 hB5047)⟩
                  · (try rw [if_pos (by rfl)])
                    go_simp
                    obtain ⟨wz5049, hw5049⟩ : ∃ x, wc5003.alloc (.cells #[.bool false, .slice none 0 0] 29) = x := ⟨_, rfl⟩
                    obtain ⟨bz5049, hb5049⟩ : ∃ x, wc5003.heap.size = x := ⟨_, rfl⟩
                    have kz5049 : Blk wz5049 bz5049 29 #[.bool false, .slice none 0 0] := by rw [← hw5049, ← hb5049]; exact Blk.new _ _ _
                    have nz5049 : New wc5003 wz5049 := by rw [← hw5049]; exact (Chg.refl _ wc5003).alloc _
                    have lz5049 : w12.heap.size ≤ bz5049 := by rw [← hb5049]; exact (hB5004).size
                    rw [hw5049, hb5049]
                    clear hw5049 hb5049
                    have hB5050 : New w12 wz5049 := hB5004.trans nz5049 (fun _ _ h => h)
                    have vm5050 := K5003.out.1.new nz5049
                    refine hK.out _ _ (HSK2.out _ hB5050) (fun hHeld2 => ?_)
                    clear hK K hHeld
                    have hHeld := hHeld2
                    clear hHeld2
                    (try simp only [Act.put, List.setIfInBounds_toArray, List.set_cons_zero, List.set_cons_succ])
                    refine wpAnyH_ready (rs := [3, 8]) (by kernel_rfl) (by simp) (AllReadyH.cons rfl (fun K hK => ?_) (AllReadyH.cons rfl (fun K hK => ?_) AllReadyH.nil))
                    · (try rw [if_pos (by rfl)])
                      go_simp
                      refine (HQ4.out _ _ (HP2.out _ hB5050) vm5050).mono ?_
                      rintro e wc5051 ⟨sq, Aq, nq, cq, sr, Ar, nr, cr, rfl, K5051⟩
                      have hB5052 : New w12 wc5051 := hB5050.trans K5051.out.2.2 (fun _ _ h => h)
                      have kr5052 := kz5049.chg K5051.out.2.2 (fun h => h)
                      have vm5052 := vm5050.new K5051.out.2.2
                      (try go_wp2_with fail)
                      refine hK.out _ _ (HSK2.out _ hB5052) (fun hHeld2 => ?_)
                      clear hK K hHeld
                      have hHeld := hHeld2
                      clear hHeld2
                      (try simp only [Act.put, List.setIfInBounds_toArray, List.set_cons_zero, List.set_cons_succ])
                      refine heldW (i := 4) (v := ?v5053) rfl (by kernel_rfl) (by kernel_rfl) (by kernel_rfl) (fun _ _ _ h => h) (by rfl) ?hy5053 hHeld ?rest5053
                      case hy5053 => (intro w hSw; (try dsimp only at hSw); go_simp; try with_reducible rfl)
                      simp only [Act.put, List.setIfInBounds_toArray, List.set_cons_zero, List.set_cons_succ]
                      refine heldW (i := 5) (v := ?v5054) rfl (by kernel_rfl) (by kernel_rfl) (by kernel_rfl) (fun _ _ _ h => h) (by rfl) ?hy5054 hHeld ?rest5054
                      case hy5054 => (intro w hSw; (try dsimp only at hSw); go_simp; try with_reducible rfl)
                      simp only [Act.put, List.setIfInBounds_toArray, List.set_cons_zero, List.set_cons_succ]
                      refine heldW (i := 6) (v := ?v5055) rfl (by kernel_rfl) (by kernel_rfl) (by kernel_rfl) (fun _ _ _ h => h) (by rfl) ?hy5055 hHeld ?rest5055
                      case hy5055 => (intro w hSw; (try dsimp only at hSw); go_simp; try with_reducible rfl)
                      simp only [Act.put, List.setIfInBounds_toArray, List.set_cons_zero, List.set_cons_succ]
                      refine heldW (i := 7) (v := ?v5056) rfl (by kernel_rfl) (by kernel_rfl) (by kernel_rfl) (fun _ _ _ h => h) (by rfl) ?hy5056 hHeld ?rest5056
                      case hy5056 => (intro w hSw; (try dsimp only at hSw); go_simp; try with_reducible rfl)
                      simp only [Act.put, List.setIfInBounds_toArray, List.set_cons_zero, List.set_cons_succ]
                      refine heldC (i := 8) rfl (by kernel_rfl) (by rfl) (fun K hK => ?_)
                      go_simp
                      obtain ⟨wz5057, hw5057⟩ : ∃ x, wc5051.alloc (.cells #[.bool false, .slice none 0 0] 29) = x := ⟨_, rfl⟩
                      obtain ⟨bz5057, hb5057⟩ : ∃ x, wc5051.heap.size = x := ⟨_, rfl⟩
                      have kz5057 : Blk wz5057 bz5057 29 #[.bool false, .slice none 0 0] := by rw [← hw5057, ← hb5057]; exact Blk.new _ _ _
                      have nz5057 : New wc5051 wz5057 := by rw [← hw5057]; exact (Chg.refl _ wc5051).alloc _
                      have lz5057 : w12.heap.size ≤ bz5057 := by rw [← hb5057]; exact (hB5052).size
                      have ne5057_r : bz5049 ≠ bz5057 := by have := (kr5052).lt; omega
                      rw [hw5057, hb5057]
                      clear hw5057 hb5057
                      have hB5058 : New w12 wz5057 := hB5052.trans nz5057 (fun _ _ h => h)
                      have kr5058 := kr5052.chg nz5057 (fun h => h)
                      have vm5058 := vm5052.new nz5057
                      have vq5058 := K5051.out.1.new nz5057
                      have vr5058 := K5051.out.2.1.new nz5057
                      refine hK.out _ _ (HSK2.out _ hB5058) (fun hHeld2 => ?_)
                      clear hK K hHeld
                      have hHeld := hHeld2
                      clear hHeld2
                      (try simp only [Act.put, List.setIfInBounds_toArray, List.set_cons_zero, List.set_cons_succ])
                      refine wpAnyH_ready (rs := [10]) (by kernel_rfl) (by simp) (AllReadyH.cons rfl (fun K hK => ?_) AllReadyH.nil)
                      (try rw [if_pos (by rfl)])
                      have c0_5059 := kz5057.cell 0 (u := .bool false) rfl
                      have c1_5059 := kz5057.cell 1 (u := .slice none 0 0) rfl
                      have f0_5059 := kz5057.frozen 0
                      have f1_5059 := kz5057.frozen 1
                      have l_5059 := kz5057.lt
                      go_simp
                      obtain ⟨ws5059, hw5059⟩ : ∃ x, (wz5057.setCell ⟨bz5057, 0, none⟩ (.bool sq)).setCell ⟨bz5057, 1, none⟩ (.slice Aq nq cq) = x := ⟨_, rfl⟩
                      have ch5059 : Chg (fun k => k = bz5057) wz5057 ws5059 := by rw [← hw5059]; exact Chg.at2 _ _ _ _
                      have kb5059 : Blk ws5059 bz5057 29 #[.bool sq, .slice Aq nq cq] := by rw [← hw5059]; exact kz5057.set2 _ _
                      rw [hw5059]
                      clear hw5059 c0_5059 c1_5059 f0_5059 f1_5059 l_5059
                      have hB5059 : New w12 ws5059 := hB5058.trans ch5059 (fun k hk e => by have := lz5057; omega)
                      have kr5059 := kr5058.chg ch5059 ne5057_r
                      have vm5059 := vm5058.store kz5057 (fun k z h => by simp at h) ch5059
                      have vq5059 := vq5058.store kz5057 (fun k z h => by simp at h) ch5059
                      have vr5059 := vr5058.store kz5057 (fun k z h => by simp at h) ch5059
                      refine hK.out _ _ (HSK2.out _ hB5059) (fun hHeld2 => ?_)
                      clear hK K hHeld
                      have hHeld := hHeld2
                      clear hHeld2
                      (try simp only [Act.put, List.setIfInBounds_toArray, List.set_cons_zero, List.set_cons_succ])
                      refine wpAnyH_ready (rs := [11]) (by kernel_rfl) (by simp) (AllReadyH.cons rfl (fun K hK => ?_) AllReadyH.nil)
                      (try rw [if_pos (by rfl)])
                      have c0_5060 := kr5059.cell 0 (u := .bool false) rfl
                      have c1_5060 := kr5059.cell 1 (u := .slice none 0 0) rfl
                      have f0_5060 := kr5059.frozen 0
                      have f1_5060 := kr5059.frozen 1
                      have l_5060 := kr5059.lt
                      go_simp
                      obtain ⟨ws5060, hw5060⟩ : ∃ x, (ws5059.setCell ⟨bz5049, 0, none⟩ (.bool sr)).setCell ⟨bz5049, 1, none⟩ (.slice Ar nr cr) = x := ⟨_, rfl⟩
                      have ch5060 : Chg (fun k => k = bz5049) ws5059 ws5060 := by rw [← hw5060]; exact Chg.at2 _ _ _ _
                      have kb5060 : Blk ws5060 bz5049 29 #[.bool sr, .slice Ar nr cr] := by rw [← hw5060]; exact kr5059.set2 _ _
                      rw [hw5060]
                      clear hw5060 c0_5060 c1_5060 f0_5060 f1_5060 l_5060
                      have hB5060 : New w12 ws5060 := hB5059.trans ch5060 (fun k hk e => by have := lz5049; omega)
                      have kq5060 := kb5059.chg ch5060 (fun e => ne5057_r e.symm)
                      have vm5060 := vm5059.store kr5059 (fun k z h => by simp at h) ch5060
                      have vq5060 := vq5059.store kr5059 (fun k z h => by simp at h) ch5060
                      have vr5060 := vr5059.store kr5059 (fun k z h => by simp at h) ch5060
                      refine hK.out _ _ (HSK2.out _ hB5060) (fun hHeld2 => ?_)
                      clear hK K hHeld
                      have hHeld := hHeld2
                      clear hHeld2
                      (try simp only [Act.put, List.setIfInBounds_toArray, List.set_cons_zero, List.set_cons_succ])
                      refine heldW (i := 12) (v := ?v5061) rfl (by kernel_rfl) (by kernel_rfl) (by kernel_rfl) (fun _ _ _ h => h) (by rfl) ?hy5061 hHeld ?rest5061
                      case hy5061 => (intro w hSw; (try dsimp only at hSw); go_simp; try with_reducible rfl)
                      simp only [Act.put, List.setIfInBounds_toArray, List.set_cons_zero, List.set_cons_succ]
                      refine wpAnyH_done (by kernel_rfl) ?_ _
                      go_wp2_with fail
                      go_meet
                      exact ⟨rfl, Lib.hid (box2_mk kq5060 kb5060 vq5060 vr5060 hB5060)⟩
                    · (try rw [if_pos (by rfl)])
                      go_simp
                      obtain ⟨wz5062, hw5062⟩ : ∃ x, wz5049.alloc (.cells #[.bool false, .slice none 0 0] 29) = x := ⟨_, rfl⟩
                      obtain ⟨bz5062, hb5062⟩ : ∃ x, wz5049.heap.size = x := ⟨_, rfl⟩
                      have kz5062 : Blk wz5062 bz5062 29 #[.bool false, .slice none 0 0] := by rw [← hw5062, ← hb5062]; exact Blk.new _ _ _
                      have nz5062 : New wz5049 wz5062 := by rw [← hw5062]; exact (Chg.refl _ wz5049).alloc _
                      have lz5062 : w12.heap.size ≤ bz5062 := by rw [← hb5062]; exact (hB5050).size
                      have ne5062_r : bz5049 ≠ bz5062 := by have := (kz5049).lt; omega
                      rw [hw5062, hb5062]
                      clear hw5062 hb5062
                      have hB5063 : New w12 wz5062 := hB5050.trans nz5062 (fun _ _ h => h)
                      have kr5063 := kz5049.chg nz5062 (fun h => h)
                      have vm5063 := vm5050.new nz5062
                      refine hK.out _ _ (HSK2.out _ hB5063) (fun hHeld2 => ?_)
                      clear hK K hHeld
                      have hHeld := hHeld2
                      clear hHeld2
                      (try simp only [Act.put, List.setIfInBounds_toArray, List.set_cons_zero, List.set_cons_succ])
                      refine heldC (i := 3) rfl (by kernel_rfl) (by rfl) (fun K hK => ?_)
                      go_simp
                      refine (HQ4.out _ _ (HP2.out _ hB5063) vm5063).mono ?_
                      rintro e wc5064 ⟨sq, Aq, nq, cq, sr, Ar, nr, cr, rfl, K5064⟩
                      have hB5065 : New w12 wc5064 := hB5063.trans K5064.out.2.2 (fun _ _ h => h)
                      have kr5065 := kr5063.chg K5064.out.2.2 (fun h => h)
                      have kq5065 := kz5062.chg K5064.out.2.2 (fun h => h)
                      have vm5065 := vm5063.new K5064.out.2.2
                      (try go_wp2_with fail)
                      refine hK.out _ _ (HSK2.out _ hB5065) (fun hHeld2 => ?_)
                      clear hK K hHeld
                      have hHeld := hHeld2
                      clear hHeld2
                      (try simp only [Act.put, List.setIfInBounds_toArray, List.set_cons_zero, List.set_cons_succ])
                      refine heldW (i := 4) (v := ?v5066) rfl (by kernel_rfl) (by kernel_rfl) (by kernel_rfl) (fun _ _ _ h => h) (by rfl) ?hy5066 hHeld ?rest5066
                      case hy5066 => (intro w hSw; (try dsimp only at hSw); go_simp; try with_reducible rfl)
                      simp only [Act.put, List.setIfInBounds_toArray, List.set_cons_zero, List.set_cons_succ]
                      refine heldW (i := 5) (v := ?v5067) rfl (by kernel_rfl) (by kernel_rfl) (by kernel_rfl) (fun _ _ _ h => h) (by rfl) ?hy5067 hHeld ?rest5067
                      case hy5067 => (intro w hSw; (try dsimp only at hSw); go_simp; try with_reducible rfl)
                      simp only [Act.put, List.setIfInBounds_toArray, List.set_cons_zero, List.set_cons_succ]
                      refine heldW (i := 6) (v := ?v5068) rfl (by kernel_rfl) (by kernel_rfl) (by kernel_rfl) (fun _ _ _ h => h) (by rfl) ?hy5068 hHeld ?rest5068
                      case hy5068 => (intro w hSw; (try dsimp only at hSw); go_simp; try with_reducible rfl)
                      simp only [Act.put, List.setIfInBounds_toArray, List.set_cons_zero, List.set_cons_succ]
                      refine heldW (i := 7) (v := ?v5069) rfl (by kernel_rfl) (by kernel_rfl) (by kernel_rfl) (fun _ _ _ h => h) (by rfl) ?hy5069 hHeld ?rest5069
                      case hy5069 => (intro w hSw; (try dsimp only at hSw); go_simp; try with_reducible rfl)
                      simp only [Act.put, List.setIfInBounds_toArray, List.set_cons_zero, List.set_cons_succ]
                      refine wpAnyH_ready (rs := [10]) (by kernel_rfl) (by simp) (AllReadyH.cons rfl (fun K hK => ?_) AllReadyH.nil)
                      (try rw [if_pos (by rfl)])
                      have c0_5070 := kq5065.cell 0 (u := .bool false) rfl
                      have c1_5070 := kq5065.cell 1 (u := .slice none 0 0) rfl
                      have f0_5070 := kq5065.frozen 0
                      have f1_5070 := kq5065.frozen 1
                      have l_5070 := kq5065.lt
                      go_simp
                      obtain ⟨ws5070, hw5070⟩ : ∃ x, (wc5064.setCell ⟨bz5062, 0, none⟩ (.bool sq)).setCell ⟨bz5062, 1, none⟩ (.slice Aq nq cq) = x := ⟨_, rfl⟩
                      have ch5070 : Chg (fun k => k = bz5062) wc5064 ws5070 := by rw [← hw5070]; exact Chg.at2 _ _ _ _
                      have kb5070 : Blk ws5070 bz5062 29 #[.bool sq, .slice Aq nq cq] := by rw [← hw5070]; exact kq5065.set2 _ _
                      rw [hw5070]
                      clear hw5070 c0_5070 c1_5070 f0_5070 f1_5070 l_5070
                      have hB5070 : New w12 ws5070 := hB5065.trans ch5070 (fun k hk e => by have := lz5062; omega)
                      have kr5070 := kr5065.chg ch5070 ne5062_r
                      have vm5070 := vm5065.store kq5065 (fun k z h => by simp at h) ch5070
                      have vq5070 := K5064.out.1.store kq5065 (fun k z h => by simp at h) ch5070
                      have vr5070 := K5064.out.2.1.store kq5065 (fun k z h => by simp at h) ch5070
                      refine hK.out _ _ (HSK2.out _ hB5070) (fun hHeld2 => ?_)
                      clear hK K hHeld
                      have hHeld := hHeld2
                      clear hHeld2
                      (try simp only [Act.put, List.setIfInBounds_toArray, List.set_cons_zero, List.set_cons_succ])
                      refine wpAnyH_ready (rs := [11]) (by kernel_rfl) (by simp) (AllReadyH.cons rfl (fun K hK => ?_) AllReadyH.nil)
                      (try rw [if_pos (by rfl)])
                      have c0_5071 := kr5070.cell 0 (u := .bool false) rfl
                      have c1_5071 := kr5070.cell 1 (u := .slice none 0 0) rfl
                      have f0_5071 := kr5070.frozen 0
                      have f1_5071 := kr5070.frozen 1
                      have l_5071 := kr5070.lt
                      go_simp
                      obtain ⟨ws5071, hw5071⟩ : ∃ x, (ws5070.setCell ⟨bz5049, 0, none⟩ (.bool sr)).setCell ⟨bz5049, 1, none⟩ (.slice Ar nr cr) = x := ⟨_, rfl⟩
                      have ch5071 : Chg (fun k => k = bz5049) ws5070 ws5071 := by rw [← hw5071]; exact Chg.at2 _ _ _ _
                      have kb5071 : Blk ws5071 bz5049 29 #[.bool sr, .slice Ar nr cr] := by rw [← hw5071]; exact kr5070.set2 _ _
                      rw [hw5071]
                      clear hw5071 c0_5071 c1_5071 f0_5071 f1_5071 l_5071
                      have hB5071 : New w12 ws5071 := hB5070.trans ch5071 (fun k hk e => by have := lz5049; omega)
                      have kq5071 := kb5070.chg ch5071 (fun e => ne5062_r e.symm)
                      have vm5071 := vm5070.store kr5070 (fun k z h => by simp at h) ch5071
                      have vq5071 := vq5070.store kr5070 (fun k z h => by simp at h) ch5071
                      have vr5071 := vr5070.store kr5070 (fun k z h => by simp at h) ch5071
                      refine hK.out _ _ (HSK2.out _ hB5071) (fun hHeld2 => ?_)
                      clear hK K hHeld
                      have hHeld := hHeld2
                      clear hHeld2
                      (try simp only [Act.put, List.setIfInBounds_toArray, List.set_cons_zero, List.set_cons_succ])
                      refine heldW (i := 12) (v := ?v5072) rfl (by kernel_rfl) (by kernel_rfl) (by kernel_rfl) (fun _ _ _ h => h) (by rfl) ?hy5072 hHeld ?rest5072
                      case hy5072 => (intro w hSw; (try dsimp only at hSw); go_simp; try with_reducible rfl)
                      simp only [Act.put, List.setIfInBounds_toArray, List.set_cons_zero, List.set_cons_succ]
                      refine wpAnyH_done (by kernel_rfl) ?_ _
                      go_wp2_with fail
                      go_meet
                      exact ⟨rfl, Lib.hid (box2_mk kq5071 kb5071 vq5071 vr5071 hB5071)⟩
                · (try rw [if_pos (by rfl)])
                  go_simp
                  obtain ⟨wz5073, hw5073⟩ : ∃ x, wd0.alloc (.cells #[.bool false, .slice none 0 0] 29) = x := ⟨_, rfl⟩
                  obtain ⟨bz5073, hb5073⟩ : ∃ x, wd0.heap.size = x := ⟨_, rfl⟩
                  have kz5073 : Blk wz5073 bz5073 29 #[.bool false, .slice none 0 0] := by rw [← hw5073, ← hb5073]; exact Blk.new _ _ _
                  have nz5073 : New wd0 wz5073 := by rw [← hw5073]; exact (Chg.refl _ wd0).alloc _
                  have lz5073 : w12.heap.size ≤ bz5073 := by rw [← hb5073]; exact (hB0).size
                  rw [hw5073, hb5073]
                  clear hw5073 hb5073
                  have hB5074 : New w12 wz5073 := hB0.trans nz5073 (fun _ _ h => h)
                  refine hK.out _ _ (HSK2.out _ hB5074) (fun hHeld2 => ?_)
                  clear hK K hHeld
                  have hHeld := hHeld2
                  clear hHeld2
                  (try simp only [Act.put, List.setIfInBounds_toArray, List.set_cons_zero, List.set_cons_succ])
                  refine wpAnyH_ready (rs := [2, 9]) (by kernel_rfl) (by simp) (AllReadyH.cons rfl (fun K hK => ?_) (AllReadyH.cons rfl (fun K hK => ?_) AllReadyH.nil))
                  · (try rw [if_pos (by rfl)])
                    go_simp
                    refine (HQ3.out wz5073).mono ?_
                    rintro e wc5075 ⟨s5075, A5075, n5075, c5075, rfl, K5075⟩
                    have hB5076 : New w12 wc5075 := hB5074.trans K5075.out.2 (fun _ _ h => h)
                    have kq5076 := kz5073.chg K5075.out.2 (fun h => h)
                    (try go_wp2_with fail)
                    refine hK.out _ _ (HSK2.out _ hB5076) (fun hHeld2 => ?_)
                    clear hK K hHeld
                    have hHeld := hHeld2
                    clear hHeld2
                    (try simp only [Act.put, List.setIfInBounds_toArray, List.set_cons_zero, List.set_cons_succ])
                    refine wpAnyH_ready (rs := [3, 9]) (by kernel_rfl) (by simp) (AllReadyH.cons rfl (fun K hK => ?_) (AllReadyH.cons rfl (fun K hK => ?_) AllReadyH.nil))
                    · (try rw [if_pos (by rfl)])
                      go_simp
                      refine (HQ4.out _ _ (HP2.out _ hB5076) K5075.out.1).mono ?_
                      rintro e wc5077 ⟨sq, Aq, nq, cq, sr, Ar, nr, cr, rfl, K5077⟩
                      have hB5078 : New w12 wc5077 := hB5076.trans K5077.out.2.2 (fun _ _ h => h)
                      have kq5078 := kq5076.chg K5077.out.2.2 (fun h => h)
                      have vm5078 := K5075.out.1.new K5077.out.2.2
                      (try go_wp2_with fail)
                      refine hK.out _ _ (HSK2.out _ hB5078) (fun hHeld2 => ?_)
                      clear hK K hHeld
                      have hHeld := hHeld2
                      clear hHeld2
                      (try simp only [Act.put, List.setIfInBounds_toArray, List.set_cons_zero, List.set_cons_succ])
                      refine heldW (i := 4) (v := ?v5079) rfl (by kernel_rfl) (by kernel_rfl) (by kernel_rfl) (fun _ _ _ h => h) (by rfl) ?hy5079 hHeld ?rest5079
                      case hy5079 => (intro w hSw; (try dsimp only at hSw); go_simp; try with_reducible rfl)
                      simp only [Act.put, List.setIfInBounds_toArray, List.set_cons_zero, List.set_cons_succ]
                      refine heldW (i := 5) (v := ?v5080) rfl (by kernel_rfl) (by kernel_rfl) (by kernel_rfl) (fun _ _ _ h => h) (by rfl) ?hy5080 hHeld ?rest5080
                      case hy5080 => (intro w hSw; (try dsimp only at hSw); go_simp; try with_reducible rfl)
                      simp only [Act.put, List.setIfInBounds_toArray, List.set_cons_zero, List.set_cons_succ]
                      refine heldW (i := 6) (v := ?v5081) rfl (by kernel_rfl) (by kernel_rfl) (by kernel_rfl) (fun _ _ _ h => h) (by rfl) ?hy5081 hHeld ?rest5081
                      case hy5081 => (intro w hSw; (try dsimp only at hSw); go_simp; try with_reducible rfl)
                      simp only [Act.put, List.setIfInBounds_toArray, List.set_cons_zero, List.set_cons_succ]
                      refine heldW (i := 7) (v := ?v5082) rfl (by kernel_rfl) (by kernel_rfl) (by kernel_rfl) (fun _ _ _ h => h) (by rfl) ?hy5082 hHeld ?rest5082
                      case hy5082 => (intro w hSw; (try dsimp only at hSw); go_simp; try with_reducible rfl)
                      simp only [Act.put, List.setIfInBounds_toArray, List.set_cons_zero, List.set_cons_succ]
                      refine heldC (i := 9) rfl (by kernel_rfl) (by rfl) (fun K hK => ?_)
                      go_simp
                      obtain ⟨wz5083, hw5083⟩ : ∃ x, wc5077.alloc (.cells #[.bool false, .slice none 0 0] 29) = x := ⟨_, rfl⟩
                      obtain ⟨bz5083, hb5083⟩ : ∃ x, wc5077.heap.size = x := ⟨_, rfl⟩
                      have kz5083 : Blk wz5083 bz5083 29 #[.bool false, .slice none 0 0] := by rw [← hw5083, ← hb5083]; exact Blk.new _ _ _
                      have nz5083 : New wc5077 wz5083 := by rw [← hw5083]; exact (Chg.refl _ wc5077).alloc _
                      have lz5083 : w12.heap.size ≤ bz5083 := by rw [← hb5083]; exact (hB5078).size
                      have ne5083_q : bz5073 ≠ bz5083 := by have := (kq5078).lt; omega
                      rw [hw5083, hb5083]
                      clear hw5083 hb5083
                      have hB5084 : New w12 wz5083 := hB5078.trans nz5083 (fun _ _ h => h)
                      have kq5084 := kq5078.chg nz5083 (fun h => h)
                      have vm5084 := vm5078.new nz5083
                      have vq5084 := K5077.out.1.new nz5083
                      have vr5084 := K5077.out.2.1.new nz5083
                      refine hK.out _ _ (HSK2.out _ hB5084) (fun hHeld2 => ?_)
                      clear hK K hHeld
                      have hHeld := hHeld2
                      clear hHeld2
                      (try simp only [Act.put, List.setIfInBounds_toArray, List.set_cons_zero, List.set_cons_succ])
                      refine wpAnyH_ready (rs := [10]) (by kernel_rfl) (by simp) (AllReadyH.cons rfl (fun K hK => ?_) AllReadyH.nil)
                      (try rw [if_pos (by rfl)])
                      have c0_5085 := kq5084.cell 0 (u := .bool false) rfl
                      have c1_5085 := kq5084.cell 1 (u := .slice none 0 0) rfl
                      have f0_5085 := kq5084.frozen 0
                      have f1_5085 := kq5084.frozen 1
                      have l_5085 := kq5084.lt
                      go_simp
                      obtain ⟨ws5085, hw5085⟩ : ∃ x, (wz5083.setCell ⟨bz5073, 0, none⟩ (.bool sq)).setCell ⟨bz5073, 1, none⟩ (.slice Aq nq cq) = x := ⟨_, rfl⟩
                      have ch5085 : Chg (fun k => k = bz5073) wz5083 ws5085 := by rw [← hw5085]; exact Chg.at2 _ _ _ _
                      have kb5085 : Blk ws5085 bz5073 29 #[.bool sq, .slice Aq nq cq] := by rw [← hw5085]; exact kq5084.set2 _ _
                      rw [hw5085]
                      clear hw5085 c0_5085 c1_5085 f0_5085 f1_5085 l_5085
                      have hB5085 : New w12 ws5085 := hB5084.trans ch5085 (fun k hk e => by have := lz5073; omega)
                      have kr5085 := kz5083.chg ch5085 (fun e => ne5083_q e.symm)
                      have vm5085 := vm5084.store kq5084 (fun k z h => by simp at h) ch5085
                      have vq5085 := vq5084.store kq5084 (fun k z h => by simp at h) ch5085
                      have vr5085 := vr5084.store kq5084 (fun k z h => by simp at h) ch5085
                      refine hK.out _ _ (HSK2.out _ hB5085) (fun hHeld2 => ?_)
                      clear hK K hHeld
                      have hHeld := hHeld2
                      clear hHeld2
                      (try simp only [Act.put, List.setIfInBounds_toArray, List.set_cons_zero, List.set_cons_succ])
                      refine wpAnyH_ready (rs := [11]) (by kernel_rfl) (by simp) (AllReadyH.cons rfl (fun K hK => ?_) AllReadyH.nil)
                      (try rw [if_pos (by rfl)])
                      have c0_5086 := kr5085.cell 0 (u := .bool false) rfl
                      have c1_5086 := kr5085.cell 1 (u := .slice none 0 0) rfl
                      have f0_5086 := kr5085.frozen 0
                      have f1_5086 := kr5085.frozen 1
                      have l_5086 := kr5085.lt
                      go_simp
                      obtain ⟨ws5086, hw5086⟩ : ∃ x, (ws5085.setCell ⟨bz5083, 0, none⟩ (.bool sr)).setCell ⟨bz5083, 1, none⟩ (.slice Ar nr cr) = x := ⟨_, rfl⟩
                      have ch5086 : Chg (fun k => k = bz5083) ws5085 ws5086 := by rw [← hw5086]; exact Chg.at2 _ _ _ _
                      have kb5086 : Blk ws5086 bz5083 29 #[.bool sr, .slice Ar nr cr] := by rw [← hw5086]; exact kr5085.set2 _ _
                      rw [hw5086]
                      clear hw5086 c0_5086 c1_5086 f0_5086 f1_5086 l_5086
                      have hB5086 : New w12 ws5086 := hB5085.trans ch5086 (fun k hk e => by have := lz5083; omega)
                      have kq5086 := kb5085.chg ch5086 ne5083_q
                      have vm5086 := vm5085.store kr5085 (fun k z h => by simp at h) ch5086
                      have vq5086 := vq5085.store kr5085 (fun k z h => by simp at h) ch5086
                      have vr5086 := vr5085.store kr5085 (fun k z h => by simp at h) ch5086
                      refine hK.out _ _ (HSK2.out _ hB5086) (fun hHeld2 => ?_)
                      clear hK K hHeld
                      have hHeld := hHeld2
                      clear hHeld2
                      (try simp only [Act.put, List.setIfInBounds_toArray, List.set_cons_zero, List.set_cons_succ])
                      refine heldW (i := 12) (v := ?v5087) rfl (by kernel_rfl) (by kernel_rfl) (by kernel_rfl) (fun _ _ _ h => h) (by rfl) ?hy5087 hHeld ?rest5087
                      case hy5087 => (intro w hSw; (try dsimp only at hSw); go_simp; try with_reducible rfl)
                      simp only [Act.put, List.setIfInBounds_toArray, List.set_cons_zero, List.set_cons_succ]
                      refine wpAnyH_done (by kernel_rfl) ?_ _
                      go_wp2_with fail
                      go_meet
                      exact ⟨rfl, Lib.hid (box2_mk kq5086 kb5086 vq5086 vr5086 hB5086)⟩
                    · (try rw [if_pos (by rfl)])
                      go_simp
                      obtain ⟨wz5088, hw5088⟩ : ∃ x, wc5075.alloc (.cells #[.bool false, .slice none 0 0] 29) = x := ⟨_, rfl⟩
                      obtain ⟨bz5088, hb5088⟩ : ∃ x, wc5075.heap.size = x := ⟨_, rfl⟩
                      have kz5088 : Blk wz5088 bz5088 29 #[.bool false, .slice none 0 0] := by rw [← hw5088, ← hb5088]; exact Blk.new _ _ _
                      have nz5088 : New wc5075 wz5088 := by rw [← hw5088]; exact (Chg.refl _ wc5075).alloc _
                      have lz5088 : w12.heap.size ≤ bz5088 := by rw [← hb5088]; exact (hB5076).size
                      have ne5088_q : bz5073 ≠ bz5088 := by have := (kq5076).lt; omega
                      rw [hw5088, hb5088]
                      clear hw5088 hb5088
                      have hB5089 : New w12 wz5088 := hB5076.trans nz5088 (fun _ _ h => h)
                      have kq5089 := kq5076.chg nz5088 (fun h => h)
                      have vm5089 := K5075.out.1.new nz5088
                      refine hK.out _ _ (HSK2.out _ hB5089) (fun hHeld2 => ?_)
                      clear hK K hHeld
                      have hHeld := hHeld2
                      clear hHeld2
                      (try simp only [Act.put, List.setIfInBounds_toArray, List.set_cons_zero, List.set_cons_succ])
                      refine heldC (i := 3) rfl (by kernel_rfl) (by rfl) (fun K hK => ?_)
                      go_simp
                      refine (HQ4.out _ _ (HP2.out _ hB5089) vm5089).mono ?_
                      rintro e wc5090 ⟨sq, Aq, nq, cq, sr, Ar, nr, cr, rfl, K5090⟩
                      have hB5091 : New w12 wc5090 := hB5089.trans K5090.out.2.2 (fun _ _ h => h)
                      have kq5091 := kq5089.chg K5090.out.2.2 (fun h => h)
                      have kr5091 := kz5088.chg K5090.out.2.2 (fun h => h)
                      have vm5091 := vm5089.new K5090.out.2.2
                      (try go_wp2_with fail)
                      refine hK.out _ _ (HSK2.out _ hB5091) (fun hHeld2 => ?_)
                      clear hK K hHeld
                      have hHeld := hHeld2
                      clear hHeld2
                      (try simp only [Act.put, List.setIfInBounds_toArray, List.set_cons_zero, List.set_cons_succ])
                      refine heldW (i := 4) (v := ?v5092) rfl (by kernel_rfl) (by kernel_rfl) (by kernel_rfl) (fun _ _ _ h => h) (by rfl) ?hy5092 hHeld ?rest5092
                      case hy5092 => (intro w hSw; (try dsimp only at hSw); go_simp; try with_reducible rfl)
                      simp only [Act.put, List.setIfInBounds_toArray, List.set_cons_zero, List.set_cons_succ]
                      refine heldW (i := 5) (v := ?v5093) rfl (by kernel_rfl) (by kernel_rfl) (by kernel_rfl) (fun _ _ _ h => h) (by rfl) ?hy5093 hHeld ?rest5093
                      case hy5093 => (intro w hSw; (try dsimp only at hSw); go_simp; try with_reducible rfl)
                      simp only [Act.put, List.setIfInBounds_toArray, List.set_cons_zero, List.set_cons_succ]
                      refine heldW (i := 6) (v := ?v5094) rfl (by kernel_rfl) (by kernel_rfl) (by kernel_rfl) (fun _ _ _ h => h) (by rfl) ?hy5094 hHeld ?rest5094
                      case hy5094 => (intro w hSw; (try dsimp only at hSw); go_simp; try with_reducible rfl)
                      simp only [Act.put, List.setIfInBounds_toArray, List.set_cons_zero, List.set_cons_succ]
                      refine heldW (i := 7) (v := ?v5095) rfl (by kernel_rfl) (by kernel_rfl) (by kernel_rfl) (fun _ _ _ h => h) (by rfl) ?hy5095 hHeld ?rest5095
                      case hy5095 => (intro w hSw; (try dsimp only at hSw); go_simp; try with_reducible rfl)
                      simp only [Act.put, List.setIfInBounds_toArray, List.set_cons_zero, List.set_cons_succ]
                      refine wpAnyH_ready (rs := [10]) (by kernel_rfl) (by simp) (AllReadyH.cons rfl (fun K hK => ?_) AllReadyH.nil)
                      (try rw [if_pos (by rfl)])
                      have c0_5096 := kq5091.cell 0 (u := .bool false) rfl
                      have c1_5096 := kq5091.cell 1 (u := .slice none 0 0) rfl
                      have f0_5096 := kq5091.frozen 0
                      have f1_5096 := kq5091.frozen 1
                      have l_5096 := kq5091.lt
                      go_simp
                      obtain ⟨ws5096, hw5096⟩ : ∃ x, (wc5090.setCell ⟨bz5073, 0, none⟩ (.bool sq)).setCell ⟨bz5073, 1, none⟩ (.slice Aq nq cq) = x := ⟨_, rfl⟩
                      have ch5096 : Chg (fun k => k = bz5073) wc5090 ws5096 := by rw [← hw5096]; exact Chg.at2 _ _ _ _
                      have kb5096 : Blk ws5096 bz5073 29 #[.bool sq, .slice Aq nq cq] := by rw [← hw5096]; exact kq5091.set2 _ _
                      rw [hw5096]
                      clear hw5096 c0_5096 c1_5096 f0_5096 f1_5096 l_5096
                      have hB5096 : New w12 ws5096 := hB5091.trans ch5096 (fun k hk e => by have := lz5073; omega)
                      have kr5096 := kr5091.chg ch5096 (fun e => ne5088_q e.symm)
                      have vm5096 := vm5091.store kq5091 (fun k z h => by simp at h) ch5096
                      have vq5096 := K5090.out.1.store kq5091 (fun k z h => by simp at h) ch5096
                      have vr5096 := K5090.out.2.1.store kq5091 (fun k z h => by simp at h) ch5096
                      refine hK.out _ _ (HSK2.out _ hB5096) (fun hHeld2 => ?_)
                      clear hK K hHeld
                      have hHeld := hHeld2
                      clear hHeld2
                      (try simp only [Act.put, List.setIfInBounds_toArray, List.set_cons_zero, List.set_cons_succ])
                      refine wpAnyH_ready (rs := [11]) (by kernel_rfl) (by simp) (AllReadyH.cons rfl (fun K hK => ?_) AllReadyH.nil)
                      (try rw [if_pos (by rfl)])
                      have c0_5097 := kr5096.cell 0 (u := .bool false) rfl
                      have c1_5097 := kr5096.cell 1 (u := .slice none 0 0) rfl
                      have f0_5097 := kr5096.frozen 0
                      have f1_5097 := kr5096.frozen 1
                      have l_5097 := kr5096.lt
                      go_simp
                      obtain ⟨ws5097, hw5097⟩ : ∃ x, (ws5096.setCell ⟨bz5088, 0, none⟩ (.bool sr)).setCell ⟨bz5088, 1, none⟩ (.slice Ar nr cr) = x := ⟨_, rfl⟩
                      have ch5097 : Chg (fun k => k = bz5088) ws5096 ws5097 := by rw [← hw5097]; exact Chg.at2 _ _ _ _
                      have kb5097 : Blk ws5097 bz5088 29 #[.bool sr, .slice Ar nr cr] := by rw [← hw5097]; exact kr5096.set2 _ _
                      rw [hw5097]
                      clear hw5097 c0_5097 c1_5097 f0_5097 f1_5097 l_5097
                      have hB5097 : New w12 ws5097 := hB5096.trans ch5097 (fun k hk e => by have := lz5088; omega)
                      have kq5097 := kb5096.chg ch5097 ne5088_q
                      have vm5097 := vm5096.store kr5096 (fun k z h => by simp at h) ch5097
                      have vq5097 := vq5096.store kr5096 (fun k z h => by simp at h) ch5097
                      have vr5097 := vr5096.store kr5096 (fun k z h => by simp at h) ch5097
                      refine hK.out _ _ (HSK2.out _ hB5097) (fun hHeld2 => ?_)
                      clear hK K hHeld
                      have hHeld := hHeld2
                      clear hHeld2
                      (try simp only [Act.put, List.setIfInBounds_toArray, List.set_cons_zero, List.set_cons_succ])
                      refine heldW (i := 12) (v := ?v5098) rfl (by kernel_rfl) (by kernel_rfl) (by kernel_rfl) (fun _ _ _ h => h) (by rfl) ?hy5098 hHeld ?rest5098
                      case hy5098 => (intro w hSw; (try dsimp only at hSw); go_simp; try with_reducible rfl)
                      simp only [Act.put, List.setIfInBounds_toArray, List.set_cons_zero, List.set_cons_succ]
                      refine wpAnyH_done (by kernel_rfl) ?_ _
                      go_wp2_with fail
                      go_meet
                      exact ⟨rfl, Lib.hid (box2_mk kq5097 kb5097 vq5097 vr5097 hB5097)⟩
                  · (try rw [if_pos (by rfl)])
                    go_simp
                    obtain ⟨wz5099, hw5099⟩ : ∃ x, wz5073.alloc (.cells #[.bool false, .slice none 0 0] 29) = x := ⟨_, rfl⟩
                    obtain ⟨bz5099, hb5099⟩ : ∃ x, wz5073.heap.size = x := ⟨_, rfl⟩
                    have kz5099 : Blk wz5099 bz5099 29 #[.bool false, .slice none 0 0] := by rw [← hw5099, ← hb5099]; exact Blk.new _ _ _
                    have nz5099 : New wz5073 wz5099 := by rw [← hw5099]; exact (Chg.refl _ wz5073).alloc _
                    have lz5099 : w12.heap.size ≤ bz5099 := by rw [← hb5099]; exact (hB5074).size
                    have ne5099_q : bz5073 ≠ bz5099 := by have := (kz5073).lt; omega
                    rw [hw5099, hb5099]
                    clear hw5099 hb5099
                    have hB5100 : New w12 wz5099 := hB5074.trans nz5099 (fun _ _ h => h)
                    have kq5100 := kz5073.chg nz5099 (fun h => h)
                    refine hK.out _ _ (HSK2.out _ hB5100) (fun hHeld2 => ?_)
                    clear hK K hHeld
                    have hHeld := hHeld2
                    clear hHeld2
                    (try simp only [Act.put, List.setIfInBounds_toArray, List.set_cons_zero, List.set_cons_succ])
                    refine heldC (i := 2) rfl (by kernel_rfl) (by rfl) (fun K hK => ?_)
                    go_simp
                    refine (HQ3.out wz5099).mono ?_
                    rintro e wc5101 ⟨s5101, A5101, n5101, c5101, rfl, K5101⟩
                    have hB5102 : New w12 wc5101 := hB5100.trans K5101.out.2 (fun _ _ h => h)
                    have kq5102 := kq5100.chg K5101.out.2 (fun h => h)
                    have kr5102 := kz5099.chg K5101.out.2 (fun h => h)
                    (try go_wp2_with fail)
                    refine hK.out _ _ (HSK2.out _ hB5102) (fun hHeld2 => ?_)
                    clear hK K hHeld
                    have hHeld := hHeld2
                    clear hHeld2
                    (try simp only [Act.put, List.setIfInBounds_toArray, List.set_cons_zero, List.set_cons_succ])
                    refine heldC (i := 3) rfl (by kernel_rfl) (by rfl) (fun K hK => ?_)
                    go_simp
                    refine (HQ4.out _ _ (HP2.out _ hB5102) K5101.out.1).mono ?_
                    rintro e wc5103 ⟨sq, Aq, nq, cq, sr, Ar, nr, cr, rfl, K5103⟩
                    have hB5104 : New w12 wc5103 := hB5102.trans K5103.out.2.2 (fun _ _ h => h)
                    have kq5104 := kq5102.chg K5103.out.2.2 (fun h => h)
                    have kr5104 := kr5102.chg K5103.out.2.2 (fun h => h)
                    have vm5104 := K5101.out.1.new K5103.out.2.2
                    (try go_wp2_with fail)
                    refine hK.out _ _ (HSK2.out _ hB5104) (fun hHeld2 => ?_)
                    clear hK K hHeld
                    have hHeld := hHeld2
                    clear hHeld2
                    (try simp only [Act.put, List.setIfInBounds_toArray, List.set_cons_zero, List.set_cons_succ])
                    refine heldW (i := 4) (v := ?v5105) rfl (by kernel_rfl) (by kernel_rfl) (by kernel_rfl) (fun _ _ _ h => h) (by rfl) ?hy5105 hHeld ?rest5105
                    case hy5105 => (intro w hSw; (try dsimp only at hSw); go_simp; try with_reducible rfl)
                    simp only [Act.put, List.setIfInBounds_toArray, List.set_cons_zero, List.set_cons_succ]
                    refine heldW (i := 5) (v := ?v5106) rfl (by kernel_rfl) (by kernel_rfl) (by kernel_rfl) (fun _ _ _ h => h) (by rfl) ?hy5106 hHeld ?rest5106
                    case hy5106 => (intro w hSw; (try dsimp only at hSw); go_simp; try with_reducible rfl)
                    simp only [Act.put, List.setIfInBounds_toArray, List.set_cons_zero, List.set_cons_succ]
                    refine heldW (i := 6) (v := ?v5107) rfl (by kernel_rfl) (by kernel_rfl) (by kernel_rfl) (fun _ _ _ h => h) (by rfl) ?hy5107 hHeld ?rest5107
                    case hy5107 => (intro w hSw; (try dsimp only at hSw); go_simp; try with_reducible rfl)
                    simp only [Act.put, List.setIfInBounds_toArray, List.set_cons_zero, List.set_cons_succ]
                    refine heldW (i := 7) (v := ?v5108) rfl (by kernel_rfl) (by kernel_rfl) (by kernel_rfl) (fun _ _ _ h => h) (by rfl) ?hy5108 hHeld ?rest5108
                    case hy5108 => (intro w hSw; (try dsimp only at hSw); go_simp; try with_reducible rfl)
                    simp only [Act.put, List.setIfInBounds_toArray, List.set_cons_zero, List.set_cons_succ]
                    refine wpAnyH_ready (rs := [10]) (by kernel_rfl) (by simp) (AllReadyH.cons rfl (fun K hK => ?_) AllReadyH.nil)
                    (try rw [if_pos (by rfl)])
                    have c0_5109 := kq5104.cell 0 (u := .bool false) rfl
                    have c1_5109 := kq5104.cell 1 (u := .slice none 0 0) rfl
                    have f0_5109 := kq5104.frozen 0
                    have f1_5109 := kq5104.frozen 1
                    have l_5109 := kq5104.lt
                    go_simp
                    obtain ⟨ws5109, hw5109⟩ : ∃ x, (wc5103.setCell ⟨bz5073, 0, none⟩ (.bool sq)).setCell ⟨bz5073, 1, none⟩ (.slice Aq nq cq) = x := ⟨_, rfl⟩
                    have ch5109 : Chg (fun k => k = bz5073) wc5103 ws5109 := by rw [← hw5109]; exact Chg.at2 _ _ _ _
                    have kb5109 : Blk ws5109 bz5073 29 #[.bool sq, .slice Aq nq cq] := by rw [← hw5109]; exact kq5104.set2 _ _
                    rw [hw5109]
                    clear hw5109 c0_5109 c1_5109 f0_5109 f1_5109 l_5109
                    have hB5109 : New w12 ws5109 := hB5104.trans ch5109 (fun k hk e => by have := lz5073; omega)
                    have kr5109 := kr5104.chg ch5109 (fun e => ne5099_q e.symm)
                    have vm5109 := vm5104.store kq5104 (fun k z h => by simp at h) ch5109
                    have vq5109 := K5103.out.1.store kq5104 (fun k z h => by simp at h) ch5109
                    have vr5109 := K5103.out.2.1.store kq5104 (fun k z h => by simp at h) ch5109
                    refine hK.out _ _ (HSK2.out _ hB5109) (fun hHeld2 => ?_)
                    clear hK K hHeld
                    have hHeld := hHeld2
                    clear hHeld2
                    (try simp only [Act.put, List.setIfInBounds_toArray, List.set_cons_zero, List.set_cons_succ])
                    refine wpAnyH_ready (rs := [11]) (by kernel_rfl) (by simp) (AllReadyH.cons rfl (fun K hK => ?_) AllReadyH.nil)
                    (try rw [if_pos (by rfl)])
                    have c0_5110 := kr5109.cell 0 (u := .bool false) rfl
                    have c1_5110 := kr5109.cell 1 (u := .slice none 0 0) rfl
                    have f0_5110 := kr5109.frozen 0
                    have f1_5110 := kr5109.frozen 1
                    have l_5110 := kr5109.lt
                    go_simp
                    obtain ⟨ws5110, hw5110⟩ : ∃ x, (ws5109.setCell ⟨bz5099, 0, none⟩ (.bool sr)).setCell ⟨bz5099, 1, none⟩ (.slice Ar nr cr) = x := ⟨_, rfl⟩
                    have ch5110 : Chg (fun k => k = bz5099) ws5109 ws5110 := by rw [← hw5110]; exact Chg.at2 _ _ _ _
                    have kb5110 : Blk ws5110 bz5099 29 #[.bool sr, .slice Ar nr cr] := by rw [← hw5110]; exact kr5109.set2 _ _
                    rw [hw5110]
                    clear hw5110 c0_5110 c1_5110 f0_5110 f1_5110 l_5110
                    have hB5110 : New w12 ws5110 := hB5109.trans ch5110 (fun k hk e => by have := lz5099; omega)
                    have kq5110 := kb5109.chg ch5110 ne5099_q
                    have vm5110 := vm5109.store kr5109 (fun k z h => by simp at h) ch5110
                    have vq5110 := vq5109.store kr5109 (fun k z h => by simp at h) ch5110
                    have vr5110 := vr5109.store kr5109 (fun k z h => by simp at h) ch5110
                    refine hK.out _ _ (HSK2.out _ hB5110) (fun hHeld2 => ?_)
                    clear hK K hHeld
                    have hHeld := hHeld2
                    clear hHeld2
                    (try simp only [Act.put, List.setIfInBounds_toArray, List.set_cons_zero, List.set_cons_succ])
                    refine heldW (i := 12) (v := ?v5111) rfl (by kernel_rfl) (by kernel_rfl) (by kernel_rfl) (fun _ _ _ h => h) (by rfl) ?hy5111 hHeld ?rest5111
                    case hy5111 => (intro w hSw; (try dsimp only at hSw); go_simp; try with_reducible rfl)
                    simp only [Act.put, List.setIfInBounds_toArray, List.set_cons_zero, List.set_cons_succ]
                    refine wpAnyH_done (by kernel_rfl) ?_ _
                    go_wp2_with fail
                    go_meet
                    exact ⟨rfl, Lib.hid (box2_mk kq5110 kb5110 vq5110 vr5110 hB5110)⟩
                · (try rw [if_pos (by rfl)])
                  go_simp
                  obtain ⟨wz5112, hw5112⟩ : ∃ x, wd0.alloc (.cells #[.bool false, .slice none 0 0] 29) = x := ⟨_, rfl⟩
                  obtain ⟨bz5112, hb5112⟩ : ∃ x, wd0.heap.size = x := ⟨_, rfl⟩
                  have kz5112 : Blk wz5112 bz5112 29 #[.bool false, .slice none 0 0] := by rw [← hw5112, ← hb5112]; exact Blk.new _ _ _
                  have nz5112 : New wd0 wz5112 := by rw [← hw5112]; exact (Chg.refl _ wd0).alloc _
                  have lz5112 : w12.heap.size ≤ bz5112 := by rw [← hb5112]; exact (hB0).size
                  rw [hw5112, hb5112]
                  clear hw5112 hb5112
                  have hB5113 : New w12 wz5112 := hB0.trans nz5112 (fun _ _ h => h)
                  refine hK.out _ _ (HSK2.out _ hB5113) (fun hHeld2 => ?_)
                  clear hK K hHeld
                  have hHeld := hHeld2
                  clear hHeld2
                  (try simp only [Act.put, List.setIfInBounds_toArray, List.set_cons_zero, List.set_cons_succ])
                  refine wpAnyH_ready (rs := [2, 8]) (by kernel_rfl) (by simp) (AllReadyH.cons rfl (fun K hK => ?_) (AllReadyH.cons rfl (fun K hK => ?_) AllReadyH.nil))
                  · (try rw [if_pos (by rfl)])
                    go_simp
                    refine (HQ3.out wz5112).mono ?_
                    rintro e wc5114 ⟨s5114, A5114, n5114, c5114, rfl, K5114⟩
                    have hB5115 : New w12 wc5114 := hB5113.trans K5114.out.2 (fun _ _ h => h)
                    have kr5115 := kz5112.chg K5114.out.2 (fun h => h)
                    (try go_wp2_with fail)
                    refine hK.out _ _ (HSK2.out _ hB5115) (fun hHeld2 => ?_)
                    clear hK K hHeld
                    have hHeld := hHeld2
                    clear hHeld2
                    (try simp only [Act.put, List.setIfInBounds_toArray, List.set_cons_zero, List.set_cons_succ])
                    refine wpAnyH_ready (rs := [3, 8]) (by kernel_rfl) (by simp) (AllReadyH.cons rfl (fun K hK => ?_) (AllReadyH.cons rfl (fun K hK => ?_) AllReadyH.nil))
                    · (try rw [if_pos (by rfl)])
                      go_simp
                      refine (HQ4.out _ _ (HP2.out _ hB5115) K5114.out.1).mono ?_
                      rintro e wc5116 ⟨sq, Aq, nq, cq, sr, Ar, nr, cr, rfl, K5116⟩
                      have hB5117 : New w12 wc5116 := hB5115.trans K5116.out.2.2 (fun _ _ h => h)
                      have kr5117 := kr5115.chg K5116.out.2.2 (fun h => h)
                      have vm5117 := K5114.out.1.new K5116.out.2.2
                      (try go_wp2_with fail)
                      refine hK.out _ _ (HSK2.out _ hB5117) (fun hHeld2 => ?_)
                      clear hK K hHeld
                      have hHeld := hHeld2
                      clear hHeld2
                      (try simp only [Act.put, List.setIfInBounds_toArray, List.set_cons_zero, List.set_cons_succ])
                      refine heldW (i := 4) (v := ?v5118) rfl (by kernel_rfl) (by kernel_rfl) (by kernel_rfl) (fun _ _ _ h => h) (by rfl) ?hy5118 hHeld ?rest5118
                      case hy5118 => (intro w hSw; (try dsimp only at hSw); go_simp; try with_reducible rfl)
                      simp only [Act.put, List.setIfInBounds_toArray, List.set_cons_zero, List.set_cons_succ]
                      refine heldW (i := 5) (v := ?v5119) rfl (by kernel_rfl) (by kernel_rfl) (by kernel_rfl) (fun _ _ _ h => h) (by rfl) ?hy5119 hHeld ?rest5119
                      case hy5119 => (intro w hSw; (try dsimp only at hSw); go_simp; try with_reducible rfl)
                      simp only [Act.put, List.setIfInBounds_toArray, List.set_cons_zero, List.set_cons_succ]
                      refine heldW (i := 6) (v := ?v5120) rfl (by kernel_rfl) (by kernel_rfl) (by kernel_rfl) (fun _ _ _ h => h) (by rfl) ?hy5120 hHeld ?rest5120
                      case hy5120 => (intro w hSw; (try dsimp only at hSw); go_simp; try with_reducible rfl)
                      simp only [Act.put, List.setIfInBounds_toArray, List.set_cons_zero, List.set_cons_succ]
                      refine heldW (i := 7) (v := ?v5121) rfl (by kernel_rfl) (by kernel_rfl) (by kernel_rfl) (fun _ _ _ h => h) (by rfl) ?hy5121 hHeld ?rest5121
                      case hy5121 => (intro w hSw; (try dsimp only at hSw); go_simp; try with_reducible rfl)
                      simp only [Act.put, List.setIfInBounds_toArray, List.set_cons_zero, List.set_cons_succ]
                      refine heldC (i := 8) rfl (by kernel_rfl) (by rfl) (fun K hK => ?_)
                      go_simp
                      obtain ⟨wz5122, hw5122⟩ : ∃ x, wc5116.alloc (.cells #[.bool false, .slice none 0 0] 29) = x := ⟨_, rfl⟩
                      obtain ⟨bz5122, hb5122⟩ : ∃ x, wc5116.heap.size = x := ⟨_, rfl⟩
                      have kz5122 : Blk wz5122 bz5122 29 #[.bool false, .slice none 0 0] := by rw [← hw5122, ← hb5122]; exact Blk.new _ _ _
                      have nz5122 : New wc5116 wz5122 := by rw [← hw5122]; exact (Chg.refl _ wc5116).alloc _
                      have lz5122 : w12.heap.size ≤ bz5122 := by rw [← hb5122]; exact (hB5117).size
                      have ne5122_r : bz5112 ≠ bz5122 := by have := (kr5117).lt; omega
                      rw [hw5122, hb5122]
                      clear hw5122 hb5122
                      have hB5123 : New w12 wz5122 := hB5117.trans nz5122 (fun _ _ h => h)
                      have kr5123 := kr5117.chg nz5122 (fun h => h)
                      have vm5123 := vm5117.new nz5122
                      have vq5123 := K5116.out.1.new nz5122
                      have vr5123 := K5116.out.2.1.new nz5122
                      refine hK.out _ _ (HSK2.out _ hB5123) (fun hHeld2 => ?_)
                      clear hK K hHeld
                      have hHeld := hHeld2
                      clear hHeld2
                      (try simp only [Act.put, List.setIfInBounds_toArray, List.set_cons_zero, List.set_cons_succ])
                      refine wpAnyH_ready (rs := [10]) (by kernel_rfl) (by simp) (AllReadyH.cons rfl (fun K hK => ?_) AllReadyH.nil)
                      (try rw [if_pos (by rfl)])
                      have c0_5124 := kz5122.cell 0 (u := .bool false) rfl
                      have c1_5124 := kz5122.cell 1 (u := .slice none 0 0) rfl
                      have f0_5124 := kz5122.frozen 0
                      have f1_5124 := kz5122.frozen 1
                      have l_5124 := kz5122.lt
                      go_simp
                      obtain ⟨ws5124, hw5124⟩ : ∃ x, (wz5122.setCell ⟨bz5122, 0, none⟩ (.bool sq)).setCell ⟨bz5122, 1, none⟩ (.slice Aq nq cq) = x := ⟨_, rfl⟩
                      have ch5124 : Chg (fun k => k = bz5122) wz5122 ws5124 := by rw [← hw5124]; exact Chg.at2 _ _ _ _
                      have kb5124 : Blk ws5124 bz5122 29 #[.bool sq, .slice Aq nq cq] := by rw [← hw5124]; exact kz5122.set2 _ _
                      rw [hw5124]
                      clear hw5124 c0_5124 c1_5124 f0_5124 f1_5124 l_5124
                      have hB5124 : New w12 ws5124 := hB5123.trans ch5124 (fun k hk e => by have := lz5122; omega)
                      have kr5124 := kr5123.chg ch5124 ne5122_r
                      have vm5124 := vm5123.store kz5122 (fun k z h => by simp at h) ch5124
                      have vq5124 := vq5123.store kz5122 (fun k z h => by simp at h) ch5124
                      have vr5124 := vr5123.store kz5122 (fun k z h => by simp at h) ch5124
                      refine hK.out _ _ (HSK2.out _ hB5124) (fun hHeld2 => ?_)
                      clear hK K hHeld
                      have hHeld := hHeld2
                      clear hHeld2
                      (try simp only [Act.put, List.setIfInBounds_toArray, List.set_cons_zero, List.set_cons_succ])
                      refine wpAnyH_ready (rs := [11]) (by kernel_rfl) (by simp) (AllReadyH.cons rfl (fun K hK => ?_) AllReadyH.nil)
                      (try rw [if_pos (by rfl)])
                      have c0_5125 := kr5124.cell 0 (u := .bool false) rfl
                      have c1_5125 := kr5124.cell 1 (u := .slice none 0 0) rfl
                      have f0_5125 := kr5124.frozen 0
                      have f1_5125 := kr5124.frozen 1
                      have l_5125 := kr5124.lt
                      go_simp
                      obtain ⟨ws5125, hw5125⟩ : ∃ x, (ws5124.setCell ⟨bz5112, 0, none⟩ (.bool sr)).setCell ⟨bz5112, 1, none⟩ (.slice Ar nr cr) = x := ⟨_, rfl⟩
                      have ch5125 : Chg (fun k => k = bz5112) ws5124 ws5125 := by rw [← hw5125]; exact Chg.at2 _ _ _ _
                      have kb5125 : Blk ws5125 bz5112 29 #[.bool sr, .slice Ar nr cr] := by rw [← hw5125]; exact kr5124.set2 _ _
                      rw [hw5125]
                      clear hw5125 c0_5125 c1_5125 f0_5125 f1_5125 l_5125
                      have hB5125 : New w12 ws5125 := hB5124.trans ch5125 (fun k hk e => by have := lz5112; omega)
                      have kq5125 := kb5124.chg ch5125 (fun e => ne5122_r e.symm)
                      have vm5125 := vm5124.store kr5124 (fun k z h => by simp at h) ch5125
                      have vq5125 := vq5124.store kr5124 (fun k z h => by simp at h) ch5125
                      have vr5125 := vr5124.store kr5124 (fun k z h => by simp at h) ch5125
                      refine hK.out _ _ (HSK2.out _ hB5125) (fun hHeld2 => ?_)
                      clear hK K hHeld
                      have hHeld := hHeld2
                      clear hHeld2
                      (try simp only [Act.put, List.setIfInBounds_toArray, List.set_cons_zero, List.set_cons_succ])
                      refine heldW (i := 12) (v := ?v5126) rfl (by kernel_rfl) (by kernel_rfl) (by kernel_rfl) (fun _ _ _ h => h) (by rfl) ?hy5126 hHeld ?rest5126
                      case hy5126 => (intro w hSw; (try dsimp only at hSw); go_simp; try with_reducible rfl)
                      simp only [Act.put, List.setIfInBounds_toArray, List.set_cons_zero, List.set_cons_succ]
                      refine wpAnyH_done (by kernel_rfl) ?_ _
                      go_wp2_with fail
                      go_meet
                      exact ⟨rfl, Lib.hid (box2_mk kq5125 kb5125 vq5125 vr5125 hB5125)⟩
                    · (try rw [if_pos (by rfl)])
                      go_simp
                      obtain ⟨wz5127, hw5127⟩ : ∃ x, wc5114.alloc (.cells #[.bool false, .slice none 0 0] 29) = x := ⟨_, rfl⟩
                      obtain ⟨bz5127, hb5127⟩ : ∃ x, wc5114.heap.size = x := ⟨_, rfl⟩
                      have kz5127 : Blk wz5127 bz5127 29 #[.bool false, .slice none 0 0] := by rw [← hw5127, ← hb5127]; exact Blk.new _ _ _
                      have nz5127 : New wc5114 wz5127 := by rw [← hw5127]; exact (Chg.refl _ wc5114).alloc _
                      have lz5127 : w12.heap.size ≤ bz5127 := by rw [← hb5127]; exact (hB5115).size
                      have ne5127_r : bz5112 ≠ bz5127 := by have := (kr5115).lt; omega
                      rw [hw5127, hb5127]
                      clear hw5127 hb5127
                      have hB5128 : New w12 wz5127 := hB5115.trans nz5127 (fun _ _ h => h)
                      have kr5128 := kr5115.chg nz5127 (fun h => h)
                      have vm5128 := K5114.out.1.new nz5127
                      refine hK.out _ _ (HSK2.out _ hB5128) (fun hHeld2 => ?_)
                      clear hK K hHeld
                      have hHeld := hHeld2
                      clear hHeld2
                      (try simp only [Act.put, List.setIfInBounds_toArray, List.set_cons_zero, List.set_cons_succ])
                      refine heldC (i := 3) rfl (by kernel_rfl) (by rfl) (fun K hK => ?_)
                      go_simp
                      refine (HQ4.out _ _ (HP2.out _ hB5128) vm5128).mono ?_
                      rintro e wc5129 ⟨sq, Aq, nq, cq, sr, Ar, nr, cr, rfl, K5129⟩
                      have hB5130 : New w12 wc5129 := hB5128.trans K5129.out.2.2 (fun _ _ h => h)
                      have kr5130 := kr5128.chg K5129.out.2.2 (fun h => h)
                      have kq5130 := kz5127.chg K5129.out.2.2 (fun h => h)
                      have vm5130 := vm5128.new K5129.out.2.2
                      (try go_wp2_with fail)
                      refine hK.out _ _ (HSK2.out _ hB5130) (fun hHeld2 => ?_)
                      clear hK K hHeld
                      have hHeld := hHeld2
                      clear hHeld2
                      (try simp only [Act.put, List.setIfInBounds_toArray, List.set_cons_zero, List.set_cons_succ])
                      refine heldW (i := 4) (v := ?v5131) rfl (by kernel_rfl) (by kernel_rfl) (by kernel_rfl) (fun _ _ _ h => h) (by rfl) ?hy5131 hHeld ?rest5131
                      case hy5131 => (intro w hSw; (try dsimp only at hSw); go_simp; try with_reducible rfl)
                      simp only [Act.put, List.setIfInBounds_toArray, List.set_cons_zero, List.set_cons_succ]
                      refine heldW (i := 5) (v := ?v5132) rfl (by kernel_rfl) (by kernel_rfl) (by kernel_rfl) (fun _ _ _ h => h) (by rfl) ?hy5132 hHeld ?rest5132
                      case hy5132 => (intro w hSw; (try dsimp only at hSw); go_simp; try with_reducible rfl)
                      simp only [Act.put, List.setIfInBounds_toArray, List.set_cons_zero, List.set_cons_succ]
                      refine heldW (i := 6) (v := ?v5133) rfl (by kernel_rfl) (by kernel_rfl) (by kernel_rfl) (fun _ _ _ h => h) (by rfl) ?hy5133 hHeld ?rest5133
                      case hy5133 => (intro w hSw; (try dsimp only at hSw); go_simp; try with_reducible rfl)
                      simp only [Act.put, List.setIfInBounds_toArray, List.set_cons_zero, List.set_cons_succ]
                      refine heldW (i := 7) (v := ?v5134) rfl (by kernel_rfl) (by kernel_rfl) (by kernel_rfl) (fun _ _ _ h => h) (by rfl) ?hy5134 hHeld ?rest5134
                      case hy5134 => (intro w hSw; (try dsimp only at hSw); go_simp; try with_reducible rfl)
                      simp only [Act.put, List.setIfInBounds_toArray, List.set_cons_zero, List.set_cons_succ]
                      refine wpAnyH_ready (rs := [10]) (by kernel_rfl) (by simp) (AllReadyH.cons rfl (fun K hK => ?_) AllReadyH.nil)
                      (try rw [if_pos (by rfl)])
                      have c0_5135 := kq5130.cell 0 (u := .bool false) rfl
                      have c1_5135 := kq5130.cell 1 (u := .slice none 0 0) rfl
                      have f0_5135 := kq5130.frozen 0
                      have f1_5135 := kq5130.frozen 1
                      have l_5135 := kq5130.lt
                      go_simp
                      obtain ⟨ws5135, hw5135⟩ : ∃ x, (wc5129.setCell ⟨bz5127, 0, none⟩ (.bool sq)).setCell ⟨bz5127, 1, none⟩ (.slice Aq nq cq) = x := ⟨_, rfl⟩
                      have ch5135 : Chg (fun k => k = bz5127) wc5129 ws5135 := by rw [← hw5135]; exact Chg.at2 _ _ _ _
                      have kb5135 : Blk ws5135 bz5127 29 #[.bool sq, .slice Aq nq cq] := by rw [← hw5135]; exact kq5130.set2 _ _
                      rw [hw5135]
                      clear hw5135 c0_5135 c1_5135 f0_5135 f1_5135 l_5135
                      have hB5135 : New w12 ws5135 := hB5130.trans ch5135 (fun k hk e => by have := lz5127; omega)
                      have kr5135 := kr5130.chg ch5135 ne5127_r
                      have vm5135 := vm5130.store kq5130 (fun k z h => by simp at h) ch5135
                      have vq5135 := K5129.out.1.store kq5130 (fun k z h => by simp at h) ch5135
                      have vr5135 := K5129.out.2.1.store kq5130 (fun k z h => by simp at h) ch5135
                      refine hK.out _ _ (HSK2.out _ hB5135) (fun hHeld2 => ?_)
                      clear hK K hHeld
                      have hHeld := hHeld2
                      clear hHeld2
                      (try simp only [Act.put, List.setIfInBounds_toArray, List.set_cons_zero, List.set_cons_succ])
                      refine wpAnyH_ready (rs := [11]) (by kernel_rfl) (by simp) (AllReadyH.cons rfl (fun K hK => ?_) AllReadyH.nil)
                      (try rw [if_pos (by rfl)])
                      have c0_5136 := kr5135.cell 0 (u := .bool false) rfl
                      have c1_5136 := kr5135.cell 1 (u := .slice none 0 0) rfl
                      have f0_5136 := kr5135.frozen 0
                      have f1_5136 := kr5135.frozen 1
                      have l_5136 := kr5135.lt
                      go_simp
                      obtain ⟨ws5136, hw5136⟩ : ∃ x, (ws5135.setCell ⟨bz5112, 0, none⟩ (.bool sr)).setCell ⟨bz5112, 1, none⟩ (.slice Ar nr cr) = x := ⟨_, rfl⟩
                      have ch5136 : Chg (fun k => k = bz5112) ws5135 ws5136 := by rw [← hw5136]; exact Chg.at2 _ _ _ _
                      have kb5136 : Blk ws5136 bz5112 29 #[.bool sr, .slice Ar nr cr] := by rw [← hw5136]; exact kr5135.set2 _ _
                      rw [hw5136]
                      clear hw5136 c0_5136 c1_5136 f0_5136 f1_5136 l_5136
                      have hB5136 : New w12 ws5136 := hB5135.trans ch5136 (fun k hk e => by have := lz5112; omega)
                      have kq5136 := kb5135.chg ch5136 (fun e => ne5127_r e.symm)
                      have vm5136 := vm5135.store kr5135 (fun k z h => by simp at h) ch5136
                      have vq5136 := vq5135.store kr5135 (fun k z h => by simp at h) ch5136
                      have vr5136 := vr5135.store kr5135 (fun k z h => by simp at h) ch5136
                      refine hK.out _ _ (HSK2.out _ hB5136) (fun hHeld2 => ?_)
                      clear hK K hHeld
                      have hHeld := hHeld2
                      clear hHeld2
                      (try simp only [Act.put, List.setIfInBounds_toArray, List.set_cons_zero, List.set_cons_succ])
                      refine heldW (i := 12) (v := ?v5137) rfl (by kernel_rfl) (by kernel_rfl) (by kernel_rfl) (fun _ _ _ h => h) (by rfl) ?hy5137 hHeld ?rest5137
                      case hy5137 => (intro w hSw; (try dsimp only at hSw); go_simp; try with_reducible rfl)
                      simp only [Act.put, List.setIfInBounds_toArray, List.set_cons_zero, List.set_cons_succ]
                      refine wpAnyH_done (by kernel_rfl) ?_ _
                      go_wp2_with fail
                      go_meet
                      exact ⟨rfl, Lib.hid (box2_mk kq5136 kb5136 vq5136 vr5136 hB5136)⟩
                  · (try rw [if_pos (by rfl)])
                    go_simp
                    obtain ⟨wz5138, hw5138⟩ : ∃ x, wz5112.alloc (.cells #[.bool false, .slice none 0 0] 29) = x := ⟨_, rfl⟩
                    obtain ⟨bz5138, hb5138⟩ : ∃ x, wz5112.heap.size = x := ⟨_, rfl⟩
                    have kz5138 : Blk wz5138 bz5138 29 #[.bool false, .slice none 0 0] := by rw [← hw5138, ← hb5138]; exact Blk.new _ _ _
                    have nz5138 : New wz5112 wz5138 := by rw [← hw5138]; exact (Chg.refl _ wz5112).alloc _
                    have lz5138 : w12.heap.size ≤ bz5138 := by rw [← hb5138]; exact (hB5113).size
                    have ne5138_r : bz5112 ≠ bz5138 := by have := (kz5112).lt; omega
                    rw [hw5138, hb5138]
                    clear hw5138 hb5138
                    have hB5139 : New w12 wz5138 := hB5113.trans nz5138 (fun _ _ h => h)
                    have kr5139 := kz5112.chg nz5138 (fun h => h)
                    refine hK.out _ _ (HSK2.out _ hB5139) (fun hHeld2 => ?_)
                    clear hK K hHeld
                    have hHeld := hHeld2
                    clear hHeld2
                    (try simp only [Act.put, List.setIfInBounds_toArray, List.set_cons_zero, List.set_cons_succ])
                    refine heldC (i := 2) rfl (by kernel_rfl) (by rfl) (fun K hK => ?_)
                    go_simp
                    refine (HQ3.out wz5138).mono ?_
                    rintro e wc5140 ⟨s5140, A5140, n5140, c5140, rfl, K5140⟩
                    have hB5141 : New w12 wc5140 := hB5139.trans K5140.out.2 (fun _ _ h => h)
                    have kr5141 := kr5139.chg K5140.out.2 (fun h => h)
                    have kq5141 := kz5138.chg K5140.out.2 (fun h => h)
                    (try go_wp2_with fail)
                    refine hK.out _ _ (HSK2.out _ hB5141) (fun hHeld2 => ?_)
                    clear hK K hHeld
                    have hHeld := hHeld2
                    clear hHeld2
                    (try simp only [Act.put, List.setIfInBounds_toArray, List.set_cons_zero, List.set_cons_succ])
                    refine heldC (i := 3) rfl (by kernel_rfl) (by rfl) (fun K hK => ?_)
                    go_simp
                    refine (HQ4.out _ _ (HP2.out _ hB5141) K5140.out.1).mono ?_
                    rintro e wc5142 ⟨sq, Aq, nq, cq, sr, Ar, nr, cr, rfl, K5142⟩
                    have hB5143 : New w12 wc5142 := hB5141.trans K5142.out.2.2 (fun _ _ h => h)
                    have kr5143 := kr5141.chg K5142.out.2.2 (fun h => h)
                    have kq5143 := kq5141.chg K5142.out.2.2 (fun h => h)
                    have vm5143 := K5140.out.1.new K5142.out.2.2
                    (try go_wp2_with fail)
                    refine hK.out _ _ (HSK2.out _ hB5143) (fun hHeld2 => ?_)
                    clear hK K hHeld
                    have hHeld := hHeld2
                    clear hHeld2
                    (try simp only [Act.put, List.setIfInBounds_toArray, List.set_cons_zero, List.set_cons_succ])
                    refine heldW (i := 4) (v := ?v5144) rfl (by kernel_rfl) (by kernel_rfl) (by kernel_rfl) (fun _ _ _ h => h) (by rfl) ?hy5144 hHeld ?rest5144
                    case hy5144 => (intro w hSw; (try dsimp only at hSw); go_simp; try with_reducible rfl)
                    simp only [Act.put, List.setIfInBounds_toArray, List.set_cons_zero, List.set_cons_succ]
                    refine heldW (i := 5) (v := ?v5145) rfl (by kernel_rfl) (by kernel_rfl) (by kernel_rfl) (fun _ _ _ h => h) (by rfl) ?hy5145 hHeld ?rest5145
                    case hy5145 => (intro w hSw; (try dsimp only at hSw); go_simp; try with_reducible rfl)
                    simp only [Act.put, List.setIfInBounds_toArray, List.set_cons_zero, List.set_cons_succ]
                    refine heldW (i := 6) (v := ?v5146) rfl (by kernel_rfl) (by kernel_rfl) (by kernel_rfl) (fun _ _ _ h => h) (by rfl) ?hy5146 hHeld ?rest5146
                    case hy5146 => (intro w hSw; (try dsimp only at hSw); go_simp; try with_reducible rfl)
                    simp only [Act.put, List.setIfInBounds_toArray, List.set_cons_zero, List.set_cons_succ]
                    refine heldW (i := 7) (v := ?v5147) rfl (by kernel_rfl) (by kernel_rfl) (by kernel_rfl) (fun _ _ _ h => h) (by rfl) ?hy5147 hHeld ?rest5147
                    case hy5147 => (intro w hSw; (try dsimp only at hSw); go_simp; try with_reducible rfl)
                    simp only [Act.put, List.setIfInBounds_toArray, List.set_cons_zero, List.set_cons_succ]
                    refine wpAnyH_ready (rs := [10]) (by kernel_rfl) (by simp) (AllReadyH.cons rfl (fun K hK => ?_) AllReadyH.nil)
                    (try rw [if_pos (by rfl)])
                    have c0_5148 := kq5143.cell 0 (u := .bool false) rfl
                    have c1_5148 := kq5143.cell 1 (u := .slice none 0 0) rfl
                    have f0_5148 := kq5143.frozen 0
                    have f1_5148 := kq5143.frozen 1
                    have l_5148 := kq5143.lt
                    go_simp
                    obtain ⟨ws5148, hw5148⟩ : ∃ x, (wc5142.setCell ⟨bz5138, 0, none⟩ (.bool sq)).setCell ⟨bz5138, 1, none⟩ (.slice Aq nq cq) = x := ⟨_, rfl⟩
                    have ch5148 : Chg (fun k => k = bz5138) wc5142 ws5148 := by rw [← hw5148]; exact Chg.at2 _ _ _ _
                    have kb5148 : Blk ws5148 bz5138 29 #[.bool sq, .slice Aq nq cq] := by rw [← hw5148]; exact kq5143.set2 _ _
                    rw [hw5148]
                    clear hw5148 c0_5148 c1_5148 f0_5148 f1_5148 l_5148
                    have hB5148 : New w12 ws5148 := hB5143.trans ch5148 (fun k hk e => by have := lz5138; omega)
                    have kr5148 := kr5143.chg ch5148 ne5138_r
                    have vm5148 := vm5143.store kq5143 (fun k z h => by simp at h) ch5148
                    have vq5148 := K5142.out.1.store kq5143 (fun k z h => by simp at h) ch5148
                    have vr5148 := K5142.out.2.1.store kq5143 (fun k z h => by simp at h) ch5148
                    refine hK.out _ _ (HSK2.out _ hB5148) (fun hHeld2 => ?_)
                    clear hK K hHeld
                    have hHeld := hHeld2
                    clear hHeld2
                    (try simp only [Act.put, List.setIfInBounds_toArray, List.set_cons_zero, List.set_cons_succ])
                    refine wpAnyH_ready (rs := [11]) (by kernel_rfl) (by simp) (AllReadyH.cons rfl (fun K hK => ?_) AllReadyH.nil)
                    (try rw [if_pos (by rfl)])
                    have c0_5149 := kr5148.cell 0 (u := .bool false) rfl
                    have c1_5149 := kr5148.cell 1 (u := .slice none 0 0) rfl
                    have f0_5149 := kr5148.frozen 0
                    have f1_5149 := kr5148.frozen 1
                    have l_5149 := kr5148.lt
                    go_simp
                    obtain ⟨ws5149, hw5149⟩ : ∃ x, (ws5148.setCell ⟨bz5112, 0, none⟩ (.bool sr)).setCell ⟨bz5112, 1, none⟩ (.slice Ar nr cr) = x := ⟨_, rfl⟩
                    have ch5149 : Chg (fun k => k = bz5112) ws5148 ws5149 := by rw [← hw5149]; exact Chg.at2 _ _ _ _
                    have kb5149 : Blk ws5149 bz5112 29 #[.bool sr, .slice Ar nr cr] := by rw [← hw5149]; exact kr5148.set2 _ _
                    rw [hw5149]
                    clear hw5149 c0_5149 c1_5149 f0_5149 f1_5149 l_5149
                    have hB5149 : New w12 ws5149 := hB5148.trans ch5149 (fun k hk e => by have := lz5112; omega)
                    have kq5149 := kb5148.chg ch5149 (fun e => ne5138_r e.symm)
                    have vm5149 := vm5148.store kr5148 (fun k z h => by simp at h) ch5149
                    have vq5149 := vq5148.store kr5148 (fun k z h => by simp at h) ch5149
                    have vr5149 := vr5148.store kr5148 (fun k z h => by simp at h) ch5149
                    refine hK.out _ _ (HSK2.out _ hB5149) (fun hHeld2 => ?_)
                    clear hK K hHeld
                    have hHeld := hHeld2
                    clear hHeld2
                    (try simp only [Act.put, List.setIfInBounds_toArray, List.set_cons_zero, List.set_cons_succ])
                    refine heldW (i := 12) (v := ?v5150) rfl (by kernel_rfl) (by kernel_rfl) (by kernel_rfl) (fun _ _ _ h => h) (by rfl) ?hy5150 hHeld ?rest5150
                    case hy5150 => (intro w hSw; (try dsimp only at hSw); go_simp; try with_reducible rfl)
                    simp only [Act.put, List.setIfInBounds_toArray, List.set_cons_zero, List.set_cons_succ]
                    refine wpAnyH_done (by kernel_rfl) ?_ _
                    go_wp2_with fail
                    go_meet
                    exact ⟨rfl, Lib.hid (box2_mk kq5149 kb5149 vq5149 vr5149 hB5149)⟩
              case rest =>
                obtain ⟨rfl, hbx⟩ := hcut
                obtain ⟨⟨b1, t1, B1, e1, f1, y1z⟩, ⟨b2, t2, B2, e2, f2, y2z⟩, rfl, rfl, hs1, hs2, hy1, hy2, hnx⟩ := hbx.out
                dsimp only at hs1 hs2 hy1 hy2 ⊢
                subst hy1 hy2
                obtain ⟨w13, hw13⟩ : ∃ x, x = wc := ⟨_, rfl⟩
                subst hw13
                have HN13 := Lib.hid (((HN12.out.step hnx).add hs2).add hs1)
                obtain ⟨d0, d1, dl, _⟩ := HN13.out.at_ (b := ⟨b1, t1, B1, e1, f1, y1z⟩) (by simp)
                obtain ⟨f0, f1', fl, _⟩ := HN13.out.at_ (b := ⟨b2, t2, B2, e2, f2, y2z⟩) (by simp)
                obtain ⟨h0, h1, hl, _⟩ := HN13.out.at_ (b := ⟨ga, sa, Aa, na, ca, n⟩) (by simp)
                dsimp only at d0 d1 dl f0 f1' fl h0 h1 hl
                clear hbx hs1 hs2 hnx HN12 HQ3 HQ4 HSK2 HP2
                have HHH := Lib.hid hh.out
                by_cases hm0 : m = 0
                · subst hm0
                  clear HZ
                  go_wp2_with fail
                  exact ⟨⟨q + 1, rfl, by omega, by omega, Lib.hid (HHH.out.trans HN13.out.new (fun _ _ h => h))⟩, by simp [intOf]; omega⟩
                · obtain ⟨e1', e2', e3'⟩ := HZ.out hm0
                  replace e1' := e1'.symm
                  replace e2' := e2'.symm
                  subst e1'
                  subst e2'
                  subst e3'
                  clear HZ
                  go_wp2_with fail
                  refine (compare_any _ _ n n w13 (HN13.out.at_ (b := ⟨b1, t1, B1, e1, f1, _⟩) (by simp)).2.2.2 (HN13.out.at_ (b := ⟨ga, sa, Aa, na, ca, _⟩) (by simp)).2.2.2).mono ?_
                  rw [cmpI_same]
                  rintro e w14 ⟨rfl, hn14⟩
                  have HN14 := Lib.hid (HN13.out.step hn14)
                  have k0 := hn14.cell f0 (fun h => h)
                  have k1 := hn14.cell f1' (fun h => h)
                  have kl := Nat.lt_of_lt_of_le fl hn14.size
                  clear hn14 d0 d1 dl f0 f1' fl h0 h1 hl
                  go_wp2_with fail
                  refine (sign_any _ 0 w14 (HN14.out.at_ (b := ⟨b2, t2, B2, e2, f2, _⟩) (by simp)).2.2.2).mono ?_
                  rw [cmpI_same]
                  rintro e w15 ⟨rfl, hn15⟩
                  have HN15 := Lib.hid (HN14.out.step hn15)
                  clear hn15 k0 k1 kl
                  go_wp2_with fail
                  exact ⟨⟨q + 1, rfl, by omega, by omega, Lib.hid (HHH.out.trans HN15.out.new (fun _ _ h => h))⟩, by simp [intOf]; omega⟩
          · obtain rfl : q = 7 := by omega
            rw [show ((7 : Nat) : Int) = 7 from rfl]
            go_wp2_with fail
            refine (lives6_any _).mono ?_
            rintro e v9 ⟨rfl, hn9⟩
            have H := Lib.hid ((HE5.out.jd.was.trans hh.out (fun _ _ h => h)).trans hn9 (fun _ _ h => h))
            go_wp2_with fail
            go_ret
            exact ⟨rfl, H.out⟩
end Go.Proofs.YtblcaeoeeepajaaGreatDoor
