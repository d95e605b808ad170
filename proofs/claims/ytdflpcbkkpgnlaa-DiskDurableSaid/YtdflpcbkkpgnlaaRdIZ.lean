/- A disk and its model in the same state are found the same. (Printed by gen_same.py.) -/
import Derived.Test.YtdflpcbkkpgnlaaB0
import Derived.Test.YtdflpcbkkpgnlaaRdHZ
import Derived.Test.YtdflpcbkkpgnlaaHeldZ
namespace Go.Proofs.Ytdflpcbkkpgnlaa
set_option linter.unusedVariables false
open Go.RowKit Go.Mem Go.Dk

set_option maxHeartbeats 1000000 in
set_option maxRecDepth 100000 in
theorem sameInts_t (A B : Option Addr) (n c d : Nat) (l : List Int) (w : World) (ha : Rd w A n (is l)) (hb : Rd w B n (is l)) (hn : n ≤ 1000000000) :
    Calls Try.prog 42 #[.slice A n c, .slice B n d] w fun e w' => e = .returned (.bool true) ∧ New w w' := by
  have hl : l.length = n := by simpa using ha.len
  have HL := Lib.hid hl
  clear hl
  go_enter Try.func42, Try.ntmps42
  go_wp2
  go_loopw [5] (fun i wr => ∃ k : Nat, k ≤ n ∧ i = .int .i64 k ∧ ∃ q, wr = w.drewN q) (fun i _ => n - (intOf i).toNat)
  case atStart => exact ⟨0, Nat.zero_le _, rfl, 0, rfl⟩
  case round =>
    obtain ⟨k, hk, rfl, hnew⟩ := hrel
    obtain ⟨q, hq⟩ := hnew
    have hnew : New w wr := by rw [hq]; exact (Chg.refl _ w).drewN q
    have HQ := Lib.hid hq
    clear hq
    by_cases hlt : k < n
    · obtain ⟨ad, u, rfl, hu, hcu⟩ := (ha.new hnew).at_ hlt
      obtain ⟨bd, v, rfl, hv, hcv⟩ := (hb.new hnew).at_ hlt
      obtain ⟨x, hx, rfl⟩ := is_at hu
      obtain ⟨y, hy, rfl⟩ := is_at hv
      obtain rfl : x = y := by rw [hx] at hy; injection hy
      clear hu hv hx hy ha hb
      go_wp2
      go_quiet (fail)
      go_wp2
      go_roundw
      case rel => exact ⟨k + 1, by omega, by go_num, _, by rw [HQ.out, World.drewN_drewN]⟩
      case measure => simp [intOf]; omega
    · go_wp2
      go_ret
      exact ⟨rfl, by rw [HQ.out]; exact (Chg.refl _ w).drewN q⟩

set_option maxHeartbeats 4000000 in
set_option maxRecDepth 100000 in
theorem same_any (g m g2 b f : Nat) (V V2 : Nat → Value) (s : S) (w : World) (h : DI w g m V s) (h2 : RI w g2 b f V2 s) :
    Calls Try.prog 25 #[.pointer (some ⟨g, 0, none⟩), .pointer (some ⟨g2, 0, none⟩)] w fun e w' => e = .returned (.bool true) ∧ New w w' := by
  have HH := Lib.hid h
  have H2 := Lib.hid h2
  have hc3 := h2.core.cc.2.2.2.1
  have hgl := h2.core.blk.lt
  obtain ⟨L, hL⟩ : ∃ L, filesI s = L := ⟨_, rfl⟩
  obtain ⟨N, hN⟩ : ∃ N, L.length = N := ⟨_, rfl⟩
  have hN64 : N ≤ 1000000000 := by rw [← hN, ← hL]; unfold filesI; rw [List.length_map]; exact Nat.le_trans (filesN_len s.f 64) (by decide)
  have HF1 := Lib.hid (show ∀ W, New w W → Calls Try.prog 34 #[.pointer (some ⟨g, 0, none⟩)] W fun e w' => ∃ A c, e = .returned (.slice A N c) ∧ Rd w' A N (is L) ∧ New W w' from fun W hW => (dFiles_any g m V s W (HH.out.new hW)).mono (by rw [hL, hN]; rintro e w' ⟨A, c, rfl, h5, h6⟩; exact ⟨A, c, rfl, Rd.of_own h5, h6⟩))
  have HF2 := Lib.hid (show ∀ W, New w W → Calls Try.prog 43 #[.pointer (some ⟨g2, 0, none⟩)] W fun e w' => ∃ A c, e = .returned (.slice A N c) ∧ Rd w' A N (is L) ∧ New W w' from fun W hW => (rFiles_any g2 b f V2 s W (H2.out.new hW)).mono (by rw [hL, hN]; rintro e w' ⟨A, c, rfl, h5, h6⟩; exact ⟨A, c, rfl, Rd.of_own h5, h6⟩))
  obtain ⟨U, hU⟩ : ∃ U, used s = U := ⟨_, rfl⟩
  have HU := Lib.hid hU
  obtain ⟨O, hO⟩ : ∃ O, s.off = O := ⟨_, rfl⟩
  have HO := Lib.hid hO
  rw [hO] at hc3
  have HSK := Lib.hid (show ∀ W, New w W → W.cell? ⟨g2, 3, none⟩ = some (.bool O) from fun W hW => HO.out ▸ (H2.out.new hW).core.cc.2.2.2.1)
  clear h h2 hU hL hN hO
  cases O with
  | true =>
    have HON := Lib.hid (show ∀ W, New w W → Calls Try.prog 28 #[.pointer (some ⟨g, 0, none⟩)] W fun e w' => e = .returned (.bool false) ∧ W = w' from fun W hW => (dOn_any g m s W (HH.out.new hW).core.blk).mono (by rw [HO.out]; exact fun _ _ h => h))
    go_enter Try.func25, Try.ntmps25
    go_wp2_with fail
    have hM0 : New w w.drew := (Chg.refl _ w).drew
    refine wp_region_held_drew (S := fun w' => w'.cell? ⟨g2, 3, none⟩ = some (.bool true)) (by kernel_rfl) (hc3) (fun hHeld => ?_)
    refine heldW (i := 0) (v := ?av0) rfl (by kernel_rfl) (by kernel_rfl) (by kernel_rfl) (fun _ _ _ h => h) (by rfl) ?ahy0 hHeld ?arest0
    case ahy0 => (intro w hSw; (try dsimp only at hSw); go_simp; try with_reducible rfl)
    simp only [Act.put, List.setIfInBounds_toArray, List.set_cons_zero, List.set_cons_succ]
    refine heldW (i := 2) (v := ?av2) rfl (by kernel_rfl) (by kernel_rfl) (by kernel_rfl) (fun _ _ _ h => h) (by rfl) ?ahy2 hHeld ?arest2
    case ahy2 => (intro w hSw; (try dsimp only at hSw); go_simp; try with_reducible rfl)
    simp only [Act.put, List.setIfInBounds_toArray, List.set_cons_zero, List.set_cons_succ]
    refine heldC (i := 1) rfl (by kernel_rfl) (by rfl) (fun K hK => ?_)
    go_simp
    refine (dUsed_any g m V s _ (HH.out.new hM0)).mono ?_
    rintro e r1 ⟨rfl, R1⟩
    have hM1 : New w r1 := hM0.trans R1 (fun _ _ h => h)
    (try go_wp2_with fail)
    refine hK.out _ _ (HSK.out _ hM1) (fun hHeld2 => ?_)
    clear hK K hHeld
    have hHeld := hHeld2
    clear hHeld2
    (try simp only [Act.put, List.setIfInBounds_toArray, List.set_cons_zero, List.set_cons_succ])
    refine heldC (i := 3) rfl (by kernel_rfl) (by rfl) (fun K hK => ?_)
    go_simp
    refine (rUsed_any g2 b f V2 s _ (H2.out.new hM1)).mono ?_
    rintro e r2 ⟨rfl, R2⟩
    have hM2 : New w r2 := hM1.trans R2 (fun _ _ h => h)
    (try go_wp2_with fail)
    refine hK.out _ _ (HSK.out _ hM2) (fun hHeld2 => ?_)
    clear hK K hHeld
    have hHeld := hHeld2
    clear hHeld2
    (try simp only [Act.put, List.setIfInBounds_toArray, List.set_cons_zero, List.set_cons_succ])
    refine heldW (i := 4) (v := ?av4) rfl (by kernel_rfl) (by kernel_rfl) (by kernel_rfl) (fun _ _ _ h => h) (by rfl) ?ahy4 hHeld ?arest4
    case ahy4 => (intro w hSw; (try dsimp only at hSw); go_simp; try with_reducible rfl)
    simp only [Act.put, List.setIfInBounds_toArray, List.set_cons_zero, List.set_cons_succ]
    refine heldW (i := 5) (v := ?av5) rfl (by kernel_rfl) (by kernel_rfl) (by kernel_rfl) (fun _ _ _ h => h) (by rfl) ?ahy5 hHeld ?arest5
    case ahy5 => (intro w hSw; (try dsimp only at hSw); go_simp; try with_reducible rfl)
    simp only [Act.put, List.setIfInBounds_toArray, List.set_cons_zero, List.set_cons_succ]
    refine heldW (i := 6) (v := ?av6) rfl (by kernel_rfl) (by kernel_rfl) (by kernel_rfl) (fun _ _ _ h => h) (by rfl) ?ahy6 hHeld ?arest6
    case ahy6 => (intro w hSw; (try dsimp only at hSw); go_simp; try with_reducible rfl)
    simp only [Act.put, List.setIfInBounds_toArray, List.set_cons_zero, List.set_cons_succ]
    refine heldW (i := 8) (v := ?av8) rfl (by kernel_rfl) (by kernel_rfl) (by kernel_rfl) (fun _ _ _ h => h) (by rfl) ?ahy8 hHeld ?arest8
    case ahy8 => (intro w hSw; (try dsimp only at hSw); go_simp; try with_reducible rfl)
    simp only [Act.put, List.setIfInBounds_toArray, List.set_cons_zero, List.set_cons_succ]
    refine heldW (i := 9) (v := ?av9) rfl (by kernel_rfl) (by kernel_rfl) (by kernel_rfl) (fun _ _ _ h => h) (by rfl) ?ahy9 hHeld ?arest9
    case ahy9 => (intro w hSw; (try dsimp only at hSw); go_simp; try with_reducible rfl)
    simp only [Act.put, List.setIfInBounds_toArray, List.set_cons_zero, List.set_cons_succ]
    refine heldW (i := 10) (v := ?av10) rfl (by kernel_rfl) (by kernel_rfl) (by kernel_rfl) (fun _ _ _ h => h) (by rfl) ?ahy10 hHeld ?arest10
    case ahy10 => (intro w hSw; (try dsimp only at hSw); go_simp; try with_reducible rfl)
    simp only [Act.put, List.setIfInBounds_toArray, List.set_cons_zero, List.set_cons_succ]
    refine heldW (i := 11) (v := ?av11) rfl (by kernel_rfl) (by kernel_rfl) (by kernel_rfl) (fun _ _ _ h => h) (by rfl) ?ahy11 hHeld ?arest11
    case ahy11 => (intro w hSw; (try dsimp only at hSw); go_simp; try with_reducible rfl)
    simp only [Act.put, List.setIfInBounds_toArray, List.set_cons_zero, List.set_cons_succ]
    refine heldC (i := 7) rfl (by kernel_rfl) (by rfl) (fun K hK => ?_)
    go_simp
    refine (HON.out _ hM2).mono ?_
    rintro e r3 ⟨rfl, rfl⟩
    have hM3 := hM2
    (try go_wp2_with fail)
    refine hK.out _ _ (HSK.out _ hM3) (fun hHeld2 => ?_)
    clear hK K hHeld
    have hHeld := hHeld2
    clear hHeld2
    (try simp only [Act.put, List.setIfInBounds_toArray, List.set_cons_zero, List.set_cons_succ])
    refine heldW (i := 12) (v := ?av12) rfl (by kernel_rfl) (by kernel_rfl) (by kernel_rfl) (fun _ _ _ h => h) (by rfl) ?ahy12 hHeld ?arest12
    case ahy12 => (intro w hSw; (try dsimp only at hSw); go_simp; try with_reducible rfl)
    simp only [Act.put, List.setIfInBounds_toArray, List.set_cons_zero, List.set_cons_succ]
    refine heldW (i := 13) (v := ?av13) rfl (by kernel_rfl) (by kernel_rfl) (by kernel_rfl) (fun _ _ _ h => h) (by rfl) ?ahy13 hHeld ?arest13
    case ahy13 => (intro w hSw; (try dsimp only at hSw); go_simp; try with_reducible rfl)
    simp only [Act.put, List.setIfInBounds_toArray, List.set_cons_zero, List.set_cons_succ]
    refine heldW (i := 14) (v := ?av14) rfl (by kernel_rfl) (by kernel_rfl) (by kernel_rfl) (fun _ _ _ h => h) (by rfl) ?ahy14 hHeld ?arest14
    case ahy14 => (intro w hSw; (try dsimp only at hSw); go_simp; try with_reducible rfl)
    simp only [Act.put, List.setIfInBounds_toArray, List.set_cons_zero, List.set_cons_succ]
    refine heldW (i := 15) (v := ?av15) rfl (by kernel_rfl) (by kernel_rfl) (by kernel_rfl) (fun _ _ _ h => h) (by rfl) ?ahy15 hHeld ?arest15
    case ahy15 => (intro w hSw; (try dsimp only at hSw); go_simp; try with_reducible rfl)
    simp only [Act.put, List.setIfInBounds_toArray, List.set_cons_zero, List.set_cons_succ]
    refine heldW (i := 17) (v := ?av17) rfl (by kernel_rfl) (by kernel_rfl) (by kernel_rfl) (fun _ _ _ h => h) (by rfl) ?ahy17 hHeld ?arest17
    case ahy17 => (intro w hSw; (try dsimp only at hSw); go_simp; try with_reducible rfl)
    simp only [Act.put, List.setIfInBounds_toArray, List.set_cons_zero, List.set_cons_succ]
    refine heldC (i := 16) rfl (by kernel_rfl) (by rfl) (fun K hK => ?_)
    go_simp
    refine (HF1.out _ hM3).mono ?_
    rintro e r4 ⟨A1, c1, rfl, HR1, R4⟩
    have hM4 : New w r4 := hM3.trans R4 (fun _ _ h => h)
    (try go_wp2_with fail)
    refine hK.out _ _ (HSK.out _ hM4) (fun hHeld2 => ?_)
    clear hK K hHeld
    have hHeld := hHeld2
    clear hHeld2
    (try simp only [Act.put, List.setIfInBounds_toArray, List.set_cons_zero, List.set_cons_succ])
    refine heldC (i := 18) rfl (by kernel_rfl) (by rfl) (fun K hK => ?_)
    go_simp
    refine (HF2.out _ hM4).mono ?_
    rintro e r5 ⟨A2, c2, rfl, HR2, R5⟩
    have hM5 : New w r5 := hM4.trans R5 (fun _ _ h => h)
    (try go_wp2_with fail)
    refine hK.out _ _ (HSK.out _ hM5) (fun hHeld2 => ?_)
    clear hK K hHeld
    have hHeld := hHeld2
    clear hHeld2
    (try simp only [Act.put, List.setIfInBounds_toArray, List.set_cons_zero, List.set_cons_succ])
    refine heldC (i := 19) rfl (by kernel_rfl) (by rfl) (fun K hK => ?_)
    go_simp
    refine (sameInts_t A1 A2 N c1 c2 L _ (HR1.new R5) HR2 hN64).mono ?_
    rintro e r6 ⟨rfl, R6⟩
    have hM6 : New w r6 := hM5.trans R6 (fun _ _ h => h)
    (try go_wp2_with fail)
    clear HR1 HR2 R4 R5 hM4 R1 R2 hM1 hM2 hM3
    refine hK.out _ _ (HSK.out _ hM6) (fun hHeld2 => ?_)
    clear hK K hHeld
    have hHeld := hHeld2
    clear hHeld2
    (try simp only [Act.put, List.setIfInBounds_toArray, List.set_cons_zero, List.set_cons_succ])
    refine heldW (i := 20) (v := ?av20) rfl (by kernel_rfl) (by kernel_rfl) (by kernel_rfl) (fun _ _ _ h => h) (by rfl) ?ahy20 hHeld ?arest20
    case ahy20 => (intro w hSw; (try dsimp only at hSw); go_simp; try with_reducible rfl)
    simp only [Act.put, List.setIfInBounds_toArray, List.set_cons_zero, List.set_cons_succ]
    refine heldW (i := 21) (v := ?av21) rfl (by kernel_rfl) (by kernel_rfl) (by kernel_rfl) (fun _ _ _ h => h) (by rfl) ?ahy21 hHeld ?arest21
    case ahy21 => (intro w hSw; (try dsimp only at hSw); go_simp; try with_reducible rfl)
    simp only [Act.put, List.setIfInBounds_toArray, List.set_cons_zero, List.set_cons_succ]
    refine wpAnyH_done (by kernel_rfl) ?_ _
    go_wp2_with fail
    go_loopw [5] (fun v wr => ∃ k : Nat, k ≤ 4 ∧ v = .int .i64 (k : Int) ∧ New r6 wr) (fun v _ => 4 - (intOf v).toNat)
    case atStart => exact ⟨0, Nat.zero_le _, rfl, Chg.refl _ _⟩
    case round =>
      obtain ⟨k, hk, rfl, hnw⟩ := hrel
      have HNR := Lib.hid hnw
      have HNW := Lib.hid (hM6.trans hnw (fun _ _ h => h) : New w wr)
      clear hnw
      by_cases hlt : k < 4
      · have hre : Dk.read s (k : Int) = (([] : List UInt8), 24) := by
          unfold Dk.read
          rw [if_neg (by omega), HO.out]
          rfl
        have HRD := Lib.hid (show ∀ W, New w W → Calls Try.prog 16 #[.pointer (some ⟨g, 0, none⟩), .int .i64 (k : Int)] W fun e w' => ∃ A c, e = .returned (.tuple #[.slice A 0 c, .int .i64 24]) ∧ New W w' from fun W hW => (dRead_any g m V s W (HH.out.new hW) (k : Int)).mono (by rw [hre]; rintro e w' ⟨A, c, rfl, h5, h6⟩; exact ⟨A, c, rfl, h6⟩))
        clear hre
        go_wp2_with (go_at_call 16; refine (HRD.out _ HNW.out).mono ?_; rintro e r7 ⟨A3, c3, rfl, R7⟩; have hM7 : New w r7 := HNW.out.trans R7 (fun _ _ h => h); have hq3 := HSK.out _ hM7)
        go_roundw
        case rel => exact ⟨k + 1, by omega, by go_num, HNR.out.trans R7 (fun _ _ h => h)⟩
        case measure => simp [intOf]; omega
      · go_wp2
        go_ret
        exact ⟨rfl, HNW.out⟩
  | false =>
    have HON := Lib.hid (show ∀ W, New w W → Calls Try.prog 28 #[.pointer (some ⟨g, 0, none⟩)] W fun e w' => e = .returned (.bool true) ∧ W = w' from fun W hW => (dOn_any g m s W (HH.out.new hW).core.blk).mono (by rw [HO.out]; exact fun _ _ h => h))
    go_enter Try.func25, Try.ntmps25
    go_wp2_with fail
    have hM0 : New w w.drew := (Chg.refl _ w).drew
    refine wp_region_held_drew (S := fun w' => w'.cell? ⟨g2, 3, none⟩ = some (.bool false)) (by kernel_rfl) (hc3) (fun hHeld => ?_)
    refine heldW (i := 0) (v := ?bv0) rfl (by kernel_rfl) (by kernel_rfl) (by kernel_rfl) (fun _ _ _ h => h) (by rfl) ?bhy0 hHeld ?brest0
    case bhy0 => (intro w hSw; (try dsimp only at hSw); go_simp; try with_reducible rfl)
    simp only [Act.put, List.setIfInBounds_toArray, List.set_cons_zero, List.set_cons_succ]
    refine heldW (i := 2) (v := ?bv2) rfl (by kernel_rfl) (by kernel_rfl) (by kernel_rfl) (fun _ _ _ h => h) (by rfl) ?bhy2 hHeld ?brest2
    case bhy2 => (intro w hSw; (try dsimp only at hSw); go_simp; try with_reducible rfl)
    simp only [Act.put, List.setIfInBounds_toArray, List.set_cons_zero, List.set_cons_succ]
    refine heldC (i := 1) rfl (by kernel_rfl) (by rfl) (fun K hK => ?_)
    go_simp
    refine (dUsed_any g m V s _ (HH.out.new hM0)).mono ?_
    rintro e r1 ⟨rfl, R1⟩
    have hM1 : New w r1 := hM0.trans R1 (fun _ _ h => h)
    (try go_wp2_with fail)
    refine hK.out _ _ (HSK.out _ hM1) (fun hHeld2 => ?_)
    clear hK K hHeld
    have hHeld := hHeld2
    clear hHeld2
    (try simp only [Act.put, List.setIfInBounds_toArray, List.set_cons_zero, List.set_cons_succ])
    refine heldC (i := 3) rfl (by kernel_rfl) (by rfl) (fun K hK => ?_)
    go_simp
    refine (rUsed_any g2 b f V2 s _ (H2.out.new hM1)).mono ?_
    rintro e r2 ⟨rfl, R2⟩
    have hM2 : New w r2 := hM1.trans R2 (fun _ _ h => h)
    (try go_wp2_with fail)
    refine hK.out _ _ (HSK.out _ hM2) (fun hHeld2 => ?_)
    clear hK K hHeld
    have hHeld := hHeld2
    clear hHeld2
    (try simp only [Act.put, List.setIfInBounds_toArray, List.set_cons_zero, List.set_cons_succ])
    refine heldW (i := 4) (v := ?bv4) rfl (by kernel_rfl) (by kernel_rfl) (by kernel_rfl) (fun _ _ _ h => h) (by rfl) ?bhy4 hHeld ?brest4
    case bhy4 => (intro w hSw; (try dsimp only at hSw); go_simp; try with_reducible rfl)
    simp only [Act.put, List.setIfInBounds_toArray, List.set_cons_zero, List.set_cons_succ]
    refine heldW (i := 5) (v := ?bv5) rfl (by kernel_rfl) (by kernel_rfl) (by kernel_rfl) (fun _ _ _ h => h) (by rfl) ?bhy5 hHeld ?brest5
    case bhy5 => (intro w hSw; (try dsimp only at hSw); go_simp; try with_reducible rfl)
    simp only [Act.put, List.setIfInBounds_toArray, List.set_cons_zero, List.set_cons_succ]
    refine heldW (i := 6) (v := ?bv6) rfl (by kernel_rfl) (by kernel_rfl) (by kernel_rfl) (fun _ _ _ h => h) (by rfl) ?bhy6 hHeld ?brest6
    case bhy6 => (intro w hSw; (try dsimp only at hSw); go_simp; try with_reducible rfl)
    simp only [Act.put, List.setIfInBounds_toArray, List.set_cons_zero, List.set_cons_succ]
    refine heldW (i := 8) (v := ?bv8) rfl (by kernel_rfl) (by kernel_rfl) (by kernel_rfl) (fun _ _ _ h => h) (by rfl) ?bhy8 hHeld ?brest8
    case bhy8 => (intro w hSw; (try dsimp only at hSw); go_simp; try with_reducible rfl)
    simp only [Act.put, List.setIfInBounds_toArray, List.set_cons_zero, List.set_cons_succ]
    refine heldW (i := 9) (v := ?bv9) rfl (by kernel_rfl) (by kernel_rfl) (by kernel_rfl) (fun _ _ _ h => h) (by rfl) ?bhy9 hHeld ?brest9
    case bhy9 => (intro w hSw; (try dsimp only at hSw); go_simp; try with_reducible rfl)
    simp only [Act.put, List.setIfInBounds_toArray, List.set_cons_zero, List.set_cons_succ]
    refine heldW (i := 10) (v := ?bv10) rfl (by kernel_rfl) (by kernel_rfl) (by kernel_rfl) (fun _ _ _ h => h) (by rfl) ?bhy10 hHeld ?brest10
    case bhy10 => (intro w hSw; (try dsimp only at hSw); go_simp; try with_reducible rfl)
    simp only [Act.put, List.setIfInBounds_toArray, List.set_cons_zero, List.set_cons_succ]
    refine heldW (i := 11) (v := ?bv11) rfl (by kernel_rfl) (by kernel_rfl) (by kernel_rfl) (fun _ _ _ h => h) (by rfl) ?bhy11 hHeld ?brest11
    case bhy11 => (intro w hSw; (try dsimp only at hSw); go_simp; try with_reducible rfl)
    simp only [Act.put, List.setIfInBounds_toArray, List.set_cons_zero, List.set_cons_succ]
    refine heldC (i := 7) rfl (by kernel_rfl) (by rfl) (fun K hK => ?_)
    go_simp
    refine (HON.out _ hM2).mono ?_
    rintro e r3 ⟨rfl, rfl⟩
    have hM3 := hM2
    (try go_wp2_with fail)
    refine hK.out _ _ (HSK.out _ hM3) (fun hHeld2 => ?_)
    clear hK K hHeld
    have hHeld := hHeld2
    clear hHeld2
    (try simp only [Act.put, List.setIfInBounds_toArray, List.set_cons_zero, List.set_cons_succ])
    refine heldW (i := 12) (v := ?bv12) rfl (by kernel_rfl) (by kernel_rfl) (by kernel_rfl) (fun _ _ _ h => h) (by rfl) ?bhy12 hHeld ?brest12
    case bhy12 => (intro w hSw; (try dsimp only at hSw); go_simp; try with_reducible rfl)
    simp only [Act.put, List.setIfInBounds_toArray, List.set_cons_zero, List.set_cons_succ]
    refine heldW (i := 13) (v := ?bv13) rfl (by kernel_rfl) (by kernel_rfl) (by kernel_rfl) (fun _ _ _ h => h) (by rfl) ?bhy13 hHeld ?brest13
    case bhy13 => (intro w hSw; (try dsimp only at hSw); go_simp; try with_reducible rfl)
    simp only [Act.put, List.setIfInBounds_toArray, List.set_cons_zero, List.set_cons_succ]
    refine heldW (i := 14) (v := ?bv14) rfl (by kernel_rfl) (by kernel_rfl) (by kernel_rfl) (fun _ _ _ h => h) (by rfl) ?bhy14 hHeld ?brest14
    case bhy14 => (intro w hSw; (try dsimp only at hSw); go_simp; try with_reducible rfl)
    simp only [Act.put, List.setIfInBounds_toArray, List.set_cons_zero, List.set_cons_succ]
    refine heldW (i := 15) (v := ?bv15) rfl (by kernel_rfl) (by kernel_rfl) (by kernel_rfl) (fun _ _ _ h => h) (by rfl) ?bhy15 hHeld ?brest15
    case bhy15 => (intro w hSw; (try dsimp only at hSw); go_simp; try with_reducible rfl)
    simp only [Act.put, List.setIfInBounds_toArray, List.set_cons_zero, List.set_cons_succ]
    refine heldW (i := 17) (v := ?bv17) rfl (by kernel_rfl) (by kernel_rfl) (by kernel_rfl) (fun _ _ _ h => h) (by rfl) ?bhy17 hHeld ?brest17
    case bhy17 => (intro w hSw; (try dsimp only at hSw); go_simp; try with_reducible rfl)
    simp only [Act.put, List.setIfInBounds_toArray, List.set_cons_zero, List.set_cons_succ]
    refine heldC (i := 16) rfl (by kernel_rfl) (by rfl) (fun K hK => ?_)
    go_simp
    refine (HF1.out _ hM3).mono ?_
    rintro e r4 ⟨A1, c1, rfl, HR1, R4⟩
    have hM4 : New w r4 := hM3.trans R4 (fun _ _ h => h)
    (try go_wp2_with fail)
    refine hK.out _ _ (HSK.out _ hM4) (fun hHeld2 => ?_)
    clear hK K hHeld
    have hHeld := hHeld2
    clear hHeld2
    (try simp only [Act.put, List.setIfInBounds_toArray, List.set_cons_zero, List.set_cons_succ])
    refine heldC (i := 18) rfl (by kernel_rfl) (by rfl) (fun K hK => ?_)
    go_simp
    refine (HF2.out _ hM4).mono ?_
    rintro e r5 ⟨A2, c2, rfl, HR2, R5⟩
    have hM5 : New w r5 := hM4.trans R5 (fun _ _ h => h)
    (try go_wp2_with fail)
    refine hK.out _ _ (HSK.out _ hM5) (fun hHeld2 => ?_)
    clear hK K hHeld
    have hHeld := hHeld2
    clear hHeld2
    (try simp only [Act.put, List.setIfInBounds_toArray, List.set_cons_zero, List.set_cons_succ])
    refine heldC (i := 19) rfl (by kernel_rfl) (by rfl) (fun K hK => ?_)
    go_simp
    refine (sameInts_t A1 A2 N c1 c2 L _ (HR1.new R5) HR2 hN64).mono ?_
    rintro e r6 ⟨rfl, R6⟩
    have hM6 : New w r6 := hM5.trans R6 (fun _ _ h => h)
    (try go_wp2_with fail)
    clear HR1 HR2 R4 R5 hM4 R1 R2 hM1 hM2 hM3
    refine hK.out _ _ (HSK.out _ hM6) (fun hHeld2 => ?_)
    clear hK K hHeld
    have hHeld := hHeld2
    clear hHeld2
    (try simp only [Act.put, List.setIfInBounds_toArray, List.set_cons_zero, List.set_cons_succ])
    refine heldW (i := 20) (v := ?bv20) rfl (by kernel_rfl) (by kernel_rfl) (by kernel_rfl) (fun _ _ _ h => h) (by rfl) ?bhy20 hHeld ?brest20
    case bhy20 => (intro w hSw; (try dsimp only at hSw); go_simp; try with_reducible rfl)
    simp only [Act.put, List.setIfInBounds_toArray, List.set_cons_zero, List.set_cons_succ]
    refine heldW (i := 21) (v := ?bv21) rfl (by kernel_rfl) (by kernel_rfl) (by kernel_rfl) (fun _ _ _ h => h) (by rfl) ?bhy21 hHeld ?brest21
    case bhy21 => (intro w hSw; (try dsimp only at hSw); go_simp; try with_reducible rfl)
    simp only [Act.put, List.setIfInBounds_toArray, List.set_cons_zero, List.set_cons_succ]
    refine wpAnyH_done (by kernel_rfl) ?_ _
    go_wp2_with fail
    go_loopw [5] (fun v wr => ∃ k : Nat, k ≤ 4 ∧ v = .int .i64 (k : Int) ∧ New r6 wr) (fun v _ => 4 - (intOf v).toNat)
    case atStart => exact ⟨0, Nat.zero_le _, rfl, Chg.refl _ _⟩
    case round =>
      obtain ⟨k, hk, rfl, hnw⟩ := hrel
      have HNR := Lib.hid hnw
      have HNW := Lib.hid (hM6.trans hnw (fun _ _ h => h) : New w wr)
      clear hnw
      by_cases hlt : k < 4
      · have hre : Dk.read s (k : Int) = ((s.f k), 0) := by
          unfold Dk.read
          rw [if_neg (by omega), HO.out]
          rfl
        obtain ⟨n, hn⟩ : ∃ n, (s.f k).length = n := ⟨_, rfl⟩
        have hnl := HH.out.wf.len k
        obtain ⟨A4, c4, hv4, _⟩ := H2.out.slice k
        have hrow3 := H2.out.rows k
        rw [hn] at hv4 hnl
        rw [hv4] at hrow3
        have hrow4 := hrow3.rd
        clear hrow3
        have HRD := Lib.hid (show ∀ W, New w W → Calls Try.prog 16 #[.pointer (some ⟨g, 0, none⟩), .int .i64 (k : Int)] W fun e w' => ∃ A c, e = .returned (.tuple #[.slice A n c, .int .i64 0]) ∧ Rd w' A n (bs (s.f k)) ∧ New W w' from fun W hW => (dRead_any g m V s W (HH.out.new hW) (k : Int)).mono (by rw [hre]; dsimp only; rw [hn]; rintro e w' ⟨A, c, rfl, h5, h6⟩; exact ⟨A, c, rfl, Rd.of_own h5, h6⟩))
        have HB4 := Lib.hid (show ∀ W, New w W → W.cell? ⟨g2, 1, none⟩ = some (.slice (some ⟨b, 0, none⟩) 64 64) ∧ W.cell? ⟨b, k, none⟩ = some (.slice A4 n c4) from fun W hW => ⟨(H2.out.new hW).core.cc.2.1, hv4 ▸ (H2.out.new hW).core.cb (by omega)⟩)
        have HR4 := Lib.hid hrow4
        have HSB := Lib.hid (show ∀ A3 c3 W, Rd W A3 n (bs (s.f k)) → New w W → Calls Try.prog 17 #[.slice A3 n c3, .slice A4 n c4] W fun e w' => e = .returned (.bool true) ∧ New W w' from fun A3 c3 W h1 h2 => (sameBytes_any A3 A4 n n c3 c4 (s.f k) (s.f k) W h1 (HR4.out.new h2) (by omega) (by omega)).mono (fun e w' h => ⟨by rw [h.1, decide_eq_true rfl], h.2⟩))
        have hi1 : (0 : Int) ≤ (k : Int) := by omega
        have hi2 : (k : Int) < ((64 : Nat) : Int) := by omega
        clear hre hn hv4 hrow4
        go_wp2_with (first | (go_at_call 16; refine (HRD.out _ HNW.out).mono ?_; rintro e r7 ⟨A3, c3, rfl, HR3, R7⟩; have hM7 : New w r7 := HNW.out.trans R7 (fun _ _ h => h); have hq3 := HSK.out _ hM7; obtain ⟨hq4, hq5⟩ := HB4.out _ hM7) | (go_at_call 17; refine (HSB.out _ _ _ HR3 hM7).mono ?_; rintro e r8 ⟨rfl, R8⟩))
        go_roundw
        case rel => exact ⟨k + 1, by omega, by go_num, (HNR.out.trans R7 (fun _ _ h => h) : New r6 r7).trans R8 (fun _ _ h => h)⟩
        case measure => simp [intOf]; omega
      · go_wp2
        go_ret
        exact ⟨rfl, HNW.out⟩
end Go.Proofs.Ytdflpcbkkpgnlaa
