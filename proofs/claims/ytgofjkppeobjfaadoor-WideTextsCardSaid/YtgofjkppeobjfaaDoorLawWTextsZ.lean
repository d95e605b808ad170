/- The walk of refuterlaw03.WideTexts. -/
import Derived.Test.YtgofjkppeobjfaaDoorB5
import Derived.Test.YtgofjkppeobjfaaDoorTextNZ
import Derived.Deep.CutRange
import Derived.Test.YtgofjkppeobjfaaDoorHeldZ
namespace Go.Proofs.YtgofjkppeobjfaaDoor
set_option linter.unusedVariables false
open Go.RowKit Go.Mem Go.Dig

set_option maxHeartbeats 1000000 in
theorem short_t (s : ByteArray) (hs : s.size ≤ 9223372036854775807) (w : World) :
    Calls Tryd.prog 14 #[.string s, .int .i64 30] w fun e w' => ∃ t : ByteArray, e = .returned (.string t) ∧ Hid (t.size ≤ 30) ∧ w = w' := by
  by_cases h : 30 < s.size
  · go_enter Tryd.func14, Tryd.ntmps14
    go_wp2
    go_ret
    exact ⟨s.extract 0 30, rfl, (by rw [ByteArray.size_extract]; omega : (s.extract 0 30).size ≤ 30), rfl⟩
  · go_enter Tryd.func14, Tryd.ntmps14
    go_wp2
    go_ret
    exact ⟨s, rfl, (by omega : s.size ≤ 30), rfl⟩

theorem rg_top (z : Int) : (rg z).natAbs < topN := by
  by_cases h : z.natAbs < topN
  · rw [(rg_in h).1]; exact h
  · rw [(rg_out h).1, topN_pw2]; exact Nat.lt_of_lt_of_le (by decide : (0 : Int).natAbs < pw2 0) (pw2_le (by decide))
theorem parse_both (b : ByteArray) (hn : b.size ≤ 5000) : ∃ Z E : Int, (∀ W, Calls Tryd.prog 15 #[.string b] W (RetWV W Z (.int .i64 E))) ∧ (∀ W, Calls Tryd.prog 16 #[.string b] W (RetRV W Z (.int .i64 E))) ∧ Z.natAbs < topN ∧ ((E = 0 ∧ Hid (St (Txt.text Z) = b)) ∨ E = 4 ∨ E = 2) := by
  have hb : b = St b.data.toList := (St_data b).symm
  by_cases h : ∃ z, Txt.Reads b.data.toList z
  · obtain ⟨z, hz⟩ := h
    refine ⟨rg z, rgE z, fun W => wparse_ok b _ hb hn z hz W, fun W => rparse_any b _ hb hn _ _ (.inl ⟨z, hz, rfl, rfl⟩) W, rg_top z, ?_⟩
    by_cases h : z.natAbs < topN
    · rw [(rg_in h).2]
      refine .inl ⟨rfl, ?_⟩
      show St (Txt.text (rg z)) = b
      rw [(rg_in h).1, hz.text]
      exact hb.symm
    · exact .inr (.inl (rg_out h).2)
  · have h' : ∀ z, ¬ Txt.Reads b.data.toList z := fun z hz => h ⟨z, hz⟩
    refine ⟨0, 2, fun W => ?_, fun W => rparse_any b _ hb hn _ _ (.inr ⟨h', rfl, rfl⟩) W, ?_, .inr (.inr rfl)⟩
    · exact (wparse_bad b _ hb hn h' W).mono fun e w' ⟨h1, h2⟩ => ⟨_, _, _, _, h1, WI.zero _, h2⟩
    · rw [topN_pw2]; exact Nat.lt_of_lt_of_le (by decide : (0 : Int).natAbs < pw2 0) (pw2_le (by decide))
theorem rtext_t (w : World) (v : Value) (z : Int) (b : ByteArray) (hb : St (Txt.text z) = b) (hv : RN w v z) (hz : Sm z) : Calls Tryd.prog 11 #[v] w (RetV w (.string b)) := by
  subst hb; exact rtext_any v z w hv hz.p10
theorem equal_t (w : World) (v v' : Value) (x : Int) (hx : WI w v x) (ha : RN w v' x) (hpt : PowTab w) (hz : x.natAbs < topN) : Calls Tryd.prog 17 #[v, v'] w (RetV w (.bool true)) :=
  equal_any v v' x x w hx ha hpt (Nat.lt_of_lt_of_le hz (Nat.le_trans (Nat.le_add_right _ _) top_dmax)) (Nat.lt_of_lt_of_le hz (Nat.le_trans (Nat.le_add_right _ _) top_dmax)) true (by simp)
theorem top_pk {z : Int} (h : z.natAbs < topN) (k : Nat) (hk : 16384 ≤ k) : z.natAbs < 2 ^ k := by
  rw [topN_pw2] at h
  exact Nat.lt_of_lt_of_le h (pw2_le hk)
theorem top_p9 {z : Int} (h : z.natAbs < topN) : z.natAbs < 2 ^ 900000 := top_pk h 900000 (by decide)
theorem string_t (w : World) (v : Value) (z : Int) (b : ByteArray) (hb : St (Txt.text z) = b) (hv : WI w v z) (hpt : PowTab w) (hz : z.natAbs < topN) : Calls Tryd.prog 18 #[v] w (RetV w (.string b)) := by
  subst hb; exact wstring_any v z w hv hpt (top_p9 hz)

def CutT (W : World) (v : Value) (wc : World) : Prop := ∃ g t b0 b1 b2 b3 b4, v = .slice (some ⟨g, 0, none⟩) 5 5 ∧ Blk wc g t #[.string b0, .string b1, .string b2, .string b3, .string b4] ∧ (b0.size ≤ 5000 ∧ b1.size ≤ 5000 ∧ b2.size ≤ 5000 ∧ b3.size ≤ 5000 ∧ b4.size ≤ 5000) ∧ New W wc
theorem CutT.of {W wc : World} {v : Value} {g : Nat} {t : TypeId} {b0 b1 b2 b3 b4 : ByteArray} (hv : v = .slice (some ⟨g, 0, none⟩) 5 5) (hb : Blk wc g t #[.string b0, .string b1, .string b2, .string b3, .string b4]) (hn : New W wc) (h0 : b0.size ≤ 5000) (h1 : b1.size ≤ 5000) (h2 : b2.size ≤ 5000) (h3 : b3.size ≤ 5000) (h4 : b4.size ≤ 5000) : Hid (CutT W v wc) :=
  ⟨g, t, b0, b1, b2, b3, b4, hv, hb, ⟨h0, h1, h2, h3, h4⟩, hn⟩
theorem num_dig (l : List Int) : (St (Txt.text (numI l 0))).size ≤ 1000 ∧ 1 ≤ (St (Txt.text (numI l 0))).size := by
  rw [St_size]
  refine ⟨Nat.le_trans (Txt.text_len (k := 230) (by decide) (Nat.lt_of_lt_of_le (num_lt l 0) (Nat.pow_le_pow_left (by decide) 230))) (by decide), Txt.text_len_pos _⟩

set_option maxRecDepth 100000 in
set_option maxHeartbeats 4000000 in
theorem wideTexts_walk (s : ByteArray) (hs : s.size ≤ 9223372036854775807) (A : Option Addr) (n c : Nat) (l : List Int) (q : Int) (hq1 : -9223372036854775808 ≤ q) (hq2 : q ≤ 9223372036854775807) (by_ : Int) (hb1 : 0 ≤ by_) (hb2 : by_ ≤ 255) (w : World) (hr : Rd w A n (is l)) (hl : ∀ z ∈ l, -9223372036854775808 ≤ z ∧ z ≤ 9223372036854775807) (hn : n ≤ 9223372036854775807) (hpt : PowTab w) :
    Calls Tryd.prog 3 #[.string s, .slice A n c, .int .i64 q, .int .u8 by_] w fun e w' => e = .returned (.bool true) ∧ New w w' := by
  have hnum := (number_s A n c l hl w hr hn).1
  have HT := Lib.hid hpt
  have hdig := num_dig l
  have hsm := num_sm l 0
  obtain ⟨Z, hZ⟩ : ∃ z, numI l 0 = z := ⟨_, rfl⟩
  rw [hZ] at hdig hsm hnum
  obtain ⟨B, hB⟩ : ∃ b, St (Txt.text Z) = b := ⟨_, rfl⟩
  rw [hB] at hdig
  obtain ⟨hB1, hB2⟩ := hdig
  have r1 := aroundI_range q B.size (by omega)
  obtain ⟨k, hk⟩ : ∃ a : Nat, aroundI q (B.size : Int) = a := ⟨(aroundI q (B.size : Int)).toNat, by omega⟩
  have har := fun W => around_any q B.size W hq1 hq2 (by omega) (by omega)
  rw [hk] at har r1
  have hkB : k < B.size := by omega
  have hsh := short_t s hs
  have HA := Lib.hid (And.intro hnum (And.intro har (And.intro hsm (And.intro hB hsh))))
  clear hnum har hsm hB hsh hZ hk r1 hpt hr hl hn hs hq1 hq2
  go_enter Tryd.func3, Tryd.ntmps3
  go_wp2_with fail
  refine HA.out.1.mono ?_
  rintro e u1 ⟨s1, A1, n1, c1, rfl, K1⟩
  go_wp2_with fail
  refine (rtext_t u1 _ _ B HA.out.2.2.2.1 K1.out.1 HA.out.2.2.1).mono ?_
  rintro e u2 ⟨rfl, K2⟩
  have HN := Lib.hid (K1.out.2.new K2.out)
  clear K1 K2
  go_wp2_with fail
  refine (HA.out.2.1 _).mono ?_
  rintro e wx ⟨rfl, rfl⟩
  go_upto_region 3 with fail
  go_cut [11] from 24 to 45 (fun v wc => Hid (CutT u2 v wc))
  case first =>
    have HS := Lib.hid HA.out.2.2.2.2
    obtain ⟨X1, hX1, sX1⟩ : ∃ X : ByteArray, (∀ W, (Instr.slice 9 (.string B) none (some (.int .i64 (k : Int))) none).run Tryd.prog W = .ok (.string X) W) ∧ X.size ≤ 1000 :=
      ⟨_, fun W => run_slice_string_h W 9 B Tryd.underlying9 .i64 (k : Int) (by omega) (by omega), by rw [ByteArray.size_extract]; omega⟩
    obtain ⟨X2, hX2, sX2⟩ : ∃ X : ByteArray, (∀ W, (Instr.slice 9 (.string B) (some (.int .i64 ((k : Int) + 1))) none none).run Tryd.prog W = .ok (.string X) W) ∧ X.size ≤ 1000 :=
      ⟨_, fun W => run_slice_string_l W 9 B Tryd.underlying9 .i64 ((k : Int) + 1) (by omega) (by omega), by rw [ByteArray.size_extract]; omega⟩
    obtain ⟨Y, hY, sY⟩ : ∃ Y : ByteArray, (∀ (W : World) (g : Nat), W.cell? ⟨g, 0, none⟩ = some (.int .u8 by_) → (convert 29 9 (.slice (some ⟨g, 0, none⟩) 1 1)).run Tryd.prog W = .ok (.string Y) W) ∧ Y.size = 1 := by
      refine ⟨⟨#[UInt8.ofNat by_.toNat]⟩, fun W g hg => ?_, rfl⟩
      refine run_tostr (l := [UInt8.ofNat by_.toNat]) Tryd.underlying29 Tryd.underlying5 Tryd.underlying9 ⟨rfl, fun _ => ⟨_, rfl, fun j u hu => ?_⟩⟩
      have hj : j = 0 := by
        have := (List.getElem?_eq_some_iff.1 hu).1
        simp at this
        exact this
      subst hj
      rw [show (bs [UInt8.ofNat by_.toNat])[0]? = some (.int .u8 by_) by simp [bs, By]; omega] at hu
      cases hu
      exact hg
    have hYa := hY _ u2.heap.size ((Blk.new u2 5 #[.int .u8 by_]).drew.cell 0 rfl)
    have hYb := hY _ u2.heap.size ((Blk.new u2.drew 5 #[.int .u8 by_]).cell 0 rfl)
    have hwk : IntKind.i64.wrap ((k : Int) + 1) = (k : Int) + 1 := by unfold IntKind.wrap; simp [IntKind.bits, IntKind.signed]; omega
    clear hY
    have q1 : ¬ 9223372036854775807 < X1.size + Y.size := by omega
    have q2 : ¬ 9223372036854775807 < (X1 ++ Y).size + X2.size := by rw [ByteArray.size_append]; omega
    have q2' : ¬ 9223372036854775807 < X1.size + Y.size + X2.size := by omega
    have q3 : ¬ 9223372036854775807 < B.size + B.size := by omega
    have z2 : ((X1 ++ Y) ++ X2).size ≤ 5000 := by rw [ByteArray.size_append, ByteArray.size_append]; omega
    have z4 : (B ++ B).size ≤ 5000 := by rw [ByteArray.size_append]; omega
    have HZ := Lib.hid (And.intro z2 (And.intro z4 (And.intro sX1 hB1)))
    clear HA HN HT z2 z4 sX1 sX2 sY hB1 hB2
    go_region_with
      (first
        | (go_at_call 14; (with_reducible refine (HS.out _).mono ?_); rintro e w5 ⟨t5, rfl, ht5, rfl⟩))
    all_goals
      go_wp2_with fail
      go_meet
      case rel =>
        refine CutT.of (t := 9) rfl ?_ ?_ (Nat.le_trans ht5.out (by decide)) (Nat.le_trans HZ.out.2.2.2 (by decide)) HZ.out.1 (Nat.le_trans HZ.out.2.2.1 (by decide)) HZ.out.2.1
        · repeat (first | (refine Blk.new' ?_; (first | rfl | (simp; done))) | refine Blk.alloc ?_ _ | refine Blk.drew ?_)
        · repeat (first | exact Chg.refl _ _ | refine Chg.alloc ?_ _ | refine Chg.drew ?_)
  case rest =>
    obtain ⟨G, tt, b0, b1, b2, b3, b4, rfl, hbG, hsz, hNG⟩ := Hid.out hcut
    obtain ⟨W6, hwc⟩ : ∃ x : World, x = wc := ⟨_, rfl⟩
    subst hwc
    have HG := Lib.hid (And.intro hbG hsz)
    have HW6 := Lib.hid (HN.out.new hNG)
    clear hcut hbG hsz hNG HN HA
    go_wp2_with fail
    go_loopw [12, 13, 14, 15, 16] (fun i _ _ _ _ wr => ∃ j : Nat, i = .int .i64 (j : Int) ∧ j ≤ 5 ∧ Hid (New W6 wr)) (fun i _ _ _ _ _ => 5 - (intOf i).toNat)
    case atStart => exact ⟨0, rfl, by omega, Chg.refl _ _⟩
    case round =>
      obtain ⟨j, rfl, hj, HI⟩ := hrel
      obtain ⟨wo, rfl⟩ : ∃ wo : World, wo = wr := ⟨_, rfl⟩
      by_cases hlt : j < 5
      · obtain ⟨b, hbs, hjc⟩ : ∃ b : ByteArray, b.size ≤ 5000 ∧ ∀ w', New W6 w' → w'.cell? ⟨G, j, none⟩ = some (.string b) := by
          rcases (by omega : j = 0 ∨ j = 1 ∨ j = 2 ∨ j = 3 ∨ j = 4) with rfl | rfl | rfl | rfl | rfl
          · exact ⟨_, HG.out.2.1, fun w' h => (HG.out.1.chg h (fun h => h)).cell 0 rfl⟩
          · exact ⟨_, HG.out.2.2.1, fun w' h => (HG.out.1.chg h (fun h => h)).cell 1 rfl⟩
          · exact ⟨_, HG.out.2.2.2.1, fun w' h => (HG.out.1.chg h (fun h => h)).cell 2 rfl⟩
          · exact ⟨_, HG.out.2.2.2.2.1, fun w' h => (HG.out.1.chg h (fun h => h)).cell 3 rfl⟩
          · exact ⟨_, HG.out.2.2.2.2.2, fun w' h => (HG.out.1.chg h (fun h => h)).cell 4 rfl⟩
        obtain ⟨Z', E, hp1, hp2, hzt, hEc⟩ := parse_both b hbs
        have HP := Lib.hid (And.intro hp1 (And.intro hp2 (And.intro hzt hjc)))
        have hlti : (j : Int) < 5 := by omega
        have hc0 := hjc wo HI.out
        clear hp1 hp2 hzt hjc hbs HG hB1 hB2 hkB
        go_wp2_with fail
        clear hc0
        refine (HP.out.1 wo).mono ?_
        rintro e u7 ⟨sx, Ax, nx, cx, rfl, K7⟩
        have hc0 := HP.out.2.2.2 _ ((HI.out.new K7.out.2).alloc (.cells #[.bool sx, .slice Ax nx cx] 33))
        go_wp2_with fail
        clear hc0
        refine Calls.new1 ?_
        intro W8 hbx hn8 hz8
        obtain ⟨gx, hgx⟩ : ∃ x, u7.heap.size = x := ⟨_, rfl⟩
        rw [hgx] at hbx
        simp only [hgx]
        have HN8 := Lib.hid ((HI.out.new K7.out.2).new hn8)
        have HX : Hid (WX W8 gx sx Ax nx cx Z') := Lib.hid ⟨hbx, K7.out.1.new hn8⟩
        clear hbx hn8 hz8 hgx K7 HI
        refine (HP.out.2.1 W8).mono ?_
        rintro e u9 ⟨sy, Ay, ny, cy, rfl, K9⟩
        go_upto_region 9 with fail
        refine Code.new1 ?_
        intro W10 hby hn10 hz10
        obtain ⟨gy, hgy⟩ : ∃ x, u9.heap.size = x := ⟨_, rfl⟩
        rw [hgy] at hby
        simp only [hgy]
        have HN10 := Lib.hid (HN8.out.new (K9.out.2.new hn10))
        have HY : Hid (RX W10 gy sy Ay ny cy Z') := Lib.hid ⟨hby, K9.out.1.new hn10⟩
        have HXX := Lib.hid (HX.out.new (K9.out.2.new hn10))
        clear hby hn10 hz10 hgy K9 HX HN8
        have hq0 : ∀ W', New W10 W' → Calls Tryd.prog 17 #[.agg #[.bool sx, .slice Ax nx cx], .agg #[.bool sy, .slice Ay ny cy]] W' (RetV W' (.bool true)) := fun W' h => equal_t W' _ _ Z' (HXX.out.new h).2 (HY.out.new h).2 (HT.out.new (HW6.out.new (HN10.out.new h))) HP.out.2.2.1
        have HQ0 := Lib.hid hq0
        have hsk : ∀ w', New W10 w' → w'.cell? ⟨gx, 0, none⟩ = some (.bool sx) ∧ w'.cell? ⟨gx, 1, none⟩ = some (.slice Ax nx cx) ∧ w'.cell? ⟨gy, 0, none⟩ = some (.bool sy) ∧ w'.cell? ⟨gy, 1, none⟩ = some (.slice Ay ny cy) ∧ w'.cell? ⟨G, j, none⟩ = some (.string b) := fun w' h => ⟨(HXX.out.new h).c0, (HXX.out.new h).c1, (HY.out.new h).c0, (HY.out.new h).c1, HP.out.2.2.2 _ (HN10.out.new h)⟩
        have HSK := Lib.hid hsk
        have hN0 : New W10 W10.drew := (Chg.refl _ _).drew
        obtain ⟨hs0, hs1, hs2, hs3, hs4⟩ := hsk W10 (Chg.refl _ _)
        clear hsk hq0
        rcases hEc with ⟨rfl, HB⟩ | rfl | rfl
        · have hq1 : ∀ W', New W10 W' → Calls Tryd.prog 18 #[.agg #[.bool sx, .slice Ax nx cx]] W' (RetV W' (.string b)) := fun W' h => string_t W' _ Z' b HB.out (HXX.out.new h).2 (HT.out.new (HW6.out.new (HN10.out.new h))) HP.out.2.2.1
          have HQ1 := Lib.hid hq1
          clear hq1
          go_region_held3 (fun w' => w'.cell? ⟨gx, 0, none⟩ = some (.bool sx) ∧ w'.cell? ⟨gx, 1, none⟩ = some (.slice Ax nx cx) ∧ w'.cell? ⟨gy, 0, none⟩ = some (.bool sy) ∧ w'.cell? ⟨gy, 1, none⟩ = some (.slice Ay ny cy) ∧ w'.cell? ⟨G, j, none⟩ = some (.string b)) (first | exact HSK.out _ (by assumption) | exact HSK.out _ (Chg.refl _ _))
            (first
              | (go_at_call 17; (with_reducible refine (HQ0.out _ hN0).mono ?_); rintro e r0 ⟨rfl, R0⟩; have hM0 := hN0.new R0.out)
              | (go_at_call 18; (with_reducible refine (HQ1.out _ hM0).mono ?_); rintro e r1 ⟨rfl, R1⟩; have hM1 := hM0.new R1.out))
          all_goals
            have HE := Lib.hid (HN10.out.new hM1)
            clear hs0 hs1 hs2 hs3 hs4 HSK HQ0 HQ1 hN0 hM0 hM1 R0 R1 HN10 HXX HY
            go_wp2
            go_roundw
            case rel => exact ⟨j + 1, by go_num, by omega, HE.out⟩
            case measure => simp [intOf]; omega
        · refine wp_region_held_drew (S := fun w' => w'.cell? ⟨gx, 0, none⟩ = some (.bool sx) ∧ w'.cell? ⟨gx, 1, none⟩ = some (.slice Ax nx cx) ∧ w'.cell? ⟨gy, 0, none⟩ = some (.bool sy) ∧ w'.cell? ⟨gy, 1, none⟩ = some (.slice Ay ny cy) ∧ w'.cell? ⟨G, j, none⟩ = some (.string b)) (by kernel_rfl) (HSK.out _ hN0) (fun hHeld => ?_)
          refine heldW (i := 0) (v := ?av0) rfl (by kernel_rfl) (by kernel_rfl) (by kernel_rfl) (fun _ _ _ h => h) (by rfl) ?ahy0 hHeld ?arest0
          case ahy0 => (intro w hSw; (try dsimp only at hSw); go_simp; try with_reducible rfl)
          simp only [Act.put, List.setIfInBounds_toArray, List.set_cons_zero, List.set_cons_succ]
          refine heldW (i := 1) (v := ?av1) rfl (by kernel_rfl) (by kernel_rfl) (by kernel_rfl) (fun _ _ _ h => h) (by rfl) ?ahy1 hHeld ?arest1
          case ahy1 => (intro w hSw; (try dsimp only at hSw); go_simp; try with_reducible rfl)
          simp only [Act.put, List.setIfInBounds_toArray, List.set_cons_zero, List.set_cons_succ]
          refine heldW (i := 2) (v := ?av2) rfl (by kernel_rfl) (by kernel_rfl) (by kernel_rfl) (fun _ _ _ h => h) (by rfl) ?ahy2 hHeld ?arest2
          case ahy2 => (intro w hSw; (try dsimp only at hSw); go_simp; try with_reducible rfl)
          simp only [Act.put, List.setIfInBounds_toArray, List.set_cons_zero, List.set_cons_succ]
          refine heldW (i := 3) (v := ?av3) rfl (by kernel_rfl) (by kernel_rfl) (by kernel_rfl) (fun _ _ _ h => h) (by rfl) ?ahy3 hHeld ?arest3
          case ahy3 => (intro w hSw; (try dsimp only at hSw); go_simp; try with_reducible rfl)
          simp only [Act.put, List.setIfInBounds_toArray, List.set_cons_zero, List.set_cons_succ]
          refine heldW (i := 4) (v := ?av4) rfl (by kernel_rfl) (by kernel_rfl) (by kernel_rfl) (fun _ _ _ h => h) (by rfl) ?ahy4 hHeld ?arest4
          case ahy4 => (intro w hSw; (try dsimp only at hSw); go_simp; try with_reducible rfl)
          simp only [Act.put, List.setIfInBounds_toArray, List.set_cons_zero, List.set_cons_succ]
          refine heldW (i := 5) (v := ?av5) rfl (by kernel_rfl) (by kernel_rfl) (by kernel_rfl) (fun _ _ _ h => h) (by rfl) ?ahy5 hHeld ?arest5
          case ahy5 => (intro w hSw; (try dsimp only at hSw); go_simp; try with_reducible rfl)
          simp only [Act.put, List.setIfInBounds_toArray, List.set_cons_zero, List.set_cons_succ]
          refine heldC (i := 6) rfl (by kernel_rfl) (by rfl) (fun K hK => ?_)
          go_simp
          refine (HQ0.out _ hN0).mono ?_
          rintro e r0 ⟨rfl, R0⟩
          have hM0 := hN0.new R0.out
          (try go_wp2_with fail)
          refine hK.out _ _ (HSK.out _ hM0) (fun hHeld2 => ?_)
          clear hK K hHeld
          have hHeld := hHeld2
          clear hHeld2
          (try simp only [Act.put, List.setIfInBounds_toArray, List.set_cons_zero, List.set_cons_succ])
          refine heldW (i := 7) (v := ?av7) rfl (by kernel_rfl) (by kernel_rfl) (by kernel_rfl) (fun _ _ _ h => h) (by rfl) ?ahy7 hHeld ?arest7
          case ahy7 => (intro w hSw; (try dsimp only at hSw); go_simp; try with_reducible rfl)
          simp only [Act.put, List.setIfInBounds_toArray, List.set_cons_zero, List.set_cons_succ]
          refine heldW (i := 8) (v := ?av8) rfl (by kernel_rfl) (by kernel_rfl) (by kernel_rfl) (fun _ _ _ h => h) (by rfl) ?ahy8 hHeld ?arest8
          case ahy8 => (intro w hSw; (try dsimp only at hSw); go_simp; try with_reducible rfl)
          simp only [Act.put, List.setIfInBounds_toArray, List.set_cons_zero, List.set_cons_succ]
          refine heldW (i := 9) (v := ?av9) rfl (by kernel_rfl) (by kernel_rfl) (by kernel_rfl) (fun _ _ _ h => h) (by rfl) ?ahy9 hHeld ?arest9
          case ahy9 => (intro w hSw; (try dsimp only at hSw); go_simp; try with_reducible rfl)
          simp only [Act.put, List.setIfInBounds_toArray, List.set_cons_zero, List.set_cons_succ]
          refine heldW (i := 10) (v := ?av10) rfl (by kernel_rfl) (by kernel_rfl) (by kernel_rfl) (fun _ _ _ h => h) (by rfl) ?ahy10 hHeld ?arest10
          case ahy10 => (intro w hSw; (try dsimp only at hSw); go_simp; try with_reducible rfl)
          simp only [Act.put, List.setIfInBounds_toArray, List.set_cons_zero, List.set_cons_succ]
          refine heldW (i := 11) (v := ?av11) rfl (by kernel_rfl) (by kernel_rfl) (by kernel_rfl) (fun _ _ _ h => h) (by rfl) ?ahy11 hHeld ?arest11
          case ahy11 => (intro w hSw; (try dsimp only at hSw); go_simp; try with_reducible rfl)
          simp only [Act.put, List.setIfInBounds_toArray, List.set_cons_zero, List.set_cons_succ]
          refine heldW (i := 12) (v := ?av12) rfl (by kernel_rfl) (by kernel_rfl) (by kernel_rfl) (fun _ _ _ h => h) (by rfl) ?ahy12 hHeld ?arest12
          case ahy12 => (intro w hSw; (try dsimp only at hSw); go_simp; try with_reducible rfl)
          simp only [Act.put, List.setIfInBounds_toArray, List.set_cons_zero, List.set_cons_succ]
          refine heldU (i := 13) rfl (by kernel_rfl) (by kernel_rfl) (by kernel_rfl) (fun _ _ _ h => h) (by rfl) hHeld ?_
          simp only [Act.put, List.setIfInBounds_toArray, List.set_cons_zero, List.set_cons_succ]
          refine heldU (i := 14) rfl (by kernel_rfl) (by kernel_rfl) (by kernel_rfl) (fun _ _ _ h => h) (by rfl) hHeld ?_
          simp only [Act.put, List.setIfInBounds_toArray, List.set_cons_zero, List.set_cons_succ]
          refine heldU (i := 15) rfl (by kernel_rfl) (by kernel_rfl) (by kernel_rfl) (fun _ _ _ h => h) (by rfl) hHeld ?_
          simp only [Act.put, List.setIfInBounds_toArray, List.set_cons_zero, List.set_cons_succ]
          refine heldU (i := 16) rfl (by kernel_rfl) (by kernel_rfl) (by kernel_rfl) (fun _ _ _ h => h) (by rfl) hHeld ?_
          simp only [Act.put, List.setIfInBounds_toArray, List.set_cons_zero, List.set_cons_succ]
          refine heldU (i := 17) rfl (by kernel_rfl) (by kernel_rfl) (by kernel_rfl) (fun _ _ _ h => h) (by rfl) hHeld ?_
          simp only [Act.put, List.setIfInBounds_toArray, List.set_cons_zero, List.set_cons_succ]
          refine heldU (i := 18) rfl (by kernel_rfl) (by kernel_rfl) (by kernel_rfl) (fun _ _ _ h => h) (by rfl) hHeld ?_
          simp only [Act.put, List.setIfInBounds_toArray, List.set_cons_zero, List.set_cons_succ]
          refine heldU (i := 19) rfl (by kernel_rfl) (by kernel_rfl) (by kernel_rfl) (fun _ _ _ h => h) (by rfl) hHeld ?_
          simp only [Act.put, List.setIfInBounds_toArray, List.set_cons_zero, List.set_cons_succ]
          refine heldW (i := 20) (v := ?av20) rfl (by kernel_rfl) (by kernel_rfl) (by kernel_rfl) (fun _ _ _ h => h) (by rfl) ?ahy20 hHeld ?arest20
          case ahy20 => (intro w hSw; (try dsimp only at hSw); go_simp; try with_reducible rfl)
          simp only [Act.put, List.setIfInBounds_toArray, List.set_cons_zero, List.set_cons_succ]
          refine heldW (i := 21) (v := ?av21) rfl (by kernel_rfl) (by kernel_rfl) (by kernel_rfl) (fun _ _ _ h => h) (by rfl) ?ahy21 hHeld ?arest21
          case ahy21 => (intro w hSw; (try dsimp only at hSw); go_simp; try with_reducible rfl)
          simp only [Act.put, List.setIfInBounds_toArray, List.set_cons_zero, List.set_cons_succ]
          refine wpAnyH_done (by kernel_rfl) ?_ _
          have HE := Lib.hid (HN10.out.new hM0)
          clear hs0 hs1 hs2 hs3 hs4 HSK HQ0 hN0 hM0 R0 HN10 HXX HY hHeld
          go_wp2
          go_roundw
          case rel => exact ⟨j + 1, by go_num, by omega, HE.out⟩
          case measure => simp [intOf]; omega
        · refine wp_region_held_drew (S := fun w' => w'.cell? ⟨gx, 0, none⟩ = some (.bool sx) ∧ w'.cell? ⟨gx, 1, none⟩ = some (.slice Ax nx cx) ∧ w'.cell? ⟨gy, 0, none⟩ = some (.bool sy) ∧ w'.cell? ⟨gy, 1, none⟩ = some (.slice Ay ny cy) ∧ w'.cell? ⟨G, j, none⟩ = some (.string b)) (by kernel_rfl) (HSK.out _ hN0) (fun hHeld => ?_)
          refine heldW (i := 0) (v := ?bv0) rfl (by kernel_rfl) (by kernel_rfl) (by kernel_rfl) (fun _ _ _ h => h) (by rfl) ?bhy0 hHeld ?brest0
          case bhy0 => (intro w hSw; (try dsimp only at hSw); go_simp; try with_reducible rfl)
          simp only [Act.put, List.setIfInBounds_toArray, List.set_cons_zero, List.set_cons_succ]
          refine heldW (i := 1) (v := ?bv1) rfl (by kernel_rfl) (by kernel_rfl) (by kernel_rfl) (fun _ _ _ h => h) (by rfl) ?bhy1 hHeld ?brest1
          case bhy1 => (intro w hSw; (try dsimp only at hSw); go_simp; try with_reducible rfl)
          simp only [Act.put, List.setIfInBounds_toArray, List.set_cons_zero, List.set_cons_succ]
          refine heldW (i := 2) (v := ?bv2) rfl (by kernel_rfl) (by kernel_rfl) (by kernel_rfl) (fun _ _ _ h => h) (by rfl) ?bhy2 hHeld ?brest2
          case bhy2 => (intro w hSw; (try dsimp only at hSw); go_simp; try with_reducible rfl)
          simp only [Act.put, List.setIfInBounds_toArray, List.set_cons_zero, List.set_cons_succ]
          refine heldW (i := 3) (v := ?bv3) rfl (by kernel_rfl) (by kernel_rfl) (by kernel_rfl) (fun _ _ _ h => h) (by rfl) ?bhy3 hHeld ?brest3
          case bhy3 => (intro w hSw; (try dsimp only at hSw); go_simp; try with_reducible rfl)
          simp only [Act.put, List.setIfInBounds_toArray, List.set_cons_zero, List.set_cons_succ]
          refine heldW (i := 4) (v := ?bv4) rfl (by kernel_rfl) (by kernel_rfl) (by kernel_rfl) (fun _ _ _ h => h) (by rfl) ?bhy4 hHeld ?brest4
          case bhy4 => (intro w hSw; (try dsimp only at hSw); go_simp; try with_reducible rfl)
          simp only [Act.put, List.setIfInBounds_toArray, List.set_cons_zero, List.set_cons_succ]
          refine heldW (i := 5) (v := ?bv5) rfl (by kernel_rfl) (by kernel_rfl) (by kernel_rfl) (fun _ _ _ h => h) (by rfl) ?bhy5 hHeld ?brest5
          case bhy5 => (intro w hSw; (try dsimp only at hSw); go_simp; try with_reducible rfl)
          simp only [Act.put, List.setIfInBounds_toArray, List.set_cons_zero, List.set_cons_succ]
          refine heldC (i := 6) rfl (by kernel_rfl) (by rfl) (fun K hK => ?_)
          go_simp
          refine (HQ0.out _ hN0).mono ?_
          rintro e r0 ⟨rfl, R0⟩
          have hM0 := hN0.new R0.out
          (try go_wp2_with fail)
          refine hK.out _ _ (HSK.out _ hM0) (fun hHeld2 => ?_)
          clear hK K hHeld
          have hHeld := hHeld2
          clear hHeld2
          (try simp only [Act.put, List.setIfInBounds_toArray, List.set_cons_zero, List.set_cons_succ])
          refine heldW (i := 7) (v := ?bv7) rfl (by kernel_rfl) (by kernel_rfl) (by kernel_rfl) (fun _ _ _ h => h) (by rfl) ?bhy7 hHeld ?brest7
          case bhy7 => (intro w hSw; (try dsimp only at hSw); go_simp; try with_reducible rfl)
          simp only [Act.put, List.setIfInBounds_toArray, List.set_cons_zero, List.set_cons_succ]
          refine heldW (i := 8) (v := ?bv8) rfl (by kernel_rfl) (by kernel_rfl) (by kernel_rfl) (fun _ _ _ h => h) (by rfl) ?bhy8 hHeld ?brest8
          case bhy8 => (intro w hSw; (try dsimp only at hSw); go_simp; try with_reducible rfl)
          simp only [Act.put, List.setIfInBounds_toArray, List.set_cons_zero, List.set_cons_succ]
          refine heldW (i := 9) (v := ?bv9) rfl (by kernel_rfl) (by kernel_rfl) (by kernel_rfl) (fun _ _ _ h => h) (by rfl) ?bhy9 hHeld ?brest9
          case bhy9 => (intro w hSw; (try dsimp only at hSw); go_simp; try with_reducible rfl)
          simp only [Act.put, List.setIfInBounds_toArray, List.set_cons_zero, List.set_cons_succ]
          refine heldW (i := 10) (v := ?bv10) rfl (by kernel_rfl) (by kernel_rfl) (by kernel_rfl) (fun _ _ _ h => h) (by rfl) ?bhy10 hHeld ?brest10
          case bhy10 => (intro w hSw; (try dsimp only at hSw); go_simp; try with_reducible rfl)
          simp only [Act.put, List.setIfInBounds_toArray, List.set_cons_zero, List.set_cons_succ]
          refine heldW (i := 11) (v := ?bv11) rfl (by kernel_rfl) (by kernel_rfl) (by kernel_rfl) (fun _ _ _ h => h) (by rfl) ?bhy11 hHeld ?brest11
          case bhy11 => (intro w hSw; (try dsimp only at hSw); go_simp; try with_reducible rfl)
          simp only [Act.put, List.setIfInBounds_toArray, List.set_cons_zero, List.set_cons_succ]
          refine heldW (i := 12) (v := ?bv12) rfl (by kernel_rfl) (by kernel_rfl) (by kernel_rfl) (fun _ _ _ h => h) (by rfl) ?bhy12 hHeld ?brest12
          case bhy12 => (intro w hSw; (try dsimp only at hSw); go_simp; try with_reducible rfl)
          simp only [Act.put, List.setIfInBounds_toArray, List.set_cons_zero, List.set_cons_succ]
          refine heldU (i := 13) rfl (by kernel_rfl) (by kernel_rfl) (by kernel_rfl) (fun _ _ _ h => h) (by rfl) hHeld ?_
          simp only [Act.put, List.setIfInBounds_toArray, List.set_cons_zero, List.set_cons_succ]
          refine heldU (i := 14) rfl (by kernel_rfl) (by kernel_rfl) (by kernel_rfl) (fun _ _ _ h => h) (by rfl) hHeld ?_
          simp only [Act.put, List.setIfInBounds_toArray, List.set_cons_zero, List.set_cons_succ]
          refine heldU (i := 15) rfl (by kernel_rfl) (by kernel_rfl) (by kernel_rfl) (fun _ _ _ h => h) (by rfl) hHeld ?_
          simp only [Act.put, List.setIfInBounds_toArray, List.set_cons_zero, List.set_cons_succ]
          refine heldU (i := 16) rfl (by kernel_rfl) (by kernel_rfl) (by kernel_rfl) (fun _ _ _ h => h) (by rfl) hHeld ?_
          simp only [Act.put, List.setIfInBounds_toArray, List.set_cons_zero, List.set_cons_succ]
          refine heldU (i := 17) rfl (by kernel_rfl) (by kernel_rfl) (by kernel_rfl) (fun _ _ _ h => h) (by rfl) hHeld ?_
          simp only [Act.put, List.setIfInBounds_toArray, List.set_cons_zero, List.set_cons_succ]
          refine heldU (i := 18) rfl (by kernel_rfl) (by kernel_rfl) (by kernel_rfl) (fun _ _ _ h => h) (by rfl) hHeld ?_
          simp only [Act.put, List.setIfInBounds_toArray, List.set_cons_zero, List.set_cons_succ]
          refine heldU (i := 19) rfl (by kernel_rfl) (by kernel_rfl) (by kernel_rfl) (fun _ _ _ h => h) (by rfl) hHeld ?_
          simp only [Act.put, List.setIfInBounds_toArray, List.set_cons_zero, List.set_cons_succ]
          refine heldW (i := 20) (v := ?bv20) rfl (by kernel_rfl) (by kernel_rfl) (by kernel_rfl) (fun _ _ _ h => h) (by rfl) ?bhy20 hHeld ?brest20
          case bhy20 => (intro w hSw; (try dsimp only at hSw); go_simp; try with_reducible rfl)
          simp only [Act.put, List.setIfInBounds_toArray, List.set_cons_zero, List.set_cons_succ]
          refine heldW (i := 21) (v := ?bv21) rfl (by kernel_rfl) (by kernel_rfl) (by kernel_rfl) (fun _ _ _ h => h) (by rfl) ?bhy21 hHeld ?brest21
          case bhy21 => (intro w hSw; (try dsimp only at hSw); go_simp; try with_reducible rfl)
          simp only [Act.put, List.setIfInBounds_toArray, List.set_cons_zero, List.set_cons_succ]
          refine wpAnyH_done (by kernel_rfl) ?_ _
          have HE := Lib.hid (HN10.out.new hM0)
          clear hs0 hs1 hs2 hs3 hs4 HSK HQ0 hN0 hM0 R0 HN10 HXX HY hHeld
          go_wp2
          go_roundw
          case rel => exact ⟨j + 1, by go_num, by omega, HE.out⟩
          case measure => simp [intOf]; omega
      · obtain rfl : j = 5 := by omega
        have hge : decide (((5 : Nat) : Int) < 5) = false := by simp
        clear HG
        go_wp2_with fail
        refine (lives_s wo (HT.out.new (HW6.out.new HI.out))).mono ?_
        rintro e wl ⟨rfl, KL⟩
        have HE := Lib.hid ((HW6.out.new HI.out).new KL.out)
        clear hge
        go_wp2
        go_ret
        exact ⟨rfl, HE.out⟩
end Go.Proofs.YtgofjkppeobjfaaDoor
