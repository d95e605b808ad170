/- Contract of refuterref05.digits. -/
import Derived.Test.YtcjbndlhomokpaaRefK
import Derived.Deep.RegionWith
namespace Go.Proofs.Ytcjbndlhomokpaa
set_option linter.unusedVariables false
open Go.RowKit Go.Mem Go.Dig Go.Pure

/-- The words of a stream from an index on, as digits. -/
def wordsL (seed : Int) (lab : List UInt8) (at_ : Int) (k : Nat) : List Nat := (List.range k).map (fun e : Nat => (wordI seed lab (at_ + e)).toNat)
theorem wordsL_len (seed : Int) (lab : List UInt8) (at_ : Int) (k : Nat) : (wordsL seed lab at_ k).length = k := by simp [wordsL]
theorem wordsL_at (seed : Int) (lab : List UInt8) (at_ : Int) {k e : Nat} (h : e < k) : (wordsL seed lab at_ k)[e]? = some (wordI seed lab (at_ + e)).toNat := by
  unfold wordsL
  rw [List.getElem?_map, List.getElem?_range h]
  rfl
theorem wordI_range (seed : Int) (lab : List UInt8) (i : Int) : 0 ≤ wordI seed lab i ∧ wordI seed lab i ≤ 18446744073709551615 := sumI_range' _ _
theorem wordsL_digs (seed : Int) (lab : List UInt8) (at_ : Int) (k : Nat) : Digs 18446744073709551616 (wordsL seed lab at_ k) := by
  intro d hd
  obtain ⟨e, _, rfl⟩ := List.mem_map.1 hd
  have := wordI_range seed lab (at_ + e)
  omega
theorem words_big {l : List Nat} (h : Digs 18446744073709551616 l) (hl : l.length ≤ 300) : ((val 18446744073709551616 l : Nat) : Int).natAbs < 2 ^ 1000000 := by
  rw [Int.natAbs_natCast]
  refine Nat.lt_of_lt_of_le (val_lt h) ?_
  rw [show 18446744073709551616 = 2 ^ 64 from rfl, ← Nat.pow_mul]
  exact pow_le2 _ 1000000 (by omega)
theorem words_big64 {l : List Nat} (h : Digs 18446744073709551616 l) (hl : l.length ≤ 300) : ((val 18446744073709551616 l : Int) * ((2 ^ 64 : Nat) : Int)).natAbs < 2 ^ 1000000 := by
  rw [← Int.natCast_mul, Int.natAbs_natCast]
  have h1 := val_lt h
  rw [show 18446744073709551616 = 2 ^ 64 from rfl, ← Nat.pow_mul] at h1
  refine Nat.lt_of_lt_of_le (Nat.mul_lt_mul_of_pos_right h1 (by decide)) ?_
  rw [← Nat.pow_add]
  exact pow_le2 _ 1000000 (by omega)

theorem power64_h (W : World) :
    Calls Try.prog 52 #[.int .i64 64] W fun e w' => ∃ s A n c, e = .returned (.agg #[.bool s, .slice A n c]) ∧ Hid (RN w' (.agg #[.bool s, .slice A n c]) ((2 ^ 64 : Nat) : Int) ∧ New W w') := by
  have h := power_h 64 (by omega) W
  rw [show ((64 : Nat) : Int) = 64 from rfl] at h
  exact h

set_option maxRecDepth 100000 in
set_option maxHeartbeats 4000000 in
theorem rdigits_any (seed : Int) (lab : ByteArray) (hlab : lab.size ≤ 1000000) (at_ : Int) (hat : 0 ≤ at_ ∧ at_ ≤ 10000000000) (k : Nat) (hk : k ≤ 300) (w : World) :
    Calls Try.prog 55 #[.int .u64 seed, .string lab, .int .i64 at_, .int .i64 k] w fun e w' => ∃ s A n c, e = .returned (.agg #[.bool s, .slice A n c]) ∧ Hid (RN w' (.agg #[.bool s, .slice A n c]) ((val 18446744073709551616 (wordsL seed lab.data.toList at_ k) : Nat) : Int) ∧ New w w') := by
  obtain ⟨L, hL⟩ : ∃ L, wordsL seed lab.data.toList at_ k = L := ⟨_, rfl⟩
  rw [hL]
  have hLl : L.length = k := by rw [← hL]; exact wordsL_len _ _ _ _
  have hLd : Digs 18446744073709551616 L := by rw [← hL]; exact wordsL_digs _ _ _ _
  have hLa : ∀ e, e < k → L[e]? = some (wordI seed lab.data.toList (at_ + e)).toNat := fun e he => by rw [← hL]; exact wordsL_at _ _ _ he
  have HL := Lib.hid (And.intro hLl (And.intro hLd hLa))
  obtain ⟨hat1, hat2⟩ := hat
  clear hL hLl hLd hLa
  go_enter Try.func55, Try.ntmps55
  go_wp2_with fail
  refine Code.new2 ?_
  intro W0 hb1 hb2 hn0 hz0
  have H0 := Lib.hid (And.intro hb1 (And.intro hb2 hn0))
  clear hb1 hb2 hn0 hz0
  go_loopw [10] (fun v wr => ∃ j : Nat, ∃ s A n c, v = .int .i64 ((j : Int) - 1) ∧ j ≤ k ∧ Hid (Blk wr w.heap.size 58 #[.bool false, .slice none 0 0] ∧ Blk wr (w.heap.size + 1) 58 #[.bool s, .slice A n c] ∧ RN wr (.agg #[.bool s, .slice A n c]) ((val 18446744073709551616 (L.drop j) : Nat) : Int) ∧ New w wr)) (fun v _ => (intOf v + 1).toNat)
  case atStart =>
    refine ⟨k, false, none, 0, 0, rfl, Nat.le_refl _, H0.out.1, H0.out.2.1, ?_, H0.out.2.2⟩
    rw [List.drop_of_length_le (by rw [HL.out.1]; exact Nat.le_refl _)]
    exact RN.zero _
  case round =>
    clear H0
    obtain ⟨j, s, A, n, c, rfl, hj, HI⟩ := hrel
    have hc10 := HI.out.2.1.cell 0 (u := .bool s) rfl
    have hc11 := HI.out.2.1.cell 1 (u := .slice A n c) rfl
    by_cases h0 : j = 0
    · subst h0
      have x0 := HI.out.1.cell 0 (u := .bool false) rfl
      have x1 := HI.out.1.cell 1 (u := .slice none 0 0) rfl
      have f0 := HI.out.1.frozen 0
      have f1 := HI.out.1.frozen 1
      go_wp2
      obtain ⟨i1, i2, i3, i4⟩ := HI.out
      rw [List.drop_zero] at i3
      refine bodyPost_ret (res_c rfl _ rfl (aggN.load (i1.set2 _ _))) rfl ⟨s, A, n, c, rfl, i3.store i1 (noInt_two' _ _ _ _) (Chg.at2 _ _ _ _), ?_⟩
      exact Chg.owned i4 (Chg.at2 _ _ _ _) (fun k e => by omega)
    · obtain ⟨i, rfl⟩ : ∃ i, j = i + 1 := ⟨j - 1, by omega⟩
      have hij : (((i + 1 : Nat) : Int) - 1) = (i : Int) := by omega
      rw [hij]
      obtain ⟨wo, rfl⟩ : ∃ wo : World, wo = wr := ⟨_, rfl⟩
      have hLi := HL.out.2.2 i (by omega)
      have hwr := wordI_range seed lab.data.toList (at_ + i)
      obtain ⟨d, hd⟩ : ∃ d : Nat, wordI seed lab.data.toList (at_ + i) = (d : Int) := ⟨(wordI seed lab.data.toList (at_ + i)).toNat, by omega⟩
      rw [hd, Int.toNat_natCast] at hLi
      have hdb : d < 18446744073709551616 := by omega
      have b1 := words_big (HL.out.2.1.drop (i + 1)) (by rw [List.length_drop, HL.out.1]; omega)
      have b3 := words_big64 (HL.out.2.1.drop (i + 1)) (by rw [List.length_drop, HL.out.1]; omega)
      have b4 : ((d : Nat) : Int).natAbs < 2 ^ 1000000 := small_big (by omega) (by omega)
      have hst : (val 18446744073709551616 (L.drop (i + 1)) : Int) * ((2 ^ 64 : Nat) : Int) + (d : Int) = ((val 18446744073709551616 (L.drop i) : Nat) : Int) := by
        rw [val_drop hLi, Int.natCast_add, Int.natCast_mul]
        rw [show ((2 ^ 64 : Nat) : Int) = ((18446744073709551616 : Nat) : Int) from rfl, Int.mul_comm]
        omega
      have HS := Lib.hid (And.intro hd (And.intro b1 (And.intro b3 (And.intro b4 hst))))
      have g1 : IntKind.i64.wrap (at_ + (i : Int)) = at_ + (i : Int) := IntWalk.i64_in _ (by omega)
      have HN0 : Hid (New wo wo.drew) := (Chg.refl _ wo).drew
      have hwd := fun W => word_any seed lab hlab (at_ + (i : Int)) W
      have HWD := Lib.hid (fun W => (rword_any seed lab hlab (at_ + (i : Int)) W))
      clear hij hLi hwr hd b1 b3 b4 hst hwd
      go_wp2_with fail
      go_region_with (first
        | (go_at_call 52; (with_reducible refine (power64_h _).mono ?_); rintro e w5 ⟨s5, A5, n5, c5, rfl, H5⟩; have HN5 : Hid (New wo w5) := HN0.out.new H5.out.2; have hd10 := HN5.out.cell hc10 (fun h => h); have hd11 := HN5.out.cell hc11 (fun h => h))
        | (go_at_call 71; (with_reducible refine (rmul_h _ _ _ _ _ (HI.out.2.2.1.new HN5.out) H5.out.1 HS.out.2.1 (pow_big (t := 64) (by omega))).mono ?_); rintro e w6 ⟨s6, A6, n6, c6, rfl, H6⟩; have HN6 : Hid (New wo w6) := HN5.out.new H6.out.2)
        | (go_at_call 20; (with_reducible refine (HWD.out _).mono ?_); rw [HS.out.1]; rintro e w7 ⟨rfl, HN7⟩)
        | (go_at_call 76; (with_reducible refine (rdigit_any d hdb _).mono ?_); rintro e w8 ⟨s8, A8, n8, c8, rfl, H8⟩; have HN8 : Hid (New wo w8) := (HN6.out.new HN7).new H8.out.2)
        | (go_at_call 73; (with_reducible refine (radd_h _ _ _ _ _ ((H6.out.1.new HN7).new H8.out.2) H8.out.1 HS.out.2.2.1 HS.out.2.2.2.1).mono ?_); rintro e w9 ⟨s9, A9, n9, c9, rfl, H9⟩; have HN9 : Hid (New wo w9) := HN8.out.new H9.out.2; have he10 := HN9.out.cell hc10 (fun h => h); have he11 := HN9.out.cell hc11 (fun h => h); have hf10 := (HI.out.2.1.chg HN9.out (fun h => h)).frozen 0; have hf11 := (HI.out.2.1.chg HN9.out (fun h => h)).frozen 1))
      all_goals
        clear hc10 hc11 g1
        go_wp2
        go_roundw
        case rel =>
          obtain ⟨i1, i2, i3, i4⟩ := HI.out
          have hbb := i2.chg HN9.out (fun h => h)
          have hcs : Chg (fun k => k = w.heap.size + 1) w9 ((w9.setCell ⟨w.heap.size + 1, 0, none⟩ (.bool s9)).setCell ⟨w.heap.size + 1, 1, none⟩ (.slice A9 n9 c9)) := Chg.at2 _ _ _ _
          have hr9 := H9.out.1
          rw [HS.out.2.2.2.2] at hr9
          exact ⟨i, s9, A9, n9, c9, by go_num, by omega, (i1.chg HN9.out (fun h => h)).chg hcs (by omega), hbb.set2 _ _, hr9.store hbb (noInt_two' _ _ _ _) hcs, Chg.owned (i4.new HN9.out) hcs (fun k e => by omega)⟩
        case measure => simp [intOf]
end Go.Proofs.Ytcjbndlhomokpaa
