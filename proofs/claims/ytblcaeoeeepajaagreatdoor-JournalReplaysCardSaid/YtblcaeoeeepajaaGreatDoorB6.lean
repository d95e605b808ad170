/- The parts Lives7 of the proof, in one text. -/
import Derived.Test.YtblcaeoeeepajaaGreatDoorB5
set_option linter.unusedSimpArgs false
set_option linter.unusedVariables false

namespace Go.Proofs.YtblcaeoeeepajaaGreatDoor
open Go.RowKit Go.Shelf Go.Mem Go.Pure

theorem core7 : coreP 0 [7] = [0, 1, 7] := by
  unfold coreP
  rw [show zig 0 = 0 from rfl, uvar_lt (by omega), uvar_lt (by decide)]
  rfl
theorem frame7 : frameP 0 [7] = rawP [0, 1, 7] ++ uvar (sumP [0, 1, 7]) := by unfold frameP; rw [core7]
theorem frame7_len : 5 ≤ (frameP 0 [7]).length := by
  rw [frame7]
  have h := uvar_pos (sumP [0, 1, 7])
  unfold rawP
  rw [uvar_lt (by decide)]
  simp only [List.length_append, List.length_cons, List.length_nil]
  omega
theorem frameP_ge4 (k : Int) (r : List UInt8) : 4 ≤ (frameP k r).length := by
  have h1 := uvar_pos (sumP (coreP k r))
  have h2 := uvar_pos (coreP k r).length
  have h3 := uvar_pos (zig k)
  have h4 := uvar_pos r.length
  unfold frameP rawP
  simp only [List.length_append]
  have h5 : 2 ≤ (coreP k r).length := by unfold coreP; simp only [List.length_append]; omega
  omega
theorem scan7 : scanC (frameP 0 [7] ++ [3, 0, 1]) 0 = [[7]] := by
  have hl := frameP_len 0 [7] (by omega) (by omega) (by simp)
  have h := scan_frames [[7]] 0 [3, 0, 1] (by
    rw [show framesP 0 [[7]] = frameP ((0 : Nat) : Int) [7] ++ framesP 1 [] from rfl, framesP_nil, List.append_nil, List.length_append]
    simp at hl ⊢
    omega)
  rw [show framesP 0 [[7]] = frameP ((0 : Nat) : Int) [7] ++ framesP 1 [] from rfl, framesP_nil, List.append_nil] at h
  rw [show frameP 0 [7] = frameP ((0 : Nat) : Int) [7] from rfl, h, scanC_none]
  · simp
  · cases h' : firstC [3, 0, 1] ((0 + [[(7 : UInt8)]].length : Nat) : Int) with
    | none => rfl
    | some r =>
      have h1 := firstC_le h'
      have h2 := frameP_ge4 ((0 + [[(7 : UInt8)]].length : Nat) : Int) r
      simp only [List.length_cons, List.length_nil] at h1 h2
      omega
theorem frames7_len : (framesP 0 (scanC (frameP 0 [7] ++ [3, 0, 1]) 0)).length = (frameP 0 [7]).length := by
  rw [scan7, show framesP 0 [[7]] = frameP ((0 : Nat) : Int) [7] ++ framesP 1 [] from rfl, framesP_nil, List.append_nil]
  rfl

set_option maxHeartbeats 2000000 in
set_option maxRecDepth 100000 in
theorem lives_any (w : World) : Calls Tryz.prog 30 #[] w fun e w' => e = .returned (.bool true) ∧ New w w' := by
  go_enter Tryz.func30, Tryz.ntmps30
  go_wp2_with fail
  refine (frame_any 0 _ 1 1 [7] _ (by omega) (by omega) Rd.one (by omega) (by simp [blk])).mono ?_
  rintro e w1 ⟨A1, c1, rfl, ho1, hn1⟩
  have hn1' : New w w1 := ((Chg.refl _ w).alloc _).new hn1
  have ho1' := own_base ho1 (base' := w.heap.size) (by simp)
  have hf5 := frame7_len
  have hfl := frameP_len 0 [7] (by omega) (by omega) (by simp)
  generalize hfr : frameP 0 [7] = fr at *
  generalize hN : fr.length = N at *
  have HFR := Lib.hid hfr
  have HNL := Lib.hid hN
  have H1 := Lib.hid (And.intro hn1' ho1')
  have hfl2 : N ≤ 41 := by simpa using hfl
  clear hn1 hn1' ho1 ho1' hfr hN hfl
  go_wp2_with fail
  obtain ⟨hn1, ho1⟩ := H1.out
  have HA1 : Hid (∀ k, blk A1 = some k → w.heap.size ≤ k ∧ k < w1.heap.size) := fun k hk => own_blk_le ho1 hk
  have hw2 : WrAt ((w1.alloc (.cells #[.slice none 0 0] 35)).alloc (.cells #[.int .u8 0, .int .u8 1, .int .u8 7] 5)) w1.heap.size none [] := (WrAt.new w1).chg ((Chg.refl (fun _ => False) _).alloc _) (fun h => h) (fun _ _ h => h)
  have hr2 : Rd ((w1.alloc (.cells #[.slice none 0 0] 35)).alloc (.cells #[.int .u8 0, .int .u8 1, .int .u8 7] 5)) (some ⟨w1.heap.size + 1, 0, none⟩) 3 (bs [0, 1, 7]) := by
    have := Rd.lit (w := w1.alloc (.cells #[.slice none 0 0] 35)) (e := 5) (bs [0, 1, 7]) (n := 3) rfl
    rw [World.size_alloc] at this
    exact this
  have hn2 : New w1 ((w1.alloc (.cells #[.slice none 0 0] 35)).alloc (.cells #[.int .u8 0, .int .u8 1, .int .u8 7] 5)) := ((Chg.refl _ w1).alloc _).alloc _
  have hz2 : ((w1.alloc (.cells #[.slice none 0 0] 35)).alloc (.cells #[.int .u8 0, .int .u8 1, .int .u8 7] 5)).heap.size = w1.heap.size + 2 := by simp
  generalize ((w1.alloc (.cells #[.slice none 0 0] 35)).alloc (.cells #[.int .u8 0, .int .u8 1, .int .u8 7] 5)) = w2 at *
  refine (wRaw_any w1.heap.size none [] _ 3 3 [0, 1, 7] w2 hr2 (by simp [blk]) (.inl rfl) (by omega) hw2 (by simp)).mono ?_
  rintro e w3 ⟨rfl, b3, hw3, hc3, ha3⟩
  have hw3' : WrAt w3 w1.heap.size b3 (rawP [0, 1, 7]) := hw3
  have hn3 : New w1 w3 := hn2.trans hc3 (fun k hk h => by
    rcases h with h | h
    · omega
    · cases h)
  have hb3 : ∀ k, b3 = some k → w1.heap.size + 2 ≤ k := fun k hk => by
    rcases ha3 with h | ⟨k', h, hk'⟩
    · rw [h] at hk; cases hk
    · rw [hk] at h; cases h; omega
  have H3 := Lib.hid (And.intro hw3' (And.intro hn3 (And.intro hb3 (And.intro hn1 ho1))))
  clear hw2 hr2 hn2 hz2 hw3 hw3' hc3 ha3 hn3 hb3 hn1 ho1 H1
  go_wp2_with fail
  obtain ⟨hw3, hn3, hb3, hn1, ho1⟩ := H3.out
  have hz3 := hw3.lt
  have hr4 : Rd (w3.alloc (.cells #[.int .u8 0, .int .u8 1, .int .u8 7] 5)) (some ⟨w3.heap.size, 0, none⟩) 3 (bs [0, 1, 7]) := Rd.lit (bs [0, 1, 7]) rfl
  have hw4 := hw3.chg ((Chg.refl (fun _ => False) w3).alloc (.cells #[.int .u8 0, .int .u8 1, .int .u8 7] 5)) (fun h => h) (fun _ _ h => h)
  have hn4 : New w1 (w3.alloc (.cells #[.int .u8 0, .int .u8 1, .int .u8 7] 5)) := hn3.alloc _
  refine (hbytes_any ⟨#[101, 110, 116, 114, 121]⟩ (by decide) _ 3 3 [0, 1, 7] _ hr4 (by omega) (by simp [blk])).mono ?_
  rintro e w5 ⟨rfl, hn5⟩
  rw [show bytesI (ByteArray.mk #[101, 110, 116, 114, 121]).data.toList [0, 1, 7] = (sumP [0, 1, 7] : Int) from bytesI_toNat _]
  have hw5 := hw4.chg hn5 (fun h => h) (fun _ _ h => h)
  have H5 := Lib.hid (And.intro hw5 (And.intro (hn4.new hn5) (And.intro hb3 (And.intro hn1 ho1))))
  clear hw3 hn3 hb3 hn1 ho1 hr4 hw4 hn4 hn5 hw5 H3
  go_wp2_with fail
  obtain ⟨hw5, hn5, hb3, hn1, ho1⟩ := H5.out
  refine (wUint_any w1.heap.size b3 (rawP [0, 1, 7]) (sumP [0, 1, 7]) w5 (sumP_lt _) hw5 (by unfold rawP; rw [uvar_lt (by decide)]; simp)).mono ?_
  rintro e w6 ⟨rfl, b6, hw6, hc6, ha6⟩
  rw [show rawP [0, 1, 7] ++ uvar (sumP [0, 1, 7]) = fr by rw [← HFR.out, frame7]] at hw6
  have hn6 : New w1 w6 := hn5.trans hc6 (fun k hk h => by
    rcases h with h | h
    · omega
    · have := hb3 _ h; omega)
  have ho6 := own_chg ho1 hn6 (fun _ _ h => h)
  have hb6 : ∀ k, b6 = some k → w1.heap.size ≤ k := fun k hk => by
    rcases ha6 with h | ⟨k', h, hk'⟩
    · rw [h] at hk; have := hb3 k hk; omega
    · rw [hk] at h; cases h; have := hn5.size; omega
  have H6 := Lib.hid (And.intro hw6 (And.intro hn6 (And.intro hn1 (And.intro ho6 hb6))))
  have hz6 := hw6.lt
  clear hw5 hn5 hb3 hn1 ho1 hw6 hc6 ha6 hn6 ho6 hb6 H5
  go_wp2_with (at_builtin; refine wpList_app2 elemBytes rfl _ _ rfl rfl (H6.out.2.2.2.1.alloc _) rfl (Rd.lit (bs [3, 0, 1]) rfl) (bs_one _) (by simp only [maxLen]; omega) (by omega) (by have := H6.out.2.1.size; have := H6.out.2.2.1.size; simp; omega) ?_; intro A7 c7 w7 hown7 hg7 hat7 hold7; have HO7 := Lib.hid hown7; have HOLD := Lib.hid hold7; clear hown7 hold7)
  obtain ⟨hw6, hn6, hn1, ho6, hb6⟩ := H6.out
  have hc7 : Chg (fun k => blk A1 = some k) w6 w7 := ((Chg.refl _ w6).alloc _).grown hg7 (fun k hk _ => hk)
  have hA1 := HA1.out
  have hw7 := hw6.chg hc7 (fun h => by have := hA1 _ h; omega) (fun k hk h => by have := hA1 _ h; have := hb6 k hk; omega)
  have hn7 : New w w7 := (hn1.new hn6).trans hc7 (fun k hk h => by have := hA1 _ h; omega)
  have hcap7 := own_cap HO7.out
  refine (scan_any A7 (N + 3) c7 (fr ++ [3, 0, 1]) w7 (by have := Rd.of_own HO7.out; rw [bs_append]; exact this) (by omega) hcap7.1 hcap7.2 (fun k hk => (own_blk_le HO7.out hk).2)).mono ?_
  rintro e w8 ⟨A8, n8, c8, vs8, rfl, ho8, hls8, hn8⟩
  rw [show (framesP 0 (scanC (fr ++ [3, 0, 1]) 0)).length = N by rw [← HFR.out, frames7_len, HFR.out, HNL.out]]
  rw [show scanC (fr ++ [3, 0, 1]) 0 = [[7]] by rw [← HFR.out, scan7]] at hls8
  have hw8 := hw7.chg hn8 (fun h => h) (fun _ _ h => h)
  have hold8 := HOLD.out.new hn8
  have hn8l : n8 = 1 := by have h1 := ho8.1; have h2 := hls8.1; simp at h1 h2; omega
  subst hn8l
  have H8 := Lib.hid (And.intro hw8 (And.intro (hn7.new hn8) (And.intro hold8 (And.intro (Rd.of_own ho8) hls8))))
  clear hw6 hn6 hn1 ho6 hb6 hc7 hA1 hw7 hn7 ho8 hls8 hn8 hw8 hold8 H6
  go_wp2_with fail
  obtain ⟨hw8, hn8, hold8, hr8, hls8⟩ := H8.out
  refine (wDone_any w1.heap.size b6 fr w8 hw8 (by rw [HNL.out]; omega)).mono ?_
  rw [HNL.out]
  rintro e w9 ⟨A9, c9, rfl, ho9, hn9⟩
  have H9 := Lib.hid (And.intro (hn8.new hn9) (And.intro (hold8.new hn9) (And.intro (hr8.new hn9) (And.intro (hls8.new hn9) (Rd.of_own ho9)))))
  clear hw8 hn8 hold8 hr8 hls8 ho9 hn9 H8
  go_wp2_with fail
  obtain ⟨hn9, hold9, hr9, hls9, hr9'⟩ := H9.out
  refine (sameBytes_any A1 A9 N N c1 c9 fr fr w9 hold9 hr9' (by omega) (by omega)).mono ?_
  rintro e w10 ⟨rfl, hn10⟩
  rw [show decide (fr = fr) = true by simp]
  have H10 := Lib.hid (And.intro (hn9.new hn10) (And.intro (hr9.new hn10) (hls9.new hn10)))
  clear hn9 hold9 hr9 hls9 hr9' hn10 H9
  go_wp2_with fail
  obtain ⟨hn10, hr10, hls10⟩ := H10.out
  have hn11 : New w10 ((w10.alloc (.cells #[.int .u8 7] 5)).alloc (.cells #[.slice (some ⟨w10.heap.size, 0, none⟩) 1 1] 33)) := ((Chg.refl _ w10).alloc _).alloc _
  have hr11 : Rd ((w10.alloc (.cells #[.int .u8 7] 5)).alloc (.cells #[.slice (some ⟨w10.heap.size, 0, none⟩) 1 1] 33)) (some ⟨w10.heap.size + 1, 0, none⟩) 1 [.slice (some ⟨w10.heap.size, 0, none⟩) 1 1] := by
    have := Rd.one (w := w10.alloc (.cells #[.int .u8 7] 5)) (v := .slice (some ⟨w10.heap.size, 0, none⟩) 1 1) (e := 33)
    rwa [World.size_alloc] at this
  have hls11 : Lists ((w10.alloc (.cells #[.int .u8 7] 5)).alloc (.cells #[.slice (some ⟨w10.heap.size, 0, none⟩) 1 1] 33)) [.slice (some ⟨w10.heap.size, 0, none⟩) 1 1] [[7]] :=
    (Lists.nil _).snoc (Nat.le_refl _) (by simp only [maxLen]; omega) ((Rd.lit (w := w10) (e := 5) (bs [7]) rfl).new ((Chg.refl _ _).alloc _)) (fun k hk => by simp [blk] at hk; simp; omega)
  refine (sameLists_any A8 _ 1 1 c8 1 vs8 _ [[7]] [[7]] _ (hr10.new hn11) (hls10.new hn11) hr11 hls11 (by omega) (by omega)).mono ?_
  rintro e w12 ⟨rfl, q, hq⟩
  rw [show decide ([[(7 : UInt8)]] = [[7]]) = true by simp]
  have H12 : Hid (New w w12) := by
    show Chg _ _ _
    rw [hq]
    exact (hn10.new hn11).drewN q
  clear hq hn10 hr10 hls10 hn11 hr11 hls11
  go_wp2
  go_ret
  exact ⟨rfl, H12.out⟩

end Go.Proofs.YtblcaeoeeepajaaGreatDoor
