/- Contract of disk.Crash. -/
import Derived.Test.YtffehmfjcglalaaDkIZ
set_option linter.unusedSimpArgs false
set_option linter.unusedVariables false
namespace Go.Proofs.Ytffehmfjcglalaa
set_option linter.unusedVariables false
open Go.RowKit Go.Mem Go.Dk

/-- A file's bytes have been cut. -/
theorem DI.cut1 {w w' : World} {g m : Nat} {V : Nat → Value} {s : S} (h : DI w g m V s) {i d k n c : Nat} {A : Option Addr} (hi : i < 64) (hv : V i = .slice A n c) (hd : s.firm i = d) (hk : k ≤ n) (hdk : d ≤ k) (hn : (s.f i).length = n)
    (hd3 : DC w' g m (upd V i (if k = 0 then .slice none 0 0 else .slice A k c)) (put s i ((s.f i).take k) d)) (hc3 : Chg (fun k => k = m) w w') :
    DI w' g m (upd V i (if k = 0 then .slice none 0 0 else .slice A k c)) (put s i ((s.f i).take k) d) ∧ Did w w' g m V (upd V i (if k = 0 then .slice none 0 0 else .slice A k c)) := by
  have hlt : ((s.f i).take k).length = k := by rw [List.length_take]; omega
  have hrow : RowV w 5 IsU8 (.slice A k c) (bs ((s.f i).take k)) := by
    have h5 := h.rows i
    rw [hv] at h5
    have := RowV.pre h5 (k := k) (by rw [bs_length, hn]; exact hk)
    rwa [bs_take] at this
  have hr3 : RowV w' 5 IsU8 (if k = 0 then .slice none 0 0 else .slice A k c) (bs ((s.f i).take k)) := by
    split
    · rename_i h0
      rw [h0, List.take_zero]
      exact RowV.nil _ _ _
    · exact hrow.chg hc3 (fun j hj e => (h.core.row_ne hrow hj).2 e)
  refine h.put_row (hc3.mono (fun j _ e => .inr (.inl e))) hd3 hr3 (fun j hj => ?_) (h.wf.put hi (by rw [hlt]; exact hdk) (by have := h.wf.used; rw [hlt]; omega))
  split at hj
  · cases hj
  · exact .inl (by rw [hv]; exact hj)

set_option maxHeartbeats 4000000 in
set_option maxRecDepth 100000 in
theorem dCrash_any (g m : Nat) (V : Nat → Value) (s : S) (w : World) (h : DI w g m V s) (K : Option Addr) (nk ck : Nat) (keep : List Int) (hK : Rd w K nk (is keep)) (hKo : ∀ k, blk K = some k → ¬ ownD g m V k ∧ k < w.heap.size) (hnk : nk ≤ 1000000000) (hkr : ∀ z ∈ keep, -9223372036854775808 ≤ z ∧ z ≤ 9223372036854775807) (flip : Int) (hfl : -9223372036854775808 ≤ flip ∧ flip ≤ 9223372036854775807) :
    Calls Try.prog 21 #[.pointer (some ⟨g, 0, none⟩), .slice K nk ck, .int .i64 flip] w fun e w' => e = .returned (.tuple #[]) ∧
      ∃ V', DI w' g m V' (crash s keep flip) ∧ Did w w' g m V V' := by
  have HH := Lib.hid h
  have HK := Lib.hid hK
  have HKO := Lib.hid hKo
  have hkl : keep.length = nk := by have := hK.len; simpa using this
  have HKL := Lib.hid hkl
  obtain ⟨N, hN⟩ : ∃ N, (filesI s).length = N := ⟨_, rfl⟩
  have HN := Lib.hid hN
  have hN64 : N ≤ 64 := by rw [← hN]; unfold filesI; rw [List.length_map]; exact filesN_len s.f 64
  clear h hK hKo hkl hN
  go_enter Try.func21, Try.ntmps21
  go_wp2_with (go_at_call 42; refine (dFiles_any g m V s _ HH.out).mono ?_; rw [HN.out]; rintro e w2 ⟨A, c, rfl, hown2, hn2⟩; have H2 := Lib.hid (And.intro hown2 hn2); clear hown2 hn2)
  have HD2 := Lib.hid (HH.out.new H2.out.2)
  have HA := Lib.hid (show ∀ k, blk A = some k → ¬ ownD g m V k from fun k hk ho => by have := (own_blk_le H2.out.1 hk).1; have := HH.out.lt ho; omega)
  go_loopw [7, 19] (fun v7 v wr => ∃ (j : Nat) (V' : Nat → Value), j ≤ N ∧ v = .int .i64 (j : Int) ∧ v7 = .int .i64 ((8 * manyTo s keep j : Nat) : Int) ∧ DI wr g m V' (cutS s keep j) ∧ Did w2 wr g m V V') (fun _ v _ => N - (intOf v).toNat)
  case atStart => exact ⟨0, V, Nat.zero_le _, rfl, by rw [manyTo_zero]; rfl, by rw [cutS_zero]; exact HD2.out, Did.of_new (Chg.refl _ _)⟩
  case round =>
    obtain ⟨j, V', hj, rfl, rfl, hdi, hdid⟩ := hrel
    by_cases hlt : j < N
    · obtain ⟨i, hi1, hi2, hi, hf⟩ := filesI_at (s := s) (j := j) (by rw [HN.out]; exact hlt)
      have hrd : Rd wr A N (is (filesI s)) := Rd.of_own (own_chg H2.out.1 hdid.chg HA.out)
      obtain ⟨ad, u, rfl, hu, hcu⟩ := hrd.at_ hlt
      obtain ⟨z, hz, rfl⟩ := is_at hu
      obtain rfl : z = (i : Int) := by rw [hi2] at hz; injection hz with hz; exact hz.symm
      obtain ⟨A2, c2, hv, hnc, _⟩ := hdi.slice i
      obtain ⟨n, hn⟩ : ∃ n, ((cutS s keep j).f i).length = n := ⟨_, rfl⟩
      obtain ⟨d, hd⟩ : ∃ d, (cutS s keep j).firm i = d := ⟨_, rfl⟩
      have hdn := hdi.wf.firm i
      have hnl := hdi.wf.len i
      rw [hn, hd] at hdn
      rw [hn] at hv hnl hnc
      have hlk := hdi.core.look hdi.core.map hi hv hd
      have hb1 := hdi.core.blk.cell 1 (u := .map (some m)) rfl
      have hgl := hdi.core.blk.lt
      obtain ⟨q, hq⟩ : ∃ q, kept s keep i = q := ⟨_, rfl⟩
      have hfc := cutS_at (keep := keep) hi1
      have hqd : d + q ≤ n := by
        have h1 := kept_le s keep i
        have h2 : s.firm i = d := hd
        rw [← hfc, hn, h2, hq] at h1
        omega
      obtain ⟨bm, hbm⟩ : ∃ bm, manyTo s keep j = bm := ⟨_, rfl⟩
      have hbl : bm ≤ 16777216 := by have h1 := manyTo_le s keep j; have h2 := HH.out.wf.used; have h3 := HH.out.wf.room; omega
      obtain ⟨b8, hb8⟩ : ∃ b8, 8 * bm = b8 := ⟨_, rfl⟩
      have hb8l : b8 ≤ 134217728 := by omega
      have HB8 := Lib.hid hb8
      have hrk : Rd wr K nk (is keep) := (HK.out.new H2.out.2).chg hdid.chg (fun k hk _ => (HKO.out k hk).1)
      have HKR := Lib.hid hrk
      have HX := Lib.hid hdi
      have HDD := Lib.hid hdid
      have HV := Lib.hid hv
      have HD := Lib.hid hd
      have HNn := Lib.hid hn
      have HI := Lib.hid (And.intro hi1 (And.intro hi hf))
      have HQ := Lib.hid hq
      have HBM := Lib.hid hbm
      have HFC := Lib.hid hfc
      have hadl := cell_lt' hcu
      have hka := kept_at (keep := keep) hi1
      rw [hq, ← hfc, hn, show s.firm i = d from hd] at hka
      rw [hbm, hb8]
      clear hb8 hrd hu hz hdi hdid hv hd hn hi1 hi2 hf hrk hfc hq hbm
      have HPUT := Lib.hid (show ∀ W, New wr W → Calls Try.prog 40 #[.pointer (some ⟨g, 0, none⟩), .int .i64 (i : Int), .agg #[.slice A2 (d + q) c2, .int .i64 (d : Int)]] W fun e w' => e = .returned (.tuple #[]) ∧ ∃ V'', DI w' g m V'' (cutS s keep (j + 1)) ∧ Did w2 w' g m V V'' from fun W hW => by
        have hdW := HX.out.new hW
        refine (dPut_any g m V' (cutS s keep j) W hdW.core i hi A2 (d + q) c2 (((cutS s keep j).f i).take (d + q)) (by rw [List.length_take, HNn.out]; omega) d (fun e => by omega)).mono ?_
        rintro e w5 ⟨rfl, hd3, hc3⟩
        obtain ⟨h1, h2⟩ := hdW.cut1 hi HV.out HD.out hqd (Nat.le_add_right _ _) HNn.out hd3 hc3
        refine ⟨rfl, _, ?_, HDD.out.trans ((Did.of_new hW).trans h2)⟩
        have h3 := cutS_succ (keep := keep) HI.out.1
        rw [HQ.out, show s.firm i = d from HD.out, ← HFC.out] at h3
        rw [h3]
        exact h1)
      by_cases hjk : j < nk
      · obtain ⟨kd, ku, rfl, hku, hkc⟩ := HKR.out.at_ hjk
        obtain ⟨z1, hz1, rfl⟩ := is_at hku
        rw [hz1] at hka
        simp only at hka
        have hz64 := hkr z1 (List.mem_of_getElem? hz1)
        have hkdl := cell_lt' hkc
        have hk2 : (d : Int) + (q : Int) = ((d + q : Nat) : Int) := by omega
        have hwk : IntKind.i64.wrap ((n : Int) - (d : Int)) = (n : Int) - (d : Int) := IntWalk.i64_in _ (by omega)
        have hmm : min (max z1 0) ((n : Int) - (d : Int)) = (q : Int) := by omega
        have hdq : ((d : Int) + (q : Int)).toNat = d + q := by omega
        have HMM := Lib.hid hmm
        have hm0 : 0 ≤ min (max z1 0) ((n : Int) - (d : Int)) := by omega
        have hm1 : (d : Int) + min (max z1 0) ((n : Int) - (d : Int)) ≤ (n : Int) := by omega
        clear hku hz1 hka hk2 hmm
        go_wp2_with fail
        go_region
        go_wp2_with fail
        rw [HMM.out, hdq]
        refine (HPUT.out _ (((Chg.refl _ wr).alloc _).drew)).mono ?_
        rintro e w5 ⟨rfl, V5, hd5, hdd5⟩
        have H5 := Lib.hid (And.intro hd5 hdd5)
        clear hd5 hdd5 hm0 hm1
        go_wp2
        go_roundw
        case rel => exact ⟨j + 1, V5, by omega, by go_num, by rw [manyTo_succ HI.out.1, HBM.out, HQ.out]; have := HB8.out; go_num, H5.out.1, H5.out.2⟩
        case measure => simp [intOf]; omega
      · obtain rfl : q = 0 := by
          rw [List.getElem?_eq_none (by rw [HKL.out]; omega)] at hka
          exact hka
        clear hka
        go_wp2_with (go_at_call 40; refine (HPUT.out _ ((Chg.refl _ wr).alloc _)).mono ?_; rintro e w5 ⟨rfl, V5, hd5, hdd5⟩; have H5 := Lib.hid (And.intro hd5 hdd5); clear hd5 hdd5)
        go_roundw
        case rel => exact ⟨j + 1, V5, by omega, by go_num, by rw [manyTo_succ HI.out.1, HBM.out, HQ.out]; have := HB8.out; go_num, H5.out.1, H5.out.2⟩
        case measure => simp [intOf]; omega
    · obtain rfl : j = N := by omega
      have hfl1 : (files s).length = j := by rw [← HN.out]; unfold filesI; rw [List.length_map]
      have hcut : cutS s keep j = cut s keep := by unfold cutS cut; rw [hfl1]
      have hmany : manyTo s keep j = many s keep := by unfold many; rw [hfl1]
      rw [hcut] at hdi
      obtain ⟨b8, hb8⟩ : ∃ b8, 8 * manyTo s keep j = b8 := ⟨_, rfl⟩
      have hb8l : b8 ≤ 134217728 := by have h1 := manyTo_le s keep j; have h2 := HH.out.wf.used; have h3 := HH.out.wf.room; omega
      have hb8m : 8 * many s keep = b8 := by rw [← hmany]; exact hb8
      rw [hb8]
      obtain ⟨T, hT⟩ : ∃ T, turned s keep flip = T := ⟨_, rfl⟩
      have HX := Lib.hid hdi
      have HDD := Lib.hid hdid
      have HT := Lib.hid hT
      have HB8 := Lib.hid hb8m
      have hrd : Rd wr A j (is (filesI s)) := Rd.of_own (own_chg H2.out.1 hdid.chg HA.out)
      have HRD := Lib.hid hrd
      clear hdi hdid hT hb8 hb8m hfl1 hcut hmany hrd
      have tail : True := trivial
      by_cases hfp : 0 ≤ flip ∧ 0 < b8
      · obtain ⟨hf0, hb0⟩ := hfp
        obtain ⟨fl, rfl⟩ := Int.eq_ofNat_of_zero_le hf0
        have hT2 : T = { cut s keep with f := invert (cut s keep) (files s) (fl % b8) } := by
          rw [← HT.out]
          unfold turned
          have := HB8.out
          rw [if_pos ⟨by omega, by omega⟩, this]
          simp
        have HT2 := Lib.hid hT2
        have hmod : fl % b8 < b8 := Nat.mod_lt _ hb0
        have hrem : ((fl : Int) % (b8 : Int)) = ((fl % b8 : Nat) : Int) := rfl
        have htm : (fl : Int).tmod (b8 : Int) = ((fl % b8 : Nat) : Int) := by rw [Int.tmod_eq_emod_of_nonneg (by omega)]; rfl
        have hb0' : ((b8 : Int) == 0) = false := by simp; omega
        obtain ⟨bt, hbt⟩ : ∃ bt, fl % b8 = bt := ⟨_, rfl⟩
        rw [hbt] at hmod hrem htm
        have HBT := Lib.hid hbt
        clear hT2 hbt
        go_wp2_with fail
        refine (dInvert_any g m V' (cut s keep) wr HX.out A j c (files s) HRD.out (fun i hi => (mem_files.1 hi).1) hN64 bt (by omega)).mono ?_
        rintro e w3 ⟨rfl, hd3, hdd3⟩
        have hTe := HT2.out
        rw [HBT.out] at hTe
        rw [← hTe] at hd3
        have HW3 := Lib.hid (And.intro hd3 (HDD.out.trans hdd3))
        clear hd3 hdd3 hTe
        obtain ⟨N2, hN2⟩ : ∃ N2, (filesI T).length = N2 := ⟨_, rfl⟩
        have HN2 := Lib.hid hN2
        have hN264 : N2 ≤ 64 := by rw [← hN2]; unfold filesI; rw [List.length_map]; exact filesN_len T.f 64
        clear hN2
        go_wp2_with (go_at_call 42; refine (dFiles_any g m V' T _ HW3.out.1).mono ?_; rw [HN2.out]; rintro e w4 ⟨A4, c4, rfl, hown4, hn4⟩; have H4 := Lib.hid (And.intro hown4 hn4); clear hown4 hn4)
        have HD4 := Lib.hid (HW3.out.1.new H4.out.2)
        have HA4 := Lib.hid (show ∀ k, blk A4 = some k → ¬ ownD g m V' k from fun k hk ho => by have := (own_blk_le H4.out.1 hk).1; have := HW3.out.1.lt ho; omega)
        go_loopw [78] (fun v wr => ∃ j5 : Nat, j5 ≤ N2 ∧ v = .int .i64 (j5 : Int) ∧ DI wr g m V' (syncTo T j5) ∧ Chg (ownD g m V') w4 wr) (fun v _ => N2 - (intOf v).toNat)
        case atStart => exact ⟨0, Nat.zero_le _, rfl, by rw [syncTo_zero]; exact HD4.out, Chg.refl _ _⟩
        case round =>
          obtain ⟨j5, hj5, rfl, hdi, hch⟩ := hrel
          by_cases hlt5 : j5 < N2
          · obtain ⟨i, hi1, hi2, hi, hf⟩ := filesI_at (s := T) (j := j5) (by rw [HN2.out]; exact hlt5)
            have hrd : Rd wr A4 N2 (is (filesI T)) := Rd.of_own (own_chg H4.out.1 hch HA4.out)
            obtain ⟨ad, u, rfl, hu, hcu⟩ := hrd.at_ hlt5
            obtain ⟨z, hz, rfl⟩ := is_at hu
            obtain rfl : z = (i : Int) := by rw [hi2] at hz; injection hz with hz; exact hz.symm
            obtain ⟨A2, c2, hv, _⟩ := hdi.slice i
            obtain ⟨n, hn⟩ : ∃ n, ((syncTo T j5).f i).length = n := ⟨_, rfl⟩
            obtain ⟨d, hd⟩ : ∃ d, (syncTo T j5).firm i = d := ⟨_, rfl⟩
            rw [hn] at hv
            have hb1 := hdi.core.blk.cell 1 (u := .map (some m)) rfl
            have hgl := hdi.core.blk.lt
            have HX5 := Lib.hid hdi
            have HC5 := Lib.hid hch
            have HV5 := Lib.hid hv
            have HD5 := Lib.hid hd
            have HN5 := Lib.hid hn
            have HI5 := Lib.hid (And.intro hi1 (And.intro hi hf))
            have hadl := cell_lt' hcu
            clear hrd hu hz hdi hch hv hd hn hi1 hi2 hf
            go_wp2_with (at_lookup; refine wpList_file _ rfl _ _ rfl HX5.out.core rfl (HX5.out.core.map.chg ((Chg.refl (fun _ => False) wr)) (fun h => h)) hi rfl HV5.out HD5.out ?_)
            have hnw : New wr (wr.alloc (Obj.cells #[Value.slice A2 n c2, Value.int IntKind.i64 ↑n] 70)).drew := ((Chg.refl _ wr).alloc _).drew
            obtain ⟨w5, hrun, hm5, hc5, hs5⟩ := MI.store (w := (wr.alloc (Obj.cells #[Value.slice A2 n c2, Value.int IntKind.i64 ↑n] 70)).drew) (HX5.out.core.map.chg hnw (fun h => h)) keyInt Try.underlying66 (Nat.lt_of_le_of_lt (entL_len V' _) (show 64 < maxLen by decide)) (i64_file hi) (.agg #[.slice A2 n c2, .int .i64 (n : Int)])
            have hd5 := (HX5.out.new hnw).firm1 hi (by exact HI5.out.2.2) (by rw [HV5.out, HN5.out]; exact hm5) hc5
            have he5 : put (syncTo T j5) i ((syncTo T j5).f i) ((syncTo T j5).f i).length = syncTo T (j5 + 1) := (syncTo_succ HI5.out.1).symm
            rw [he5] at hd5
            have hch5 : Chg (ownD g m V') w4 w5 := (HC5.out.new hnw).trans hc5 (fun k _ e => .inr (.inl e))
            have H5 := Lib.hid (And.intro hd5 hch5)
            clear hnw hm5 hc5 hs5 hd5 he5 hch5
            go_region
            go_wp2
            go_roundw
            case rel => exact ⟨j5 + 1, by omega, by go_num, H5.out.1, H5.out.2⟩
            case measure => simp [intOf]; omega
          · obtain rfl : j5 = N2 := by omega
            have hall := syncTo_all HW3.out.1.wf
            rw [show (files T).length = j5 by rw [← HN2.out]; unfold filesI; rw [List.length_map]] at hall
            rw [hall] at hdi
            have hb2 := hdi.core.blk.cell 2 (u := .bool T.off) rfl
            have hb3 := hdi.core.blk.cell 3 (u := .bool (decide (0 ≤ T.plan))) rfl
            have hb4 := hdi.core.blk.cell 4 (u := .int .i64 (max T.plan 0)) rfl
            have hf2 := hdi.core.blk.frozen 2
            have hf3 := hdi.core.blk.frozen 3
            have hf4 := hdi.core.blk.frozen 4
            have HX6 := Lib.hid hdi
            have HC6 := Lib.hid hch
            clear hdi hch hall
            go_wp2
            go_end0
            have hbk := ((HX6.out.core.blk.set_ 2 (.bool false)).set_ 3 (.bool false)).set_ 4 (.int .i64 0)
            have hcr : crash s keep (fl : Int) = { firmAll T with off := false, plan := -1 } := by rw [crash_eq, HT.out]
            rw [hcr]
            have hfin := HX6.out.cells (s' := { firmAll T with off := false, plan := -1 }) ⟨rfl, rfl⟩ (by simpa [dCells, firmAll, show max (-1 : Int) 0 = 0 by decide] using hbk) ((((Chg.refl (fun k => k = g) wr).setCell (p := ⟨g, 2, none⟩) (fun _ => rfl) _).setCell (p := ⟨g, 3, none⟩) (fun _ => rfl) _).setCell (p := ⟨g, 4, none⟩) (fun _ => rfl) _) ⟨HX6.out.wf.firm, ⟨by simp, by simp⟩, HX6.out.wf.room, HX6.out.wf.used, HX6.out.wf.far⟩
            refine ⟨rfl, V', hfin.1, (Did.of_new H2.out.2).trans (HW3.out.2.trans ((Did.of_new H4.out.2).trans (Did.trans ⟨HC6.out, fun k hk => .inl hk⟩ hfin.2)))⟩
      · have hT2 : T = cut s keep := by
          rw [← HT.out]
          unfold turned
          have := HB8.out
          rw [if_neg (by omega)]
        have HW3 := Lib.hid (show DI wr g m V' T ∧ Did w2 wr g m V V' from ⟨hT2 ▸ HX.out, HDD.out⟩)
        clear hT2
        by_cases hf0 : flip < 0
        · clear hfp
          obtain ⟨N2, hN2⟩ : ∃ N2, (filesI T).length = N2 := ⟨_, rfl⟩
          have HN2 := Lib.hid hN2
          have hN264 : N2 ≤ 64 := by rw [← hN2]; unfold filesI; rw [List.length_map]; exact filesN_len T.f 64
          clear hN2
          go_wp2_with (go_at_call 42; refine (dFiles_any g m V' T _ HW3.out.1).mono ?_; rw [HN2.out]; rintro e w4 ⟨A4, c4, rfl, hown4, hn4⟩; have H4 := Lib.hid (And.intro hown4 hn4); clear hown4 hn4)
          have HD4 := Lib.hid (HW3.out.1.new H4.out.2)
          have HA4 := Lib.hid (show ∀ k, blk A4 = some k → ¬ ownD g m V' k from fun k hk ho => by have := (own_blk_le H4.out.1 hk).1; have := HW3.out.1.lt ho; omega)
          go_loopw [78] (fun v wr => ∃ j5 : Nat, j5 ≤ N2 ∧ v = .int .i64 (j5 : Int) ∧ DI wr g m V' (syncTo T j5) ∧ Chg (ownD g m V') w4 wr) (fun v _ => N2 - (intOf v).toNat)
          case atStart => exact ⟨0, Nat.zero_le _, rfl, by rw [syncTo_zero]; exact HD4.out, Chg.refl _ _⟩
          case round =>
            obtain ⟨j5, hj5, rfl, hdi, hch⟩ := hrel
            by_cases hlt5 : j5 < N2
            · obtain ⟨i, hi1, hi2, hi, hf⟩ := filesI_at (s := T) (j := j5) (by rw [HN2.out]; exact hlt5)
              have hrd : Rd wr A4 N2 (is (filesI T)) := Rd.of_own (own_chg H4.out.1 hch HA4.out)
              obtain ⟨ad, u, rfl, hu, hcu⟩ := hrd.at_ hlt5
              obtain ⟨z, hz, rfl⟩ := is_at hu
              obtain rfl : z = (i : Int) := by rw [hi2] at hz; injection hz with hz; exact hz.symm
              obtain ⟨A2, c2, hv, _⟩ := hdi.slice i
              obtain ⟨n, hn⟩ : ∃ n, ((syncTo T j5).f i).length = n := ⟨_, rfl⟩
              obtain ⟨d, hd⟩ : ∃ d, (syncTo T j5).firm i = d := ⟨_, rfl⟩
              rw [hn] at hv
              have hb1 := hdi.core.blk.cell 1 (u := .map (some m)) rfl
              have hgl := hdi.core.blk.lt
              have HX5 := Lib.hid hdi
              have HC5 := Lib.hid hch
              have HV5 := Lib.hid hv
              have HD5 := Lib.hid hd
              have HN5 := Lib.hid hn
              have HI5 := Lib.hid (And.intro hi1 (And.intro hi hf))
              have hadl := cell_lt' hcu
              clear hrd hu hz hdi hch hv hd hn hi1 hi2 hf
              go_wp2_with (at_lookup; refine wpList_file _ rfl _ _ rfl HX5.out.core rfl (HX5.out.core.map.chg ((Chg.refl (fun _ => False) wr)) (fun h => h)) hi rfl HV5.out HD5.out ?_)
              have hnw : New wr (wr.alloc (Obj.cells #[Value.slice A2 n c2, Value.int IntKind.i64 ↑n] 70)).drew := ((Chg.refl _ wr).alloc _).drew
              obtain ⟨w5, hrun, hm5, hc5, hs5⟩ := MI.store (w := (wr.alloc (Obj.cells #[Value.slice A2 n c2, Value.int IntKind.i64 ↑n] 70)).drew) (HX5.out.core.map.chg hnw (fun h => h)) keyInt Try.underlying66 (Nat.lt_of_le_of_lt (entL_len V' _) (show 64 < maxLen by decide)) (i64_file hi) (.agg #[.slice A2 n c2, .int .i64 (n : Int)])
              have hd5 := (HX5.out.new hnw).firm1 hi (by exact HI5.out.2.2) (by rw [HV5.out, HN5.out]; exact hm5) hc5
              have he5 : put (syncTo T j5) i ((syncTo T j5).f i) ((syncTo T j5).f i).length = syncTo T (j5 + 1) := (syncTo_succ HI5.out.1).symm
              rw [he5] at hd5
              have hch5 : Chg (ownD g m V') w4 w5 := (HC5.out.new hnw).trans hc5 (fun k _ e => .inr (.inl e))
              have H5 := Lib.hid (And.intro hd5 hch5)
              clear hnw hm5 hc5 hs5 hd5 he5 hch5
              go_region
              go_wp2
              go_roundw
              case rel => exact ⟨j5 + 1, by omega, by go_num, H5.out.1, H5.out.2⟩
              case measure => simp [intOf]; omega
            · obtain rfl : j5 = N2 := by omega
              have hall := syncTo_all HW3.out.1.wf
              rw [show (files T).length = j5 by rw [← HN2.out]; unfold filesI; rw [List.length_map]] at hall
              rw [hall] at hdi
              have hb2 := hdi.core.blk.cell 2 (u := .bool T.off) rfl
              have hb3 := hdi.core.blk.cell 3 (u := .bool (decide (0 ≤ T.plan))) rfl
              have hb4 := hdi.core.blk.cell 4 (u := .int .i64 (max T.plan 0)) rfl
              have hf2 := hdi.core.blk.frozen 2
              have hf3 := hdi.core.blk.frozen 3
              have hf4 := hdi.core.blk.frozen 4
              have HX6 := Lib.hid hdi
              have HC6 := Lib.hid hch
              clear hdi hch hall
              go_wp2
              go_end0
              have hbk := ((HX6.out.core.blk.set_ 2 (.bool false)).set_ 3 (.bool false)).set_ 4 (.int .i64 0)
              have hcr : crash s keep flip = { firmAll T with off := false, plan := -1 } := by rw [crash_eq, HT.out]
              rw [hcr]
              have hfin := HX6.out.cells (s' := { firmAll T with off := false, plan := -1 }) ⟨rfl, rfl⟩ (by simpa [dCells, firmAll, show max (-1 : Int) 0 = 0 by decide] using hbk) ((((Chg.refl (fun k => k = g) wr).setCell (p := ⟨g, 2, none⟩) (fun _ => rfl) _).setCell (p := ⟨g, 3, none⟩) (fun _ => rfl) _).setCell (p := ⟨g, 4, none⟩) (fun _ => rfl) _) ⟨HX6.out.wf.firm, ⟨by simp, by simp⟩, HX6.out.wf.room, HX6.out.wf.used, HX6.out.wf.far⟩
              refine ⟨rfl, V', hfin.1, (Did.of_new H2.out.2).trans (HW3.out.2.trans ((Did.of_new H4.out.2).trans (Did.trans ⟨HC6.out, fun k hk => .inl hk⟩ hfin.2)))⟩
        · obtain rfl : b8 = 0 := by omega
          clear hfp
          obtain ⟨N2, hN2⟩ : ∃ N2, (filesI T).length = N2 := ⟨_, rfl⟩
          have HN2 := Lib.hid hN2
          have hN264 : N2 ≤ 64 := by rw [← hN2]; unfold filesI; rw [List.length_map]; exact filesN_len T.f 64
          clear hN2
          go_wp2_with (go_at_call 42; refine (dFiles_any g m V' T _ HW3.out.1).mono ?_; rw [HN2.out]; rintro e w4 ⟨A4, c4, rfl, hown4, hn4⟩; have H4 := Lib.hid (And.intro hown4 hn4); clear hown4 hn4)
          have HD4 := Lib.hid (HW3.out.1.new H4.out.2)
          have HA4 := Lib.hid (show ∀ k, blk A4 = some k → ¬ ownD g m V' k from fun k hk ho => by have := (own_blk_le H4.out.1 hk).1; have := HW3.out.1.lt ho; omega)
          go_loopw [78] (fun v wr => ∃ j5 : Nat, j5 ≤ N2 ∧ v = .int .i64 (j5 : Int) ∧ DI wr g m V' (syncTo T j5) ∧ Chg (ownD g m V') w4 wr) (fun v _ => N2 - (intOf v).toNat)
          case atStart => exact ⟨0, Nat.zero_le _, rfl, by rw [syncTo_zero]; exact HD4.out, Chg.refl _ _⟩
          case round =>
            obtain ⟨j5, hj5, rfl, hdi, hch⟩ := hrel
            by_cases hlt5 : j5 < N2
            · obtain ⟨i, hi1, hi2, hi, hf⟩ := filesI_at (s := T) (j := j5) (by rw [HN2.out]; exact hlt5)
              have hrd : Rd wr A4 N2 (is (filesI T)) := Rd.of_own (own_chg H4.out.1 hch HA4.out)
              obtain ⟨ad, u, rfl, hu, hcu⟩ := hrd.at_ hlt5
              obtain ⟨z, hz, rfl⟩ := is_at hu
              obtain rfl : z = (i : Int) := by rw [hi2] at hz; injection hz with hz; exact hz.symm
              obtain ⟨A2, c2, hv, _⟩ := hdi.slice i
              obtain ⟨n, hn⟩ : ∃ n, ((syncTo T j5).f i).length = n := ⟨_, rfl⟩
              obtain ⟨d, hd⟩ : ∃ d, (syncTo T j5).firm i = d := ⟨_, rfl⟩
              rw [hn] at hv
              have hb1 := hdi.core.blk.cell 1 (u := .map (some m)) rfl
              have hgl := hdi.core.blk.lt
              have HX5 := Lib.hid hdi
              have HC5 := Lib.hid hch
              have HV5 := Lib.hid hv
              have HD5 := Lib.hid hd
              have HN5 := Lib.hid hn
              have HI5 := Lib.hid (And.intro hi1 (And.intro hi hf))
              have hadl := cell_lt' hcu
              clear hrd hu hz hdi hch hv hd hn hi1 hi2 hf
              go_wp2_with (at_lookup; refine wpList_file _ rfl _ _ rfl HX5.out.core rfl (HX5.out.core.map.chg ((Chg.refl (fun _ => False) wr)) (fun h => h)) hi rfl HV5.out HD5.out ?_)
              have hnw : New wr (wr.alloc (Obj.cells #[Value.slice A2 n c2, Value.int IntKind.i64 ↑n] 70)).drew := ((Chg.refl _ wr).alloc _).drew
              obtain ⟨w5, hrun, hm5, hc5, hs5⟩ := MI.store (w := (wr.alloc (Obj.cells #[Value.slice A2 n c2, Value.int IntKind.i64 ↑n] 70)).drew) (HX5.out.core.map.chg hnw (fun h => h)) keyInt Try.underlying66 (Nat.lt_of_le_of_lt (entL_len V' _) (show 64 < maxLen by decide)) (i64_file hi) (.agg #[.slice A2 n c2, .int .i64 (n : Int)])
              have hd5 := (HX5.out.new hnw).firm1 hi (by exact HI5.out.2.2) (by rw [HV5.out, HN5.out]; exact hm5) hc5
              have he5 : put (syncTo T j5) i ((syncTo T j5).f i) ((syncTo T j5).f i).length = syncTo T (j5 + 1) := (syncTo_succ HI5.out.1).symm
              rw [he5] at hd5
              have hch5 : Chg (ownD g m V') w4 w5 := (HC5.out.new hnw).trans hc5 (fun k _ e => .inr (.inl e))
              have H5 := Lib.hid (And.intro hd5 hch5)
              clear hnw hm5 hc5 hs5 hd5 he5 hch5
              go_region
              go_wp2
              go_roundw
              case rel => exact ⟨j5 + 1, by omega, by go_num, H5.out.1, H5.out.2⟩
              case measure => simp [intOf]; omega
            · obtain rfl : j5 = N2 := by omega
              have hall := syncTo_all HW3.out.1.wf
              rw [show (files T).length = j5 by rw [← HN2.out]; unfold filesI; rw [List.length_map]] at hall
              rw [hall] at hdi
              have hb2 := hdi.core.blk.cell 2 (u := .bool T.off) rfl
              have hb3 := hdi.core.blk.cell 3 (u := .bool (decide (0 ≤ T.plan))) rfl
              have hb4 := hdi.core.blk.cell 4 (u := .int .i64 (max T.plan 0)) rfl
              have hf2 := hdi.core.blk.frozen 2
              have hf3 := hdi.core.blk.frozen 3
              have hf4 := hdi.core.blk.frozen 4
              have HX6 := Lib.hid hdi
              have HC6 := Lib.hid hch
              clear hdi hch hall
              go_wp2
              go_end0
              have hbk := ((HX6.out.core.blk.set_ 2 (.bool false)).set_ 3 (.bool false)).set_ 4 (.int .i64 0)
              have hcr : crash s keep flip = { firmAll T with off := false, plan := -1 } := by rw [crash_eq, HT.out]
              rw [hcr]
              have hfin := HX6.out.cells (s' := { firmAll T with off := false, plan := -1 }) ⟨rfl, rfl⟩ (by simpa [dCells, firmAll, show max (-1 : Int) 0 = 0 by decide] using hbk) ((((Chg.refl (fun k => k = g) wr).setCell (p := ⟨g, 2, none⟩) (fun _ => rfl) _).setCell (p := ⟨g, 3, none⟩) (fun _ => rfl) _).setCell (p := ⟨g, 4, none⟩) (fun _ => rfl) _) ⟨HX6.out.wf.firm, ⟨by simp, by simp⟩, HX6.out.wf.room, HX6.out.wf.used, HX6.out.wf.far⟩
              refine ⟨rfl, V', hfin.1, (Did.of_new H2.out.2).trans (HW3.out.2.trans ((Did.of_new H4.out.2).trans (Did.trans ⟨HC6.out, fun k hk => .inl hk⟩ hfin.2)))⟩
end Go.Proofs.Ytffehmfjcglalaa
