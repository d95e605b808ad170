/- Contract of disk.Sync. -/
import Derived.Test.YtffehmfjcglalaaDkFZ
set_option linter.unusedSimpArgs false
set_option linter.unusedVariables false
namespace Go.Proofs.Ytffehmfjcglalaa
set_option linter.unusedVariables false
open Go.RowKit Go.Mem Go.Dk

theorem DI.firm1 {w w' : World} {g m : Nat} {V : Nat → Value} {s : S} (h : DI w g m V s) {i : Nat} (hi : i < 64) (hf : s.f i ≠ []) (hm : MI w' Try.prog 3 m (pt (entL V s) (i : Int) (ctV (V i) (s.f i).length))) (hc : Chg (fun k => k = m) w w') : DI w' g m V (put s i (s.f i) (s.f i).length) := by
  have hd := h.core.put1 hi hf hm hc
  have hr := (h.rows i).chg hc (fun k hk e => (h.core.row_ne (h.rows i) hk).2 e)
  have := (h.put_row (hc.mono (fun k _ e => .inr (.inl e))) hd hr (fun k hk => .inl hk) (h.wf.put hi (Nat.le_refl _) (by have := h.wf.used; omega))).1
  rwa [upd_self] at this
theorem filesI_at {s : S} {j : Nat} (h : j < (filesI s).length) : ∃ i, (files s)[j]? = some i ∧ (filesI s)[j]? = some (i : Int) ∧ i < 64 ∧ s.f i ≠ [] := by
  unfold filesI at h ⊢
  rw [List.length_map] at h
  have hm := mem_files.1 (List.getElem_mem h)
  exact ⟨(files s)[j], by simp [h], by simp [h], hm.1, hm.2⟩

theorem cell_lt' {w : World} {ad : Addr} {u : Value} (h : w.cell? ad = some u) : ad.block < w.heap.size := by
  unfold World.cell? at h
  split at h
  · rename_i heq
    exact (Array.getElem?_eq_some_iff.1 heq).1
  · cases h

set_option maxHeartbeats 2000000 in
set_option maxRecDepth 100000 in
theorem dSync_any (g m : Nat) (V : Nat → Value) (s : S) (w : World) (h : DI w g m V s) :
    Calls Try.prog 33 #[.pointer (some ⟨g, 0, none⟩)] w fun e w' => e = .returned (.int .i64 (sync s).2) ∧
      DI w' g m V (sync s).1 ∧ Did w w' g m V V := by
  have hc2 := h.core.blk.cell 2 (u := .bool s.off) rfl
  have hbk := h.core.blk
  have HH := Lib.hid h
  clear h
  cases ho : s.off with
  | true =>
    rw [sync_off ho]
    rw [ho] at hc2
    clear hbk
    go_enter Try.func33, Try.ntmps33
    go_wp2
    go_ret
    exact ⟨rfl, HH.out, Did.of_new (Chg.refl _ _)⟩
  | false =>
    rw [ho] at hc2
    cases hr : (pstep s).2 with
    | true =>
      rw [sync_down ho hr]
      have HR := Lib.hid hr
      have HO := Lib.hid ho
      have HB := Lib.hid hbk
      clear hr ho hbk
      go_enter Try.func33, Try.ntmps33
      go_wp2_with (go_at_call 41; refine (dFails_any g m s _ HB.out HH.out.wf.plan).mono ?_; rintro e w1 ⟨rfl, hb1, hc1⟩; rw [HR.out]; have H1 := Lib.hid (HH.out.cells ⟨(step_f s).1, (step_f s).2.1⟩ hb1 hc1 HH.out.wf.pstep); clear hb1 hc1)
      go_ret
      exact ⟨rfl, H1.out.1, H1.out.2⟩
    | false =>
      rw [sync_ok ho hr]
      have HR := Lib.hid hr
      have HO := Lib.hid ho
      have HB := Lib.hid hbk
      obtain ⟨s1, hs1⟩ : ∃ s1, (pstep s).1 = s1 := ⟨_, rfl⟩
      rw [hs1]
      have HS1 := Lib.hid hs1
      obtain ⟨N, hN⟩ : ∃ N, (filesI s1).length = N := ⟨_, rfl⟩
      have HN := Lib.hid hN
      clear hr ho hbk hs1 hN
      go_enter Try.func33, Try.ntmps33
      go_wp2_with (first
        | (go_at_call 41; refine (dFails_any g m s _ HB.out HH.out.wf.plan).mono ?_; rintro e w1 ⟨rfl, hb1, hc1⟩; rw [HR.out]; have H1 := Lib.hid (HS1.out ▸ HH.out.cells ⟨(step_f s).1, (step_f s).2.1⟩ hb1 hc1 HH.out.wf.pstep); clear hb1 hc1)
        | (go_at_call 42; refine (dFiles_any g m V s1 _ H1.out.1).mono ?_; rw [HN.out]; rintro e w2 ⟨A, c, rfl, hown2, hn2⟩; have H2 := Lib.hid (And.intro hown2 hn2); clear hown2 hn2))
      have hN64 : N ≤ 64 := by rw [← HN.out]; unfold filesI; rw [List.length_map]; exact filesN_len s1.f 64
      have HD2 := Lib.hid (H1.out.1.new H2.out.2)
      have HA := Lib.hid (show ∀ k, blk A = some k → ¬ ownD g m V k from fun k hk ho => by have := (own_blk_le H2.out.1 hk).1; have := H1.out.1.lt ho; omega)
      go_loopw [17] (fun v wr => ∃ j : Nat, j ≤ N ∧ v = .int .i64 (j : Int) ∧ DI wr g m V (syncTo s1 j) ∧ Chg (ownD g m V) w2 wr) (fun v _ => N - (intOf v).toNat)
      case atStart => exact ⟨0, Nat.zero_le _, rfl, by rw [syncTo_zero]; exact HD2.out, Chg.refl _ _⟩
      case round =>
        obtain ⟨j, hj, rfl, hdi, hch⟩ := hrel
        by_cases hlt : j < N
        · obtain ⟨i, hi1, hi2, hi, hf⟩ := filesI_at (s := s1) (j := j) (by rw [HN.out]; exact hlt)
          have hrd : Rd wr A N (is (filesI s1)) := Rd.of_own (own_chg H2.out.1 hch HA.out)
          obtain ⟨ad, u, rfl, hu, hcu⟩ := hrd.at_ hlt
          obtain ⟨z, hz, rfl⟩ := is_at hu
          obtain rfl : z = (i : Int) := by rw [hi2] at hz; injection hz with hz; exact hz.symm
          obtain ⟨A2, c2, hv, _⟩ := hdi.slice i
          obtain ⟨n, hn⟩ : ∃ n, ((syncTo s1 j).f i).length = n := ⟨_, rfl⟩
          obtain ⟨d, hd⟩ : ∃ d, (syncTo s1 j).firm i = d := ⟨_, rfl⟩
          rw [hn] at hv
          have hb1 := hdi.core.blk.cell 1 (u := .map (some m)) rfl
          have hgl := hdi.core.blk.lt
          have HX := Lib.hid hdi
          have HC := Lib.hid hch
          have HV := Lib.hid hv
          have HD := Lib.hid hd
          have HNn := Lib.hid hn
          have HI := Lib.hid (And.intro hi1 (And.intro hi hf))
          have hadl := cell_lt' hcu
          clear hrd hu hz hdi hch hv hd hn hi1 hi2 hf
          go_wp2_with (at_lookup; refine wpList_file _ rfl _ _ rfl HX.out.core rfl (HX.out.core.map.chg ((Chg.refl (fun _ => False) wr)) (fun h => h)) hi rfl HV.out HD.out ?_)
          have hnw : New wr (wr.alloc (Obj.cells #[Value.slice A2 n c2, Value.int IntKind.i64 ↑n] 70)).drew := ((Chg.refl _ wr).alloc _).drew
          obtain ⟨w5, hrun, hm5, hc5, hs5⟩ := MI.store (w := (wr.alloc (Obj.cells #[Value.slice A2 n c2, Value.int IntKind.i64 ↑n] 70)).drew) (HX.out.core.map.chg hnw (fun h => h)) keyInt Try.underlying66 (Nat.lt_of_le_of_lt (entL_len V _) (show 64 < maxLen by decide)) (i64_file hi) (.agg #[.slice A2 n c2, .int .i64 (n : Int)])
          have hd5 := (HX.out.new hnw).firm1 hi (by exact HI.out.2.2) (by rw [HV.out, HNn.out]; exact hm5) hc5
          have he5 : put (syncTo s1 j) i ((syncTo s1 j).f i) ((syncTo s1 j).f i).length = syncTo s1 (j + 1) := (syncTo_succ HI.out.1).symm
          rw [he5] at hd5
          have hch5 : Chg (ownD g m V) w2 w5 := (HC.out.new hnw).trans hc5 (fun k _ e => .inr (.inl e))
          have H5 := Lib.hid (And.intro hd5 hch5)
          clear hnw hm5 hc5 hs5 hd5 he5 hch5
          go_region
          go_wp2
          go_roundw
          case rel => exact ⟨j + 1, by omega, by go_num, H5.out.1, H5.out.2⟩
          case measure => simp [intOf]; omega
        · obtain rfl : j = N := by omega
          go_wp2
          go_ret
          refine ⟨rfl, ?_, ?_⟩
          · have := syncTo_all H1.out.1.wf
            rw [show (files s1).length = j by rw [← HN.out]; unfold filesI; rw [List.length_map]] at this
            rw [← this]
            exact hdi
          · refine H1.out.2.trans ⟨(H2.out.2.mono (fun _ _ hf => hf.elim)).trans hch (fun _ _ h => h), fun k hk => .inl hk⟩
end Go.Proofs.Ytffehmfjcglalaa
