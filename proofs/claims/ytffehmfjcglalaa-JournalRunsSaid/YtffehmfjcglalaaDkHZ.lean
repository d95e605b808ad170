/- Contract of disk.Truncate. -/
import Derived.Test.YtffehmfjcglalaaDkGZ
set_option linter.unusedSimpArgs false
set_option linter.unusedVariables false
namespace Go.Proofs.Ytffehmfjcglalaa
set_option linter.unusedVariables false
open Go.RowKit Go.Mem Go.Dk

theorem DC.look {w w0 : World} {g m : Nat} {V : Nat → Value} {s : S} (h : DC w0 g m V s) (hmi : MI w Try.prog 3 m (entL V s)) {i : Nat} (hi : i < 64) {A : Option Addr} {n c d : Nat} (hv : V i = .slice A n c) (hd : s.firm i = d) :
    (Instr.lookup 66 (.map (some m)) (.int .i64 (i : Int)) false).run Try.prog w = .ok (.agg #[.slice A n c, .int .i64 (d : Int)]) w := by
  have h1 := hmi.look keyInt Try.underlying66 (zeroCt w) (i64_file hi) false
  have := h.lk hi
  rw [hv, hd] at this
  simp only [Bool.false_eq_true, if_false] at h1
  rw [this] at h1
  exact h1
theorem tr_bad {s : S} {file size : Int} (h : file < 0 ∨ 64 ≤ file ∨ size < 0 ∨ ((s.f file.toNat).length : Int) < size) : truncate s file size = (s, 1) := if_pos h
theorem tr_off {s : S} {i k : Nat} (h : i < 64) (hk : k ≤ (s.f i).length) (ho : s.off = true) : truncate s (i : Int) (k : Int) = (s, 24) := by unfold truncate; rw [if_neg (by simp; omega), if_pos ho]
theorem tr_down {s : S} {i k : Nat} (h : i < 64) (hk : k ≤ (s.f i).length) (ho : s.off = false) (hr : (pstep s).2 = true) : truncate s (i : Int) (k : Int) = ((pstep s).1, 24) := by unfold truncate; rw [if_neg (by simp; omega), if_neg (by rw [ho]; simp), if_pos hr]
theorem tr_ok {s : S} {i k : Nat} (h : i < 64) (hk : k ≤ (s.f i).length) (ho : s.off = false) (hr : (pstep s).2 = false) : truncate s (i : Int) (k : Int) = (put (pstep s).1 i ((s.f i).take k) (min (s.firm i) k), 0) := by unfold truncate; rw [if_neg (by simp; omega), if_neg (by rw [ho]; simp), if_neg (by rw [hr]; simp)]; simp

set_option maxHeartbeats 2000000 in
set_option maxRecDepth 100000 in
theorem dTruncate_any (g m : Nat) (V : Nat → Value) (s : S) (w : World) (h : DI w g m V s) (file size : Int) :
    Calls Try.prog 32 #[.pointer (some ⟨g, 0, none⟩), .int .i64 file, .int .i64 size] w fun e w' => e = .returned (.int .i64 (truncate s file size).2) ∧
      ∃ V', DI w' g m V' (truncate s file size).1 ∧ Did w w' g m V V' := by
  have hc1 := h.core.blk.cell 1 (u := .map (some m)) rfl
  have hc2 := h.core.blk.cell 2 (u := .bool s.off) rfl
  have hbk := h.core.blk
  have HH := Lib.hid h
  clear h
  by_cases h1 : file < 0
  · rw [tr_bad (.inl h1)]
    clear hbk
    go_enter Try.func32, Try.ntmps32
    go_wp2
    go_ret
    exact ⟨rfl, V, HH.out, Did.of_new (Chg.refl _ _)⟩
  by_cases h2 : 64 ≤ file
  · rw [tr_bad (.inr (.inl h2))]
    clear hbk
    go_enter Try.func32, Try.ntmps32
    go_wp2
    go_ret
    exact ⟨rfl, V, HH.out, Did.of_new (Chg.refl _ _)⟩
  by_cases h3 : size < 0
  · rw [tr_bad (.inr (.inr (.inl h3)))]
    clear hbk
    go_enter Try.func32, Try.ntmps32
    go_wp2
    go_ret
    exact ⟨rfl, V, HH.out, Did.of_new (Chg.refl _ _)⟩
  obtain ⟨i, rfl⟩ := Int.eq_ofNat_of_zero_le (by omega : 0 ≤ file)
  obtain ⟨k, rfl⟩ := Int.eq_ofNat_of_zero_le (by omega : 0 ≤ size)
  have hi : i < 64 := by omega
  obtain ⟨A, c, hv, hlc, hcm⟩ := HH.out.slice i
  obtain ⟨n, hn⟩ : ∃ n, (s.f i).length = n := ⟨_, rfl⟩
  obtain ⟨d, hd⟩ : ∃ d, s.firm i = d := ⟨_, rfl⟩
  have hlen := HH.out.wf.len i
  have hdn := HH.out.wf.firm i
  rw [hn] at hv hlc hlen
  rw [hn, hd] at hdn
  have hlk := HH.out.core.look HH.out.core.map hi hv hd
  have hfl : ∀ w : World, (Instr.field 70 (.agg #[.slice A n c, .int .i64 (d : Int)]) 0).run Try.prog w = .ok (.slice A n c) w := fun w => by kernel_rfl
  by_cases h4 : n < k
  · rw [tr_bad (.inr (.inr (.inr (by simp [hn]; omega))))]
    have h4' : (n : Int) < (k : Int) := by omega
    clear hbk hn hd hv hlc hcm
    go_enter Try.func32, Try.ntmps32
    go_wp2
    go_ret
    exact ⟨rfl, V, HH.out, Did.of_new (Chg.refl _ _)⟩
  have hk : k ≤ (s.f i).length := by omega
  have h4' : (k : Int) ≤ (n : Int) := by omega
  have h4'' : k ≤ c := by omega
  cases ho : s.off with
  | true =>
    rw [tr_off hi hk ho]
    rw [ho] at hc2
    clear hbk hn hd hv hlc hcm
    go_enter Try.func32, Try.ntmps32
    go_wp2
    go_ret
    exact ⟨rfl, V, HH.out, Did.of_new (Chg.refl _ _)⟩
  | false =>
    rw [ho] at hc2
    have HB := Lib.hid hbk
    cases hr : (pstep s).2 with
    | true =>
      rw [tr_down hi hk ho hr]
      have HR := Lib.hid hr
      clear hbk hn hd hv hlc hcm hr ho
      go_enter Try.func32, Try.ntmps32
      go_wp2_with (go_at_call 41; refine (dFails_any g m s _ HB.out HH.out.wf.plan).mono ?_; rintro e w1 ⟨rfl, hb1, hc1⟩; rw [HR.out]; have H1 := Lib.hid (HH.out.cells ⟨(step_f s).1, (step_f s).2.1⟩ hb1 hc1 HH.out.wf.pstep); clear hb1 hc1)
      go_ret
      exact ⟨rfl, V, H1.out.1, H1.out.2⟩
    | false =>
      rw [tr_ok hi hk ho hr, hd]
      obtain ⟨s1, hs1⟩ : ∃ s1, (pstep s).1 = s1 := ⟨_, rfl⟩
      rw [hs1]
      have hf1 : s1.f = s.f ∧ s1.firm = s.firm := by rw [← hs1]; exact ⟨(step_f s).1, (step_f s).2.1⟩
      obtain ⟨e0, he0⟩ : ∃ e0 : Nat, min d k = e0 := ⟨_, rfl⟩
      rw [he0]
      have hmin : ((d : Int) ≤ (k : Int) ∧ (e0 : Int) = d) ∨ ((k : Int) ≤ (d : Int) ∧ (e0 : Int) = k) := by omega
      have HR := Lib.hid hr
      have HS1 := Lib.hid hs1
      have HF := Lib.hid hf1
      have HV := Lib.hid hv
      have HD := Lib.hid hd
      have HN := Lib.hid hn
      have HE := Lib.hid (And.intro he0 hmin)
      clear hbk hn hd hv hlc hcm hr ho hs1 hf1 he0 hmin
      go_enter Try.func32, Try.ntmps32
      go_wp2_with (go_at_call 41; refine (dFails_any g m s _ HB.out HH.out.wf.plan).mono ?_; rintro e w1 ⟨rfl, hb1, hc1⟩; rw [HR.out]; have hgl1 := hb1.lt; have hm1 := hb1.cell 1 (u := .map (some m)) rfl; have H1 := Lib.hid (HS1.out ▸ HH.out.cells ⟨(step_f s).1, (step_f s).2.1⟩ hb1 hc1 HH.out.wf.pstep); have hlk1 := H1.out.1.core.look H1.out.1.core.map hi HV.out (show s1.firm i = d from HF.out.2 ▸ HD.out); clear hb1 hc1)
      rw [show min (d : Int) (k : Int) = (e0 : Int) by have := HE.out.2; omega]
      obtain ⟨w2, hw2⟩ : ∃ w2, w1.alloc (Obj.cells #[Value.slice A k c, Value.int .i64 (e0 : Int)] 70) = w2 := ⟨_, rfl⟩
      have hn2 : New w1 w2 := by rw [← hw2]; exact (Chg.refl _ w1).alloc _
      rw [hw2]
      have hlt : ((s.f i).take k).length = k := by rw [List.length_take]; omega
      have hc2' := H1.out.1.new hn2
      have hrow : RowV w2 5 IsU8 (.slice A k c) (bs ((s.f i).take k)) := by
        have h5 := hc2'.rows i
        rw [HV.out, HF.out.1] at h5
        have := RowV.pre h5 (k := k) (by rw [bs_length]; exact hk)
        rwa [bs_take] at this
      refine (dPut_any g m V s1 w2 hc2'.core i hi A k c ((s.f i).take k) hlt e0 (fun e => by have := HE.out.1; omega)).mono ?_
      rintro e w3 ⟨rfl, hd3, hc3⟩
      have hr3 : RowV w3 5 IsU8 (if k = 0 then .slice none 0 0 else .slice A k c) (bs ((s.f i).take k)) := by
        split
        · rename_i h0
          rw [h0, List.take_zero]
          exact RowV.nil _ _ _
        · refine hrow.chg hc3 (fun j hj e => ?_)
          exact (hc2'.core.row_ne hrow hj).2 e
      have hfin := hc2'.put_row (hc3.mono (fun j _ e => .inr (.inl e))) hd3 hr3 (fun j hj => by
        split at hj
        · cases hj
        · exact .inl (by rw [HV.out]; exact hj)) (hc2'.wf.put hi (by rw [hlt]; have := HE.out.1; omega) (by have := hc2'.wf.used; rw [hlt, HF.out.1]; omega))
      have HFIN := Lib.hid (And.intro hfin.1 (H1.out.2.trans ((Did.of_new hn2).trans hfin.2)))
      clear hw2 hn2 hc2' hrow hd3 hc3 hr3 hfin
      go_wp2
      go_ret
      exact ⟨rfl, _, HFIN.out.1, HFIN.out.2⟩
end Go.Proofs.Ytffehmfjcglalaa
