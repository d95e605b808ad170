/- The reference's disk: Truncate. -/
import Derived.Test.YtffehmfjcglalaaRdDZ
set_option linter.unusedSimpArgs false
set_option linter.unusedVariables false
namespace Go.Proofs.Ytffehmfjcglalaa
set_option linter.unusedVariables false
open Go.RowKit Go.Mem Go.Dk

set_option maxHeartbeats 2000000 in
set_option maxRecDepth 100000 in
theorem rTruncate_x (g b f : Nat) (V : Nat → Value) (s : S) (w : World) (h : RI w g b f V s) (file size : Int) :
    Calls Try.prog 45 #[.pointer (some ⟨g, 0, none⟩), .int .i64 file, .int .i64 size] w fun e w' => e = .returned (.int .i64 (truncate s file size).2) ∧
      ∃ V', RI w' g b f V' (truncate s file size).1 ∧ DidR w w' g b f V V' ∧ Chg (fun k => k = g ∨ k = b ∨ k = f) w w' := by
  obtain ⟨hc0, hc1, hc2, hc3, hc4⟩ := h.core.cc
  have hbk := h.core.blk
  have hgl := h.core.blk.lt
  have HH := Lib.hid h
  clear h hc0 hc2 hc4
  by_cases h1 : file < 0
  · have e : truncate s file size = (s, 1) := if_pos (.inl h1)
    rw [e]
    clear hbk e
    go_enter Try.func45, Try.ntmps45
    go_wp2
    go_ret
    exact ⟨rfl, V, HH.out, DidR.of_new (Chg.refl _ _), Chg.refl _ _⟩
  by_cases h2 : 63 < file
  · have e : truncate s file size = (s, 1) := if_pos (.inr (.inl (by omega)))
    rw [e]
    clear hbk e
    go_enter Try.func45, Try.ntmps45
    go_wp2
    go_ret
    exact ⟨rfl, V, HH.out, DidR.of_new (Chg.refl _ _), Chg.refl _ _⟩
  by_cases h3 : size < 0
  · have e : truncate s file size = (s, 1) := if_pos (.inr (.inr (.inl h3)))
    rw [e]
    clear hbk e
    go_enter Try.func45, Try.ntmps45
    go_wp2
    go_ret
    exact ⟨rfl, V, HH.out, DidR.of_new (Chg.refl _ _), Chg.refl _ _⟩
  obtain ⟨i, rfl⟩ := Int.eq_ofNat_of_zero_le (by omega : 0 ≤ file)
  have hi : i < 64 := by omega
  obtain ⟨A, c, hv, hlc, hcm⟩ := HH.out.slice i
  obtain ⟨n, hn⟩ : ∃ n, (s.f i).length = n := ⟨_, rfl⟩
  rw [hn] at hv hlc
  have hcb := HH.out.core.cb hi
  rw [hv] at hcb
  have hln := HH.out.wf.len i
  rw [hn] at hln
  have hi1 : (0 : Int) ≤ (i : Int) := by omega
  have hi2 : (i : Int) < 64 := by omega
  have HV := Lib.hid hv
  have HN := Lib.hid hn
  by_cases h4 : (n : Int) < size
  · have e : truncate s (i : Int) size = (s, 1) := if_pos (.inr (.inr (.inr (by simpa [hn] using h4))))
    rw [e]
    clear hbk e hv hn hlc hcm
    go_enter Try.func45, Try.ntmps45
    go_wp2
    go_ret
    exact ⟨rfl, V, HH.out, DidR.of_new (Chg.refl _ _), Chg.refl _ _⟩
  obtain ⟨k, rfl⟩ := Int.eq_ofNat_of_zero_le (by omega : 0 ≤ size)
  have hk : k ≤ n := by omega
  have hno : ¬ ((i : Int) < 0 ∨ 64 ≤ (i : Int) ∨ (k : Int) < 0 ∨ ((s.f (i : Int).toNat).length : Int) < (k : Int)) := by
    rw [show (i : Int).toNat = i by omega, hn]
    omega
  cases ho : s.off with
  | true =>
    have e : truncate s (i : Int) (k : Int) = (s, 24) := by unfold truncate; rw [if_neg hno, if_pos ho]
    rw [e]
    rw [ho] at hc3
    clear hbk e hv hn hlc hcm ho hno
    go_enter Try.func45, Try.ntmps45
    go_wp2
    go_ret
    exact ⟨rfl, V, HH.out, DidR.of_new (Chg.refl _ _), Chg.refl _ _⟩
  | false =>
    rw [ho] at hc3
    have HO := Lib.hid ho
    have HB := Lib.hid hbk
    have hkc : k ≤ c := by omega
    cases hr : (pstep s).2 with
    | true =>
      have e : truncate s (i : Int) (k : Int) = ((pstep s).1, 24) := by unfold truncate; rw [if_neg hno, if_neg (by rw [ho]; simp), if_pos hr]
      rw [e]
      have HR := Lib.hid hr
      clear hr ho hbk e hv hn hlc hcm hno hkc
      go_enter Try.func45, Try.ntmps45
      go_wp2_with (go_at_call 55; refine (rStep_any g b f s _ HB.out HO.out HH.out.wf.plan).mono ?_; rintro e w1 ⟨rfl, hb1, hc1⟩; rw [HR.out]; have H1 := Lib.hid (HH.out.cells ⟨(step_f s).1, (step_f s).2.1⟩ hb1 hc1 HH.out.wf.pstep); have HC1 := Lib.hid hc1; clear hb1 hc1)
      go_ret
      exact ⟨rfl, V, H1.out.1, H1.out.2, HC1.out.mono (fun _ _ e => .inl e)⟩
    | false =>
      obtain ⟨s1, hs1⟩ : ∃ s1, (pstep s).1 = s1 := ⟨_, rfl⟩
      have hsf := step_f s
      rw [hs1] at hsf
      obtain ⟨d, hd⟩ : ∃ d, s1.firm i = d := ⟨_, rfl⟩
      have e : truncate s (i : Int) (k : Int) = (put s1 i ((s1.f i).take k) (min d k), 0) := by
        unfold truncate
        rw [if_neg hno, if_neg (by rw [ho]; simp), if_neg (by rw [hr]; simp), hs1, ← hd, hsf.1, hsf.2.1]
        simp
      rw [e]
      have hn1 : (s1.f i).length = n := by rw [hsf.1, hn]
      have hdn : d ≤ n := by rw [← hd, ← hn, hsf.2.1]; exact HH.out.wf.firm i
      have HR := Lib.hid hr
      have HS1 := Lib.hid (And.intro hs1 (And.intro hn1 hd))
      have hupto := fun W => run_upto (P := Try.prog) elemBytes .i64 A n c k (k : Int) rfl hkc W
      have hmin := fun ts t W => run_min2 (P := Try.prog) (d : Int) (k : Int) ((min d k : Nat) : Int) (by omega) ts t W
      clear hr ho hbk e hv hn hlc hcm hno hs1 hsf hd hn1
      go_enter Try.func45, Try.ntmps45
      go_wp2_with (go_at_call 55; refine (rStep_any g b f s _ HB.out HO.out HH.out.wf.plan).mono ?_; rintro e w1 ⟨rfl, hb1, hc1⟩; rw [HR.out]; have H1 := Lib.hid (HS1.out.1 ▸ HH.out.cells ⟨(step_f s).1, (step_f s).2.1⟩ hb1 hc1 HH.out.wf.pstep); have HC1 := Lib.hid hc1; clear hb1 hc1)
      clear hc1 hc3 hcb hgl
      obtain ⟨_, hd1, hd2, _, _⟩ := H1.out.1.core.cc
      have hcb := H1.out.1.core.cb hi
      rw [HV.out] at hcb
      have hfb := H1.out.1.core.rb.frozen i
      have hcf := H1.out.1.core.cf hi
      rw [HS1.out.2.2] at hcf
      have hff := H1.out.1.core.rf.frozen i
      have hgl1 := H1.out.1.core.blk.lt
      have hb2 := H1.out.1.core.setB i (.slice A k c)
      have hb3 := hb2.setF i (min d k) ((s1.f i).take k)
      have hch2 := ((Chg.refl (fun k => k = b ∨ k = f) w1).setCell (p := ⟨b, i, none⟩) (fun _ => .inl rfl) (.slice A k c)).setCell (p := ⟨f, i, none⟩) (fun _ => .inr rfl) (.int .i64 ((min d k : Nat) : Int))
      have hrow := H1.out.1.rows i
      rw [HV.out] at hrow
      have hrow2 := (RowV.pre hrow (k := k) (by rw [bs_length, HS1.out.2.1]; exact hk)).chg hch2 (fun j hj hs => by
        rcases hs with e | e
        · exact (H1.out.1.core.row_ne hrow hj).2.1 e
        · exact (H1.out.1.core.row_ne hrow hj).2.2 e)
      rw [bs_take] at hrow2
      have hfin := H1.out.1.put_row (i := i) (d := min d k) (l := (s1.f i).take k) (v := .slice A k c) (hch2.mono (fun k _ e => e.elim .inl (fun e => .inr (.inl e)))) hb3 hrow2 (fun j hj => .inl (by rw [HV.out]; exact hj)) (H1.out.1.wf.put hi (by rw [List.length_take, HS1.out.2.1]; omega) (by rw [List.length_take]; have := H1.out.1.wf.used; omega))
      have HF := Lib.hid (And.intro hfin.1 (H1.out.2.trans hfin.2))
      have HCF := Lib.hid ((HC1.out.mono (T := fun k => k = g ∨ k = b ∨ k = f) (fun _ _ e => .inl e)).trans hch2 (fun _ _ e => .inr e))
      have he1 := hb2.cc
      have he2 := hb2.cf hi
      rw [HS1.out.2.2] at he2
      have hef := hb2.rf.frozen i
      clear hb2 hb3 hch2 hrow hrow2 hfin
      go_region
      obtain ⟨he11, he12⟩ := he1.2
      have he13 := he12.1
      clear he1 he12
      go_wp2_with fail
      go_region
      go_wp2
      go_ret
      exact ⟨rfl, _, HF.out.1.new ((Chg.refl _ _).drew.drew), HF.out.2.trans (DidR.of_new ((Chg.refl _ _).drew.drew)), HCF.out.new ((Chg.refl _ _).drew.drew)⟩
theorem rTruncate_any (g b f : Nat) (V : Nat → Value) (s : S) (w : World) (h : RI w g b f V s) (file size : Int) :
    Calls Try.prog 45 #[.pointer (some ⟨g, 0, none⟩), .int .i64 file, .int .i64 size] w fun e w' => e = .returned (.int .i64 (truncate s file size).2) ∧
      ∃ V', RI w' g b f V' (truncate s file size).1 ∧ DidR w w' g b f V V' := by
  refine (rTruncate_x g b f V s w h file size).mono ?_
  rintro e w' ⟨h1, V', h2, h3, _⟩
  exact ⟨h1, V', h2, h3⟩
end Go.Proofs.Ytffehmfjcglalaa
