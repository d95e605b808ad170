/- The reference's disk: Sync. -/
import Derived.Test.YtffehmfjcglalaaRdCZ
set_option linter.unusedSimpArgs false
set_option linter.unusedVariables false
namespace Go.Dk
/-- The first k files made durable, one after the other. -/
def syncN (s : S) (k : Nat) : S := { s with firm := fun i => if i < k then (s.f i).length else s.firm i }
theorem syncN_zero (s : S) : syncN s 0 = s := by unfold syncN; simp
theorem syncN_succ (s : S) (k : Nat) : syncN s (k + 1) = { syncN s k with firm := upd (syncN s k).firm k (s.f k).length } := by
  unfold syncN
  have : (fun i => if i < k + 1 then (s.f i).length else s.firm i) = upd (fun i => if i < k then (s.f i).length else s.firm i) k (s.f k).length := by
    funext i
    unfold upd
    by_cases e : i = k
    · subst e; simp
    · rw [if_neg e]
      by_cases h : i < k
      · simp [h, show i < k + 1 by omega]
      · simp [h, show ¬ i < k + 1 by omega]
  simp only [this]
theorem syncN_all {s : S} (h : WF s) : syncN s 64 = firmAll s := by
  unfold syncN firmAll
  have : (fun i => if i < 64 then (s.f i).length else s.firm i) = fun i => (s.f i).length := by
    funext i
    split
    · rfl
    · have h1 := h.firm i
      rw [h.far i (by omega)] at h1 ⊢
      simpa using h1
  rw [this]
theorem put_same (s : S) (i d : Nat) : put s i (s.f i) d = { s with firm := upd s.firm i d } := by
  unfold put
  rw [upd_self]
end Go.Dk
namespace Go.Proofs.Ytffehmfjcglalaa
set_option linter.unusedVariables false
open Go.RowKit Go.Mem Go.Dk

theorem RI.setFirm {w : World} {g b f i d : Nat} {V : Nat → Value} {s : S} (h : RI w g b f V s) (hi : i < 64) (hd : d ≤ (s.f i).length) : RI (w.setCell ⟨f, i, none⟩ (.int .i64 (d : Int))) g b f V { s with firm := upd s.firm i d } ∧ DidR w (w.setCell ⟨f, i, none⟩ (.int .i64 (d : Int))) g b f V V := by
  have hch := (Chg.refl (fun k => k = f) w).setCell (p := ⟨f, i, none⟩) (fun _ => rfl) (.int .i64 (d : Int))
  have hrc := h.core.setF i d (s.f i)
  have := h.put_row (i := i) (d := d) (l := s.f i) (v := V i) (hch.mono (fun k _ e => .inr (.inl e))) (by rw [upd_self]; exact hrc) ((h.rows i).chg hch (fun k hk e => (h.core.row_ne (h.rows i) hk).2.2 e)) (fun k hk => .inl hk) (h.wf.put hi hd (by have := h.wf.used; omega))
  rwa [upd_self, put_same] at this

set_option maxHeartbeats 2000000 in
set_option maxRecDepth 100000 in
theorem rSync_x (g b f : Nat) (V : Nat → Value) (s : S) (w : World) (h : RI w g b f V s) :
    Calls Try.prog 46 #[.pointer (some ⟨g, 0, none⟩)] w fun e w' => e = .returned (.int .i64 (sync s).2) ∧
      RI w' g b f V (sync s).1 ∧ DidR w w' g b f V V ∧ Chg (fun k => k = g ∨ k = b ∨ k = f) w w' := by
  obtain ⟨hc0, hc1, hc2, hc3, hc4⟩ := h.core.cc
  have hbk := h.core.blk
  have hgl := h.core.blk.lt
  have HH := Lib.hid h
  clear h hc0 hc1 hc2 hc4
  cases ho : s.off with
  | true =>
    rw [sync_off ho]
    rw [ho] at hc3
    clear hbk
    go_enter Try.func46, Try.ntmps46
    go_wp2
    go_ret
    exact ⟨rfl, HH.out, DidR.of_new (Chg.refl _ _), Chg.refl _ _⟩
  | false =>
    rw [ho] at hc3
    have HO := Lib.hid ho
    have HB := Lib.hid hbk
    cases hr : (pstep s).2 with
    | true =>
      rw [sync_down ho hr]
      have HR := Lib.hid hr
      clear hr ho hbk
      go_enter Try.func46, Try.ntmps46
      go_wp2_with (go_at_call 55; refine (rStep_any g b f s _ HB.out HO.out HH.out.wf.plan).mono ?_; rintro e w1 ⟨rfl, hb1, hc1⟩; rw [HR.out]; have H1 := Lib.hid (HH.out.cells ⟨(step_f s).1, (step_f s).2.1⟩ hb1 hc1 HH.out.wf.pstep); have HC1 := Lib.hid hc1; clear hb1 hc1)
      go_ret
      exact ⟨rfl, H1.out.1, H1.out.2, HC1.out.mono (fun _ _ e => .inl e)⟩
    | false =>
      rw [sync_ok ho hr]
      have HR := Lib.hid hr
      obtain ⟨s1, hs1⟩ : ∃ s1, (pstep s).1 = s1 := ⟨_, rfl⟩
      rw [hs1]
      have HS1 := Lib.hid hs1
      clear hr ho hbk hs1
      go_enter Try.func46, Try.ntmps46
      go_wp2_with (go_at_call 55; refine (rStep_any g b f s _ HB.out HO.out HH.out.wf.plan).mono ?_; rintro e w1 ⟨rfl, hb1, hc1⟩; rw [HR.out]; have H1 := Lib.hid (HS1.out ▸ HH.out.cells ⟨(step_f s).1, (step_f s).2.1⟩ hb1 hc1 HH.out.wf.pstep); have HC1 := Lib.hid hc1; clear hb1 hc1)
      go_loopw [4] (fun v wr => ∃ k : Nat, k ≤ 64 ∧ v = .int .i64 (k : Int) ∧ RI wr g b f V (syncN s1 k) ∧ DidR w1 wr g b f V V ∧ Chg (fun k => k = g ∨ k = b ∨ k = f) w1 wr) (fun v _ => 64 - (intOf v).toNat)
      case atStart => exact ⟨0, Nat.zero_le _, rfl, by rw [syncN_zero]; exact H1.out.1, DidR.of_new (Chg.refl _ _), Chg.refl _ _⟩
      case round =>
        obtain ⟨k, hk, rfl, hri, hdid, hch⟩ := hrel
        by_cases hlt : k < 64
        · obtain ⟨A, c, hv, _⟩ := hri.slice k
          obtain ⟨n, hn⟩ : ∃ n, ((syncN s1 k).f k).length = n := ⟨_, rfl⟩
          rw [hn] at hv
          have hcb := hri.core.cb hlt
          rw [hv] at hcb
          have hcf := hri.core.cf hlt
          have hff := hri.core.rf.frozen k
          obtain ⟨_, hd1, hd2, _, _⟩ := hri.core.cc
          have hgl1 := hri.core.blk.lt
          obtain ⟨hx1, hx2⟩ := hri.setFirm hlt (d := n) (by omega)
          have hsn : { syncN s1 k with firm := upd (syncN s1 k).firm k n } = syncN s1 (k + 1) := by rw [syncN_succ, ← hn]; rfl
          rw [hsn] at hx1
          have HV := Lib.hid hv
          have HCX := Lib.hid (hch.setCell (p := ⟨f, k, none⟩) (fun _ => .inr (.inr rfl)) (.int .i64 (n : Int)))
          have HX := Lib.hid (And.intro hx1 (hdid.trans hx2))
          have hi1 : (0 : Int) ≤ (k : Int) := by omega
          have hi2 : (k : Int) < 64 := by omega
          have hi3 : (k : Int) < ((64 : Nat) : Int) := by omega
          clear hri hdid hch hv hn hx1 hx2 hsn
          go_wp2_with fail
          go_region_held3 (fun w1 => w1.cell? ⟨g, 1, none⟩ = some (.slice (some ⟨b, 0, none⟩) 64 64) ∧ w1.cell? ⟨g, 2, none⟩ = some (.slice (some ⟨f, 0, none⟩) 64 64) ∧ w1.cell? ⟨b, k, none⟩ = some (.slice A n c)) (first | exact ⟨hd1, hd2, hcb⟩ | exact ⟨HX.out.1.core.cc.2.1, HX.out.1.core.cc.2.2.1, by have := HX.out.1.core.cb hlt; rw [HV.out] at this; exact this⟩) (fail)
          go_wp2
          go_roundw
          case rel => exact ⟨k + 1, by omega, by go_num, HX.out.1.new (Chg.refl _ _).drew, HX.out.2.trans (DidR.of_new (Chg.refl _ _).drew), HCX.out.drew⟩
          case measure => simp [intOf]; omega
        · obtain rfl : k = 64 := by omega
          go_wp2
          go_ret
          refine ⟨rfl, ?_, H1.out.2.trans hdid, (HC1.out.mono (T := fun k => k = g ∨ k = b ∨ k = f) (fun _ _ e => .inl e)).trans hch (fun _ _ e => e)⟩
          rw [← syncN_all H1.out.1.wf]
          exact hri
theorem rSync_any (g b f : Nat) (V : Nat → Value) (s : S) (w : World) (h : RI w g b f V s) :
    Calls Try.prog 46 #[.pointer (some ⟨g, 0, none⟩)] w fun e w' => e = .returned (.int .i64 (sync s).2) ∧
      RI w' g b f V (sync s).1 ∧ DidR w w' g b f V V := by
  refine (rSync_x g b f V s w h).mono ?_
  rintro e w' ⟨h1, h2, h3, _⟩
  exact ⟨h1, h2, h3⟩
end Go.Proofs.Ytffehmfjcglalaa
