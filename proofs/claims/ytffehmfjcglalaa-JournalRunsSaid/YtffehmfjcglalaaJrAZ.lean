/- Contract of the reference's journal: Open. -/
import Derived.Test.YtffehmfjcglalaaRdFZ
import Derived.Test.YtffehmfjcglalaaRefScanZ
import Derived.Test.YtffehmfjcglalaaJnAZ
set_option linter.unusedSimpArgs false
set_option linter.unusedVariables false
namespace Go.Proofs.Ytffehmfjcglalaa
set_option linter.unusedVariables false
open Go.RowKit Go.Mem Go.Dk Go.Pure Go.Jn

/-- Rows of bytes in a row of their own; the bytes lie in blocks of T. -/
structure RowsR (w : World) (B : Nat) (T : Nat → Prop) (A : Option Addr) (nl cl : Nat) (vs : List Value) (ls : List (List UInt8)) : Prop where
  own : w.ownsRow B 33 1 (.slice A nl cl) nl vs
  rows : Lists w vs ls
  inn : ∀ v ∈ vs, ∀ A n c, v = .slice A n c → ∀ k, blk A = some k → T k
theorem RowsR.nil (w : World) (B : Nat) (T : Nat → Prop) : RowsR w B T none 0 0 [] [] := ⟨World.ownsRow_nil _ _ _ _, Lists.nil w, fun v hv => (by simp at hv)⟩
theorem RowsR.chg {w w' : World} {B nl cl : Nat} {T U : Nat → Prop} {A : Option Addr} {vs : List Value} {ls : List (List UInt8)} (h : RowsR w B T A nl cl vs ls) (hc : Chg U w w') (h1 : ∀ k, B ≤ k → k < w.heap.size → ¬ U k) (h2 : ∀ k, T k → ¬ U k) : RowsR w' B T A nl cl vs ls :=
  ⟨own_chg h.own hc (fun k hk => h1 k (own_blk_le h.own hk).1 (own_blk_le h.own hk).2), h.rows.chg hc (fun v hv A n c e k hk => h2 k (h.inn v hv A n c e k hk)), h.inn⟩
/-- What Open gives back. -/
def ROpenV (w w' : World) (g b f : Nat) (V : Nat → Value) (s : S) (file : Int) (e : Ending) : Prop :=
  ∃ p A nl cl vs V', e = .returned (.tuple #[p, .slice A nl cl, .int .i64 (openJ s file).2.1]) ∧ RI w' g b f V' (openJ s file).1 ∧ DidR w w' g b f V V' ∧ RowsR w' w.heap.size (fun k => ∃ i, blkV (V i) = some k) A nl cl vs (openJ s file).2.2 ∧ (∀ k, blk A = some k → ¬ ownR g b f V' k) ∧
    (((openJ s file).2.1 = 0 ∧ ∃ gl, p = .pointer (some ⟨gl, 0, none⟩) ∧ w.heap.size ≤ gl ∧ ¬ ownR g b f V' gl ∧ Blk w' gl 50 (lgCells g ⟨file, (openJ s file).2.2.length, false⟩) ∧ blk A ≠ some gl) ∨ ((openJ s file).2.1 ≠ 0 ∧ p = .pointer none))
theorem ropen_fin {w w2 w4 W : World} {g b f cl : Nat} {V V' : Nat → Value} {s s' : S} {file : Int} {Al : Option Addr} {vs : List Value} {L : List (List UInt8)} (hd : RI w g b f V s) (hn2 : New w w2) (h1 : RowsR w2 w.heap.size (fun k => ∃ i, blkV (V i) = some k) Al L.length cl vs L)
    (hdid : DidR w2 w4 g b f V V') (hdi : RI w4 g b f V' s') (hch : Chg (fun k => k = g ∨ k = b ∨ k = f) w2 w4) (hW : W = w4.alloc (.cells (lgCells g ⟨file, L.length, false⟩) 50)) :
    RI W g b f V' s' ∧ DidR w W g b f V V' ∧ RowsR W w.heap.size (fun k => ∃ i, blkV (V i) = some k) Al L.length cl vs L ∧ (∀ k, blk Al = some k → ¬ ownR g b f V' k) ∧
    ∃ gl, Value.pointer (some ⟨w4.heap.size, 0, none⟩) = .pointer (some ⟨gl, 0, none⟩) ∧ w.heap.size ≤ gl ∧ ¬ ownR g b f V' gl ∧ Blk W gl 50 (lgCells g ⟨file, L.length, false⟩) ∧ blk Al ≠ some gl := by
  have hnw : New w4 W := by rw [hW]; exact (Chg.refl _ w4).alloc _
  have hs2 := hn2.size
  have hs4 := hch.size
  have lt : ∀ k, ownR g b f V k → k < w.heap.size := fun k hk => hd.lt hk
  have gg : ∀ k, (k = g ∨ k = b ∨ k = f) → ownR g b f V k := fun k hk => by
    rcases hk with h | h | h
    · exact .inl h
    · exact .inr (.inl h)
    · exact .inr (.inr (.inl h))
  have r4 := h1.chg hch (fun k hB _ hU => by have := lt k (gg k hU); omega) (fun k hT hU => by
    obtain ⟨i, hi⟩ := hT
    obtain ⟨q1, q2, q3⟩ := hd.core.row_ne (hd.rows i) hi
    rcases hU with h | h | h
    · exact q1 h
    · exact q2 h
    · exact q3 h)
  have r5 := r4.chg hnw (fun _ _ _ h => h) (fun _ _ h => h)
  refine ⟨hdi.new hnw, (DidR.of_new hn2).trans (hdid.trans (DidR.of_new hnw)), r5, fun k hk ho => ?_, w4.heap.size, rfl, by omega, fun ho => by have := hdi.lt ho; omega, by rw [hW]; exact Blk.new _ _ _, fun e => ?_⟩
  · have q := own_blk_le h1.own hk
    rcases hdid.own k ho with h | h
    · have := lt k h; omega
    · omega
  · have q := own_blk_le h1.own e
    omega
set_option maxHeartbeats 2000000 in
set_option maxRecDepth 100000 in
theorem rOpen_any (g b f : Nat) (V : Nat → Value) (s : S) (w : World) (h : RI w g b f V s) (i : Nat) (hi : i < 64) :
    Calls Try.prog 23 #[.pointer (some ⟨g, 0, none⟩), .int .i64 (i : Int)] w fun e w' => ROpenV w w' g b f V s (i : Int) e := by
  obtain ⟨hc0, hc1, hc2, hc3, hc4⟩ := h.core.cc
  have hgl := h.core.blk.lt
  have HH := Lib.hid h
  cases ho : s.off with
  | true =>
    have e : openJ s (i : Int) = (s, 24, []) := open_e1 (e := 24) (by unfold Dk.read; rw [if_neg (by omega), if_pos ho]) (by omega)
    unfold ROpenV
    rw [e]
    rw [ho] at hc3
    clear h hc0 hc2 hc4 ho e
    go_enter Try.func23, Try.ntmps23
    go_wp2
    go_ret3
    exact ⟨_, none, 0, 0, [], V, rfl, HH.out, DidR.of_new (Chg.refl _ _), RowsR.nil _ _ _, fun k hk => (by cases hk), .inr ⟨by simp, rfl⟩⟩
  | false =>
    rw [ho] at hc3
    obtain ⟨A, c, hv, hlc, hcm⟩ := h.slice i
    obtain ⟨n, hn⟩ : ∃ n, (s.f i).length = n := ⟨_, rfl⟩
    have hln := h.wf.len i
    rw [hn] at hv hlc hln
    have hcb := h.core.cb hi
    rw [hv] at hcb
    have hr : Dk.read s (i : Int) = (s.f i, 0) := read_at hi ho
    have hrow : Rd w A n (bs (s.f i)) := by have q := h.rows i; rw [hv] at q; exact q.rd
    have hbv : ∀ k, blk A = some k → blkV (V i) = some k := fun k hk => by rw [hv]; exact hk
    have hba : ∀ k, blk A = some k → k < w.heap.size := fun k hk => h.lt (.inr (.inr (.inr ⟨i, hbv k hk⟩)))
    obtain ⟨L, hL⟩ : ∃ L, scanC (s.f i) 0 = L := ⟨_, rfl⟩
    have hLr : scanRf (s.f i) 0 = L := by rw [← hL]; exact (scan_eq _ _ 0 (Nat.le_refl _) (by omega)).symm
    obtain ⟨N, hN⟩ : ∃ N, (framesP 0 L).length = N := ⟨_, rfl⟩
    obtain ⟨s1, e1, h1⟩ : ∃ s1 e1, openT s (i : Int) (s.f i) = (s1, e1) := ⟨_, _, rfl⟩
    obtain ⟨s2, e2, h2⟩ : ∃ s2 e2, sync s1 = (s2, e2) := ⟨_, _, rfl⟩
    have hnl : (L.length : Int) ≤ 16777216 := by
      have q1 := framesP_len L 0
      have q2 := (frames_scan _ (s.f i) 0 (Nat.le_refl _)).2
      rw [hL] at q2
      omega
    have hq : ∀ W', New w W' → Calls Try.prog 44 #[.slice A n c] W' fun e w' => ∃ Al cl vs, e = .returned (.tuple #[.slice Al L.length cl, .int .i64 (N : Int)]) ∧ RowsR w' w.heap.size (fun k => ∃ i, blkV (V i) = some k) Al L.length cl vs L ∧ New w w' := fun W' hw => by
      refine (rscan_new A n c (s.f i) W' (hrow.new hw) (by omega) hlc hcm (fun k hk => by have := hba k hk; have := hw.size; omega)).mono ?_
      rw [hLr, hN]
      rintro e w' ⟨Al, nl, cl, vs, rfl, q1, q2, q3, q4⟩
      have enl := (Rd.of_own q1).len
      rw [q2.1] at enl
      subst enl
      exact ⟨Al, cl, vs, rfl, ⟨own_base q1 hw.size, q2, fun v hv A' n' c' e k hk => ⟨i, hbv k (q3 v hv A' n' c' e k hk)⟩⟩, hw.new q4⟩
    have HQ := Lib.hid hq
    have HV := Lib.hid hv
    have H2 := Lib.hid h2
    have hi1 : (0 : Int) ≤ (i : Int) := by omega
    have hi2 : (i : Int) < 64 := by omega
    have hi3 : (i : Int) < ((64 : Nat) : Int) := by omega
    by_cases hlt : N < n
    · have ht : truncate s (i : Int) (N : Int) = (s1, e1) := by
        rw [← h1]
        unfold openT
        rw [hL, hN, hn, if_pos hlt]
      have HT := Lib.hid ht
      have hlt' : (N : Int) < (n : Int) := by omega
      by_cases he1 : e1 = 0
      case neg =>
        unfold ROpenV
        rw [open_e2 hr h1 he1]
        clear h hq hv h2 ht h1 hr hrow hbv hba hL hLr hN hn ho hlc hcm hc0 hc2 hc4
        go_enter Try.func23, Try.ntmps23
        go_wp2_with (first
          | (go_at_call 44; refine (HQ.out _ (Chg.refl _ _)).mono ?_; rintro e w2 ⟨Al, cl, vs, rfl, hrw2, hn2⟩; obtain ⟨_, hd1, _, hd3, _⟩ := (HH.out.new hn2).core.cc; have hdb := (HH.out.new hn2).core.cb hi; rw [HV.out] at hdb; have hdl := (HH.out.new hn2).core.blk.lt; have HA2 := Lib.hid (And.intro hrw2 hn2); clear hrw2 hn2)
          | (go_at_call 45; refine (rTruncate_x g b f V s _ (HH.out.new HA2.out.2) (i : Int) (N : Int)).mono ?_; rw [HT.out]; rintro e w3 ⟨rfl, V3, hdi3, hd3, hch3⟩; have HA3 := Lib.hid (And.intro hdi3 (And.intro hd3 hch3)); clear hdi3 hd3 hch3))
        go_ret3
        exact ⟨_, none, 0, 0, [], V3, rfl, HA3.out.1, (DidR.of_new HA2.out.2).trans HA3.out.2.1, RowsR.nil _ _ _, fun k hk => (by cases hk), .inr ⟨he1, rfl⟩⟩
      subst he1
      by_cases he2 : e2 = 0
      case neg =>
        unfold ROpenV
        rw [open_e3 hr h1 h2 he2]
        clear h hq hv h2 ht h1 hr hrow hbv hba hL hLr hN hn ho hlc hcm hc0 hc2 hc4
        go_enter Try.func23, Try.ntmps23
        go_wp2_with (first
          | (go_at_call 44; refine (HQ.out _ (Chg.refl _ _)).mono ?_; rintro e w2 ⟨Al, cl, vs, rfl, hrw2, hn2⟩; obtain ⟨_, hd1, _, hd3, _⟩ := (HH.out.new hn2).core.cc; have hdb := (HH.out.new hn2).core.cb hi; rw [HV.out] at hdb; have hdl := (HH.out.new hn2).core.blk.lt; have HA2 := Lib.hid (And.intro hrw2 hn2); clear hrw2 hn2)
          | (go_at_call 45; refine (rTruncate_x g b f V s _ (HH.out.new HA2.out.2) (i : Int) (N : Int)).mono ?_; rw [HT.out]; rintro e w3 ⟨rfl, V3, hdi3, hd3, hch3⟩; have HA3 := Lib.hid (And.intro hdi3 (And.intro hd3 hch3)); clear hdi3 hd3 hch3)
          | (go_at_call 46; refine (rSync_x g b f V3 s1 _ HA3.out.1).mono ?_; rw [H2.out]; rintro e w4 ⟨rfl, hdi4, hd4, hch4⟩; have HA4 := Lib.hid (And.intro hdi4 (And.intro hd4 hch4)); clear hdi4 hd4 hch4))
        go_ret3
        exact ⟨_, none, 0, 0, [], V3, rfl, HA4.out.1, (DidR.of_new HA2.out.2).trans (HA3.out.2.1.trans HA4.out.2.1), RowsR.nil _ _ _, fun k hk => (by cases hk), .inr ⟨he2, rfl⟩⟩
      subst he2
      unfold ROpenV
      rw [open_e4 hr h1 h2, hL]
      clear h hq hv h2 ht h1 hr hrow hbv hba hL hLr hN hn ho hlc hcm hc0 hc2 hc4
      go_enter Try.func23, Try.ntmps23
      go_wp2_with (first
        | (go_at_call 44; refine (HQ.out _ (Chg.refl _ _)).mono ?_; rintro e w2 ⟨Al, cl, vs, rfl, hrw2, hn2⟩; obtain ⟨_, hd1, _, hd3, _⟩ := (HH.out.new hn2).core.cc; have hdb := (HH.out.new hn2).core.cb hi; rw [HV.out] at hdb; have hdl := (HH.out.new hn2).core.blk.lt; have HA2 := Lib.hid (And.intro hrw2 hn2); clear hrw2 hn2)
        | (go_at_call 45; refine (rTruncate_x g b f V s _ (HH.out.new HA2.out.2) (i : Int) (N : Int)).mono ?_; rw [HT.out]; rintro e w3 ⟨rfl, V3, hdi3, hd3, hch3⟩; have HA3 := Lib.hid (And.intro hdi3 (And.intro hd3 hch3)); clear hdi3 hd3 hch3)
        | (go_at_call 46; refine (rSync_x g b f V3 s1 _ HA3.out.1).mono ?_; rw [H2.out]; rintro e w4 ⟨rfl, hdi4, hd4, hch4⟩; have HA4 := Lib.hid (And.intro hdi4 (And.intro hd4 hch4)); clear hdi4 hd4 hch4))
      go_ret3
      obtain ⟨q1, q2, q3, q4, q5⟩ := ropen_fin (file := (i : Int)) HH.out HA2.out.2 HA2.out.1 (HA3.out.2.1.trans HA4.out.2.1) HA4.out.1 (HA3.out.2.2.trans HA4.out.2.2 (fun _ _ e => e)) rfl
      exact ⟨_, Al, L.length, cl, vs, V3, rfl, q1, q2, q3, q4, .inl ⟨trivial, q5⟩⟩
    · have ht : openT s (i : Int) (s.f i) = (s, 0) := by
        unfold openT
        rw [hL, hN, hn, if_neg hlt]
      rw [ht] at h1
      obtain ⟨rfl, rfl⟩ : s = s1 ∧ 0 = e1 := by injection h1 with q1 q2; exact ⟨q1, q2⟩
      have hge : (n : Int) ≤ (N : Int) := by omega
      by_cases he2 : e2 = 0
      case neg =>
        unfold ROpenV
        rw [open_e3 hr ht h2 he2]
        clear h hq hv h2 ht h1 hr hrow hbv hba hL hLr hN hn ho hlc hcm hc0 hc2 hc4
        go_enter Try.func23, Try.ntmps23
        go_wp2_with (first
          | (go_at_call 44; refine (HQ.out _ (Chg.refl _ _)).mono ?_; rintro e w2 ⟨Al, cl, vs, rfl, hrw2, hn2⟩; obtain ⟨_, hd1, _, hd3, _⟩ := (HH.out.new hn2).core.cc; have hdb := (HH.out.new hn2).core.cb hi; rw [HV.out] at hdb; have hdl := (HH.out.new hn2).core.blk.lt; have HA2 := Lib.hid (And.intro hrw2 hn2); clear hrw2 hn2)
          | (go_at_call 46; refine (rSync_x g b f V s _ (HH.out.new HA2.out.2)).mono ?_; rw [H2.out]; rintro e w4 ⟨rfl, hdi4, hd4, hch4⟩; have HA4 := Lib.hid (And.intro hdi4 (And.intro hd4 hch4)); clear hdi4 hd4 hch4))
        go_ret3
        exact ⟨_, none, 0, 0, [], V, rfl, HA4.out.1, (DidR.of_new HA2.out.2).trans HA4.out.2.1, RowsR.nil _ _ _, fun k hk => (by cases hk), .inr ⟨he2, rfl⟩⟩
      subst he2
      unfold ROpenV
      rw [open_e4 hr ht h2, hL]
      clear h hq hv h2 ht h1 hr hrow hbv hba hL hLr hN hn ho hlc hcm hc0 hc2 hc4
      go_enter Try.func23, Try.ntmps23
      go_wp2_with (first
        | (go_at_call 44; refine (HQ.out _ (Chg.refl _ _)).mono ?_; rintro e w2 ⟨Al, cl, vs, rfl, hrw2, hn2⟩; obtain ⟨_, hd1, _, hd3, _⟩ := (HH.out.new hn2).core.cc; have hdb := (HH.out.new hn2).core.cb hi; rw [HV.out] at hdb; have hdl := (HH.out.new hn2).core.blk.lt; have HA2 := Lib.hid (And.intro hrw2 hn2); clear hrw2 hn2)
        | (go_at_call 46; refine (rSync_x g b f V s _ (HH.out.new HA2.out.2)).mono ?_; rw [H2.out]; rintro e w4 ⟨rfl, hdi4, hd4, hch4⟩; have HA4 := Lib.hid (And.intro hdi4 (And.intro hd4 hch4)); clear hdi4 hd4 hch4))
      go_ret3
      obtain ⟨q1, q2, q3, q4, q5⟩ := ropen_fin (file := (i : Int)) HH.out HA2.out.2 HA2.out.1 HA4.out.2.1 HA4.out.1 HA4.out.2.2 rfl
      exact ⟨_, Al, L.length, cl, vs, V, rfl, q1, q2, q3, q4, .inl ⟨trivial, q5⟩⟩
end Go.Proofs.Ytffehmfjcglalaa
