/- Contract of pool: Ask, where it gives nothing out. -/
import Derived.Test.YtbmplfhcdkeooaaPlIZ
set_option linter.unusedSimpArgs false
set_option linter.unusedVariables false
namespace Go.Proofs.Ytbmplfhcdkeooaa
set_option linter.unusedVariables false
open Go.RowKit Go.Shelf Go.Mem Go.Pl
attribute [local go_sem] Oper.semAt_some

def AskP (w w' : World) (g m : Nat) (dv : Value) (V : Int → Loc) (T : Nat → Prop) (s : S) (r : S × Got) (e : Ending) : Prop :=
  ∃ Ab cb, e = .returned (.tuple #[.agg #[.int .i64 r.2.id, .slice Ab r.2.body.length cb], .int .i64 r.2.num, .bool r.2.is, .int .i64 r.2.err]) ∧ ∃ V', ByT w' (fun k => w.heap.size ≤ k ∧ ¬ ownP g m dv V' r.1 k) (.slice Ab r.2.body.length cb) r.2.body ∧ PI w' g m dv V' (TP w w' g m dv V' T r.1) r.1 ∧ DidP w w' g m dv V V' s r.1
theorem AskP.same {w w' : World} {g m : Nat} {dv : Value} {V : Int → Loc} {T : Nat → Prop} {s : S} (h : PI w g m dv V T s) (hn : New w w') {c : Int} {e : Ending} (he : e = .returned (.tuple #[.agg #[.int .i64 0, .slice none 0 0], .int .i64 0, .bool false, .int .i64 c])) : AskP w w' g m dv V T s (s, ⟨0, [], 0, false, c⟩) e := by
  obtain ⟨q1, q2⟩ := h.same hn
  exact ⟨none, 0, he, V, ByT.nil _ _, q1, q2⟩
theorem askBoxes (w : World) (g : Nat) (k tick : Int) : ∃ W0, (((((((w.alloc (.cells #[.pointer (some ⟨g, 0, none⟩)] 22)).alloc (.cells #[.int .i64 k] 3)).alloc (.cells #[.int .i64 tick] 3)).alloc (.cells #[.int .i64 0, .slice none 0 0] 30)).alloc (.cells #[.int .i64 0] 3)).alloc (.cells #[.bool false] 4)).alloc (.cells #[.int .i64 0] 23)) = W0 ∧ New w W0 ∧ W0.heap.size = w.heap.size + 7 ∧ Blk W0 (w.heap.size) 22 #[.pointer (some ⟨g, 0, none⟩)] ∧ Blk W0 (w.heap.size + 1) 3 #[.int .i64 k] ∧ Blk W0 (w.heap.size + 1 + 1) 3 #[.int .i64 tick] ∧ Blk W0 (w.heap.size + 1 + 1 + 1) 30 #[.int .i64 0, .slice none 0 0] ∧ Blk W0 (w.heap.size + 1 + 1 + 1 + 1) 3 #[.int .i64 0] ∧ Blk W0 (w.heap.size + 1 + 1 + 1 + 1 + 1) 4 #[.bool false] ∧ Blk W0 (w.heap.size + 1 + 1 + 1 + 1 + 1 + 1) 23 #[.int .i64 0] := by
  refine ⟨_, rfl, ((((((((Chg.refl _ w).alloc _).alloc _).alloc _).alloc _).alloc _).alloc _).alloc _), by simp, ?_, ?_, ?_, ?_, ?_, ?_, ?_⟩
  · have h := Blk.new w 22 #[.pointer (some ⟨g, 0, none⟩)]
    exact ((((((h.alloc _).alloc _).alloc _).alloc _).alloc _).alloc _)
  · have h := Blk.new (w.alloc (.cells #[.pointer (some ⟨g, 0, none⟩)] 22)) 3 #[.int .i64 k]
    simp only [World.size_alloc] at h
    exact (((((h.alloc _).alloc _).alloc _).alloc _).alloc _)
  · have h := Blk.new ((w.alloc (.cells #[.pointer (some ⟨g, 0, none⟩)] 22)).alloc (.cells #[.int .i64 k] 3)) 3 #[.int .i64 tick]
    simp only [World.size_alloc] at h
    exact ((((h.alloc _).alloc _).alloc _).alloc _)
  · have h := Blk.new (((w.alloc (.cells #[.pointer (some ⟨g, 0, none⟩)] 22)).alloc (.cells #[.int .i64 k] 3)).alloc (.cells #[.int .i64 tick] 3)) 30 #[.int .i64 0, .slice none 0 0]
    simp only [World.size_alloc] at h
    exact (((h.alloc _).alloc _).alloc _)
  · have h := Blk.new ((((w.alloc (.cells #[.pointer (some ⟨g, 0, none⟩)] 22)).alloc (.cells #[.int .i64 k] 3)).alloc (.cells #[.int .i64 tick] 3)).alloc (.cells #[.int .i64 0, .slice none 0 0] 30)) 3 #[.int .i64 0]
    simp only [World.size_alloc] at h
    exact ((h.alloc _).alloc _)
  · have h := Blk.new (((((w.alloc (.cells #[.pointer (some ⟨g, 0, none⟩)] 22)).alloc (.cells #[.int .i64 k] 3)).alloc (.cells #[.int .i64 tick] 3)).alloc (.cells #[.int .i64 0, .slice none 0 0] 30)).alloc (.cells #[.int .i64 0] 3)) 4 #[.bool false]
    simp only [World.size_alloc] at h
    exact (h.alloc _)
  · have h := Blk.new ((((((w.alloc (.cells #[.pointer (some ⟨g, 0, none⟩)] 22)).alloc (.cells #[.int .i64 k] 3)).alloc (.cells #[.int .i64 tick] 3)).alloc (.cells #[.int .i64 0, .slice none 0 0] 30)).alloc (.cells #[.int .i64 0] 3)).alloc (.cells #[.bool false] 4)) 23 #[.int .i64 0]
    simp only [World.size_alloc] at h
    exact h

set_option maxHeartbeats 4000000 in
set_option maxRecDepth 100000 in
theorem plAsk_bad (g m : Nat) (dv : Value) (V : Int → Loc) (T : Nat → Prop) (s : S) (w : World) (h : PI w g m dv V T s) (worker tick : Int) (hbad : check s worker tick ≠ 0 ∨ s.alive.getD worker.toNat false = false ∨ works s worker tick = true) :
    Calls Try.prog 14 #[.pointer (some ⟨g, 0, none⟩), .int .i64 worker, .int .i64 tick] w fun e w' => AskP w w' g m dv V T s (Pl.ask s worker tick) e := by
  have HH := Lib.hid h
  have HCK := Lib.hid (show ∀ W, New w W → Calls Try.prog 47 #[.pointer (some ⟨g, 0, none⟩), .int .i64 worker, .int .i64 tick] W fun e w' => e = .returned (.int .i64 (check s worker tick)) ∧ W = w' from fun W hW => plChecked_any g m dv V T s W (h.new hW) worker tick)
  obtain ⟨ck, hck⟩ : ∃ ck, check s worker tick = ck := ⟨_, rfl⟩
  rw [hck] at HCK hbad
  by_cases h0 : ck = 0
  case neg =>
    have e : Pl.ask s worker tick = (s, ⟨0, [], 0, false, ck⟩) := by rw [ask_bad (by omega), hck]
    rw [e]
    have hne : (ck != 0) = true := by simp [h0]
    clear h e hck hbad
    go_enter Try.func14, Try.ntmps14
    go_wp2_with (go_at_call 47; refine (HCK.out _ (by repeat (first | exact Chg.refl _ _ | refine Chg.alloc ?_ _))).mono ?_; rintro e w2 ⟨rfl, rfl⟩)
    exact bodyPost_ret (v := .tuple #[.agg #[.int .i64 0, .slice none 0 0], .int .i64 0, .bool false, .int .i64 ck]) (by simp [results, Try.results14, go_sem]) rfl (AskP.same HH.out (by repeat (first | exact Chg.refl _ _ | refine Chg.alloc ?_ _)) rfl)
  subst h0
  obtain ⟨hw, ht, htk⟩ := check_zero hck
  obtain ⟨gd, c, hdv, hdc, hcm⟩ := h.dv
  have hc0 := h.blk.cell 0 (u := dv) rfl
  rw [hdv] at hc0
  have hgl := h.blk.lt
  obtain ⟨k, rfl, hk, hka⟩ := alive_at (s := s) (worker := worker) (by omega)
  obtain ⟨d0, d1⟩ := dead_at (hdv ▸ h) hka
  have hgdl : gd < w.heap.size := World.block_lt_of_cell? _ _ d0
  have hk' : (k : Int) < (s.alive.length : Int) := by omega
  obtain ⟨N, hN⟩ : ∃ N, s.alive.length = N := ⟨_, rfl⟩
  rw [hN] at hc0 hk hk' hdc
  unfold maxLen at hcm
  obtain ⟨W0, hW0, hN0, hz0, x0, x1, x2, x3, x4, x5, x6⟩ := askBoxes w g (k : Int) tick
  have c0 := x0.cell 0 (u := .pointer (some ⟨g, 0, none⟩)) rfl
  have c1 := x1.cell 0 (u := .int .i64 (k : Int)) rfl
  have c2 := x2.cell 0 (u := .int .i64 tick) rfl
  have c30 := x3.cell 0 (u := .int .i64 0) rfl
  have c31 := x3.cell 1 (u := .slice none 0 0) rfl
  have c4 := x4.cell 0 (u := .int .i64 0) rfl
  have c5 := x5.cell 0 (u := .bool false) rfl
  have c6 := x6.cell 0 (u := .int .i64 0) rfl
  have f30 := x3.frozen 0
  have f31 := x3.frozen 1
  have f4 := x4.frozen 0
  have f5 := x5.frozen 0
  have f6 := x6.frozen 0
  have hc0' := hN0.cell hc0 (fun h => h)
  have d0' := hN0.cell d0 (fun h => h)
  have HW0 := Lib.hid hW0
  have HN0 := Lib.hid hN0
  have hgd0 : gd < W0.heap.size := by omega
  have hg0 : g < W0.heap.size := by omega
  cases ha : s.alive.getD (k : Int).toNat false with
  | false =>
    have e : Pl.ask s (k : Int) tick = (s, ⟨0, [], 0, false, 24⟩) := ask_dead hck ha
    rw [e]
    rw [ha] at d0'
    clear h e hck hbad ha hka hdv hN hc0 d0 hW0 hN0 x0 x1 x2 x3 x4 x5 x6 hz0 d1
    go_enter Try.func14, Try.ntmps14
    go_wp2_with (go_at_call 47; rw [HW0.out]; refine (HCK.out _ HN0.out).mono ?_; rintro e w2 ⟨rfl, rfl⟩)
    go_quiet (fail)
    go_wp2
    exact bodyPost_ret (v := .tuple #[.agg #[.int .i64 0, .slice none 0 0], .int .i64 0, .bool false, .int .i64 24]) (by simp [results, Try.results14, go_sem, c30, c31, c4, c5, c6]) rfl (AskP.same HH.out (by repeat (first | exact HN0.out.drewN _ | refine chg_setNew ?_ (by omega) _)) rfl)
  | true =>
    have hwk : works s (k : Int) tick = true := by
      rcases hbad with h1 | h1 | h1
      · exact absurd rfl h1
      · rw [ha] at h1; cases h1
      · exact h1
    have e : Pl.ask s (k : Int) tick = (s, ⟨0, [], 0, false, 20⟩) := ask_busy hck ha hwk
    rw [e]
    have HWK := Lib.hid (show ∀ W, New w W → Calls Try.prog 48 #[.pointer (some ⟨g, 0, none⟩), .int .i64 (k : Int), .int .i64 tick] W fun e w' => e = .returned (.bool true) ∧ New W w' from fun W hW => hwk ▸ plWorks_any g m dv V T s W (h.new hW) (k : Int) tick)
    rw [ha] at d0'
    have HX := Lib.hid (And.intro x3 (And.intro x4 (And.intro x5 x6)))
    clear h e hck hbad ha hka hdv hN hc0 d0 hW0 hN0 x0 x1 x2 x3 x4 x5 x6 d1 c30 c31 c4 c5 c6 f30 f31 f4 f5 f6
    go_enter Try.func14, Try.ntmps14
    go_wp2_with (go_at_call 47; rw [HW0.out]; refine (HCK.out _ HN0.out).mono ?_; rintro e w2 ⟨rfl, rfl⟩)
    go_quiet (fail)
    go_wp2_with fail
    refine (HWK.out _ (HN0.out.drewN _)).mono ?_
    rintro e w2 ⟨rfl, hn2⟩
    have hN2 : New w w2 := (HN0.out.drewN _).trans hn2 (fun _ _ h => h)
    have hN02 : New W0 w2 := ((Chg.refl _ W0).drewN _).trans hn2 (fun _ _ h => h)
    have hzz := hN02.size
    have x3 := HX.out.1.chg hN02 (fun h => h)
    have x4 := HX.out.2.1.chg hN02 (fun h => h)
    have x5 := HX.out.2.2.1.chg hN02 (fun h => h)
    have x6 := HX.out.2.2.2.chg hN02 (fun h => h)
    have c30 := x3.cell 0 (u := .int .i64 0) rfl
    have c31 := x3.cell 1 (u := .slice none 0 0) rfl
    have c4 := x4.cell 0 (u := .int .i64 0) rfl
    have c5 := x5.cell 0 (u := .bool false) rfl
    have c6 := x6.cell 0 (u := .int .i64 0) rfl
    have f30 := x3.frozen 0
    have f31 := x3.frozen 1
    have f4 := x4.frozen 0
    have f5 := x5.frozen 0
    have f6 := x6.frozen 0
    have HN2 := Lib.hid hN2
    clear x3 x4 x5 x6 hn2 hN02 hN2
    go_wp2
    exact bodyPost_ret (v := .tuple #[.agg #[.int .i64 0, .slice none 0 0], .int .i64 0, .bool false, .int .i64 20]) (by simp [results, Try.results14, go_sem, c30, c31, c4, c5, c6]) rfl (AskP.same HH.out (by repeat (first | exact HN2.out | refine chg_setNew ?_ (by omega) _)) rfl)
end Go.Proofs.Ytbmplfhcdkeooaa
