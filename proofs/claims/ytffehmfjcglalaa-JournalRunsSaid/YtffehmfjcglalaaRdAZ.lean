/- The reference's disk in memory; step, Arm. -/
import Derived.Test.YtffehmfjcglalaaDkKZ
set_option linter.unusedSimpArgs false
set_option linter.unusedVariables false
namespace Go.Proofs.Ytffehmfjcglalaa
set_option linter.unusedVariables false
open Go.RowKit Go.Mem Go.Dk

def mCells (s : S) (b f : Nat) : Array Value := #[.int .i64 (s.room : Int), .slice (some ⟨b, 0, none⟩) 64 64, .slice (some ⟨f, 0, none⟩) 64 64, .bool s.off, .int .i64 s.plan]
def bRow (V : Nat → Value) : List Value := (List.range 64).map V
def fRow (s : S) : List Value := (List.range 64).map (fun i => Value.int .i64 (s.firm i : Int))
theorem row_at {α : Type} (F : Nat → α) {i : Nat} (hi : i < 64) : ((List.range 64).map F)[i]? = some (F i) := by simp [hi]
theorem row_set {α : Type} (F : Nat → α) (i : Nat) (x : α) : ((List.range 64).map F).set i x = (List.range 64).map (upd F i x) := by
  apply List.ext_getElem?
  intro j
  rw [List.getElem?_set]
  by_cases e : i = j
  · subst e
    by_cases h : i < 64
    · simp [h, upd_same]
    · simp [h]
  · rw [if_neg e]
    by_cases h : j < 64
    · rw [row_at F h, row_at (upd F i x) h, upd_other _ _ (fun e2 => e e2.symm)]
    · simp [h]
theorem fRow_put (s : S) (i : Nat) (l : List UInt8) (d : Nat) : fRow (put s i l d) = (fRow s).set i (.int .i64 (d : Int)) := by
  unfold fRow
  rw [row_set]
  refine List.map_congr_left fun j hj => ?_
  show Value.int .i64 ((upd s.firm i d j : Nat) : Int) = _
  unfold upd
  split <;> rfl
/-- The blocks of the reference's disk: itself, its row of files, its row of ints. -/
structure RC (w : World) (g b f : Nat) (V : Nat → Value) (s : S) : Prop where
  blk : Blk w g 55 (mCells s b f)
  rb : Blk w b 33 (bRow V).toArray
  rf : Blk w f 3 (fRow s).toArray
structure RI (w : World) (g b f : Nat) (V : Nat → Value) (s : S) : Prop where
  core : RC w g b f V s
  rows : ∀ i, RowV w 5 IsU8 (V i) (bs (s.f i))
  apart : ∀ i j k, blkV (V i) = some k → blkV (V j) = some k → i = j
  wf : WF s
def ownR (g b f : Nat) (V : Nat → Value) (k : Nat) : Prop := k = g ∨ k = b ∨ k = f ∨ ∃ i, blkV (V i) = some k
/-- What a call that changes it leaves. -/
structure DidR (w w' : World) (g b f : Nat) (V V' : Nat → Value) : Prop where
  chg : Chg (ownR g b f V) w w'
  own : ∀ k, ownR g b f V' k → ownR g b f V k ∨ w.heap.size ≤ k
section
variable {w w' : World} {g b f : Nat} {V V' : Nat → Value} {s : S}
theorem DidR.of_new (h : New w w') : DidR w w' g b f V V := ⟨h.mono (fun _ _ hf => hf.elim), fun k hk => .inl hk⟩
theorem DidR.trans {w'' : World} {V'' : Nat → Value} (h : DidR w w' g b f V V') (h' : DidR w' w'' g b f V' V'') : DidR w w'' g b f V V'' :=
  ⟨h.chg.trans h'.chg (fun k hk ho => by
    rcases h.own k ho with h1 | h1
    · exact h1
    · omega), fun k hk => by
    rcases h'.own k hk with h1 | h1
    · exact h.own k h1
    · exact .inr (Nat.le_trans h.chg.size h1)⟩
theorem blk_ne {k1 k2 : Nat} {t1 t2 : TypeId} {c1 c2 : Array Value} (h1 : Blk w k1 t1 c1) (h2 : Blk w k2 t2 c2) (hne : t1 ≠ t2) : k1 ≠ k2 := by
  intro e
  subst e
  unfold Blk at h1 h2
  rw [h1] at h2
  injection h2 with h2
  injection h2 with h3 h4
  exact hne h4
theorem RC.ne (h : RC w g b f V s) : g ≠ b ∧ g ≠ f ∧ b ≠ f := ⟨blk_ne h.blk h.rb (by decide), blk_ne h.blk h.rf (by decide), blk_ne h.rb h.rf (by decide)⟩
theorem RC.row_ne (h : RC w g b f V s) {v : Value} {xs : List Value} (hr : RowV w 5 IsU8 v xs) {k : Nat} (hk : blkV v = some k) : k ≠ g ∧ k ≠ b ∧ k ≠ f :=
  ⟨fun e => hr.ne h.blk (by decide) (by rw [hk, e]), fun e => hr.ne h.rb (by decide) (by rw [hk, e]), fun e => hr.ne h.rf (by decide) (by rw [hk, e])⟩
theorem RC.chg {T : Nat → Prop} (h : RC w g b f V s) (hc : Chg T w w') (h1 : ¬ T g) (h2 : ¬ T b) (h3 : ¬ T f) : RC w' g b f V s := ⟨h.blk.chg hc h1, h.rb.chg hc h2, h.rf.chg hc h3⟩
theorem RI.chg {T : Nat → Prop} (h : RI w g b f V s) (hc : Chg T w w') (ht : ∀ k, ownR g b f V k → ¬ T k) : RI w' g b f V s :=
  ⟨h.core.chg hc (ht g (.inl rfl)) (ht b (.inr (.inl rfl))) (ht f (.inr (.inr (.inl rfl)))), fun i => (h.rows i).chg hc (fun k hk => ht k (.inr (.inr (.inr ⟨i, hk⟩)))), h.apart, h.wf⟩
theorem RI.new (h : RI w g b f V s) (hc : New w w') : RI w' g b f V s := h.chg hc (fun _ _ hf => hf)
theorem RI.lt (h : RI w g b f V s) {k : Nat} (hk : ownR g b f V k) : k < w.heap.size := by
  rcases hk with rfl | rfl | rfl | ⟨i, hi⟩
  · exact h.core.blk.lt
  · exact h.core.rb.lt
  · exact h.core.rf.lt
  · exact (h.rows i).lt hi
/-- A file's slice. -/
theorem RI.slice (h : RI w g b f V s) (i : Nat) : ∃ A c, V i = .slice A (s.f i).length c ∧ (s.f i).length ≤ c ∧ c ≤ maxLen := by
  obtain ⟨A, c, h1, h2, h3⟩ := (h.rows i).shape
  rw [bs_length] at h1 h2
  exact ⟨A, c, h1, h2, h3⟩
theorem RC.cb (h : RC w g b f V s) {i : Nat} (hi : i < 64) : w.cell? ⟨b, i, none⟩ = some (V i) := h.rb.cell i (by simpa [bRow] using row_at V hi)
theorem RC.cf (h : RC w g b f V s) {i : Nat} (hi : i < 64) : w.cell? ⟨f, i, none⟩ = some (.int .i64 (s.firm i : Int)) := h.rf.cell i (by simpa [fRow] using row_at (fun i => Value.int .i64 (s.firm i : Int)) hi)
theorem RC.cc (h : RC w g b f V s) : w.cell? ⟨g, 0, none⟩ = some (.int .i64 (s.room : Int)) ∧ w.cell? ⟨g, 1, none⟩ = some (.slice (some ⟨b, 0, none⟩) 64 64) ∧ w.cell? ⟨g, 2, none⟩ = some (.slice (some ⟨f, 0, none⟩) 64 64) ∧ w.cell? ⟨g, 3, none⟩ = some (.bool s.off) ∧ w.cell? ⟨g, 4, none⟩ = some (.int .i64 s.plan) :=
  ⟨h.blk.cell 0 rfl, h.blk.cell 1 rfl, h.blk.cell 2 rfl, h.blk.cell 3 rfl, h.blk.cell 4 rfl⟩
theorem RC.setB (h : RC w g b f V s) (i : Nat) (v : Value) : RC (w.setCell ⟨b, i, none⟩ v) g b f (upd V i v) s := by
  obtain ⟨h1, h2, h3⟩ := h.ne
  have hc := (Chg.refl (fun k => k = b) w).setCell (p := ⟨b, i, none⟩) (fun _ => rfl) v
  refine ⟨h.blk.chg hc h1, ?_, h.rf.chg hc (fun e => h3 e.symm)⟩
  have := h.rb.set_ i v
  rwa [List.setIfInBounds_toArray, show (bRow V).set i v = bRow (upd V i v) from row_set V i v] at this
theorem RC.setF (h : RC w g b f V s) (i d : Nat) (l : List UInt8) : RC (w.setCell ⟨f, i, none⟩ (.int .i64 (d : Int))) g b f V (put s i l d) := by
  obtain ⟨h1, h2, h3⟩ := h.ne
  have hc := (Chg.refl (fun k => k = f) w).setCell (p := ⟨f, i, none⟩) (fun _ => rfl) (.int .i64 (d : Int))
  refine ⟨h.blk.chg hc h2, h.rb.chg hc h3, ?_⟩
  have := h.rf.set_ i (.int .i64 (d : Int))
  rwa [List.setIfInBounds_toArray, ← fRow_put s i l d] at this
theorem RC.firm (h : RC w g b f V s) {s' : S} (h1 : mCells s' b f = mCells s b f) (h2 : ∀ i, i < 64 → s'.firm i = s.firm i) : RC w g b f V s' := by
  refine ⟨by rw [h1]; exact h.blk, h.rb, ?_⟩
  have : fRow s' = fRow s := List.map_congr_left fun j hj => by rw [h2 j (List.mem_range.1 hj)]
  rw [this]
  exact h.rf
/-- A file is laid. -/
theorem RI.put_row (h : RI w g b f V s) {i d : Nat} {l : List UInt8} {v : Value} (hc : Chg (fun k => k = b ∨ k = f ∨ blkV (V i) = some k) w w') (hd : RC w' g b f (upd V i v) (put s i l d)) (hr : RowV w' 5 IsU8 v (bs l)) (hb : ∀ k, blkV v = some k → blkV (V i) = some k ∨ w.heap.size ≤ k) (hw : WF (put s i l d)) :
    RI w' g b f (upd V i v) (put s i l d) ∧ DidR w w' g b f V (upd V i v) := by
  have hch : Chg (ownR g b f V) w w' := hc.mono (fun k _ hk => by
    rcases hk with h1 | h1 | h1
    · exact .inr (.inl h1)
    · exact .inr (.inr (.inl h1))
    · exact .inr (.inr (.inr ⟨i, h1⟩)))
  refine ⟨⟨hd, fun j => ?_, fun j1 j2 k h1 h2 => ?_, hw⟩, hch, fun k hk => ?_⟩
  · by_cases e : j = i
    · subst e
      simpa [put, upd_same] using hr
    · simp only [put, upd_other _ _ e]
      refine (h.rows j).chg hc (fun k hk hS => ?_)
      rcases hS with rfl | rfl | hS
      · exact (h.core.row_ne (h.rows j) hk).2.1 rfl
      · exact (h.core.row_ne (h.rows j) hk).2.2 rfl
      · exact e (h.apart j i k hk hS)
  · have key : ∀ j, j ≠ i → blkV (V j) = some k → blkV v = some k → False := fun j hj hk hv => by
      rcases hb k hv with hb | hb
      · exact hj (h.apart j i k hk hb)
      · have := (h.rows j).lt hk
        omega
    by_cases e1 : j1 = i
    · by_cases e2 : j2 = i
      · rw [e1, e2]
      · rw [e1, upd_same] at h1
        rw [upd_other _ _ e2] at h2
        exact (key j2 e2 h2 h1).elim
    · by_cases e2 : j2 = i
      · rw [e2, upd_same] at h2
        rw [upd_other _ _ e1] at h1
        exact (key j1 e1 h1 h2).elim
      · rw [upd_other _ _ e1] at h1
        rw [upd_other _ _ e2] at h2
        exact h.apart j1 j2 k h1 h2
  · rcases hk with hk | hk | hk | ⟨j, hj⟩
    · exact .inl (.inl hk)
    · exact .inl (.inr (.inl hk))
    · exact .inl (.inr (.inr (.inl hk)))
    · by_cases e : j = i
      · subst e
        rw [upd_same] at hj
        rcases hb k hj with h1 | h1
        · exact .inl (.inr (.inr (.inr ⟨j, h1⟩)))
        · exact .inr h1
      · rw [upd_other _ _ e] at hj
        exact .inl (.inr (.inr (.inr ⟨j, hj⟩)))
/-- Its own cells are changed. -/
theorem RI.cells {s' : S} (h : RI w g b f V s) (hf : s'.f = s.f ∧ s'.firm = s.firm) (hb : Blk w' g 55 (mCells s' b f)) (hc : Chg (fun k => k = g) w w') (hw : WF s') : RI w' g b f V s' ∧ DidR w w' g b f V V := by
  obtain ⟨h1, h2, h3⟩ := h.core.ne
  have e : fRow s' = fRow s := by unfold fRow; rw [hf.2]
  refine ⟨⟨⟨hb, h.core.rb.chg hc (fun e => h1 e.symm), by rw [e]; exact h.core.rf.chg hc (fun e => h2 e.symm)⟩, fun i => ?_, h.apart, hw⟩, hc.mono (fun k _ e => .inl e), fun k hk => .inl hk⟩
  rw [hf.1]
  exact (h.rows i).chg hc (fun k hk e => (h.core.row_ne (h.rows i) hk).1 e)
end

set_option maxHeartbeats 1000000 in
set_option maxRecDepth 100000 in
theorem rFails_any (g b f : Nat) (s : S) (w : World) (hb : Blk w g 55 (mCells s b f)) (ho : s.off = false) (hp : 0 ≤ s.plan ∧ s.plan ≤ 9223372036854775807) :
    Calls Try.prog 69 #[.pointer (some ⟨g, 0, none⟩)] w fun e w' => e = .returned (.bool (pstep s).2) ∧
      Blk w' g 55 (mCells (pstep s).1 b f) ∧ Chg (fun k => k = g) w w' := by
  have hc3 := hb.cell 3 (u := .bool s.off) rfl
  have hc4 := hb.cell 4 (u := .int .i64 s.plan) rfl
  have hf3 := hb.frozen 3
  have hf4 := hb.frozen 4
  have hgl := hb.lt
  have HB := Lib.hid hb
  have HO := Lib.hid ho
  rw [ho] at hc3
  obtain ⟨p, hpl⟩ : ∃ p, s.plan = p := ⟨_, rfl⟩
  rw [hpl] at hc4 hp
  have HPL := Lib.hid hpl
  have hwr : IntKind.i64.wrap (p - 1) = p - 1 := IntWalk.i64_in _ (by omega)
  have hmx := fun ts t W => run_max2 (P := Try.prog) (p - 1) (-2) (p - 1) (.inr ⟨by omega, rfl⟩) ts t W
  by_cases h2 : p = 0
  · have hst : pstep s = ({ s with plan := -1, off := true }, true) := by unfold pstep; rw [if_neg (by omega), if_pos (by omega)]
    rw [hst]
    subst h2
    clear hb ho hpl hst hp
    go_enter Try.func69, Try.ntmps69
    go_wp2
    go_ret
    refine ⟨rfl, ?_, ?_⟩
    · have := (HB.out.set_ 4 (.int .i64 (-1))).set_ 3 (.bool true)
      simpa [mCells, show min (1 : Int) 2 = 1 by decide] using this
    · exact ((Chg.refl (fun k => k = g) w).setCell (p := ⟨g, 4, none⟩) (fun _ => rfl) _).setCell (p := ⟨g, 3, none⟩) (fun _ => rfl) _
  · have hst : pstep s = ({ s with plan := s.plan - 1 }, false) := by unfold pstep; rw [if_neg (by omega), if_neg (by omega)]
    rw [hst]
    have hp1 : 0 < p := by omega
    have hne : (p - 1 == -1) = false := by simp; omega
    clear hb ho hpl hst hp h2
    go_enter Try.func69, Try.ntmps69
    go_wp2
    go_ret
    refine ⟨rfl, ?_, ?_⟩
    · have := HB.out.set_ 4 (.int .i64 (p - 1))
      simpa [mCells, HPL.out] using this
    · exact (Chg.refl (fun k => k = g) w).setCell (p := ⟨g, 4, none⟩) (fun _ => rfl) _

set_option maxHeartbeats 1000000 in
set_option maxRecDepth 100000 in
theorem rStep_any (g b f : Nat) (s : S) (w : World) (hb : Blk w g 55 (mCells s b f)) (ho : s.off = false) (hp : -1 ≤ s.plan ∧ s.plan ≤ 9223372036854775807) :
    Calls Try.prog 55 #[.pointer (some ⟨g, 0, none⟩)] w fun e w' => e = .returned (.bool (pstep s).2) ∧
      Blk w' g 55 (mCells (pstep s).1 b f) ∧ Chg (fun k => k = g) w w' := by
  have hc4 := hb.cell 4 (u := .int .i64 s.plan) rfl
  have hgl := hb.lt
  have HB := Lib.hid hb
  have HO := Lib.hid ho
  obtain ⟨p, hpl⟩ : ∃ p, s.plan = p := ⟨_, rfl⟩
  rw [hpl] at hc4 hp
  have HPL := Lib.hid hpl
  by_cases h1 : p < 0
  · rw [show pstep s = (s, false) from if_pos (by omega)]
    clear hb ho hpl hp
    go_enter Try.func55, Try.ntmps55
    go_wp2
    go_ret
    exact ⟨rfl, HB.out, Chg.refl _ w⟩
  · have h2 : 0 ≤ p := by omega
    obtain ⟨r, hr⟩ : ∃ r, pstep s = r := ⟨_, rfl⟩
    rw [hr]
    have HR := Lib.hid hr
    clear hb ho hpl h1 hr
    go_enter Try.func55, Try.ntmps55
    go_wp2_with (go_at_call 69; refine (rFails_any g b f s _ HB.out HO.out (by rw [HPL.out]; omega)).mono ?_; rw [HR.out]; rintro e w1 ⟨rfl, hb1, hc1⟩; have H1 := Lib.hid (And.intro hb1 hc1); clear hb1 hc1)
    go_ret
    exact ⟨rfl, H1.out.1, H1.out.2⟩

set_option maxHeartbeats 1000000 in
set_option maxRecDepth 100000 in
theorem rArm_any (g b f : Nat) (s : S) (n : Int) (hn : -9223372036854775808 ≤ n ∧ n ≤ 9223372036854775807) (w : World) (hb : Blk w g 55 (mCells s b f)) :
    Calls Try.prog 25 #[.pointer (some ⟨g, 0, none⟩), .int .i64 n] w fun e w' => e = .returned (.tuple #[]) ∧
      Blk w' g 55 (mCells (arm s n) b f) ∧ Chg (fun k => k = g) w w' := by
  have hc3 := hb.cell 3 (u := .bool s.off) rfl
  have hc4 := hb.cell 4 (u := .int .i64 s.plan) rfl
  have hf4 := hb.frozen 4
  have HB := Lib.hid hb
  clear hb
  cases ho : s.off with
  | true =>
    rw [ho] at hc3
    rw [show arm s n = s from if_pos ho]
    have HO := Lib.hid ho
    clear ho
    go_enter Try.func25, Try.ntmps25
    go_wp2
    go_end0
    exact ⟨rfl, HB.out, Chg.refl _ w⟩
  | false =>
    rw [ho] at hc3
    have ha : arm s n = { s with plan := max n (-1) } := if_neg (by rw [ho]; simp)
    rw [ha]
    have HO := Lib.hid ho
    obtain ⟨q, hq⟩ : ∃ q, max n (-1) = q := ⟨_, rfl⟩
    have hmx := fun ts t W => run_max2 (P := Try.prog) n (-1) q (by omega) ts t W
    rw [hq]
    clear ho ha hq
    go_enter Try.func25, Try.ntmps25
    go_wp2
    go_end0
    refine ⟨rfl, ?_, ?_⟩
    · have := HB.out.set_ 4 (.int .i64 q)
      simpa [mCells] using this
    · exact (Chg.refl (fun k => k = g) w).setCell (p := ⟨g, 4, none⟩) (fun _ => rfl) _
end Go.Proofs.Ytffehmfjcglalaa
