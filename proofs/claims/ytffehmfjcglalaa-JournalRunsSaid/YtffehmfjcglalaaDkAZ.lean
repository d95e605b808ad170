/- disk.Disk in memory; contracts of On, Arm, fails, put. -/
import Derived.Test.YtffehmfjcglalaaProg
import Derived.Test.YtffehmfjcglalaaMapI
import Derived.Test.YtffehmfjcglalaaRowV
import Derived.Test.YtffehmfjcglalaaMemRes
import Derived.Test.YtffehmfjcglalaaG0
import Derived.Test.YtffehmfjcglalaaBase
set_option linter.unusedSimpArgs false
set_option linter.unusedVariables false
namespace Go.Proofs.Ytffehmfjcglalaa
set_option linter.unusedVariables false
open Go.RowKit Go.Mem Go.Dk

/-! ### rows -/
theorem RowV.pre {w : World} {t : TypeId} {C : Value → Prop} {A : Option Addr} {n c : Nat} {xs : List Value} (h : RowV w t C (.slice A n c) xs) {k : Nat} (hk : k ≤ xs.length) : RowV w t C (.slice A k c) (xs.take k) := by
  rcases h with ⟨hv, rfl⟩ | ⟨g, cp, rest, hv, h1, h2, h3, h4⟩
  · injection hv with hA hn hc
    subst hA hn hc
    obtain rfl : k = 0 := by simpa using hk
    exact .inl ⟨rfl, rfl⟩
  · injection hv with hA hn hc
    subst hA hn hc
    have hl : (xs.take k).length = k := by rw [List.length_take]; omega
    refine .inr ⟨g, c, xs.drop k ++ rest, by rw [hl], h1, ?_, ?_, ?_⟩
    · rw [hl, List.length_append, List.length_drop]; omega
    · rw [← List.append_assoc, List.take_append_drop]; exact h3
    · rw [← List.append_assoc, List.take_append_drop]; exact h4
theorem RowV.st {w : World} {t : TypeId} {C : Value → Prop} {g n c : Nat} {xs : List Value} (h : RowV w t C (.slice (some ⟨g, 0, none⟩) n c) xs) {j : Nat} (hj : j < xs.length) {u : Value} (hu : C u) : RowV (w.setCell ⟨g, j, none⟩ u) t C (.slice (some ⟨g, 0, none⟩) n c) (xs.set j u) := by
  rcases h with ⟨hv, rfl⟩ | ⟨g', cp, rest, hv, h1, h2, h3, h4⟩
  · cases hv
  · injection hv with hA hn hc
    injection hA with hA
    injection hA with hA
    subst hA hn hc
    refine .inr ⟨g, c, rest, by rw [List.length_set], h1, by rw [List.length_set]; exact h2, ?_, ?_⟩
    · have := h3.set_ j u
      rwa [List.setIfInBounds_toArray, List.set_append_left _ _ hj] at this
    · intro v hv
      rcases List.mem_append.1 hv with hv | hv
      · rcases List.mem_or_eq_of_mem_set hv with hv | rfl
        · exact h4 v (by simp [hv])
        · exact hu
      · exact h4 v (by simp [hv])
theorem RowV.full {w : World} {t : TypeId} {C : Value → Prop} {v : Value} {xs : List Value} (h : RowV w t C v xs) (hx : xs ≠ []) : ∃ g c, v = .slice (some ⟨g, 0, none⟩) xs.length c := by
  rcases h with ⟨rfl, rfl⟩ | ⟨g, cp, rest, rfl, _⟩
  · exact absurd rfl hx
  · exact ⟨g, cp, rfl⟩

/-! ### the map of the files -/
/-- A file's content. -/
def ctV (v : Value) (d : Nat) : Value := .agg #[v, .int .i64 (d : Int)]
def entL (V : Nat → Value) (s : S) : List Ent := (files s).map (fun i : Nat => ((i : Int), ctV (V i) (s.firm i)))
theorem entL_rise (V : Nat → Value) (s : S) : Rise (entL V s) := by
  unfold Rise entL
  rw [List.pairwise_map]
  exact (filesN_rise s.f 64).imp (fun {a b} h => by show (a : Int) < (b : Int); omega)
theorem mem_entL {V : Nat → Value} {s : S} {p : Ent} : p ∈ entL V s ↔ ∃ i, i < 64 ∧ s.f i ≠ [] ∧ p = ((i : Int), ctV (V i) (s.firm i)) := by
  unfold entL
  rw [List.mem_map]
  constructor
  · rintro ⟨i, hi, rfl⟩
    exact ⟨i, (mem_files.1 hi).1, (mem_files.1 hi).2, rfl⟩
  · rintro ⟨i, h1, h2, rfl⟩
    exact ⟨i, mem_files.2 ⟨h1, h2⟩, rfl⟩
theorem lk_entL (V : Nat → Value) (s : S) (k : Int) : lk (entL V s) k = if 0 ≤ k ∧ k < 64 ∧ s.f k.toNat ≠ [] then some (ctV (V k.toNat) (s.firm k.toNat)) else none := by
  split
  · rename_i h
    refine (lk_some (entL_rise V s)).2 (mem_entL.2 ⟨k.toNat, by omega, h.2.2, ?_⟩)
    rw [Int.toNat_of_nonneg h.1]
  · rename_i h
    refine lk_none.2 (fun p hp e => ?_)
    obtain ⟨i, h1, h2, rfl⟩ := mem_entL.1 hp
    have e : (i : Int) = k := e
    subst e
    exact h ⟨by omega, by omega, by simpa using h2⟩
theorem entL_len (V : Nat → Value) (s : S) : (entL V s).length ≤ 64 := by
  unfold entL
  rw [List.length_map]
  exact filesN_len s.f 64
theorem entL_put {V : Nat → Value} {s : S} {i d : Nat} {l : List UInt8} {v : Value} (hi : i < 64) (hl : l ≠ []) : pt (entL V s) (i : Int) (ctV v d) = entL (upd V i v) (put s i l d) := by
  refine ((entL_rise V s).pt _ _).ext_lk (entL_rise _ _) (fun k => ?_)
  rw [lk_pt (entL_rise V s), lk_entL, lk_entL]
  by_cases hk : k = (i : Int)
  · subst hk
    rw [if_pos rfl, if_pos ⟨by omega, by omega, by simpa [put, upd_same] using hl⟩]
    simp [put, upd_same]
  · rw [if_neg hk]
    by_cases hn : 0 ≤ k
    · have hne : k.toNat ≠ i := by omega
      simp only [put, upd_other _ _ hne]
    · rw [if_neg (fun h => hn h.1), if_neg (fun h => hn h.1)]
theorem entL_del {V : Nat → Value} {s : S} {i d : Nat} {v : Value} (hi : i < 64) : dl (entL V s) (i : Int) = entL (upd V i v) (put s i [] d) := by
  refine ((entL_rise V s).dl _).ext_lk (entL_rise _ _) (fun k => ?_)
  rw [lk_dl (entL_rise V s), lk_entL, lk_entL]
  by_cases hk : k = (i : Int)
  · subst hk
    rw [if_pos rfl, if_neg (fun h => h.2.2 (by simp [put, upd_same]))]
  · rw [if_neg hk]
    by_cases hn : 0 ≤ k
    · have hne : k.toNat ≠ i := by omega
      simp only [put, upd_other _ _ hne]
    · rw [if_neg (fun h => hn h.1), if_neg (fun h => hn h.1)]

/-! ### a disk in memory -/
def dCells (s : S) (m : Nat) : Array Value := #[.int .i64 (s.room : Int), .map (some m), .bool s.off, .bool (decide (0 ≤ s.plan)), .int .i64 (max s.plan 0)]
/-- Block g is a disk whose map is m; the files' slices are V. -/
structure DC (w : World) (g m : Nat) (V : Nat → Value) (s : S) : Prop where
  blk : Blk w g 68 (dCells s m)
  map : MI w Try.prog 3 m (entL V s)
  nil : ∀ i, s.f i = [] → V i = .slice none 0 0 ∧ s.firm i = 0
structure DI (w : World) (g m : Nat) (V : Nat → Value) (s : S) : Prop where
  core : DC w g m V s
  rows : ∀ i, RowV w 5 IsU8 (V i) (bs (s.f i))
  apart : ∀ i j k, blkV (V i) = some k → blkV (V j) = some k → i = j
  wf : WF s
/-- Its blocks. -/
def ownD (g m : Nat) (V : Nat → Value) (k : Nat) : Prop := k = g ∨ k = m ∨ ∃ i, blkV (V i) = some k
section
variable {w w' : World} {g m : Nat} {V : Nat → Value} {s : S}
theorem DC.ne (h : DC w g m V s) : g ≠ m := by
  intro e
  subst e
  obtain ⟨_, es, clock, hb, _⟩ := h.map
  have := h.blk
  unfold Blk at this
  rw [this] at hb
  cases hb
theorem DC.chg {T : Nat → Prop} (h : DC w g m V s) (hc : Chg T w w') (hg : ¬ T g) (hm : ¬ T m) : DC w' g m V s := ⟨h.blk.chg hc hg, h.map.chg hc hm, h.nil⟩
theorem DC.row_ne (h : DC w g m V s) {v : Value} {xs : List Value} (hr : RowV w 5 IsU8 v xs) {k : Nat} (hk : blkV v = some k) : k ≠ g ∧ k ≠ m := by
  obtain ⟨cs, h1, _⟩ := hr.kind hk
  refine ⟨fun e => hr.ne h.blk (by decide) (by rw [hk, e]), fun e => ?_⟩
  subst e
  obtain ⟨_, es, clock, hb, _⟩ := h.map
  unfold Blk at h1
  rw [h1] at hb
  cases hb
theorem DI.chg {T : Nat → Prop} (h : DI w g m V s) (hc : Chg T w w') (ht : ∀ k, ownD g m V k → ¬ T k) : DI w' g m V s :=
  ⟨h.core.chg hc (ht g (.inl rfl)) (ht m (.inr (.inl rfl))), fun i => (h.rows i).chg hc (fun k hk => ht k (.inr (.inr ⟨i, hk⟩))), h.apart, h.wf⟩
theorem DI.new (h : DI w g m V s) (hc : New w w') : DI w' g m V s := h.chg hc (fun _ _ hf => hf)
theorem DI.lt (h : DI w g m V s) {k : Nat} (hk : ownD g m V k) : k < w.heap.size := by
  rcases hk with rfl | rfl | ⟨i, hi⟩
  · exact h.core.blk.lt
  · exact h.core.map.lt
  · exact (h.rows i).lt hi
theorem DI.firm0 (h : DI w g m V s) {i : Nat} (hf : s.f i = []) : V i = .slice none 0 0 ∧ s.firm i = 0 := h.core.nil i hf
/-- What a lookup of a file finds. -/
theorem DC.lk (h : DC w g m V s) {i : Nat} (hi : i < 64) : (lk (entL V s) (i : Int)).getD (.agg #[.slice none 0 0, .int .i64 0]) = ctV (V i) (s.firm i) := by
  rw [lk_entL]
  by_cases hf : s.f i = []
  · rw [if_neg (fun hn => hn.2.2 (by simpa using hf)), (h.nil i hf).1, (h.nil i hf).2]
    rfl
  · rw [if_pos ⟨by omega, by omega, by simpa using hf⟩]
    simp
end
theorem keyInt : KeyI Try.prog 3 := Try.underlying3

set_option maxHeartbeats 1000000 in
set_option maxRecDepth 100000 in
theorem dFails_any (g m : Nat) (s : S) (w : World) (hb : Blk w g 68 (dCells s m)) (hp : -1 ≤ s.plan ∧ s.plan ≤ 9223372036854775807) :
    Calls Try.prog 41 #[.pointer (some ⟨g, 0, none⟩)] w fun e w' => e = .returned (.bool (pstep s).2) ∧
      Blk w' g 68 (dCells (pstep s).1 m) ∧ Chg (fun k => k = g) w w' := by
  have hc2 := hb.cell 2 (u := .bool s.off) rfl
  have hc3 := hb.cell 3 (u := .bool (decide (0 ≤ s.plan))) rfl
  have hc4 := hb.cell 4 (u := .int .i64 (max s.plan 0)) rfl
  have hf2 := hb.frozen 2
  have hf3 := hb.frozen 3
  have hf4 := hb.frozen 4
  have HB := Lib.hid hb
  clear hb
  by_cases h1 : s.plan < 0
  · rw [show pstep s = (s, false) from if_pos h1]
    rw [show decide (0 ≤ s.plan) = false by simp; omega] at hc3
    have H1 := Lib.hid h1
    clear h1 hp
    go_enter Try.func41, Try.ntmps41
    go_wp2
    go_ret
    exact ⟨rfl, HB.out, Chg.refl _ w⟩
  · rw [show decide (0 ≤ s.plan) = true by simp; omega] at hc3
    obtain ⟨p, hpl⟩ : ∃ p : Int, max s.plan 0 = p := ⟨_, rfl⟩
    rw [hpl] at hc4
    by_cases h2 : s.plan = 0
    · have hst : pstep s = ({ s with plan := -1, off := true }, true) := by unfold pstep; rw [if_neg h1, if_pos h2]
      rw [hst]
      obtain rfl : p = 0 := by omega
      have H1 := Lib.hid hpl
      have H2 := Lib.hid h2
      clear h1 hp hpl h2 hst
      go_enter Try.func41, Try.ntmps41
      go_wp2
      go_ret
      refine ⟨rfl, ?_, ?_⟩
      · have := (HB.out.set_ 2 (.bool true)).set_ 3 (.bool false)
        simpa [dCells, H1.out, show max (-1 : Int) 0 = 0 by decide] using this
      · exact ((Chg.refl (fun k => k = g) w).setCell (p := ⟨g, 2, none⟩) (fun _ => rfl) _).setCell (p := ⟨g, 3, none⟩) (fun _ => rfl) _
    · have hst : pstep s = ({ s with plan := s.plan - 1 }, false) := by unfold pstep; rw [if_neg h1, if_neg h2]
      rw [hst]
      have hp1 : 0 < p := by omega
      have hp2 : p ≤ 9223372036854775807 := by omega
      have hw : IntKind.i64.wrap (p - 1) = p - 1 := IntWalk.i64_in _ (by omega)
      have hp3 : s.plan = p := by omega
      have H1 := Lib.hid hp3
      have H0 := Lib.hid (And.intro h1 hpl)
      clear h1 hp hpl h2 hst hp3
      go_enter Try.func41, Try.ntmps41
      go_wp2
      go_ret
      refine ⟨rfl, ?_, ?_⟩
      · have := HB.out.set_ 4 (.int .i64 (p - 1))
        have e1 : max (s.plan - 1) 0 = p - 1 := by rw [H1.out]; omega
        have e2 : decide (1 ≤ s.plan) = true := by rw [H1.out]; simp; omega
        have e3 : decide (0 ≤ s.plan) = true := by rw [H1.out]; simp; omega
        simpa [dCells, e1, e2, e3] using this
      · exact (Chg.refl (fun k => k = g) w).setCell (p := ⟨g, 4, none⟩) (fun _ => rfl) _

set_option maxHeartbeats 1000000 in
set_option maxRecDepth 100000 in
theorem dArm_any (g m : Nat) (s : S) (n : Int) (hn : -9223372036854775808 ≤ n ∧ n ≤ 9223372036854775807) (w : World) (hb : Blk w g 68 (dCells s m)) :
    Calls Try.prog 24 #[.pointer (some ⟨g, 0, none⟩), .int .i64 n] w fun e w' => e = .returned (.tuple #[]) ∧
      Blk w' g 68 (dCells (arm s n) m) ∧ Chg (fun k => k = g) w w' := by
  have hc2 := hb.cell 2 (u := .bool s.off) rfl
  have hf3 := hb.frozen 3
  have hf4 := hb.frozen 4
  have hc3 := hb.cell 3 (u := .bool (decide (0 ≤ s.plan))) rfl
  have hc4 := hb.cell 4 (u := .int .i64 (max s.plan 0)) rfl
  have HB := Lib.hid hb
  clear hb
  cases ho : s.off with
  | true =>
    rw [ho] at hc2
    rw [show arm s n = s from if_pos ho]
    have HO := Lib.hid ho
    clear ho
    go_enter Try.func24, Try.ntmps24
    go_wp2
    refine bodyPost_ret (results_none rfl _ _ _) rfl ?_
    exact ⟨rfl, HB.out, Chg.refl _ w⟩
  | false =>
    rw [ho] at hc2
    have ha : arm s n = { s with plan := max n (-1) } := if_neg (by rw [ho]; simp)
    rw [ha]
    have HO := Lib.hid ho
    clear ho ha
    go_enter Try.func24, Try.ntmps24
    go_wp2
    · have h : n < 0 := by assumption
      go_end0
      refine ⟨rfl, ?_, ?_⟩
      · have := (HB.out.set_ 3 (.bool (decide (0 ≤ n)))).set_ 4 (.int .i64 0)
        have e1 : max (max n (-1)) 0 = 0 := by omega
        have e2 : decide (0 ≤ max n (-1)) = decide (0 ≤ n) := by simp; omega
        simpa [dCells, e1, e2, HO.out] using this
      · exact ((Chg.refl (fun k => k = g) w).setCell (p := ⟨g, 3, none⟩) (fun _ => rfl) _).setCell (p := ⟨g, 4, none⟩) (fun _ => rfl) _
    · have h : 0 ≤ n := by assumption
      go_end0
      refine ⟨rfl, ?_, ?_⟩
      · have := (HB.out.set_ 3 (.bool true)).set_ 4 (.int .i64 n)
        have e1 : max (max n (-1)) 0 = n := by omega
        have e2 : decide (0 ≤ max n (-1)) = true := by simp; omega
        simpa [dCells, e1, e2, h, HO.out] using this
      · exact ((Chg.refl (fun k => k = g) w).setCell (p := ⟨g, 3, none⟩) (fun _ => rfl) _).setCell (p := ⟨g, 4, none⟩) (fun _ => rfl) _
end Go.Proofs.Ytffehmfjcglalaa
