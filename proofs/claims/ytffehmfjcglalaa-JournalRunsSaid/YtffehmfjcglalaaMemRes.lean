/- Results that lie in memory, by whole blocks. No program is named here. -/
import Derived.Test.YtffehmfjcglalaaMem
namespace Go.Mem
set_option linter.unusedVariables false
open Go.RowKit
section
variable {P : Program} {fn : Func} {p q r : Tmp} {ty ty2 ty3 : TypeId} {w : World} {g g2 g3 : Nat} {t t2 t3 : TypeId} {cs cs2 cs3 : Array Value} {d d2 : TypeDesc}
/-- The type ty is a struct or an array of that many cells. -/
def Agg (P : Program) (ty : TypeId) (n : Nat) : Prop := ∃ d, P.underlying ty = some d ∧ (match d with | .struct _ | .array _ _ => true | _ => false) = true ∧ (P.info? ty).map (·.size) = some n
theorem Agg.load (h : Agg P ty cs.size) (hb : Blk w g t cs) : (loadVar ty ⟨g, 0, none⟩).run P w = .ok (.agg cs) w := by
  obtain ⟨d, hu, hd, hi⟩ := h
  exact run_loadVar_row w g t ty cs (0, 0) d hb hu (by cases d <;> first | rfl | (simp at hd)) hi
/-- The type ty is no struct and no array. -/
def Flat (P : Program) (ty : TypeId) : Prop := ∃ d, P.underlying ty = some d ∧ (match d with | .struct _ | .array _ _ => true | _ => false) = false
theorem Flat.load {v : Value} (h : Flat P ty) (hb : Blk w g t #[v]) : (loadVar ty ⟨g, 0, none⟩).run P w = .ok v w := by
  obtain ⟨d, hu, hd⟩ := h
  have hc := hb.cell 0 (u := v) rfl
  cases d <;> simp_all [loadVar, isAgg, run_underlying hu]
theorem res_c (h : fn.results = #[.cell p ty]) (tmps : Array Value) (hp : tmps.getD p undef = .pointer (some ⟨g, 0, none⟩)) {v : Value} (hl : (loadVar ty ⟨g, 0, none⟩).run P w = .ok v w) :
    (results fn tmps).run P w = .ok v w := by
  have hp' : tmps[p]?.getD undef = .pointer (some ⟨g, 0, none⟩) := by simpa using hp
  simp [results, h, hp', asAddr, hl]
theorem res_ct (h : fn.results = #[.cell p ty, .tmp q]) (tmps : Array Value) (hp : tmps.getD p undef = .pointer (some ⟨g, 0, none⟩)) {v u : Value} (hl : (loadVar ty ⟨g, 0, none⟩).run P w = .ok v w) (hq : tmps.getD q undef = u) :
    (results fn tmps).run P w = .ok (.tuple #[v, u]) w := by
  have hp' : tmps[p]?.getD undef = .pointer (some ⟨g, 0, none⟩) := by simpa using hp
  have hq' : tmps[q]?.getD undef = u := by simpa using hq
  simp [results, h, hp', hq', asAddr, hl]
theorem res_cct (h : fn.results = #[.cell p ty, .cell q ty2, .tmp r]) (tmps : Array Value) (hp : tmps.getD p undef = .pointer (some ⟨g, 0, none⟩)) {v v2 u : Value} (hl : (loadVar ty ⟨g, 0, none⟩).run P w = .ok v w)
    (hq : tmps.getD q undef = .pointer (some ⟨g2, 0, none⟩)) (hl2 : (loadVar ty2 ⟨g2, 0, none⟩).run P w = .ok v2 w) (hr : tmps.getD r undef = u) :
    (results fn tmps).run P w = .ok (.tuple #[v, v2, u]) w := by
  have hp' : tmps[p]?.getD undef = .pointer (some ⟨g, 0, none⟩) := by simpa using hp
  have hq' : tmps[q]?.getD undef = .pointer (some ⟨g2, 0, none⟩) := by simpa using hq
  have hr' : tmps[r]?.getD undef = u := by simpa using hr
  simp [results, h, hp', hq', hr', asAddr, hl, hl2]
theorem res_ccc (h : fn.results = #[.cell p ty, .cell q ty2, .cell r ty3]) (tmps : Array Value) (hp : tmps.getD p undef = .pointer (some ⟨g, 0, none⟩)) {v v2 v3 : Value} (hl : (loadVar ty ⟨g, 0, none⟩).run P w = .ok v w)
    (hq : tmps.getD q undef = .pointer (some ⟨g2, 0, none⟩)) (hl2 : (loadVar ty2 ⟨g2, 0, none⟩).run P w = .ok v2 w) (hr : tmps.getD r undef = .pointer (some ⟨g3, 0, none⟩)) (hl3 : (loadVar ty3 ⟨g3, 0, none⟩).run P w = .ok v3 w) :
    (results fn tmps).run P w = .ok (.tuple #[v, v2, v3]) w := by
  have hp' : tmps[p]?.getD undef = .pointer (some ⟨g, 0, none⟩) := by simpa using hp
  have hq' : tmps[q]?.getD undef = .pointer (some ⟨g2, 0, none⟩) := by simpa using hq
  have hr' : tmps[r]?.getD undef = .pointer (some ⟨g3, 0, none⟩) := by simpa using hr
  simp [results, h, hp', hq', hr', asAddr, hl, hl2, hl3]
theorem res_tct (h : fn.results = #[.tmp p, .cell q ty2, .tmp r]) (tmps : Array Value) {v v2 u : Value} (hp : tmps.getD p undef = v)
    (hq : tmps.getD q undef = .pointer (some ⟨g2, 0, none⟩)) (hl2 : (loadVar ty2 ⟨g2, 0, none⟩).run P w = .ok v2 w) (hr : tmps.getD r undef = u) :
    (results fn tmps).run P w = .ok (.tuple #[v, v2, u]) w := by
  have hp' : tmps[p]?.getD undef = v := by simpa using hp
  have hq' : tmps[q]?.getD undef = .pointer (some ⟨g2, 0, none⟩) := by simpa using hq
  have hr' : tmps[r]?.getD undef = u := by simpa using hr
  simp [results, h, hp', hq', hr', asAddr, hl2]
end

section
variable {w w' : World} {A : Option Addr} {n g : Nat} {t : TypeId} {cs : Array Value} {xs : List Value}
/-- A slice does not lie in a block that holds none of its values. -/
theorem Rd.apart (h : Rd w A n xs) (hb : Blk w g t cs) (hne : ∀ u ∈ xs, u ∉ cs.toList) (hn : 0 < n) : blk A ≠ some g := by
  obtain ⟨ad, u, rfl, hu, hc⟩ := h.at_ hn
  intro e
  have e : ad.block = g := by simpa [blk] using e
  have hm := List.mem_of_getElem? hu
  unfold World.cell? at hc
  rw [block_add, e] at hc
  unfold Blk at hb
  rw [hb] at hc
  simp only at hc
  split at hc
  · cases hc
  · exact hne u hm (by have := Array.mem_of_getElem? hc; simpa using this)
theorem Rd.store (h : Rd w A n xs) (hb : Blk w g t cs) (hne : ∀ u ∈ xs, u ∉ cs.toList) (hc : Chg (fun k => k = g) w w') : Rd w' A n xs := by
  rcases Nat.eq_zero_or_pos n with h0 | h0
  · subst h0; exact ⟨h.1, fun h => absurd h (by omega)⟩
  · exact h.chg hc (fun k hk _ e => h.apart hb hne h0 (by rw [hk, e]))
/-- No number among the values. -/
def NoInt (l : List Value) : Prop := ∀ k z, Value.int k z ∉ l
theorem Blk.set2 {x y : Value} (h : Blk w g t #[x, y]) (a b : Value) : Blk ((w.setCell ⟨g, 0, none⟩ a).setCell ⟨g, 1, none⟩ b) g t #[a, b] := (h.set_ 0 a).set_ 1 b
theorem Blk.set1 {x : Value} (h : Blk w g t #[x]) (a : Value) : Blk (w.setCell ⟨g, 0, none⟩ a) g t #[a] := h.set_ 0 a
theorem far1 {p : Addr} {v : Value} (h : w.cell? p = some v) (hne : p.block ≠ g) (x : Value) : (w.setCell ⟨g, 0, none⟩ x).cell? p = some v :=
  (World.cell?_of_block (Below.heap_setCell w ⟨g, 0, none⟩ x p.block hne)).trans h
theorem far2 {p : Addr} {v : Value} (h : w.cell? p = some v) (hne : p.block ≠ g) (x y : Value) : ((w.setCell ⟨g, 0, none⟩ x).setCell ⟨g, 1, none⟩ y).cell? p = some v :=
  (World.cell?_of_block (Below.heap_setCell _ ⟨g, 1, none⟩ y p.block hne)).trans (far1 h hne x)
theorem Chg.at1 (w : World) (g : Nat) (a : Value) : Chg (fun k => k = g) w (w.setCell ⟨g, 0, none⟩ a) := (Chg.refl (fun k => k = g) w).setCell (p := ⟨g, 0, none⟩) (fun _ => rfl) _
theorem Chg.at2 (w : World) (g : Nat) (a b : Value) : Chg (fun k => k = g) w ((w.setCell ⟨g, 0, none⟩ a).setCell ⟨g, 1, none⟩ b) := ((Chg.refl (fun k => k = g) w).setCell (p := ⟨g, 0, none⟩) (fun _ => rfl) _).setCell (p := ⟨g, 1, none⟩) (fun _ => rfl) _
/-- A change of a block that is the call's own. -/
theorem Chg.owned {S : Nat → Prop} {w0 : World} (h : New w0 w) (hc : Chg S w w') (hs : ∀ k, S k → w0.heap.size ≤ k) : New w0 w' := h.trans hc (fun k hk hS => by have := hs k hS; omega)
end

/-! ### a call in a world in which blocks have just been laid -/
section
variable {P : Program} {f : Nat} {args : Array Value} {w : World} {c1 c2 c3 c4 c5 : Array Value} {t1 t2 t3 t4 t5 : TypeId} {K : Ending → World → Prop}
theorem Calls.new1 (h : ∀ W, Blk W w.heap.size t1 c1 → New w W → W.heap.size = w.heap.size + 1 → Calls P f args W K) : Calls P f args (w.alloc (.cells c1 t1)) K :=
  h _ (Blk.new _ _ _) ((Chg.refl _ w).alloc _) (by simp)
theorem Calls.new2 (h : ∀ W, Blk W w.heap.size t1 c1 → Blk W (w.heap.size + 1) t2 c2 → New w W → W.heap.size = w.heap.size + 2 → Calls P f args W K) : Calls P f args ((w.alloc (.cells c1 t1)).alloc (.cells c2 t2)) K :=
  Calls.new1 fun W hb hn hz => h W ((Blk.new w t1 c1).chg hn (fun h => h)) (by rw [World.size_alloc] at hb; exact hb) (((Chg.refl _ w).alloc _).new hn) (by rw [hz]; simp)
theorem Calls.new3 (h : ∀ W, Blk W w.heap.size t1 c1 → Blk W (w.heap.size + 1) t2 c2 → Blk W (w.heap.size + 1 + 1) t3 c3 → New w W → W.heap.size = w.heap.size + 3 → Calls P f args W K) : Calls P f args (((w.alloc (.cells c1 t1)).alloc (.cells c2 t2)).alloc (.cells c3 t3)) K :=
  Calls.new2 fun W hb hb' hn hz => h W ((Blk.new w t1 c1).chg hn (fun h => h)) (by rw [World.size_alloc] at hb; exact hb) (by rw [World.size_alloc] at hb'; exact hb') (((Chg.refl _ w).alloc _).new hn) (by rw [hz]; simp)
theorem Calls.new4 (h : ∀ W, Blk W w.heap.size t1 c1 → Blk W (w.heap.size + 1) t2 c2 → Blk W (w.heap.size + 1 + 1) t3 c3 → Blk W (w.heap.size + 1 + 1 + 1) t4 c4 → New w W → W.heap.size = w.heap.size + 4 → Calls P f args W K) : Calls P f args ((((w.alloc (.cells c1 t1)).alloc (.cells c2 t2)).alloc (.cells c3 t3)).alloc (.cells c4 t4)) K :=
  Calls.new3 fun W hb hb' hb'' hn hz => h W ((Blk.new w t1 c1).chg hn (fun h => h)) (by rw [World.size_alloc] at hb; exact hb) (by rw [World.size_alloc] at hb'; exact hb') (by rw [World.size_alloc] at hb''; exact hb'') (((Chg.refl _ w).alloc _).new hn) (by rw [hz]; simp)
/-- A walk in such a world. -/
theorem Code.new1 {c : Code} {Q : Exit → Act → World → Prop} {a : Act} (h : ∀ W, Blk W w.heap.size t1 c1 → New w W → W.heap.size = w.heap.size + 1 → Code.wp P c Q a W) : Code.wp P c Q a (w.alloc (.cells c1 t1)) :=
  h _ (Blk.new _ _ _) ((Chg.refl _ w).alloc _) (by simp)
theorem Code.new2 {c : Code} {Q : Exit → Act → World → Prop} {a : Act} (h : ∀ W, Blk W w.heap.size t1 c1 → Blk W (w.heap.size + 1) t2 c2 → New w W → W.heap.size = w.heap.size + 2 → Code.wp P c Q a W) : Code.wp P c Q a ((w.alloc (.cells c1 t1)).alloc (.cells c2 t2)) :=
  Code.new1 fun W hb hn hz => h W ((Blk.new w t1 c1).chg hn (fun h => h)) (by rw [World.size_alloc] at hb; exact hb) (((Chg.refl _ w).alloc _).new hn) (by rw [hz]; simp)
theorem Code.new3 {c : Code} {Q : Exit → Act → World → Prop} {a : Act} (h : ∀ W, Blk W w.heap.size t1 c1 → Blk W (w.heap.size + 1) t2 c2 → Blk W (w.heap.size + 1 + 1) t3 c3 → New w W → W.heap.size = w.heap.size + 3 → Code.wp P c Q a W) : Code.wp P c Q a (((w.alloc (.cells c1 t1)).alloc (.cells c2 t2)).alloc (.cells c3 t3)) :=
  Code.new2 fun W hb hb' hn hz => h W ((Blk.new w t1 c1).chg hn (fun h => h)) (by rw [World.size_alloc] at hb; exact hb) (by rw [World.size_alloc] at hb'; exact hb') (((Chg.refl _ w).alloc _).new hn) (by rw [hz]; simp)
theorem Code.new4 {c : Code} {Q : Exit → Act → World → Prop} {a : Act} (h : ∀ W, Blk W w.heap.size t1 c1 → Blk W (w.heap.size + 1) t2 c2 → Blk W (w.heap.size + 1 + 1) t3 c3 → Blk W (w.heap.size + 1 + 1 + 1) t4 c4 → New w W → W.heap.size = w.heap.size + 4 → Code.wp P c Q a W) : Code.wp P c Q a ((((w.alloc (.cells c1 t1)).alloc (.cells c2 t2)).alloc (.cells c3 t3)).alloc (.cells c4 t4)) :=
  Code.new3 fun W hb hb' hb'' hn hz => h W ((Blk.new w t1 c1).chg hn (fun h => h)) (by rw [World.size_alloc] at hb; exact hb) (by rw [World.size_alloc] at hb'; exact hb') (by rw [World.size_alloc] at hb''; exact hb'') (((Chg.refl _ w).alloc _).new hn) (by rw [hz]; simp)
end
end Go.Mem
