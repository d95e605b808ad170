/- The parts Col, Seq, St, PureDig, PureDig2, WideA, WideB, WideC, WideD, PureFrac, FracA, RefA of the proof, in one text. -/
import Derived.Deep.RegionHeld3
import Derived.Test.YtbocpkjajocpiaaGreatDoorB0
set_option linter.unusedSimpArgs false
set_option linter.unusedVariables false

namespace Go.Col
set_option linter.unusedVariables false
open Go.RowKit Go.Mem

abbrev Colr := Nat → Nat
/-- Cells that no coloured block holds. -/
def NB : Value → Bool
  | .int .u32 _ => true
  | .int .i64 z => z != 0
  | _ => false
def GI (w : World) (c : Colr) : Prop := ∀ k cs t x, w.heap[k]? = some (.cells cs t x) → c k ≠ 0 → ∀ v ∈ cs.toList, NB v = false
theorem GI.zero (w : World) : GI w (fun _ => 0) := fun k cs t x _ h => absurd rfl h
theorem GI.drew {w : World} {c : Colr} (h : GI w c) : GI w.drew c := h

/-- From w, c to w', c': only blocks of the colours of S have changed, new ones are plain, forgotten or of these colours. -/
structure Ext (S : List Nat) (w : World) (c : Colr) (w' : World) (c' : Colr) : Prop where
  ok : (S.contains 0 || S.contains 1) = false
  chg : Chg (fun k => S.contains (c k) = true) w w'
  col : ∀ k, k < w.heap.size → c' k = c k
  neu : ∀ k, w.heap.size ≤ k → k < w'.heap.size → c' k = 0 ∨ c' k = 1 ∨ S.contains (c' k) = true
  gi : GI w' c'
section
variable {S T : List Nat} {w w' w'' : World} {c c' c'' : Colr}
theorem Ext.z (h : Ext S w c w' c') : S.contains 0 = false := (Bool.or_eq_false_iff.1 h.ok).1
theorem Ext.one (h : Ext S w c w' c') : S.contains 1 = false := (Bool.or_eq_false_iff.1 h.ok).2
theorem Ext.refl (hS : (S.contains 0 || S.contains 1) = false) (h : GI w c) : Ext S w c w c := ⟨hS, Chg.refl _ _, fun _ _ => rfl, fun k h1 h2 => by omega, h⟩
theorem Ext.drew (hS : (S.contains 0 || S.contains 1) = false) (h : GI w c) : Ext S w c w.drew c := ⟨hS, (Chg.refl _ _).drew, fun _ _ => rfl, fun k h1 (h2 : k < w.heap.size) => by omega, h⟩
theorem sub_all (h : T.all (S.contains ·) = true) {n : Nat} (hn : T.contains n = true) : S.contains n = true :=
  List.all_eq_true.1 h n (by simpa using hn)
theorem Ext.trans (h : Ext S w c w' c') (h' : Ext T w' c' w'' c'') (hs : T.all (S.contains ·) = true) : Ext S w c w'' c'' := by
  refine ⟨h.ok, h.chg.trans h'.chg (fun k hk ht => ?_), fun k hk => (h'.col k (Nat.lt_of_lt_of_le hk h.chg.size)).trans (h.col k hk), fun k h1 h2 => ?_, h'.gi⟩
  · rw [h.col k hk] at ht
    exact sub_all hs ht
  · by_cases hk : k < w'.heap.size
    · rw [h'.col k hk]
      exact h.neu k h1 hk
    · rcases h'.neu k (by omega) h2 with h3 | h3 | h3
      · exact .inl h3
      · exact .inr (.inl h3)
      · exact .inr (.inr (sub_all hs h3))
theorem Ext.mono (h : Ext T w c w' c') (hs : T.all (S.contains ·) = true) (hS : (S.contains 0 || S.contains 1) = false) : Ext S w c w' c' :=
  ⟨hS, h.chg.mono (fun k _ ht => sub_all hs ht), h.col, fun k h1 h2 => (h.neu k h1 h2).imp (fun h => h) (Or.imp (fun h => h) (sub_all hs)), h.gi⟩
def ext0 (c : Colr) (n : Nat) : Colr := fun k => if k < n then c k else 0
theorem Ext.of_new (h : New w w') (g : GI w c) : Ext [] w c w' (ext0 c w.heap.size) := by
  refine ⟨rfl, h.mono (fun _ _ hf => hf.elim), fun k hk => by simp [ext0, hk], fun k h1 h2 => .inl (if_neg (show ¬ k < w.heap.size by omega)), ?_⟩
  intro k cs t x hb hc v hv
  unfold ext0 at hc
  split at hc
  · rename_i hk
    rw [h.block k hk (fun h => h)] at hb
    exact g k cs t x hb hc v hv
  · exact absurd rfl hc
def setC (c : Colr) (g n : Nat) : Colr := fun k => if k = g then n else c k
theorem Ext.alloc {n : Nat} {cs : Array Value} {t : TypeId} (g : GI w c) (hn : ([n].contains 0 || [n].contains 1) = false) (hcs : cs.toList.all (fun v => !NB v) = true) : Ext [n] w c (w.alloc (.cells cs t)) (setC c w.heap.size n) := by
  refine ⟨hn, (Chg.refl _ w).alloc _, fun k hk => if_neg (show ¬ k = w.heap.size by omega), fun k h1 h2 => ?_, ?_⟩
  · have : k = w.heap.size := by simp at h2; omega
    subst this
    exact .inr (.inr (by simp [setC]))
  · intro k cs' t' x hb hc v hv
    by_cases hk : k = w.heap.size
    · subst hk
      rw [heap_alloc_new] at hb
      injection hb with hb
      injection hb with hb
      subst hb
      have := List.all_eq_true.1 hcs v (by simpa using hv)
      simpa using this
    · have hlt : k < w.heap.size := by
        have := (Array.getElem?_eq_some_iff.1 hb).1
        simp at this; omega
      rw [Below.heap_alloc w _ k hlt] at hb
      simp only [setC, if_neg hk] at hc
      exact g k cs' t' x hb hc v hv
theorem Ext.allocP {o : Obj} (g : GI w c) : Ext [] w c (w.alloc o) (ext0 c w.heap.size) := Ext.of_new ((Chg.refl _ w).alloc o) g
theorem Ext.store {n g : Nat} {t : TypeId} {cs : Array Value} (gi : GI w c) (hc : Chg (fun k => k = g) w w') (hz : w'.heap.size = w.heap.size) (hn : c g = n) (hS : ([n].contains 0 || [n].contains 1) = false) (hb : Blk w' g t cs) (hcs : cs.toList.all (fun v => !NB v) = true) : Ext [n] w c w' c := by
  refine ⟨hS, hc.mono (fun k _ e => by subst e; simp [hn]), fun _ _ => rfl, fun k h1 h2 => by omega, ?_⟩
  intro k cs' t' x hb' hck v hv
  by_cases hk : k = g
  · subst hk
    unfold Blk at hb
    rw [hb] at hb'
    injection hb' with hb'
    injection hb' with hb'
    subst hb'
    have := List.all_eq_true.1 hcs v (by simpa using hv)
    simpa using this
  · have hlt : k < w.heap.size := by
      have := (Array.getElem?_eq_some_iff.1 hb').1
      omega
    rw [hc.block k hlt hk] at hb'
    exact gi k cs' t' x hb' hck v hv
/-- The blocks that were there when all was plain have not changed. -/
theorem Ext.new0 (h : Ext S w (fun _ => 0) w' c') : New w w' := h.chg.mono (fun k _ hk => by rw [h.z] at hk; cases hk)
theorem add_block (ad : Addr) (j : Nat) : (ad.add j).block = ad.block := by
  cases ad
  simp only [Addr.add]
  split <;> rfl
/-- A slice that holds a barred value lies in a plain block: it is kept. -/
theorem rd_ext {A : Option Addr} {n : Nat} {xs : List Value} (h : Rd w A n xs) (hx : xs = [] ∨ ∃ x ∈ xs, NB x = true) (g : GI w c) (he : Ext S w c w' c') : Rd w' A n xs := by
  refine ⟨h.1, fun hn => ?_⟩
  obtain ⟨ad, rfl, hc⟩ := h.2 hn
  refine ⟨ad, rfl, fun j u hu => ?_⟩
  refine he.chg.cell (hc j u hu) ?_
  have hz : c (ad.add j).block = 0 := by
    rcases hx with rfl | ⟨x, hx1, hx2⟩
    · simp at hu
    obtain ⟨i, hi, hxi⟩ := List.mem_iff_getElem.1 hx1
    have h1 := hc i x (by rw [List.getElem?_eq_getElem hi, hxi])
    rw [add_block, ← add_block ad i]
    refine Decidable.byContradiction fun hne => ?_
    unfold World.cell? at h1
    split at h1
    · rename_i cs t x' heq
      split at h1
      · cases h1
      · have := g _ cs t x' heq hne x (by have := Array.mem_of_getElem? h1; simpa using this)
        rw [hx2] at this
        cases this
    · cases h1
  rw [hz, he.z]
  simp
/-- A slice in a plain block is kept. -/
theorem rd_ext0 {A : Option Addr} {n : Nat} {xs : List Value} (h : Rd w A n xs) (hx : ∀ ad, A = some ad → 0 < n → c ad.block = 0) (he : Ext S w c w' c') : Rd w' A n xs := by
  refine ⟨h.1, fun hn => ?_⟩
  obtain ⟨ad, rfl, hc⟩ := h.2 hn
  refine ⟨ad, rfl, fun j u hu => ?_⟩
  refine he.chg.cell (hc j u hu) ?_
  have hz : c (ad.add j).block = 0 := by rw [add_block]; exact hx ad rfl hn
  rw [hz, he.z]
  simp
theorem cell_lt {ad : Addr} {u : Value} (h : w.cell? ad = some u) : ad.block < w.heap.size := by
  unfold World.cell? at h
  split at h
  · rename_i heq
    exact (Array.getElem?_eq_some_iff.1 heq).1
  · cases h
end

/-- What a value is. -/
structure TyC where
  sat : Value → World → Colr → Prop
  stab : ∀ {S v w c w' c'}, sat v w c → GI w c → Ext S w c w' c' → sat v w' c'
def TyC.any : TyC := ⟨fun _ _ _ => True, fun _ _ _ => trivial⟩
def TyC.eq (u : Value) : TyC := ⟨fun v _ _ => v = u, fun h _ _ => h⟩
def TyC.tup1 (a : TyC) (u : Value) : TyC := ⟨fun v w c => ∃ x, v = .tuple #[x, u] ∧ a.sat x w c, fun ⟨x, h1, h2⟩ g e => ⟨x, h1, a.stab h2 g e⟩⟩
def TyC.tup2 (a b : TyC) (u : Value) : TyC := ⟨fun v w c => ∃ x y, v = .tuple #[x, y, u] ∧ a.sat x w c ∧ b.sat y w c, fun ⟨x, y, h1, h2, h3⟩ g e => ⟨x, y, h1, a.stab h2 g e, b.stab h3 g e⟩⟩
def TyC.pair (a b : TyC) : TyC := ⟨fun v w c => ∃ x y, v = .tuple #[x, y] ∧ a.sat x w c ∧ b.sat y w c, fun ⟨x, y, h1, h2, h3⟩ g e => ⟨x, y, h1, a.stab h2 g e, b.stab h3 g e⟩⟩
def TyC.ptr : TyC := ⟨fun v _ _ => ∃ g, v = .pointer (some ⟨g, 0, none⟩), fun h _ _ => h⟩
/-- Cells. -/
structure CTyC where
  sat : Array Value → World → Colr → Prop
  stab : ∀ {S v w c w' c'}, sat v w c → GI w c → Ext S w c w' c' → sat v w' c'

/-- Values of the type are structs of n cells, none of them barred. -/
def TyC.str (τ : TyC) (n : Nat) : Prop := ∀ v w c, τ.sat v w c → ∃ cs : Array Value, v = .agg cs ∧ cs.size = n ∧ cs.all (·.oneCell') = true ∧ cs.toList.all (fun v => !NB v) = true

def BoxC (w : World) (c : Colr) (g : Nat) (t : TypeId) (n : Nat) (τ : TyC) : Prop := c g = n ∧ ∃ v, τ.sat v w c ∧ Blk w g t v.cells
/-- A fact that is kept as long as no block of its colours changes. -/
structure Fact where
  cols : List Nat
  P : World → Colr → Prop
  stab : ∀ {S w c w' c'}, P w c → GI w c → Ext S w c w' c' → cols.any (S.contains ·) = false → P w' c'
def Fact.val (τ : TyC) (v : Value) : Fact := ⟨[], fun w c => τ.sat v w c, fun h g e _ => τ.stab h g e⟩
theorem blk_ext {S : List Nat} {w w' : World} {c c' : Colr} {g n : Nat} {t : TypeId} {cs : Array Value} (hb : Blk w g t cs) (hc : c g = n) (he : Ext S w c w' c') (hn : S.contains n = false) : Blk w' g t cs ∧ c' g = n :=
  ⟨hb.chg he.chg (fun h => by rw [hc, hn] at h; cases h), (he.col g hb.lt).trans hc⟩
def Fact.box (g : Nat) (t : TypeId) (n : Nat) (τ : TyC) : Fact := ⟨[n], fun w c => BoxC w c g t n τ, fun ⟨h1, v, h2, h3⟩ gi e hn => by
  have hn' := by simpa using hn
  obtain ⟨q1, q2⟩ := blk_ext h3 h1 e (by simpa using hn')
  exact ⟨q2, v, τ.stab h2 gi e, q1⟩⟩
/-- A plain block. -/
def Fact.row (g : Nat) (t : TypeId) (κ : CTyC) : Fact := ⟨[], fun w c => c g = 0 ∧ ∃ cs, κ.sat cs w c ∧ Blk w g t cs, fun ⟨h1, v, h2, h3⟩ gi e _ => by
  obtain ⟨q1, q2⟩ := blk_ext h3 h1 e e.z
  exact ⟨q2, v, κ.stab h2 gi e, q1⟩⟩

/-- What a value is that owns blocks of some colours. -/
structure TyO where
  cols : List Nat
  sat : Value → World → Colr → Prop
  stab : ∀ {S v w c w' c'}, sat v w c → GI w c → Ext S w c w' c' → cols.any (S.contains ·) = false → sat v w' c'
def Fact.own (τ : TyO) (v : Value) : Fact := ⟨τ.cols, τ.sat v, τ.stab⟩
abbrev BB := Nat → Bool
abbrev FF := Nat → Option Value
theorem any_app {l l' : List Nat} {p : Nat → Bool} (h : (l ++ l').any p = false) : l.any p = false ∧ l'.any p = false := by
  rw [List.any_append, Bool.or_eq_false_iff] at h
  exact h
/-- A fact in a region: what it says depends on the operations that have run and on the slots that they have written. st: from operation i on F1 instead. new: a box that is made in the region: slot p holds its address; operation s fills it; z: its cells at first. own: slot p holds a value that owns blocks. -/
inductive RF where
  | s (F : Fact)
  | st (i : Nat) (F1 : Fact) (F0 : RF)
  | new (p n : Nat) (t : TypeId) (s : Nat) (z : Array Value) (τ : TyC)
  | own (p : Nat) (τ : TyO)
def RF.cols : RF → List Nat
  | .s F => F.cols
  | .st _ F1 F0 => F1.cols ++ F0.cols
  | .new _ n _ _ _ _ => [n]
  | .own _ τ => τ.cols
def RF.ops : RF → List Nat
  | .s _ => []
  | .st i _ F0 => i :: F0.ops
  | .new _ _ _ sp _ _ => [sp]
  | .own _ _ => []
def RF.slots : RF → List Nat
  | .s _ => []
  | .st _ _ F0 => F0.slots
  | .new p _ _ _ _ _ => [p]
  | .own p _ => [p]
def RF.P : RF → BB → FF → World → Colr → Prop
  | .s F, _, _, w, c => F.P w c
  | .st i F1 F0, b, f, w, c => (b i = true → F1.P w c) ∧ (b i = false → F0.P b f w c)
  | .new p n t sp z τ, b, f, w, c => ∀ g, (f p).bind adr = some g → (b sp = true → BoxC w c g t n τ) ∧ (b sp = false → c g = n ∧ Blk w g t z)
  | .own p τ, b, f, w, c => ∀ v, f p = some v → τ.sat v w c
theorem RF.dep {b b' : BB} {f f' : FF} {w : World} {c : Colr} : ∀ (F : RF), F.P b f w c → (∀ i, F.ops.contains i = true → b' i = b i) → (∀ d, F.slots.contains d = true → f' d = f d) → F.P b' f' w c
  | .s F, h, _, _ => h
  | .st i F1 F0, ⟨h1, h2⟩, ho, hs => ⟨fun hb => h1 ((ho i (by simp [RF.ops])) ▸ hb), fun hb => RF.dep F0 (h2 ((ho i (by simp [RF.ops])) ▸ hb)) (fun j hj => ho j (by simp [RF.ops] at hj ⊢; exact .inr hj)) hs⟩
  | .new p n t sp z τ, h, ho, hs => fun g hg => by
    rw [hs p (by simp [RF.slots])] at hg
    rw [ho sp (by simp [RF.ops])]
    exact h g hg
  | .own p τ, h, ho, hs => fun g hg => by
    rw [hs p (by simp [RF.slots])] at hg
    exact h g hg
theorem RF.stab {b : BB} {f : FF} {S : List Nat} {w w' : World} {c c' : Colr} : ∀ (F : RF), F.P b f w c → GI w c → Ext S w c w' c' → F.cols.any (S.contains ·) = false → F.P b f w' c'
  | .s F, h, g, e, hn => F.stab h g e hn
  | .st i F1 F0, ⟨h1, h2⟩, g, e, hn => ⟨fun hb => F1.stab (h1 hb) g e (any_app hn).1, fun hb => RF.stab F0 (h2 hb) g e (any_app hn).2⟩
  | .new p n t sp z τ, h, gi, e, hn => fun g hg => by
    obtain ⟨h1, h2⟩ := h g hg
    refine ⟨fun hb => (Fact.box g t n τ).stab (h1 hb) gi e hn, fun hb => ?_⟩
    obtain ⟨q1, q2⟩ := h2 hb
    exact (blk_ext q2 q1 e (by simpa [RF.cols] using hn)).symm
  | .own p τ, h, gi, e, hn => fun g hg => τ.stab (h g hg) gi e hn
def Fact.tru : Fact := ⟨[], fun _ _ => True, fun _ _ _ _ => trivial⟩
/-- What it says behind the region. -/
def RF.fin : RF → Fact
  | .s F => F
  | .st _ F1 _ => F1
  | .new _ _ _ _ _ _ => Fact.tru
  | .own _ _ => Fact.tru
theorem RF.to_fin {b : BB} {f : FF} {w : World} {c : Colr} : ∀ (F : RF), F.P b f w c → (∀ i, F.ops.contains i = true → b i = true) → F.fin.P w c
  | .s F, h, _ => h
  | .st i F1 F0, h, hb => h.1 (hb i (by simp [RF.ops]))
  | .new _ _ _ _ _ _, _, _ => trivial
  | .own _ _, _, _ => trivial
def All : List RF → BB → FF → World → Colr → Prop
  | [], _, _, _, _ => True
  | F :: L, b, f, w, c => F.P b f w c ∧ All L b f w c
def bup (b : BB) (i : Nat) : BB := fun k => if k = i then true else b k
def aff (S : List Nat) (i : Nat) (od : Option Nat) (F : RF) : Bool := F.cols.any (S.contains ·) || F.ops.contains i || (match od with | some d => F.slots.contains d | none => false)
theorem aff_no {S : List Nat} {i : Nat} {od : Option Nat} {F : RF} (h : aff S i od F = false) : F.cols.any (S.contains ·) = false ∧ (∀ j, F.ops.contains j = true → j ≠ i) ∧ (∀ d, F.slots.contains d = true → od ≠ some d) := by
  unfold aff at h
  rw [Bool.or_eq_false_iff, Bool.or_eq_false_iff] at h
  refine ⟨h.1.1, fun j hj e => ?_, fun d hd e => ?_⟩
  · subst e; rw [hj] at h; cases h.1.2
  · subst e
    have := h.2
    simp only at this
    rw [hd] at this; cases this
theorem All.step {S : List Nat} {i : Nat} {od : Option Nat} {v : Value} {b : BB} {f : FF} {w w' : World} {c c' : Colr} (hg : GI w c) (he : Ext S w c w' c') : ∀ Fs : List RF, All Fs b f w c → All (Fs.filter (aff S i od)) (bup b i) (upF od v f) w' c' → All Fs (bup b i) (upF od v f) w' c'
  | [], _, _ => trivial
  | F :: Fs, h, h' => by
    cases ha : aff S i od F with
    | true =>
      rw [List.filter_cons_of_pos ha] at h'
      exact ⟨h'.1, All.step hg he Fs h.2 h'.2⟩
    | false =>
      rw [List.filter_cons_of_neg (by rw [ha]; simp)] at h'
      obtain ⟨h1, h2, h3⟩ := aff_no ha
      refine ⟨RF.dep F (RF.stab F h.1 hg he h1) (fun j hj => ?_) (fun d hd => ?_), All.step hg he Fs h.2 h'⟩
      · simp [bup, h2 j hj]
      · simp [upF, h3 d hd]
theorem All.stab {b : BB} {f : FF} {w w' : World} {c c' : Colr} (hg : GI w c) (he : Ext [] w c w' c') : ∀ Fs : List RF, All Fs b f w c → All Fs b f w' c'
  | [], _ => trivial
  | F :: Fs, h => ⟨RF.stab F h.1 hg he (by simp), All.stab hg he Fs h.2⟩

section
variable {P : Program} {ops : Array Oper} {Q : Exit → Act → World → Prop} {T : Array Value} {ds : List Deferred}
structure J (ops : Array Oper) (w0 : World) (c0 : Colr) (CB : List Nat) (Fs : List RF) (V : Nat → TyC) (b : BB) (f : FF) (w : World) (c : Colr) : Prop where
  gi : GI w c
  ext : Ext CB w0 c0 w c
  typ : ∀ d v, f d = some v → (V d).sat v w c
  fac : All Fs b f w c
  set : ∀ (i : Nat) (o : Oper) d, ops[i]? = some o → o.dst = some d → (b i = true ↔ f d ≠ none)
  out : ∀ d, (∀ (i : Nat) (o : Oper), ops[i]? = some o → o.dst ≠ some d) → f d = none
  cl : ∀ (i : Nat) (o : Oper), ops[i]? = some o → b i = true → ∀ e ∈ o.after, Region.binds .any e = true → b e.on = true
/-- What a step has to show. -/
inductive Step (P : Program) (ops : Array Oper) (Q : Exit → Act → World → Prop) (CB : List Nat) (Fs : List RF) (V : Nat → TyC) (b : BB) (f : FF) (w : World) (c : Colr) (a : Act) (i : Nat) (o : Oper) : Prop where
  | run (S : List Nat) (od : Option Nat) (hw : Region.wanted o (yielded ops a.tmps) = true) (hd : o.dst = od) (hS : S.all (CB.contains ·) = true)
      (h : o.wp P a w (fun a' w' => ∃ v c', a' = a.put o.dst v ∧ Ext S w c w' c' ∧ (∀ d, od = some d → (V d).sat v w' c') ∧ All (Fs.filter (aff S i od)) (bup b i) (upF od v f) w' c') Q)
  | skip (od : Option Nat) (hd : o.dst = od) (hw : Region.wanted o (yielded ops a.tmps) = false) (hs : ∀ d, od = some d → (V d).sat undef w c) (h : All (Fs.filter (aff [] i od)) (bup b i) (upF od undef f) w c)

theorem region_typed {id : Nat} {dr : Bool} {w0 : World} {c0 : Colr} (hm : dr = true → P.follows .mixedOrders = true) (CB : List Nat) (Fs : List RF) (V : Nat → TyC)
    (hCB : (CB.contains 0 || CB.contains 1) = false) (hg : GI w0 c0) (hF : All Fs (fun _ => false) (fun _ => none) w0 c0)
    (hord : ∀ (i : Nat) (o : Oper), ops[i]? = some o → ∀ e ∈ o.after, Region.binds .any e = true → e.on < i)
    (hdst : ∀ (i j : Nat) (o o' : Oper) d, ops[i]? = some o → ops[j]? = some o' → o.dst = some d → o'.dst = some d → i = j)
    (hdone : ∀ b f w c, J ops w0 c0 CB Fs V b f w c → (∀ i, i < ops.size → b i = true) → Q .normal ⟨upd T f, ds⟩ w)
    (hstep : ∀ (b : BB) (f : FF) (w : World) (c : Colr) (i : Nat) (o : Oper), J ops w0 c0 CB Fs V b f w c → ops[i]? = some o → b i = false → (∀ e ∈ o.after, Region.binds .any e = true → b e.on = true) →
      Step P ops Q CB Fs V b f w c ⟨upd T f, ds⟩ i o) :
    (Code.region id ops dr).wp P Q ⟨T, ds⟩ w0 := by
  have start : J ops w0 c0 CB Fs V (fun _ => false) (fun _ => none) w0 c0 :=
    ⟨hg, Ext.refl hCB hg, fun d v h => (by cases h), hF, fun i o d _ _ => by simp, fun _ _ => rfl, fun i o _ h => (by cases h)⟩
  have start2 : J ops w0 c0 CB Fs V (fun _ => false) (fun _ => none) w0.drew c0 :=
    ⟨hg.drew, Ext.drew hCB hg, fun d v h => (by cases h), All.stab hg (Ext.drew rfl hg) _ hF, fun i o d _ _ => by simp, fun _ _ => rfl, fun i o _ h => (by cases h)⟩
  refine region_inv2 hm (fun b f w => ∃ c, J ops w0 c0 CB Fs V b f w c) hord ⟨⟨c0, start⟩, ⟨c0, start2⟩⟩ (fun b f w ⟨c, hJ⟩ hb => hdone b f w c hJ hb) ?_
  rintro b f w i o ⟨c, hJ⟩ ho hbi ha
  have hcl : ∀ (j : Nat) (o' : Oper), ops[j]? = some o' → (if j = i then true else b j) = true → ∀ e ∈ o'.after, Region.binds .any e = true → (if e.on = i then true else b e.on) = true := by
    intro j o' ho' hb e he hbe
    split
    · rfl
    · by_cases hj : j = i
      · subst hj
        rw [ho] at ho'
        injection ho' with ho'
        subst ho'
        exact ha e he hbe
      · rw [if_neg hj] at hb
        exact hJ.cl j o' ho' hb e he hbe
  have key : ∀ (S : List Nat) (od : Option Nat) (v : Value) (w' : World) (c' : Colr), o.dst = od → S.all (CB.contains ·) = true → Ext S w c w' c' → (∀ d, od = some d → (V d).sat v w' c') → All (Fs.filter (aff S i od)) (bup b i) (upF od v f) w' c' → J ops w0 c0 CB Fs V (fun k => if k = i then true else b k) (upF o.dst v f) w' c' := by
    intro S od v w' c' hd hS he hv hA
    subst hd
    refine ⟨he.gi, hJ.ext.trans he hS, fun d' v' h' => ?_, All.step hJ.gi he Fs hJ.fac hA, fun j o' d' ho' hd' => ?_, fun d' hd' => ?_, hcl⟩
    · simp only [upF] at h'
      split at h'
      · rename_i e
        injection h' with h'
        subst h'
        exact hv d' e
      · exact (V d').stab (hJ.typ d' v' h') hJ.gi he
    · simp only [upF]
      by_cases hj : j = i
      · subst hj
        rw [ho] at ho'
        injection ho' with ho'
        subst ho'
        simp [hd']
      · have hne : ¬ (o.dst = some d') := fun e => hj (hdst j i o' o d' ho' ho hd' e)
        rw [if_neg hj, if_neg hne]
        exact hJ.set j o' d' ho' hd'
    · have hne : ¬ (o.dst = some d') := fun e => hd' i o ho e
      simp only [upF]
      rw [if_neg hne]
      exact hJ.out d' hd'
  cases hstep b f w c i o hJ ho hbi ha with
  | run S od hw hd hS h =>
    refine .inl ⟨hw, ?_⟩
    refine Oper.wp_mono ?_ h
    rintro a' w' ⟨v, c', rfl, he, hv, hA⟩
    exact ⟨v, rfl, c', key S od v w' c' hd hS he hv hA⟩
  | skip od hd hw hs h =>
    refine .inr ⟨hw, ?_⟩
    exact ⟨c, key [] od undef w c hd rfl (Ext.refl rfl hJ.gi) hs h⟩

theorem region_tz {id : Nat} {dr : Bool} {a : Act} {w0 : World} {c0 : Colr} (hm : dr = true → P.follows .mixedOrders = true) (D : List Nat) (hchk : chk ops D = true) (CB : List Nat) (Fs : List RF) (V : Nat → TyC)
    (hCB : (CB.contains 0 || CB.contains 1) = false) (hg : GI w0 c0) (hF : All Fs (fun _ => false) (fun _ => none) w0 c0)
    (hstep : ∀ (b : BB) (f : FF) (w : World) (c : Colr) (x : Act) (i : Nat) (o : Oper), i < ops.size → J ops w0 c0 CB Fs V b f w c → (∀ d, d ∉ D → f d = none) → Fr a x f → ops[i]? = some o → b i = false → (∀ e ∈ o.after, Region.binds .any e = true → b e.on = true) →
      Step P ops Q CB Fs V b f w c x i o)
    (hdone : ∀ b f w c x, J ops w0 c0 CB Fs V b f w c → (∀ i, i < ops.size → b i = true) → (∀ d, d ∉ D → f d = none) → Fr a x f → Q .normal x w) :
    (Code.region id ops dr).wp P Q a w0 := by
  obtain ⟨T, ds⟩ := a
  have hout : ∀ b f w c, J ops w0 c0 CB Fs V b f w c → ∀ d, d ∉ D → f d = none := fun b f w c hJ d hd => hJ.out d (fun i o ho e => hd (chk_in hchk i o d ho e))
  have hfr : ∀ f, Fr ⟨T, ds⟩ ⟨upd T f, ds⟩ f := fun f => ⟨fun t ht => by rw [upd_eval T f ds t ht]; rfl, by simp [upd], rfl⟩
  refine region_typed hm CB Fs V hCB hg hF (chk_ord hchk) (chk_dst hchk) (fun b f w c hJ hb => hdone b f w c _ hJ hb (hout _ _ _ _ hJ) (hfr f)) ?_
  intro b f w c i o hJ ho hbi ha
  exact hstep b f w c _ i o (Array.getElem?_eq_some_iff.1 ho).1 hJ (hout _ _ _ _ hJ) (hfr f) ho hbi ha

theorem J.none {w0 : World} {c0 : Colr} {CB : List Nat} {Fs : List RF} {V : Nat → TyC} {b : BB} {f : FF} {w : World} {c : Colr} {i d : Nat} {x : Op} {g : Option (Nat × Bool)} {deps : List Nat} (hJ : J ops w0 c0 CB Fs V b f w c) (h : IsO ops i (some d) x g deps) (hb : b i = false) : f d = none := by
  obtain ⟨o, h1, _, h2, _⟩ := h
  cases hf : f d with
  | none => rfl
  | some v =>
    have := (hJ.set i o d h1 h2).2 (by rw [hf]; simp)
    rw [hb] at this
    cases this
/-- An operation that waits for one that has not run has not run. -/
theorem J.not {w0 : World} {c0 : Colr} {CB : List Nat} {Fs : List RF} {V : Nat → TyC} {b : BB} {f : FF} {w : World} {c : Colr} {i j : Nat} {d : Option Nat} {x : Op} {g : Option (Nat × Bool)} {deps : List Nat} (hJ : J ops w0 c0 CB Fs V b f w c) (h : IsO ops i d x g deps) (hj : b j = false) (hd : j ∈ deps) : b i = false := by
  obtain ⟨o, h1, _, h2, _, h5⟩ := h
  cases hb : b i with
  | false => rfl
  | true =>
    obtain ⟨e, he, hbe, rfl⟩ := h5 j hd
    have := hJ.cl i o h1 hb e he hbe
    rw [hj] at this
    cases this
/-- What an operation waits for that has run has run. -/
theorem J.has {w0 : World} {c0 : Colr} {CB : List Nat} {Fs : List RF} {V : Nat → TyC} {b : BB} {f : FF} {w : World} {c : Colr} {i j : Nat} {d : Option Nat} {x : Op} {g : Option (Nat × Bool)} {deps : List Nat} (hJ : J ops w0 c0 CB Fs V b f w c) (h : IsO ops i d x g deps) (hb : b i = true) (hd : j ∈ deps) : b j = true := by
  obtain ⟨o, h1, _, h2, _, h5⟩ := h
  obtain ⟨e, he, hbe, rfl⟩ := h5 j hd
  exact hJ.cl i o h1 hb e he hbe

/-! ### what operations do -/
variable {CB : List Nat} {Fs : List RF} {V : Nat → TyC} {b : BB} {f : FF} {w : World} {c : Colr} {a : Act} {i : Nat} {o : Oper} {v : Value}
theorem Step.pure (d : Nat) (hw : Region.wanted o (yielded ops a.tmps) = true) (hd : o.dst = some d) (hA : All (Fs.filter (aff [] i (some d))) (bup b i) (upF (some d) v f) w c) (hg : GI w c) (h : (execOp a.eval o).run P w = .ok (.value v) w) (hv : (V d).sat v w c) : Step P ops Q CB Fs V b f w c a i o :=
  .run [] (some d) hw hd rfl (wp_val h ⟨v, c, rfl, Ext.refl rfl hg, fun d' e => by injection e with e; subst e; exact hv, hA⟩)
theorem Step.non (d : Nat) (hw : Region.wanted o (yielded ops a.tmps) = false) (hd : o.dst = some d) (hA : All (Fs.filter (aff [] i (some d))) (bup b i) (upF (some d) undef f) w c) (hv : (V d).sat undef w c) : Step P ops Q CB Fs V b f w c a i o :=
  .skip (some d) hd hw (fun d' e => by injection e with e; subst e; exact hv) hA
/-- A call that changes blocks of the colours of S. -/
def CE (P : Program) (f : Nat) (vs : Array Value) (w : World) (c : Colr) (S : List Nat) (R : Value → World → Colr → Prop) : Prop := GI w c → Calls P f vs w fun e w' => ∃ v c', e = .returned v ∧ R v w' c' ∧ Ext S w c w' c'
/-- A call that changes nothing. -/
def CV (P : Program) (f : Nat) (vs : Array Value) (w : World) (c : Colr) (τ : TyC) : Prop := CE P f vs w c [] (fun v w' c' => τ.sat v w' c')
theorem CV.of_new {f : Nat} {vs : Array Value} {τ : TyC} {R : Value → World → Prop} (h : Calls P f vs w fun e w' => ∃ v, e = .returned v ∧ R v w' ∧ New w w') (hR : ∀ v w' c', R v w' → τ.sat v w' c') : CV P f vs w c τ := fun hg =>
  h.mono fun e w' ⟨v, h1, h2, h3⟩ => ⟨v, _, h1, hR v w' _ h2, Ext.of_new h3 hg⟩
theorem wp_callE {K : Act → World → Prop} {fn : Nat} {args : Array Operand} {tys : Array TypeId} {vs : Array Value} {S : List Nat} {R : Value → World → Colr → Prop} (h : o.op = .call { callee := .value (.func fn), args := args, argTypes := tys }) (ha : args.map a.eval = vs) (he : ∀ w, (callFunc fn vs).run P w = .ok (.enter fn vs) w)
    (hc : CE P fn vs w c S R) (hg : GI w c) (hk : ∀ v w' c', R v w' c' → Ext S w c w' c' → K (a.put o.dst v) w') : o.wp P a w K Q := by
  unfold Oper.wp execOp
  rw [h]
  have hev : a.eval (.func fn) = .func (.func fn) #[] #[] := rfl
  simp [resolve, invoke, hev, ha, he, Oper.upon, go_sem]
  refine (hc hg).mono ?_
  rintro e w' ⟨v, c', rfl, h1, h2⟩
  exact hk v w' c' h1 h2
theorem Step.call (d : Nat) {fn : Nat} {args : Array Operand} {tys : Array TypeId} {vs : Array Value} (hw : Region.wanted o (yielded ops a.tmps) = true) (hd : o.dst = some d) (hA : (Fs.filter (aff [] i (some d))) = []) (hg : GI w c) (h : o.op = .call { callee := .value (.func fn), args := args, argTypes := tys }) (ha : args.map a.eval = vs) (he : ∀ w, (callFunc fn vs).run P w = .ok (.enter fn vs) w)
    (hc : CV P fn vs w c (V d)) : Step P ops Q CB Fs V b f w c a i o :=
  .run [] (some d) hw hd rfl (wp_callE h ha he hc hg (fun v w' c' hv hE => ⟨v, c', rfl, hE, fun d' e => by injection e with e; subst e; exact hv, by rw [hA]; trivial⟩))
theorem Step.callE (d : Nat) (S : List Nat) {R : Value → World → Colr → Prop} {fn : Nat} {args : Array Operand} {tys : Array TypeId} {vs : Array Value} (hw : Region.wanted o (yielded ops a.tmps) = true) (hd : o.dst = some d) (hS : S.all (CB.contains ·) = true) (hg : GI w c) (h : o.op = .call { callee := .value (.func fn), args := args, argTypes := tys }) (ha : args.map a.eval = vs) (he : ∀ w, (callFunc fn vs).run P w = .ok (.enter fn vs) w)
    (hc : CE P fn vs w c S R) (hk : ∀ v w' c', R v w' c' → Ext S w c w' c' → (V d).sat v w' c' ∧ All (Fs.filter (aff S i (some d))) (bup b i) (upF (some d) v f) w' c') : Step P ops Q CB Fs V b f w c a i o :=
  .run S (some d) hw hd hS (wp_callE h ha he hc hg (fun v w' c' hv hE => ⟨v, c', rfl, hE, fun d' e => by injection e with e; subst e; exact (hk v w' c' hv hE).1, (hk v w' c' hv hE).2⟩))
theorem bup_at {b : BB} {i : Nat} : bup b i i = true := by simp [bup]
theorem bup_ne {b : BB} {i k : Nat} (h : (k == i) = false) : bup b i k = b k := by simp at h; simp [bup, h]
theorem up_at {d : Nat} {v : Value} {f : FF} : upF (some d) v f d = some v := by simp [upF]
/-- A box is made and filled at once: op box. -/
theorem new_box {p n s : Nat} {t : TypeId} {z cs : Array Value} {τ : TyC} {u : Value} (hcs : u.cells = cs) (hu : τ.sat u w c) (hg : GI w c) (hi : s = i) (hn : ([n].contains 0 || [n].contains 1) = false) (hb : cs.toList.all (fun v => !NB v) = true) :
    (RF.new p n t s z τ).P (bup b i) (upF (some p) (.pointer (some ⟨w.heap.size, 0, none⟩)) f) (w.alloc (.cells cs t)) (setC c w.heap.size n) := by
  subst hi hcs
  intro g hgp
  rw [up_at] at hgp
  obtain rfl : w.heap.size = g := by simpa [adr] using hgp
  refine ⟨fun _ => ⟨by simp [setC], u, τ.stab hu hg (Ext.alloc hg hn hb), Blk.new _ _ _⟩, fun h => ?_⟩
  rw [bup_at] at h; cases h
theorem new_zero {p n s : Nat} {t : TypeId} {z : Array Value} {τ : TyC} (hs : b s = false) (hi : (s == i) = false) :
    (RF.new p n t s z τ).P (bup b i) (upF (some p) (.pointer (some ⟨w.heap.size, 0, none⟩)) f) (w.alloc (.cells z t)) (setC c w.heap.size n) := by
  intro g hgp
  rw [up_at] at hgp
  obtain rfl : w.heap.size = g := by simpa [adr] using hgp
  refine ⟨fun h => ?_, fun h => ⟨by simp [setC], Blk.new _ _ _⟩⟩
  rw [bup_ne hi, hs] at h; cases h
theorem Step.box (p n : Nat) (s : Nat) (z cs : Array Value) (τ : TyC) {ty : TypeId} {x : Operand} {u : Value} (hw : Region.wanted o (yielded ops a.tmps) = true) (hd : o.dst = some p) (hS : [n].all (CB.contains ·) = true) (hF : Fs.filter (aff [n] i (some p)) = [RF.new p n ty s z τ]) (hg : GI w c) (ho : o.op = .box ty x) (hx : a.eval x = u) (hcs : u.cells = cs) (hu : τ.sat u w c) (hi : s = i) (hn : ([n].contains 0 || [n].contains 1) = false) (hb : cs.toList.all (fun v => !NB v) = true) (hV : V p = TyC.ptr) :
    Step P ops Q CB Fs V b f w c a i o := by
  refine .run [n] (some p) hw hd hS (wp_val (ex_box ho hx) ⟨_, setC c w.heap.size n, rfl, ?_, fun d e => ?_, ?_⟩)
  · rw [hcs]; exact Ext.alloc hg hn hb
  · injection e with e; subst e; rw [hV]; exact ⟨_, rfl⟩
  · rw [hF, hcs]; exact ⟨new_box hcs hu hg hi hn hb, trivial⟩
theorem Step.alloc (p n : Nat) (s : Nat) (z : Array Value) (τ : TyC) {ty : TypeId} {u : Value} (hw : Region.wanted o (yielded ops a.tmps) = true) (hd : o.dst = some p) (hS : [n].all (CB.contains ·) = true) (hF : Fs.filter (aff [n] i (some p)) = [RF.new p n ty s z τ]) (hg : GI w c) (ho : o.op = .alloc ty) (hz : (zeroValue ty).run P w = .ok u w) (hcs : u.cells = z) (hsb : b s = false) (hi : (s == i) = false) (hn : ([n].contains 0 || [n].contains 1) = false) (hb : z.toList.all (fun v => !NB v) = true) (hV : V p = TyC.ptr) :
    Step P ops Q CB Fs V b f w c a i o := by
  refine .run [n] (some p) hw hd hS (wp_val (ex_alloc ho hz) ⟨_, setC c w.heap.size n, rfl, ?_, fun d e => ?_, ?_⟩)
  · rw [hcs]; exact Ext.alloc hg hn hb
  · injection e with e; subst e; rw [hV]; exact ⟨_, rfl⟩
  · rw [hF, hcs]; exact ⟨new_zero hsb hi, trivial⟩
/-- A whole value is stored into a block of colour n. -/
theorem store_col {ty t : TypeId} {g n m : Nat} {old cs : Array Value} (hA : Agg P ty m) (hb : Blk w g t old) (ho : old.size = m) (hc : cs.size = m) (h1 : cs.all (·.oneCell') = true) (hg : GI w c) (hn : c g = n) (hS : ([n].contains 0 || [n].contains 1) = false) (hNB : cs.toList.all (fun v => !NB v) = true) :
    ∃ w', (storeVar ty ⟨g, 0, none⟩ (.agg cs)).run P w = .ok () w' ∧ Ext [n] w c w' c ∧ Blk w' g t cs := by
  obtain ⟨d, hu, hd, hi⟩ := hA
  have hr := run_storeVar_row (P := P) w g t ty old cs hb (by rw [hi, hc]) (by rw [ho, hc]) h1
  have hb' : Blk (w.setRow g cs) g t cs := setRow_heap w g old cs t (0, 0) hb
  exact ⟨_, hr, Ext.store hg ⟨rfl, rfl, rfl, by simp [World.setRow], fun k hk hne => setRow_other w g k cs hne⟩ (by simp [World.setRow]) hn hS hb' hNB, hb'⟩
theorem store_tyc {ty t : TypeId} {g n m : Nat} {old : Array Value} {τ : TyC} (hA : Agg P ty m) (hs : τ.str m) (hb : Blk w g t old) (ho : old.size = m) (hv : τ.sat v w c) (hg : GI w c) (hn : c g = n) (hS : ([n].contains 0 || [n].contains 1) = false) :
    ∃ w', (storeVar ty ⟨g, 0, none⟩ v).run P w = .ok () w' ∧ Ext [n] w c w' c ∧ BoxC w' c g t n τ := by
  obtain ⟨cs, rfl, h1, h2, h3⟩ := hs v w c hv
  obtain ⟨w', q1, q2, q3⟩ := store_col (P := P) (t := t) hA hb ho h1 h2 hg hn hS h3
  exact ⟨w', q1, q2, hn, _, τ.stab hv hg q2, q3⟩
theorem BoxC.old {g n m : Nat} {t : TypeId} {τ : TyC} (h : BoxC w c g t n τ) (hs : τ.str m) : ∃ old, Blk w g t old ∧ old.size = m ∧ c g = n := by
  obtain ⟨h1, u, h2, h3⟩ := h
  obtain ⟨cs, rfl, h4, _⟩ := hs u w c h2
  exact ⟨_, h3, h4, h1⟩
theorem BoxC.load {g n m : Nat} {t ty : TypeId} {τ : TyC} (h : BoxC w c g t n τ) (hA : Agg P ty m) (hs : τ.str m) : ∃ u, (loadVar ty ⟨g, 0, none⟩).run P w = .ok u w ∧ τ.sat u w c := by
  obtain ⟨h1, u, h2, h3⟩ := h
  obtain ⟨cs, rfl, h4, _⟩ := hs u w c h2
  subst h4
  exact ⟨_, Agg.load hA h3, h2⟩
theorem Step.store (n : Nat) (S : List Nat) {ty : TypeId} {x y : Operand} {ad : Addr} (hS : S = [n]) (hw : Region.wanted o (yielded ops a.tmps) = true) (hd : o.dst = none) (hCB : [n].all (CB.contains ·) = true) (ho : o.op = .store ty x y) (hx : a.eval x = .pointer (some ad)) (hy : a.eval y = v)
    (h : ∃ w', (storeVar ty ad v).run P w = .ok () w' ∧ Ext [n] w c w' c ∧ All (Fs.filter (aff [n] i none)) (bup b i) f w' c) : Step P ops Q CB Fs V b f w c a i o := by
  obtain ⟨w', h1, h2, h3⟩ := h
  have hu : upF none undef f = f := by funext d; simp [upF]
  refine .run [n] none hw hd hCB (wp_skp (ex_store ho hx hy h1) ⟨undef, c, by rw [hd], h2, fun d e => (by cases e), ?_⟩)
  rw [hu]
  exact h3
end
theorem RF.new_none {p n s : Nat} {t : TypeId} {z : Array Value} {τ : TyC} {b : BB} {w : World} {c : Colr} : (RF.new p n t s z τ).P b (fun _ => none) w c := fun g hg => by cases hg
theorem RF.own_none {p : Nat} {τ : TyO} {b : BB} {w : World} {c : Colr} : (RF.own p τ).P b (fun _ => none) w c := fun g hg => by cases hg
end Go.Col
namespace Go.Col
open Go.RowKit Go.Mem
theorem All.at {b : BB} {f : FF} {w : World} {c : Colr} : ∀ {Fs : List RF}, All Fs b f w c → ∀ (k : Nat) {F : RF}, Fs[k]? = some F → F.P b f w c
  | F :: Fs, h, 0, F', hk => by
    simp at hk; subst hk; exact h.1
  | F :: Fs, h, k + 1, F', hk => All.at (Fs := Fs) h.2 k (by simpa using hk)
  | [], _, k, F', hk => by simp at hk
/-- The types of slots, from a list. -/
def tyvC (L : List (Nat × TyC)) (d : Nat) : TyC := (L.lookup d).getD TyC.any
section
variable {P : Program} {ops : Array Oper} {Q : Exit → Act → World → Prop} {CB : List Nat} {Fs : List RF} {V : Nat → TyC} {b : BB} {f : FF} {w : World} {c : Colr} {a : Act} {i : Nat} {o : Oper} {v : Value}
theorem Step.allocz (p n : Nat) (s : Nat) (z : Array Value) (τ : TyC) {ty : TypeId} {u : Value} {cs : Array Value} (hw : Region.wanted o (yielded ops a.tmps) = true) (hd : o.dst = some p) (hS : [n].all (CB.contains ·) = true) (hF : Fs.filter (aff [n] i (some p)) = [RF.new p n ty s z τ]) (hg : GI w c) (ho : o.op = .alloc ty) (hz : (zeroValue ty).run P w = .ok u w) (hcs : u.cells = cs) (hu : τ.sat u w c) (hi : s = i) (hn : ([n].contains 0 || [n].contains 1) = false) (hb : cs.toList.all (fun v => !NB v) = true) (hV : V p = TyC.ptr) :
    Step P ops Q CB Fs V b f w c a i o := by
  refine .run [n] (some p) hw hd hS (wp_val (ex_alloc ho hz) ⟨_, setC c w.heap.size n, rfl, ?_, fun d e => ?_, ?_⟩)
  · rw [hcs]; exact Ext.alloc hg hn hb
  · injection e with e; subst e; rw [hV]; exact ⟨_, rfl⟩
  · rw [hF, hcs]; exact ⟨new_box hcs hu hg hi hn hb, trivial⟩
/-- A contract of a function that is handed plain values: what it returns, and only new memory. -/
def CT0 (P : Program) (f : Nat) (vs : Array Value) (w : World) (τ : TyC) : Prop := Calls P f vs w fun e w' => ∃ v, e = .returned v ∧ τ.sat v w' (fun _ => 0) ∧ New w w'
/-- What a value is does not ask for colours. -/
def TyC.plain (τ : TyC) : Prop := ∀ v w c c', τ.sat v w c → τ.sat v w c'
theorem CT0.cv {fn : Nat} {vs : Array Value} {τ : TyC} (h : CT0 P fn vs w τ) (hp : τ.plain) : CV P fn vs w c τ := CV.of_new (R := fun v w' => τ.sat v w' (fun _ => 0)) h (fun v w' c' hv => hp v w' _ c' hv)
theorem CT0.of_CT {fn : Nat} {vs : Array Value} {τ : Ty} {σ : TyC} (h : CT P fn vs w τ) (hs : ∀ v w', τ.sat v w' → σ.sat v w' (fun _ => 0)) : CT0 P fn vs w σ := h.mono fun e w' ⟨v, h1, h2, h3⟩ => ⟨v, h1, hs v w' h2, h3⟩
theorem plain_tup1 {τ : TyC} {u : Value} (h : τ.plain) : (τ.tup1 u).plain := fun v w c c' ⟨x, h1, h2⟩ => ⟨x, h1, h x w c c' h2⟩
theorem plain_eq (u : Value) : (TyC.eq u).plain := fun v w c c' h => h
variable {fn : Func} {p q r : Tmp}
theorem res_t (h : fn.results = #[.tmp p]) (tmps : Array Value) {v : Value} (hp : tmps.getD p undef = v) : (results fn tmps).run P w = .ok v w := by
  have hp' : tmps[p]?.getD undef = v := by simpa using hp
  simp [results, h, hp']
theorem res_cc {g g2 : Nat} {ty ty2 : TypeId} (h : fn.results = #[.cell p ty, .cell q ty2]) (tmps : Array Value) {v v2 : Value} (hp : tmps.getD p undef = .pointer (some ⟨g, 0, none⟩)) (hl : (loadVar ty ⟨g, 0, none⟩).run P w = .ok v w)
    (hq : tmps.getD q undef = .pointer (some ⟨g2, 0, none⟩)) (hl2 : (loadVar ty2 ⟨g2, 0, none⟩).run P w = .ok v2 w) : (results fn tmps).run P w = .ok (.tuple #[v, v2]) w := by
  have hp' : tmps[p]?.getD undef = .pointer (some ⟨g, 0, none⟩) := by simpa using hp
  have hq' : tmps[q]?.getD undef = .pointer (some ⟨g2, 0, none⟩) := by simpa using hq
  simp [results, h, hp', hq', asAddr, hl, hl2]
end
/-- The first part ends in an assertion. -/
theorem wp_join {P : Program} {x y : Code} {Q : Exit → Act → World → Prop} {a : Act} {w : World} (M : Act → World → Prop) (h1 : x.wp P (Exit.then M Q) a w) (h2 : ∀ a w, M a w → y.wp P Q a w) : (Code.seq x y).wp P Q a w := by
  refine wp_seq (wp_mono h1 (fun e a' w' h => ?_))
  cases e with
  | normal => exact h2 a' w' h
  | _ => exact h
theorem run_rem_i {P : Program} {w : World} (x y : Int) (t : TypeId) (h : y ≠ 0) : (binOp .rem t (.int .i64 x) (.int .i64 y)).run P w = .ok (.int .i64 (x.tmod y)) w := by
  simp [binOp, Op.intDiv, h, go_sem]
theorem run_quo_i {P : Program} {w : World} (x y : Int) (t : TypeId) (h : y ≠ 0 ∧ y ≠ -1) (hx : -9223372036854775808 ≤ x ∧ x ≤ 9223372036854775807) : (binOp .quo t (.int .i64 x) (.int .i64 y)).run P w = .ok (.int .i64 (x.tdiv y)) w := by
  have hr : IntKind.i64.wrap (x.tdiv y) = x.tdiv y := by
    refine IntWalk.i64_in _ ?_
    have h1 := Int.natAbs_tdiv_le_natAbs x y
    by_cases hm : x = -9223372036854775808
    · subst hm
      by_cases hy1 : y = 1
      · subst hy1; decide
      · have h2 : ((-9223372036854775808 : Int).tdiv y).natAbs ≤ 4611686018427387904 := by
          rw [Int.natAbs_tdiv]
          have h3 : 2 ≤ y.natAbs := by omega
          exact Nat.div_le_of_le_mul (by omega)
        omega
    · omega
  simp [binOp, Op.intDiv, h.1, hr, go_sem]
end Go.Col

namespace Go.Col
set_option linter.unusedVariables false
open Go.RowKit Go.Mem

/-- A pointer to cells that are, in a row, a struct of a type; they lie in a plain block. -/
def refC (sz : Nat) (τ : TyC) : TyC := ⟨fun v w c => ∃ (ad : Addr) (cs : Array Value), v = .pointer (some ad) ∧ (0 < sz → c ad.block = 0) ∧ cs.size = sz ∧ τ.sat (.agg cs) w c ∧ ∀ j u, cs[j]? = some u → w.cell? (ad.add j) = some u,
  fun ⟨ad, cs, h1, h2, h3, h4, h5⟩ g e => ⟨ad, cs, h1, fun hs => by
      have hj := h5 0 cs[0] (Array.getElem?_eq_getElem (by omega))
      have hlt := World.block_lt_of_cell? _ _ hj
      rw [block_add] at hlt
      rw [e.col _ hlt]; exact h2 hs, h3, τ.stab h4 g e, fun j u hu => by
    have hsz : 0 < sz := by
      have := (Array.getElem?_eq_some_iff.1 hu).1
      omega
    have hc := h5 j u hu
    refine e.chg.cell hc ?_
    rw [block_add, h2 hsz, e.z]
    simp⟩⟩
/-- A slice of structs. -/
def seqC (sz : Nat) (L : List TyC) : TyC := ⟨fun v w c => ∃ A cp, v = .slice A L.length cp ∧ L.length ≤ cp ∧ ∀ k τ, L[k]? = some τ → ∃ ad, A = some ad ∧ (refC sz τ).sat (.pointer (some (ad.add (k * sz)))) w c,
  fun ⟨A, cp, h1, h2, h3⟩ g e => ⟨A, cp, h1, h2, fun k τ hk => by
    obtain ⟨ad, q1, q2⟩ := h3 k τ hk
    exact ⟨ad, q1, (refC sz τ).stab q2 g e⟩⟩⟩
/-- Cells that are structs in a row. -/
def catK (sz : Nat) (L : List TyC) : CTyC := ⟨fun cs w c => ∀ k τ, L[k]? = some τ → ∃ u : Array Value, u.size = sz ∧ τ.sat (.agg u) w c ∧ ∀ j x, u[j]? = some x → cs[k * sz + j]? = some x,
  fun h g e k τ hk => by
    obtain ⟨u, h1, h2, h3⟩ := h k τ hk
    exact ⟨u, h1, τ.stab h2 g e, h3⟩⟩
section
variable {P : Program} {w : World} {c : Colr} {v : Value} {sz : Nat} {L : List TyC} {τ : TyC} {g : Nat} {t e : TypeId}
theorem seq_of_row (h : (Fact.row g t (catK sz L)).P w c) {n : Nat} (hn : n = L.length) : (seqC sz L).sat (.slice (some ⟨g, 0, none⟩) n n) w c := by
  obtain ⟨h1, cs, h2, h3⟩ := h
  subst hn
  refine ⟨_, _, rfl, Nat.le_refl _, fun k τ hk => ⟨_, rfl, ?_⟩⟩
  obtain ⟨u, q1, q2, q3⟩ := h2 k τ hk
  refine ⟨_, u, rfl, fun _ => ?_, q1, q2, fun j x hx => ?_⟩
  · rw [block_add]; exact h1
  · rw [add_add', Addr.add_lit, Nat.zero_add]
    exact h3.cell _ (q3 j x hx)
theorem seq_index {k : Nat} {kd : IntKind} (ht : P.underlying t = some (.slice e)) (hz : (P.info? e).map (·.size) = some sz) (h : (seqC sz L).sat v w c) (hk : L[k]? = some τ) : ∃ ad, (Instr.indexAt t v (.int kd (k : Nat))).run P w = .ok ad w ∧ (refC sz τ).sat ad w c := by
  obtain ⟨A, cp, rfl, h2, h3⟩ := h
  obtain ⟨ad, rfl, q⟩ := h3 k τ hk
  refine ⟨_, ?_, q⟩
  have hi : k < L.length := (List.getElem?_eq_some_iff.1 hk).1
  have : (k : Int) < (L.length : Int) := by omega
  cases hq : P.info? e with
  | none => rw [hq] at hz; cases hz
  | some d =>
    rw [hq] at hz
    injection hz with hz
    simp [Instr.indexAt, asIntOf, run_underlying ht, this, hi, sizeOf, typeInfo, hq, hz, Result.andThen, go_sem]
theorem ref_load {ty : TypeId} (hA : Agg P ty sz) (h : (refC sz τ).sat v w c) : ∃ ad u, v = .pointer (some ad) ∧ (loadVar ty ad).run P w = .ok u w ∧ τ.sat u w c := by
  obtain ⟨ad, cs, rfl, h2, h3, h4, h5⟩ := h
  refine ⟨ad, _, rfl, load_cells (n := sz) hA cs.toList (by simpa using h3) (fun j u hu => h5 j u (by simpa using hu)), h4⟩
end
theorem rd_index {P : Program} {w : World} {A : Option Addr} {n cp k : Nat} {xs : List Value} {t e : TypeId} {kd : IntKind} (ht : P.underlying t = some (.slice e)) (hz : (P.info? e).map (·.size) = some 1) (h : Rd w A n xs) (hk : k < n) : ∃ ad, A = some ad ∧ (Instr.indexAt t (.slice A n cp) (.int kd (k : Nat))).run P w = .ok (.pointer (some (ad.add k))) w := by
  obtain ⟨ad, u, rfl, hu, hc⟩ := h.at_ hk
  refine ⟨ad, rfl, ?_⟩
  have : (k : Int) < (n : Int) := by omega
  cases hq : P.info? e with
  | none => rw [hq] at hz; cases hz
  | some d =>
    rw [hq] at hz
    injection hz with hz
    simp [Instr.indexAt, asIntOf, run_underlying ht, this, hk, sizeOf, typeInfo, hq, hz, Result.andThen, go_sem]
/-- A literal: a row of its own of just that many structs. -/
def litC (sz : Nat) (t : TypeId) (L : List TyC) : TyC := ⟨fun v w c => ∃ g cs, v = .slice (some ⟨g, 0, none⟩) L.length L.length ∧ c g = 0 ∧ Blk w g t cs ∧ cs.size = L.length * sz ∧ (catK sz L).sat cs w c,
  fun ⟨g, cs, h1, h2, h3, h4, h5⟩ gi e => by
    obtain ⟨q1, q2⟩ := blk_ext h3 h2 e e.z
    exact ⟨g, cs, h1, q2, q1, h4, (catK sz L).stab h5 gi e⟩⟩
section
variable {P : Program} {ops : Array Oper} {Q : Exit → Act → World → Prop} {CB : List Nat} {Fs : List RF} {V : Nat → TyC} {b : BB} {f : FF} {w : World} {c : Colr} {a : Act} {i : Nat} {o : Oper} {v v' : Value} {sz : Nat} {L : List TyC} {t e : TypeId} {τ : TyC}
theorem lit_seq (h : (litC sz t L).sat v w c) : (seqC sz L).sat v w c := by
  obtain ⟨g, cs, rfl, h2, h3, h4, h5⟩ := h
  exact seq_of_row (t := t) ⟨h2, cs, h5, h3⟩ rfl
theorem map_getD {α : Type} {d : α} {f : α → TyC} {xs : List α} {k : Nat} (h : k < xs.length) : (xs.map f)[k]? = some (f (xs.getD k d)) := by
  simp [List.getElem?_map, List.getElem?_eq_getElem h, List.getD]
/-- A literal is laid. -/
theorem Step.litv (p : Nat) {n : Nat} {ty : TypeId} {ps : Array (Nat × Operand)} {vs : Array (Nat × Value)} {cs : Array Value} (hw : Region.wanted o (yielded ops a.tmps) = true) (hd : o.dst = some p) (hF : Fs.filter (aff [] i (some p)) = []) (hg : GI w c) (ho : o.op = .buildSlice ty n ps) (hp : ps.map (fun x => (x.1, a.eval x.2)) = vs)
    (hr : (Instr.buildSlice ty n vs).run P w = .ok (.slice (some ⟨w.heap.size, 0, none⟩) n n) (w.alloc (.cells cs t))) (hn : L.length = n) (hcs : cs.size = L.length * sz) (hk : (catK sz L).sat cs w c) (hV : V p = litC sz t L) : Step P ops Q CB Fs V b f w c a i o := by
  subst hn
  refine .run [] (some p) hw hd rfl (wp_val (ex_lit ho hp hr) ⟨_, _, rfl, Ext.allocP hg, fun d e => ?_, by rw [hF]; trivial⟩)
  injection e with e; subst e; rw [hV]
  exact ⟨_, cs, rfl, by simp [ext0], Blk.new _ _ _, hcs, (catK sz L).stab hk hg (Ext.allocP hg)⟩
end
end Go.Col

namespace Go.Mem
set_option linter.unusedVariables false
open Go.RowKit
section
variable {P : Program} {o : Oper} {a : Act} {w w' : World} {v : Value}
end
end Go.Mem
namespace Go.Col
set_option linter.unusedVariables false
open Go.RowKit Go.Mem

/-- What a frame holds. -/
def Ev (n : Nat) (a : Act) (m : Nat → Option Value) : Prop := a.tmps.size = n ∧ a.defers = [] ∧ ∀ t v, m t = some v → t < n ∧ a.eval (.tmp t) = v
theorem Ev.at {n : Nat} {a : Act} {m : Nat → Option Value} (h : Ev n a m) (t : Nat) {v : Value} (ht : m t = some v) : a.eval (.tmp t) = v := (h.2.2 t v ht).2
def dep (dt : List (List Nat)) (i j : Nat) : Bool := (dt.getD i []).contains j
def chkT (l : List Oper) (dt : List (List Nat)) : Bool := (List.range l.length).all fun i => match nthL l i with
  | none => true
  | some o => (dt.getD i []).all fun j => o.after.any fun e => Region.binds .any e && e.on == j
def dstOf (l : List Oper) (j : Nat) : Option Nat := match nthL l j with | some o => o.dst | none => none
def chkE (l : List Oper) (D : List Nat) : Bool := D.all fun d => l.any fun o => o.dst == some d
/-- What a step knows. -/
structure Kx (dt : List (List Nat)) (w0 : World) (c0 : Colr) (CB : List Nat) (Fs : List RF) (i : Nat) (b : BB) (f : FF) (w : World) (c : Colr) : Prop where
  gi : GI w c
  ext : Ext CB w0 c0 w c
  fac : All Fs b f w c
  self : b i = false
  has : ∀ j k, b j = true → dep dt j k = true → b k = true
  done : ∀ j, dep dt i j = true → b j = true
section
variable {P : Program} {l : List Oper} {dt : List (List Nat)} {Q : Exit → Act → World → Prop} {n : Nat} {a : Act} {m : Nat → Option Value} {D CB : List Nat} {Fs : List RF} {V : Nat → TyC} {w0 : World} {c0 : Colr}
theorem Kx.nyet {i : Nat} {b : BB} {f : FF} {w : World} {c : Colr} (K : Kx dt w0 c0 CB Fs i b f w c) (j : Nat) (h : dep dt j i = true) : b j = false := by
  cases hb : b j with
  | false => rfl
  | true =>
    have := K.has j i hb h
    rw [K.self] at this
    cases this
def OpStep (P : Program) (l : List Oper) (dt : List (List Nat)) (Q : Exit → Act → World → Prop) (n : Nat) (a : Act) (m : Nat → Option Value) (D CB : List Nat) (Fs : List RF) (V : Nat → TyC) (w0 : World) (c0 : Colr) (i : Nat) : Prop :=
  ∀ (b : BB) (f : FF) (w : World) (c : Colr) (x : Act) (o : Oper), J l.toArray w0 c0 CB Fs V b f w c → (∀ d, D.contains d = false → f d = none) → Fr a x f → Ev n a m → nthL l i = some o → Kx dt w0 c0 CB Fs i b f w c → Step P l.toArray Q CB Fs V b f w c x i o
def AllS (S : Nat → Prop) : Nat → Nat → Prop
  | _, 0 => True
  | k, r + 1 => S k ∧ AllS S (k + 1) r
theorem AllS.at {S : Nat → Prop} : ∀ {r k : Nat}, AllS S k r → ∀ i, k ≤ i → i < k + r → S i
  | 0, k, _, i, h1, h2 => by omega
  | r + 1, k, h, i, h1, h2 => by
    by_cases hi : i = k
    · subst hi; exact h.1
    · exact AllS.at h.2 i (by omega) (by omega)
theorem chkT_at (h : chkT l dt = true) {i j : Nat} {o : Oper} (ho : nthL l i = some o) (hd : dep dt i j = true) : ∃ e ∈ o.after, Region.binds .any e = true ∧ e.on = j := by
  have hi : i < l.length := by rw [nthL_eq] at ho; exact (List.getElem?_eq_some_iff.1 ho).1
  have h1 := List.all_eq_true.1 h i (by simpa using hi)
  rw [ho] at h1
  have h2 := List.all_eq_true.1 h1 j (by simpa [dep] using hd)
  obtain ⟨k, hk, h3⟩ := Array.any_eq_true.1 h2
  rw [Bool.and_eq_true] at h3
  exact ⟨o.after[k], Array.getElem_mem hk, h3.1, by simpa using h3.2⟩
/-- A region, by terms. -/
theorem region_st {id : Nat} {dr : Bool} (dt : List (List Nat)) (D CB : List Nat) (V : Nat → TyC) (hE : Ev n a m) (hg : GI w0 c0)
    (hF : All Fs (fun _ => false) (fun _ => none) w0 c0) (hS : ∀ Q, AllS (OpStep P l dt Q n a m D CB Fs V w0 c0) 0 l.length)
    (hdone : ∀ (b : BB) (f : FF) (w : World) (c : Colr) (x : Act), GI w c → Ext CB w0 c0 w c → All Fs b f w c → (∀ i, i < l.length → b i = true) → (∀ d, D.contains d = true → ∃ v, f d = some v ∧ (V d).sat v w c) → (∀ d, D.contains d = false → f d = none) → Fr a x f → Q .normal x w) (hm : dr = true → P.follows .mixedOrders = true := by intro _; kernel_rfl) (hchk : chk l.toArray D = true := by kernel_rfl) (hT : chkT l dt = true := by kernel_rfl) (hD : chkE l D = true := by kernel_rfl) (hL : decide (dt.length ≤ l.length) = true := by rfl) (hCB : (CB.contains 0 || CB.contains 1) = false := by rfl) :
    (Code.region id l.toArray dr).wp P Q a w0 := by
  refine region_tz hm D hchk CB Fs V hCB hg hF ?_ ?_
  · intro b f w c x i o hi hJ hout hF' ho hbi ha
    have ho' : nthL l i = some o := by rw [nthL_eq]; simpa using ho
    have hi' : i < l.length := by simpa using hi
    refine AllS.at (hS Q) i (by omega) (by omega) b f w c x o hJ (fun d hd => hout d (by simpa using hd)) hF' hE ho' ⟨hJ.gi, hJ.ext, hJ.fac, hbi, fun j k hj hd => ?_, fun j hd => ?_⟩
    · cases hoj : nthL l j with
      | none =>
        exfalso
        have hlen : j < l.length := by
          refine Decidable.byContradiction fun hn => ?_
          have h0 : dt.length ≤ l.length := by simpa using hL
          unfold dep at hd
          rw [List.getD_eq_getElem?_getD, List.getElem?_eq_none (by omega)] at hd
          simp at hd
        rw [nthL_eq, List.getElem?_eq_getElem hlen] at hoj
        cases hoj
      | some oj =>
        obtain ⟨e, he, hb, rfl⟩ := chkT_at hT hoj hd
        rw [nthL_eq] at hoj
        exact hJ.cl j oj (by simpa using hoj) hj e he hb
    · obtain ⟨e, he, hb, rfl⟩ := chkT_at hT ho' hd
      exact ha e he hb
  · intro b f w c x hJ hb hout hF'
    refine hdone b f w c x hJ.gi hJ.ext hJ.fac (fun i hi => hb i (by simpa using hi)) (fun d hd => ?_) (fun d hd => hout d (by simpa using hd)) hF'
    have h1 := List.all_eq_true.1 hD d (by simpa using hd)
    obtain ⟨o, ho, h2⟩ := List.any_eq_true.1 h1
    obtain ⟨i, hi, rfl⟩ := List.getElem_of_mem ho
    have h3 : l[i].dst = some d := by simpa using h2
    have h4 := (hJ.set i l[i] d (by simp [hi]) h3).1 (hb i (by simpa using hi))
    cases hf : f d with
    | none => exact absurd hf h4
    | some v => exact ⟨v, rfl, hJ.typ d v hf⟩

/-! ### operands -/
inductive Ar where
  | s (t j : Nat)
  | o (t : Nat) (v : Value)
  | p (t : Nat) (v : Value) (j : Nat)
  | k (v : Value)
def Ar.opd : Ar → Operand
  | .s t _ => .tmp t
  | .o t _ => .tmp t
  | .p t _ _ => .tmp t
  | .k v => .const v
def Ar.W : Ar → Value → Value
  | .s _ _, v => v
  | .o _ u, _ => u
  | .p _ u _, _ => u
  | .k u, _ => u
def Ar.T (V : Nat → TyC) (w : World) (c : Colr) : Ar → Value → Prop
  | .s t _, v => (V t).sat v w c
  | .o _ _, _ => True
  | .p _ _ _, _ => True
  | .k _, _ => True
def Ar.ok (n : Nat) (l : List Oper) (dt : List (List Nat)) (m : Nat → Option Value) (D : List Nat) (i : Nat) : Ar → Prop
  | .s t j => dep dt i j = true ∧ decide (t < n) = true ∧ dstOf l j = some t
  | .o t v => m t = some v ∧ D.contains t = false
  | .p t v j => m t = some v ∧ dep dt j i = true ∧ dstOf l j = some t
  | .k _ => True
/-- An operand with the check that it is at hand. -/
structure XA (n : Nat) (l : List Oper) (dt : List (List Nat)) (m : Nat → Option Value) (D : List Nat) (i : Nat) where
  r : Ar
  ok : r.ok n l dt m D i
abbrev rS {n : Nat} {l : List Oper} {dt : List (List Nat)} {m : Nat → Option Value} {D : List Nat} {i : Nat} (t j : Nat) (h : dep dt i j = true ∧ decide (t < n) = true ∧ dstOf l j = some t := by exact ⟨rfl, rfl, rfl⟩) : XA n l dt m D i := ⟨.s t j, h⟩
abbrev rO {n : Nat} {l : List Oper} {dt : List (List Nat)} {m : Nat → Option Value} {D : List Nat} {i : Nat} (t : Nat) {v : Value} (h : m t = some v ∧ D.contains t = false := by exact ⟨rfl, rfl⟩) : XA n l dt m D i := ⟨.o t v, h⟩
abbrev rP {n : Nat} {l : List Oper} {dt : List (List Nat)} {m : Nat → Option Value} {D : List Nat} {i : Nat} (t j : Nat) {v : Value} (h : m t = some v ∧ dep dt j i = true ∧ dstOf l j = some t := by exact ⟨rfl, rfl, rfl⟩) : XA n l dt m D i := ⟨.p t v j, h⟩
abbrev rK {n : Nat} {l : List Oper} {dt : List (List Nat)} {m : Nat → Option Value} {D : List Nat} {i : Nat} (v : Value) : XA n l dt m D i := ⟨.k v, trivial⟩
variable {i : Nat}
theorem XA.ev (r : XA n l dt m D i) {b : BB} {f : FF} {w : World} {c : Colr} {x : Act} (hJ : J l.toArray w0 c0 CB Fs V b f w c) (hout : ∀ d, D.contains d = false → f d = none) (hF : Fr a x f) (hE : Ev n a m) (K : Kx dt w0 c0 CB Fs i b f w c) : ∃ v, x.eval r.r.opd = r.r.W v ∧ r.r.T V w c v := by
  obtain ⟨r, hr⟩ := r
  cases r with
  | s t j =>
    obtain ⟨h1, h2⟩ := hr
    have h2' := h2.2
    unfold dstOf at h2'
    split at h2'
    · rename_i oj hoj
      rw [nthL_eq] at hoj
      have h3 := (hJ.set j oj t (by simpa using hoj) h2').1 (K.done j h1)
      cases hf : f t with
      | none => exact absurd hf h3
      | some v =>
        have h4 := hJ.typ t v hf
        exact ⟨v, hF.in (by rw [hE.1]; exact of_decide_eq_true h2.1) hf, h4⟩
    · cases h2'
  | o t v =>
    obtain ⟨h1, h2⟩ := hr
    obtain ⟨h3, h4⟩ := hE.2.2 t v h1
    exact ⟨v, hF.out (by rw [hE.1]; exact h3) (hout t h2) h4, trivial⟩
  | p t v j =>
    obtain ⟨h1, h2, h5⟩ := hr
    obtain ⟨h3, h4⟩ := hE.2.2 t v h1
    refine ⟨v, hF.out (by rw [hE.1]; exact h3) ?_ h4, trivial⟩
    unfold dstOf at h5
    split at h5
    · rename_i oj hoj
      rw [nthL_eq] at hoj
      cases hf : f t with
      | none => rfl
      | some u =>
        have := (hJ.set j oj t (by simpa using hoj) h5).2 (by rw [hf]; simp)
        rw [K.nyet j h2] at this
        cases this
    · cases h5
  | k v => exact ⟨v, rfl, trivial⟩

/-- The guard, if there is one, lets the operation run. -/
def Gd (l : List Oper) (n : Nat) (dt : List (List Nat)) (V : Nat → TyC) (i : Nat) (g : Option (Nat × Bool)) : Prop := match g with
  | none => True
  | some (j, q) => dep dt i j = true ∧ ∃ d, (decide (d < n) = true ∧ dstOf l j = some d) ∧ V d = TyC.eq (.bool q)
def Gn (l : List Oper) (n : Nat) (dt : List (List Nat)) (V : Nat → TyC) (i : Nat) (g : Option (Nat × Bool)) : Prop := match g with
  | none => False
  | some (j, q) => dep dt i j = true ∧ ∃ d, (decide (d < n) = true ∧ dstOf l j = some d) ∧ (V d = TyC.eq (.bool !q) ∨ V d = TyC.eq undef)
section
variable {b : BB} {f : FF} {w : World} {c : Colr} {x : Act} {o : Oper}
theorem guard_slot {j d : Nat} (hJ : J l.toArray w0 c0 CB Fs V b f w c) (hF : Fr a x f) (hE : Ev n a m) (hj : b j = true) (hd : decide (d < n) = true ∧ dstOf l j = some d) : ∃ oj v, l.toArray[j]? = some oj ∧ oj.dst = some d ∧ x.tmps[d]? = some v ∧ (V d).sat v w c := by
  have h2 := hd.2
  unfold dstOf at h2
  split at h2
  · rename_i oj hoj
    rw [nthL_eq] at hoj
    have h3 := (hJ.set j oj d (by simpa using hoj) h2).1 hj
    cases hf : f d with
    | none => exact absurd hf h3
    | some v =>
      have hlt : d < a.tmps.size := by rw [hE.1]; exact of_decide_eq_true hd.1
      have he : x.eval (.tmp d) = v := hF.in hlt hf
      refine ⟨oj, v, by simpa using hoj, h2, ?_, hJ.typ d v hf⟩
      have hlx : d < x.tmps.size := by rw [hF.size]; exact hlt
      have : x.tmps.getD d undef = v := he
      simp only [Array.getD, hlx, dif_pos] at this
      rw [Array.getElem?_eq_getElem hlx]
      exact congrArg some this
  · cases h2
theorem Gd.wanted (hg : Gd l n dt V i o.guard) (hJ : J l.toArray w0 c0 CB Fs V b f w c) (hF : Fr a x f) (hE : Ev n a m) (K : Kx dt w0 c0 CB Fs i b f w c) : Region.wanted o (yielded l.toArray x.tmps) = true := by
  unfold Gd at hg
  split at hg
  · rename_i h; simp [Region.wanted, h]
  · rename_i j q h
    obtain ⟨h1, d, h2, h3⟩ := hg
    obtain ⟨oj, v, q1, q2, q3, q4⟩ := guard_slot hJ hF hE (K.done j h1) h2
    rw [h3] at q4
    obtain rfl : v = .bool q := q4
    simp only [List.getElem?_toArray] at q1
    simp [Region.wanted, h, yielded, q1, q2, q3]
theorem Gn.not (hg : Gn l n dt V i o.guard) (hJ : J l.toArray w0 c0 CB Fs V b f w c) (hF : Fr a x f) (hE : Ev n a m) (K : Kx dt w0 c0 CB Fs i b f w c) : Region.wanted o (yielded l.toArray x.tmps) = false := by
  unfold Gn at hg
  split at hg
  · exact hg.elim
  · rename_i j q h
    obtain ⟨h1, d, h2, h3⟩ := hg
    obtain ⟨oj, v, q1, q2, q3, q4⟩ := guard_slot hJ hF hE (K.done j h1) h2
    simp only [List.getElem?_toArray] at q1
    rcases h3 with h3 | h3
    · rw [h3] at q4
      obtain rfl : v = .bool !q := q4
      simp [Region.wanted, h, yielded, q1, q2, q3]
    · rw [h3] at q4
      obtain rfl : v = undef := q4
      simp [Region.wanted, h, yielded, q1, q2, q3, undef]
end
theorem sMv (d : Nat) {o : Oper} (r : XA n l dt m D i) (hi : nthL l i = some o := by rfl) (hop : o.op = .move r.r.opd ∨ o.op = .assign r.r.opd := by first | exact .inl rfl | exact .inr rfl) (hd : o.dst = some d := by rfl) (hA : Fs.filter (aff [] i (some d)) = [] := by rfl) (hT : ∀ w c v, r.r.T V w c v → (V d).sat (r.r.W v) w c := by first | exact fun _ _ _ h => h | exact fun _ _ _ _ => rfl) (hg : Gd l n dt V i o.guard := by first | exact trivial | exact ⟨rfl, _, ⟨rfl, rfl⟩, rfl⟩) : OpStep P l dt Q n a m D CB Fs V w0 c0 i := by
  intro b f w c x o' hJ hout hF hE ho K
  obtain rfl : o = o' := Option.some.inj (hi.symm.trans ho)
  obtain ⟨v, ev, sv⟩ := r.ev hJ hout hF hE K
  exact .pure d (hg.wanted hJ hF hE K) hd (by rw [hA]; trivial) hJ.gi (ex_move hop ev) (hT w c v sv)
theorem sNo (d : Nat) {o : Oper} (hV : V d = TyC.eq undef := by rfl) (hi : nthL l i = some o := by rfl) (hd : o.dst = some d := by rfl) (hA : Fs.filter (aff [] i (some d)) = [] := by rfl) (hg : Gn l n dt V i o.guard := by first | exact ⟨rfl, _, ⟨rfl, rfl⟩, .inl rfl⟩ | exact ⟨rfl, _, ⟨rfl, rfl⟩, .inr rfl⟩) : OpStep P l dt Q n a m D CB Fs V w0 c0 i := by
  intro b f w c x o' hJ hout hF hE ho K
  obtain rfl : o = o' := Option.some.inj (hi.symm.trans ho)
  exact .non d (hg.not hJ hF hE K) hd (by rw [hA]; trivial) (by rw [hV]; rfl)
theorem sLd (d : Nat) {o : Oper} (r0 : XA n l dt m D i) {ty : TypeId} (L : ∀ {b : BB} {f : FF} {w : World} {c : Colr} {v : Value}, Kx dt w0 c0 CB Fs i b f w c → r0.r.T V w c v → ∃ ad u, r0.r.W v = .pointer (some ad) ∧ (loadVar ty ad).run P w = .ok u w ∧ (V d).sat u w c) (hi : nthL l i = some o := by rfl) (hop : o.op = .load ty r0.r.opd := by rfl) (hd : o.dst = some d := by rfl) (hA : Fs.filter (aff [] i (some d)) = [] := by rfl) (hg : Gd l n dt V i o.guard := by first | exact trivial | exact ⟨rfl, _, ⟨rfl, rfl⟩, rfl⟩) : OpStep P l dt Q n a m D CB Fs V w0 c0 i := by
  intro b f w c x o' hJ hout hF hE ho K
  obtain rfl : o = o' := Option.some.inj (hi.symm.trans ho)
  obtain ⟨v0, ev0, sv0⟩ := r0.ev hJ hout hF hE K
  obtain ⟨ad, u, h1, h2, h3⟩ := L K sv0
  exact .pure d (hg.wanted hJ hF hE K) hd (by rw [hA]; trivial) hJ.gi (ex_load hop (ev0.trans h1) h2) h3
theorem sFa (d : Nat) {o : Oper} (r0 : XA n l dt m D i) {ty : TypeId} {k : Nat} {u : Value} (L : ∀ {w : World} {v : Value}, (Instr.fieldAt ty (r0.r.W v) k).run P w = .ok u w) (hV : V d = TyC.eq u := by rfl) (hT : ∀ w c v, r0.r.T V w c v → True := by intros; trivial) (hi : nthL l i = some o := by rfl) (hop : o.op = .fieldAddr ty r0.r.opd k := by rfl) (hd : o.dst = some d := by rfl) (hA : Fs.filter (aff [] i (some d)) = [] := by rfl) (hg : Gd l n dt V i o.guard := by first | exact trivial | exact ⟨rfl, _, ⟨rfl, rfl⟩, rfl⟩) : OpStep P l dt Q n a m D CB Fs V w0 c0 i := by
  intro b f w c x o' hJ hout hF hE ho K
  obtain rfl : o = o' := Option.some.inj (hi.symm.trans ho)
  obtain ⟨v0, ev0, sv0⟩ := r0.ev hJ hout hF hE K
  exact .pure d (hg.wanted hJ hF hE K) hd (by rw [hA]; trivial) hJ.gi (ex_field hop ev0 L) (by rw [hV]; rfl)
theorem sEx (d : Nat) {o : Oper} (r0 : XA n l dt m D i) {k : Nat} (L : ∀ {w : World} {c : Colr} {v : Value}, r0.r.T V w c v → ∃ vs u, r0.r.W v = .tuple vs ∧ vs[k]? = some u ∧ (V d).sat u w c) (hi : nthL l i = some o := by rfl) (hop : o.op = .extract r0.r.opd k := by rfl) (hd : o.dst = some d := by rfl) (hA : Fs.filter (aff [] i (some d)) = [] := by rfl) (hg : Gd l n dt V i o.guard := by first | exact trivial | exact ⟨rfl, _, ⟨rfl, rfl⟩, rfl⟩) : OpStep P l dt Q n a m D CB Fs V w0 c0 i := by
  intro b f w c x o' hJ hout hF hE ho K
  obtain rfl : o = o' := Option.some.inj (hi.symm.trans ho)
  obtain ⟨v0, ev0, sv0⟩ := r0.ev hJ hout hF hE K
  obtain ⟨vs, u, h1, h2, h3⟩ := L sv0
  exact .pure d (hg.wanted hJ hF hE K) hd (by rw [hA]; trivial) hJ.gi (ex_extract hop (ev0.trans h1) h2) h3
theorem sUv (d : Nat) {o : Oper} (r0 : XA n l dt m D i) {op : UnOp} {ty : TypeId} {u z : Value} (hz : ∀ {w : World} {c : Colr} {v : Value}, r0.r.T V w c v → r0.r.W v = z) (L : ∀ {w : World}, (Op.unary op z).run P w = .ok u w) (hV : V d = TyC.eq u := by rfl) (hi : nthL l i = some o := by rfl) (hop : o.op = .unOp op ty r0.r.opd := by rfl) (hd : o.dst = some d := by rfl) (hA : Fs.filter (aff [] i (some d)) = [] := by rfl) (hg : Gd l n dt V i o.guard := by first | exact trivial | exact ⟨rfl, _, ⟨rfl, rfl⟩, rfl⟩) : OpStep P l dt Q n a m D CB Fs V w0 c0 i := by
  intro b f w c x o' hJ hout hF hE ho K
  obtain rfl : o = o' := Option.some.inj (hi.symm.trans ho)
  obtain ⟨v0, ev0, sv0⟩ := r0.ev hJ hout hF hE K
  exact .pure d (hg.wanted hJ hF hE K) hd (by rw [hA]; trivial) hJ.gi (ex_un hop (ev0.trans (hz sv0)) L) (by rw [hV]; rfl)
theorem sBin (d : Nat) {o : Oper} (r0 : XA n l dt m D i) (r1 : XA n l dt m D i) {op : BinOp} {ty ty2 : TypeId} {u z z' : Value} (hz : ∀ {w : World} {c : Colr} {v v' : Value}, r0.r.T V w c v → r1.r.T V w c v' → r0.r.W v = z ∧ r1.r.W v' = z') (G : ∀ {w : World}, (eqGuard op ty r0.r.opd r1.r.opd z z').run P w = .ok () w) (L : ∀ {w : World}, (binOp op ty z z').run P w = .ok u w) (hV : V d = TyC.eq u := by rfl) (hi : nthL l i = some o := by rfl) (hop : o.op = .binOp op ty r0.r.opd r1.r.opd ty2 := by rfl) (hd : o.dst = some d := by rfl) (hA : Fs.filter (aff [] i (some d)) = [] := by rfl) (hg : Gd l n dt V i o.guard := by first | exact trivial | exact ⟨rfl, _, ⟨rfl, rfl⟩, rfl⟩) : OpStep P l dt Q n a m D CB Fs V w0 c0 i := by
  intro b f w c x o' hJ hout hF hE ho K
  obtain rfl : o = o' := Option.some.inj (hi.symm.trans ho)
  obtain ⟨v0, ev0, sv0⟩ := r0.ev hJ hout hF hE K
  obtain ⟨v1, ev1, sv1⟩ := r1.ev hJ hout hF hE K
  exact .pure d (hg.wanted hJ hF hE K) hd (by rw [hA]; trivial) hJ.gi (ex_bin hop (ev0.trans (hz sv0 sv1).1) (ev1.trans (hz sv0 sv1).2) G L) (by rw [hV]; rfl)
theorem sIx (d : Nat) {o : Oper} (r0 : XA n l dt m D i) (r1 : XA n l dt m D i) {ty : TypeId} (L : ∀ {b : BB} {f : FF} {w : World} {c : Colr} {v v' : Value}, Kx dt w0 c0 CB Fs i b f w c → r0.r.T V w c v → r1.r.T V w c v' → ∃ u, (Instr.indexAt ty (r0.r.W v) (r1.r.W v')).run P w = .ok u w ∧ (V d).sat u w c) (hi : nthL l i = some o := by rfl) (hop : o.op = .indexAddr ty r0.r.opd r1.r.opd := by rfl) (hd : o.dst = some d := by rfl) (hA : Fs.filter (aff [] i (some d)) = [] := by rfl) (hg : Gd l n dt V i o.guard := by first | exact trivial | exact ⟨rfl, _, ⟨rfl, rfl⟩, rfl⟩) : OpStep P l dt Q n a m D CB Fs V w0 c0 i := by
  intro b f w c x o' hJ hout hF hE ho K
  obtain rfl : o = o' := Option.some.inj (hi.symm.trans ho)
  obtain ⟨v0, ev0, sv0⟩ := r0.ev hJ hout hF hE K
  obtain ⟨v1, ev1, sv1⟩ := r1.ev hJ hout hF hE K
  obtain ⟨u, h1, h2⟩ := L K sv0 sv1
  exact .pure d (hg.wanted hJ hF hE K) hd (by rw [hA]; trivial) hJ.gi (ex_index hop ev0 ev1 h1) h2
theorem sC0 (d : Nat) {o : Oper} {fn : Nat} {tys : Array TypeId} {fd : Func}  (L : ∀ {b : BB} {f : FF} {w : World} {c : Colr}, Kx dt w0 c0 CB Fs i b f w c → CV P fn #[] w c (V d)) (hfn : P.funcs[fn]? = some fd) (hi : nthL l i = some o := by rfl) (hop : o.op = .call { callee := .value (.func fn), args := #[], argTypes := tys } := by rfl) (hd : o.dst = some d := by rfl) (hA : Fs.filter (aff [] i (some d)) = [] := by rfl) (hnb : (fd.name == "runtime.NumGoroutine" || fd.body.isNone) = false := by rfl) (hg : Gd l n dt V i o.guard := by first | exact trivial | exact ⟨rfl, _, ⟨rfl, rfl⟩, rfl⟩) : OpStep P l dt Q n a m D CB Fs V w0 c0 i := by
  intro b f w c x o' hJ hout hF hE ho K
  obtain rfl : o = o' := Option.some.inj (hi.symm.trans ho)
  exact .call d (hg.wanted hJ hF hE K) hd hA hJ.gi hop (vs := #[]) (by simp []) (enter_of hfn hnb _) (L K)
theorem sC1 (d : Nat) {o : Oper} {fn : Nat} {tys : Array TypeId} {fd : Func} (r0 : XA n l dt m D i) (L : ∀ {b : BB} {f : FF} {w : World} {c : Colr} {v0 : Value}, Kx dt w0 c0 CB Fs i b f w c → r0.r.T V w c v0 → CV P fn #[r0.r.W v0] w c (V d)) (hfn : P.funcs[fn]? = some fd) (hi : nthL l i = some o := by rfl) (hop : o.op = .call { callee := .value (.func fn), args := #[r0.r.opd], argTypes := tys } := by rfl) (hd : o.dst = some d := by rfl) (hA : Fs.filter (aff [] i (some d)) = [] := by rfl) (hnb : (fd.name == "runtime.NumGoroutine" || fd.body.isNone) = false := by rfl) (hg : Gd l n dt V i o.guard := by first | exact trivial | exact ⟨rfl, _, ⟨rfl, rfl⟩, rfl⟩) : OpStep P l dt Q n a m D CB Fs V w0 c0 i := by
  intro b f w c x o' hJ hout hF hE ho K
  obtain rfl : o = o' := Option.some.inj (hi.symm.trans ho)
  obtain ⟨v0, ev0, sv0⟩ := r0.ev hJ hout hF hE K
  exact .call d (hg.wanted hJ hF hE K) hd hA hJ.gi hop (vs := #[r0.r.W v0]) (by simp [ev0]) (enter_of hfn hnb _) (L K sv0)
theorem sC2 (d : Nat) {o : Oper} {fn : Nat} {tys : Array TypeId} {fd : Func} (r0 : XA n l dt m D i) (r1 : XA n l dt m D i) (L : ∀ {b : BB} {f : FF} {w : World} {c : Colr} {v0 v1 : Value}, Kx dt w0 c0 CB Fs i b f w c → r0.r.T V w c v0 → r1.r.T V w c v1 → CV P fn #[r0.r.W v0, r1.r.W v1] w c (V d)) (hfn : P.funcs[fn]? = some fd) (hi : nthL l i = some o := by rfl) (hop : o.op = .call { callee := .value (.func fn), args := #[r0.r.opd, r1.r.opd], argTypes := tys } := by rfl) (hd : o.dst = some d := by rfl) (hA : Fs.filter (aff [] i (some d)) = [] := by rfl) (hnb : (fd.name == "runtime.NumGoroutine" || fd.body.isNone) = false := by rfl) (hg : Gd l n dt V i o.guard := by first | exact trivial | exact ⟨rfl, _, ⟨rfl, rfl⟩, rfl⟩) : OpStep P l dt Q n a m D CB Fs V w0 c0 i := by
  intro b f w c x o' hJ hout hF hE ho K
  obtain rfl : o = o' := Option.some.inj (hi.symm.trans ho)
  obtain ⟨v0, ev0, sv0⟩ := r0.ev hJ hout hF hE K
  obtain ⟨v1, ev1, sv1⟩ := r1.ev hJ hout hF hE K
  exact .call d (hg.wanted hJ hF hE K) hd hA hJ.gi hop (vs := #[r0.r.W v0, r1.r.W v1]) (by simp [ev0, ev1]) (enter_of hfn hnb _) (L K sv0 sv1)
theorem sB0 (d : Nat) {o : Oper} {ty : TypeId}  (L : ∀ {b : BB} {f : FF} {w : World} {c : Colr}, Kx dt w0 c0 CB Fs i b f w c → ∃ u, (Instr.build ty #[]).run P w = .ok u w ∧ (V d).sat u w c) (hi : nthL l i = some o := by rfl) (hop : o.op = .build ty #[] := by rfl) (hd : o.dst = some d := by rfl) (hA : Fs.filter (aff [] i (some d)) = [] := by rfl) (hg : Gd l n dt V i o.guard := by first | exact trivial | exact ⟨rfl, _, ⟨rfl, rfl⟩, rfl⟩) : OpStep P l dt Q n a m D CB Fs V w0 c0 i := by
  intro b f w c x o' hJ hout hF hE ho K
  obtain rfl : o = o' := Option.some.inj (hi.symm.trans ho)
  obtain ⟨u, h1, h2⟩ := L K
  exact .pure d (hg.wanted hJ hF hE K) hd (by rw [hA]; trivial) hJ.gi (ex_build hop (by simp []) h1) h2
theorem sB2 (d : Nat) {o : Oper} {ty : TypeId} (r0 : XA n l dt m D i) (r1 : XA n l dt m D i) (L : ∀ {b : BB} {f : FF} {w : World} {c : Colr} {v0 v1 : Value}, Kx dt w0 c0 CB Fs i b f w c → r0.r.T V w c v0 → r1.r.T V w c v1 → ∃ u, (Instr.build ty #[(0, r0.r.W v0), (1, r1.r.W v1)]).run P w = .ok u w ∧ (V d).sat u w c) (hi : nthL l i = some o := by rfl) (hop : o.op = .build ty #[(0, r0.r.opd), (1, r1.r.opd)] := by rfl) (hd : o.dst = some d := by rfl) (hA : Fs.filter (aff [] i (some d)) = [] := by rfl) (hg : Gd l n dt V i o.guard := by first | exact trivial | exact ⟨rfl, _, ⟨rfl, rfl⟩, rfl⟩) : OpStep P l dt Q n a m D CB Fs V w0 c0 i := by
  intro b f w c x o' hJ hout hF hE ho K
  obtain rfl : o = o' := Option.some.inj (hi.symm.trans ho)
  obtain ⟨v0, ev0, sv0⟩ := r0.ev hJ hout hF hE K
  obtain ⟨v1, ev1, sv1⟩ := r1.ev hJ hout hF hE K
  obtain ⟨u, h1, h2⟩ := L K sv0 sv1
  exact .pure d (hg.wanted hJ hF hE K) hd (by rw [hA]; trivial) hJ.gi (ex_build hop (by simp [ev0, ev1]) h1) h2
theorem sL2 (d : Nat) {o : Oper} {ty t : TypeId} {sz : Nat} {L : List TyC} (r0 : XA n l dt m D i) (r1 : XA n l dt m D i) (H : ∀ {b : BB} {f : FF} {w : World} {c : Colr} {v0 v1 : Value}, Kx dt w0 c0 CB Fs i b f w c → r0.r.T V w c v0 → r1.r.T V w c v1 → ∃ cs, (Instr.buildSlice ty 2 #[(0, r0.r.W v0), (1, r1.r.W v1)]).run P w = .ok (.slice (some ⟨w.heap.size, 0, none⟩) 2 2) (w.alloc (.cells cs t)) ∧ cs.size = L.length * sz ∧ (catK sz L).sat cs w c) (hn : L.length = 2 := by rfl) (hV : V d = litC sz t L := by rfl) (hi : nthL l i = some o := by rfl) (hop : o.op = .buildSlice ty 2 #[(0, r0.r.opd), (1, r1.r.opd)] := by rfl) (hd : o.dst = some d := by rfl) (hA : Fs.filter (aff [] i (some d)) = [] := by rfl) (hg : Gd l n dt V i o.guard := by first | exact trivial | exact ⟨rfl, _, ⟨rfl, rfl⟩, rfl⟩) : OpStep P l dt Q n a m D CB Fs V w0 c0 i := by
  intro b f w c x o' hJ hout hF hE ho K
  obtain rfl : o = o' := Option.some.inj (hi.symm.trans ho)
  obtain ⟨v0, ev0, sv0⟩ := r0.ev hJ hout hF hE K
  obtain ⟨v1, ev1, sv1⟩ := r1.ev hJ hout hF hE K
  obtain ⟨cs, h1, h2, h3⟩ := H K sv0 sv1
  exact .litv d (L := L) (hg.wanted hJ hF hE K) hd hA hJ.gi hop (by simp [ev0, ev1]) h1 hn h2 h3 hV
/-! ### boxes -/
theorem sBox (p nc : Nat) {o : Oper} {sp : Nat} {z : Array Value} {τ : TyC} {ty : TypeId} (r0 : XA n l dt m D i) (H : ∀ {b : BB} {f : FF} {w : World} {c : Colr} {v : Value}, Kx dt w0 c0 CB Fs i b f w c → r0.r.T V w c v → ∃ cs, (r0.r.W v).cells = cs ∧ τ.sat (r0.r.W v) w c ∧ cs.toList.all (fun v => !NB v) = true)
    (hi : nthL l i = some o := by rfl) (hop : o.op = .box ty r0.r.opd := by rfl) (hd : o.dst = some p := by rfl) (hF_ : Fs.filter (aff [nc] i (some p)) = [RF.new p nc ty sp z τ] := by rfl) (hCB : [nc].all (CB.contains ·) = true := by rfl) (hs : sp = i := by rfl) (hn : ([nc].contains 0 || [nc].contains 1) = false := by rfl) (hV : V p = TyC.ptr := by rfl) (hg : Gd l n dt V i o.guard := by first | exact trivial | exact ⟨rfl, _, ⟨rfl, rfl⟩, rfl⟩) : OpStep P l dt Q n a m D CB Fs V w0 c0 i := by
  intro b f w c x o' hJ hout hF hE ho K
  obtain rfl : o = o' := Option.some.inj (hi.symm.trans ho)
  obtain ⟨v0, ev0, sv0⟩ := r0.ev hJ hout hF hE K
  obtain ⟨cs, h1, h2, h3⟩ := H K sv0
  exact .box p nc sp z cs τ (hg.wanted hJ hF hE K) hd hCB hF_ hJ.gi hop ev0 h1 h2 hs hn h3 hV
theorem sAlz (p nc : Nat) {o : Oper} {sp : Nat} {z : Array Value} {τ : TyC} {ty : TypeId} {u : Value} (hz : ∀ {w : World}, (zeroValue ty).run P w = .ok u w) (hu : ∀ {w : World} {c : Colr}, τ.sat u w c)
    (hi : nthL l i = some o := by rfl) (hop : o.op = .alloc ty := by rfl) (hd : o.dst = some p := by rfl) (hF_ : Fs.filter (aff [nc] i (some p)) = [RF.new p nc ty sp z τ] := by rfl) (hCB : [nc].all (CB.contains ·) = true := by rfl) (hs : sp = i := by rfl) (hn : ([nc].contains 0 || [nc].contains 1) = false := by rfl) (hb : u.cells.toList.all (fun v => !NB v) = true := by rfl) (hV : V p = TyC.ptr := by rfl) (hg : Gd l n dt V i o.guard := by first | exact trivial | exact ⟨rfl, _, ⟨rfl, rfl⟩, rfl⟩) : OpStep P l dt Q n a m D CB Fs V w0 c0 i := by
  intro b f w c x o' hJ hout hF hE ho K
  obtain rfl : o = o' := Option.some.inj (hi.symm.trans ho)
  exact .allocz p nc sp z τ (hg.wanted hJ hF hE K) hd hCB hF_ hJ.gi hop hz rfl hu hs hn hb hV
theorem sAl (p nc : Nat) {o : Oper} {sp : Nat} {z : Array Value} {τ : TyC} {ty : TypeId} {u : Value} (hz : ∀ {w : World}, (zeroValue ty).run P w = .ok u w) (hc : u.cells = z := by rfl)
    (hi : nthL l i = some o := by rfl) (hop : o.op = .alloc ty := by rfl) (hd : o.dst = some p := by rfl) (hF_ : Fs.filter (aff [nc] i (some p)) = [RF.new p nc ty sp z τ] := by rfl) (hCB : [nc].all (CB.contains ·) = true := by rfl) (hs : dep dt sp i = true := by rfl) (hsi : (sp == i) = false := by rfl) (hn : ([nc].contains 0 || [nc].contains 1) = false := by rfl) (hb : z.toList.all (fun v => !NB v) = true := by rfl) (hV : V p = TyC.ptr := by rfl) (hg : Gd l n dt V i o.guard := by first | exact trivial | exact ⟨rfl, _, ⟨rfl, rfl⟩, rfl⟩) : OpStep P l dt Q n a m D CB Fs V w0 c0 i := by
  intro b f w c x o' hJ hout hF hE ho K
  obtain rfl : o = o' := Option.some.inj (hi.symm.trans ho)
  exact .alloc p nc sp z τ (hg.wanted hJ hF hE K) hd hCB hF_ hJ.gi hop hz hc (K.nyet sp hs) hsi hn hb hV
/-- A store that fills a box of the region. -/
theorem sStn (p nc j k : Nat) {o : Oper} {mm : Nat} {z : Array Value} {τ : TyC} {ty t : TypeId} (r1 : XA n l dt m D i) (hA : Agg P ty mm) (hs : τ.str mm) (H : ∀ {b : BB} {f : FF} {w : World} {c : Colr} {v : Value}, Kx dt w0 c0 CB Fs i b f w c → r1.r.T V w c v → τ.sat (r1.r.W v) w c := by exact fun _ h => h) (hp : dep dt i j = true ∧ decide (p < n) = true ∧ dstOf l j = some p := by exact ⟨rfl, rfl, rfl⟩) (hk : Fs[k]? = some (RF.new p nc t i z τ) := by rfl)
    (hi : nthL l i = some o := by rfl) (hop : o.op = .store ty (.tmp p) r1.r.opd := by rfl) (hd : o.dst = none := by rfl) (hz : z.size = mm := by rfl) (hF_ : Fs.filter (aff [nc] i none) = [RF.new p nc t i z τ] := by rfl) (hCB : [nc].all (CB.contains ·) = true := by rfl) (hn : ([nc].contains 0 || [nc].contains 1) = false := by rfl) (hV : V p = TyC.ptr := by rfl) (hg : Gd l n dt V i o.guard := by first | exact trivial | exact ⟨rfl, _, ⟨rfl, rfl⟩, rfl⟩) : OpStep P l dt Q n a m D CB Fs V w0 c0 i := by
  intro b f w c x o' hJ hout hF hE ho K
  obtain rfl : o = o' := Option.some.inj (hi.symm.trans ho)
  obtain ⟨v1, ev1, sv1⟩ := r1.ev hJ hout hF hE K
  obtain ⟨h1, h2, h2'⟩ := hp
  have h3' := h2'
  unfold dstOf at h3'
  split at h3'
  · rename_i oj hoj
    rw [nthL_eq] at hoj
    have h3 := (hJ.set j oj p (by simpa using hoj) h3').1 (K.done j h1)
    cases hf : f p with
    | none => exact absurd hf h3
    | some v =>
      have h4 := hJ.typ p v hf
      rw [hV] at h4
      obtain ⟨g, rfl⟩ := h4
      have he : x.eval (.tmp p) = .pointer (some ⟨g, 0, none⟩) := hF.in (by rw [hE.1]; exact of_decide_eq_true h2) hf
      obtain ⟨hcg, hbk⟩ := ((All.at K.fac k hk) g (by simp [hf, adr])).2 K.self
      obtain ⟨w2, q1, q2, q3⟩ := store_tyc (P := P) hA hs hbk hz (H K sv1) hJ.gi hcg hn
      refine .store nc [nc] rfl (hg.wanted hJ hF hE K) hd hCB hop he ev1 ⟨w2, q1, q2, ?_⟩
      rw [hF_]
      refine ⟨fun g' hg' => ?_, trivial⟩
      obtain rfl : g = g' := by simpa [hf, adr] using hg'
      exact ⟨fun _ => q3, fun hbb => by rw [bup_at] at hbb; cases hbb⟩
  · cases h3'
theorem st_now {g t n i : Nat} {τ : TyC} {F0 : RF} {b : BB} {f : FF} {w : World} {c : Colr} (h : BoxC w c g t n τ) : (RF.st i (Fact.box g t n τ) F0).P (bup b i) f w c := ⟨fun _ => h, fun hbb => (by rw [bup_at] at hbb; cases hbb)⟩
/-- A store into a box that was there. -/
theorem sSto (nc : Nat) {o : Oper} {g mm : Nat} {τ : TyC} {ty t : TypeId} {F : RF} (r0 r1 : XA n l dt m D i) (hA : Agg P ty mm) (hs : τ.str mm) (O : ∀ {b : BB} {f : FF} {w : World} {c : Colr}, Kx dt w0 c0 CB Fs i b f w c → ∃ old, Blk w g t old ∧ old.size = mm ∧ c g = nc) (H : ∀ {b : BB} {f : FF} {w : World} {c : Colr} {v : Value}, Kx dt w0 c0 CB Fs i b f w c → r1.r.T V w c v → τ.sat (r1.r.W v) w c)
    
    (hi : nthL l i = some o := by rfl) (hop : o.op = .store ty r0.r.opd r1.r.opd := by rfl) (hd : o.dst = none := by rfl) (ha : ∀ v, r0.r.W v = .pointer (some ⟨g, 0, none⟩) := by exact fun _ => rfl) (hF_ : Fs.filter (aff [nc] i none) = [F] := by rfl) (R : ∀ {b : BB} {f : FF} {w w' : World} {c : Colr}, Kx dt w0 c0 CB Fs i b f w c → BoxC w' c g t nc τ → F.P (bup b i) f w' c := by exact fun _ h => st_now h) (hCB : [nc].all (CB.contains ·) = true := by rfl) (hn : ([nc].contains 0 || [nc].contains 1) = false := by rfl) (hg : Gd l n dt V i o.guard := by first | exact trivial | exact ⟨rfl, _, ⟨rfl, rfl⟩, rfl⟩) : OpStep P l dt Q n a m D CB Fs V w0 c0 i := by
  intro b f w c x o' hJ hout hF hE ho K
  obtain rfl : o = o' := Option.some.inj (hi.symm.trans ho)
  obtain ⟨v0, ev0, sv0⟩ := r0.ev hJ hout hF hE K
  obtain ⟨v1, ev1, sv1⟩ := r1.ev hJ hout hF hE K
  obtain ⟨old, q1, q2, q3⟩ := O K
  obtain ⟨w2, p1, p2, p3⟩ := store_tyc (P := P) hA hs q1 q2 (H K sv1) hJ.gi q3 hn
  refine .store nc [nc] rfl (hg.wanted hJ hF hE K) hd hCB hop (ev0.trans (ha v0)) ev1 ⟨w2, p1, p2, ?_⟩
  rw [hF_]
  exact ⟨R K p3, trivial⟩
theorem bxs {τ : TyC} {k : Nat} {u : Value} {w : World} {c : Colr} (hs : τ.str k) (h : τ.sat u w c) : ∃ cs, u.cells = cs ∧ τ.sat u w c ∧ cs.toList.all (fun v => !NB v) = true := by
  obtain ⟨cs, rfl, _, _, h4⟩ := hs u w c h
  exact ⟨cs, rfl, h, h4⟩
theorem ldb {P : Program} {ty : TypeId} {ad : Addr} {w : World} {p : Value → Prop} (h : ∃ u, (loadVar ty ad).run P w = .ok u w ∧ p u) : ∃ ad' u, Value.pointer (some ad) = .pointer (some ad') ∧ (loadVar ty ad').run P w = .ok u w ∧ p u := by
  obtain ⟨u, h1, h2⟩ := h
  exact ⟨ad, u, rfl, h1, h2⟩
/-- The fact on a box of the region that is filled. -/
theorem nbox {p nc t sp : Nat} {z : Array Value} {τ : TyC} {b : BB} {f : FF} {w : World} {c : Colr} {g : Nat} (h : (RF.new p nc t sp z τ).P b f w c) (hf : f p = some (.pointer (some ⟨g, 0, none⟩))) (hb : b sp = true) : BoxC w c g t nc τ := (h g (by simp [hf, adr])).1 hb
/-! ### extracts -/
theorem ex10 {τ : TyC} {u v : Value} {w : World} {c : Colr} (h : (τ.tup1 u).sat v w c) : ∃ vs x, v = .tuple vs ∧ vs[0]? = some x ∧ τ.sat x w c := by
  obtain ⟨x, rfl, h⟩ := h; exact ⟨_, x, rfl, rfl, h⟩
theorem ex11 {τ : TyC} {u v : Value} {w : World} {c : Colr} (h : (τ.tup1 u).sat v w c) : ∃ vs x, v = .tuple vs ∧ vs[1]? = some x ∧ (TyC.eq u).sat x w c := by
  obtain ⟨x, rfl, h⟩ := h; exact ⟨_, _, rfl, rfl, rfl⟩
theorem ex20 {τ σ : TyC} {u v : Value} {w : World} {c : Colr} (h : (τ.tup2 σ u).sat v w c) : ∃ vs x, v = .tuple vs ∧ vs[0]? = some x ∧ τ.sat x w c := by
  obtain ⟨x, y, rfl, h, h'⟩ := h; exact ⟨_, _, rfl, rfl, h⟩
theorem ex21 {τ σ : TyC} {u v : Value} {w : World} {c : Colr} (h : (τ.tup2 σ u).sat v w c) : ∃ vs x, v = .tuple vs ∧ vs[1]? = some x ∧ σ.sat x w c := by
  obtain ⟨x, y, rfl, h, h'⟩ := h; exact ⟨_, _, rfl, rfl, h'⟩
theorem ex22 {τ σ : TyC} {u v : Value} {w : World} {c : Colr} (h : (τ.tup2 σ u).sat v w c) : ∃ vs x, v = .tuple vs ∧ vs[2]? = some x ∧ (TyC.eq u).sat x w c := by
  obtain ⟨x, y, rfl, h, h'⟩ := h; exact ⟨_, _, rfl, rfl, rfl⟩
theorem exp0 {τ σ : TyC} {v : Value} {w : World} {c : Colr} (h : (τ.pair σ).sat v w c) : ∃ vs x, v = .tuple vs ∧ vs[0]? = some x ∧ τ.sat x w c := by
  obtain ⟨x, y, rfl, h, h'⟩ := h; exact ⟨_, _, rfl, rfl, h⟩
theorem exp1 {τ σ : TyC} {v : Value} {w : World} {c : Colr} (h : (τ.pair σ).sat v w c) : ∃ vs x, v = .tuple vs ∧ vs[1]? = some x ∧ σ.sat x w c := by
  obtain ⟨x, y, rfl, h, h'⟩ := h; exact ⟨_, _, rfl, rfl, h'⟩
theorem exe {vs : Array Value} {k : Nat} {x v : Value} {w : World} {c : Colr} (hk : vs[k]? = some x) (h : (TyC.eq (.tuple vs)).sat v w c) : ∃ vs' x', v = .tuple vs' ∧ vs'[k]? = some x' ∧ (TyC.eq x).sat x' w c := ⟨vs, x, h, hk, rfl⟩
/-! ### behind a region -/
def nthR : List RF → Nat → RF
  | [], _ => .s Fact.tru
  | F :: _, 0 => F
  | _ :: L, k + 1 => nthR L k
def pickR : List Nat → List RF → List RF
  | [], _ => []
  | k :: ks, L => .s (nthR L k).fin :: pickR ks L
theorem All.nth {b : BB} {f : FF} {w : World} {c : Colr} : ∀ {L : List RF} (k : Nat), All L b f w c → (nthR L k).P b f w c
  | [], _, _ => trivial
  | _ :: _, 0, h => h.1
  | _ :: L, k + 1, h => All.nth k h.2
theorem nth_ops {N : Nat} : ∀ {L : List RF} (k : Nat), (L.all fun F => F.ops.all fun i => decide (i < N)) = true → ∀ i, (nthR L k).ops.contains i = true → i < N
  | [], _, _, i, h => by simp [nthR, RF.ops] at h
  | F :: L, 0, hL, i, h => by
    rw [List.all_cons, Bool.and_eq_true] at hL
    have := List.all_eq_true.1 hL.1 i (by simpa [nthR] using h)
    simpa using this
  | F :: L, k + 1, hL, i, h => by
    rw [List.all_cons, Bool.and_eq_true] at hL
    exact nth_ops k hL.2 i h
theorem All.pick {N : Nat} {b b' : BB} {f f' : FF} {w : World} {c : Colr} {L : List RF} (h : All L b f w c) (hb : ∀ i, i < N → b i = true) (hN : (L.all fun F => F.ops.all fun i => decide (i < N)) = true) : ∀ ks : List Nat, All (pickR ks L) b' f' w c
  | [] => trivial
  | k :: ks => ⟨RF.to_fin _ (All.nth k h) (fun i hi => hb i (nth_ops k hN i hi)), All.pick h hb hN ks⟩
theorem All.pk {N : Nat} {b : BB} {f : FF} {w : World} {c : Colr} {L : List RF} (h : All L b f w c) (hb : ∀ i, i < N → b i = true) (hN : (L.all fun F => F.ops.all fun i => decide (i < N)) = true) (ks : List Nat) : All (pickR ks L) (fun _ => false) (fun _ => none) w c := h.pick hb hN ks
theorem All.cb {g t n : Nat} {τ : TyC} {L : List RF} {b : BB} {f : FF} {w : World} {c : Colr} (h : BoxC w c g t n τ) (hL : All L b f w c) : All (.s (Fact.box g t n τ) :: L) b f w c := ⟨h, hL⟩
theorem All.cv {v : Value} {τ : TyC} {L : List RF} {b : BB} {f : FF} {w : World} {c : Colr} (h : τ.sat v w c) (hL : All L b f w c) : All (.s (Fact.val τ v) :: L) b f w c := ⟨h, hL⟩
def AllK (f : FF) (n : Nat) : List (Nat × Value) → Prop
  | [] => True
  | p :: L => (f p.1 = some p.2 ∧ p.1 < n) ∧ AllK f n L
theorem kn {f : FF} {n : Nat} : AllK f n [] := trivial
theorem ck {f : FF} {n t : Nat} {v : Value} {L : List (Nat × Value)} (h : f t = some v) (hK : AllK f n L) (ht : decide (t < n) = true := by rfl) : AllK f n ((t, v) :: L) := ⟨⟨h, of_decide_eq_true ht⟩, hK⟩
theorem kv {f : FF} {V : Nat → TyC} {d : Nat} {u : Value} {w : World} {c : Colr} (h : ∃ v, f d = some v ∧ (V d).sat v w c) (hV : V d = TyC.eq u) : f d = some u := by
  obtain ⟨v, h1, h2⟩ := h
  rw [hV] at h2
  rw [h1, (show v = u from h2)]
theorem kp {f : FF} {V : Nat → TyC} {d : Nat} {w : World} {c : Colr} (h : ∃ v, f d = some v ∧ (V d).sat v w c) (hV : V d = TyC.ptr) : ∃ g, f d = some (.pointer (some ⟨g, 0, none⟩)) := by
  obtain ⟨v, h1, h2⟩ := h
  rw [hV] at h2
  obtain ⟨g, rfl⟩ := h2
  exact ⟨g, h1⟩
def upm (KL : List (Nat × Value)) (D : List Nat) (m : Nat → Option Value) (t : Nat) : Option Value := match KL.lookup t with
  | some v => some v
  | none => if D.contains t then none else m t
theorem AllK.look {f : FF} {n : Nat} : ∀ {L : List (Nat × Value)}, AllK f n L → ∀ {t : Nat} {v : Value}, L.lookup t = some v → f t = some v ∧ t < n
  | (t', v') :: L, h, t, v, hl => by
    rw [List.lookup_cons] at hl
    split at hl
    · rename_i he
      have : t = t' := by simpa using he
      subst this
      injection hl with hl
      subst hl
      exact h.1
    · exact AllK.look h.2 hl
  | [], _, t, v, hl => by simp at hl
theorem Ev.up {n : Nat} {a x : Act} {m : Nat → Option Value} {D : List Nat} {f : FF} {KL : List (Nat × Value)} (hE : Ev n a m) (hF : Fr a x f) (hout : ∀ d, D.contains d = false → f d = none) (hK : AllK f n KL) : Ev n x (upm KL D m) := by
  refine ⟨hF.size.trans hE.1, hF.defers.trans hE.2.1, fun t v h => ?_⟩
  unfold upm at h
  split at h
  · rename_i u hu
    injection h with h
    subst h
    obtain ⟨h1, h2⟩ := AllK.look hK hu
    exact ⟨h2, hF.in (by rw [hE.1]; exact h2) h1⟩
  · split at h
    · cases h
    · rename_i hd
      obtain ⟨h1, h2⟩ := hE.2.2 t v h
      exact ⟨h1, hF.out (by rw [hE.1]; exact h1) (hout t (by simpa using hd)) h2⟩
def mof (KL : List (Nat × Value)) (t : Nat) : Option Value := KL.lookup t
def subm (m : Nat → Option Value) : List (Nat × Value) → Prop
  | [] => True
  | p :: L => m p.1 = some p.2 ∧ subm m L
theorem subm.look {m : Nat → Option Value} : ∀ {L : List (Nat × Value)}, subm m L → ∀ {t : Nat} {v : Value}, L.lookup t = some v → m t = some v
  | (t', v') :: L, h, t, v, hl => by
    rw [List.lookup_cons] at hl
    split at hl
    · rename_i he
      have : t = t' := by simpa using he
      subst this
      injection hl with hl
      subst hl
      exact h.1
    · exact subm.look h.2 hl
  | [], _, t, v, hl => by simp at hl
/-- Some of the slots. -/
theorem Ev.sub {n : Nat} {a : Act} {m : Nat → Option Value} (hE : Ev n a m) (KL : List (Nat × Value)) (h : subm m KL) : Ev n a (mof KL) := ⟨hE.1, hE.2.1, fun t v ht => hE.2.2 t v (h.look ht)⟩
/-- One slot's value, said otherwise. -/
theorem Ev.re {n : Nat} {a : Act} {m : Nat → Option Value} (hE : Ev n a m) (t : Nat) {v v' : Value} (ht : m t = some v) (e : v = v') : Ev n a (fun k => if k == t then some v' else m k) := ⟨hE.1, hE.2.1, fun k u hk => by
  by_cases h : k = t
  · subst h
    simp at hk
    subst hk e
    exact hE.2.2 k v ht
  · have : (k == t) = false := by simpa using h
    simp [this] at hk
    exact hE.2.2 k u hk⟩
def setR : List RF → Nat → RF → List RF
  | [], _, _ => []
  | _ :: L, 0, G => G :: L
  | F :: L, k + 1, G => F :: setR L k G
theorem All.put {G : Fact} {b : BB} {f : FF} {w : World} {c : Colr} : ∀ {L : List RF} (k : Nat), All L b f w c → G.P w c → All (setR L k (.s G)) b f w c
  | [], _, _, _ => trivial
  | _ :: _, 0, h, hG => ⟨hG, h.2⟩
  | _ :: L, k + 1, h, hG => ⟨h.1, All.put k h.2 hG⟩
theorem enter_st {f : Nat} {fn : Func} {cd : Code} {args : Array Value} {w : World} {R : Ending → World → Prop} {n : Nat} (hf : P.funcs[f]? = some fn) (hb : fn.body = some cd) (hn : fn.ntmps = n) (KL : List (Nat × Value)) (hK : KL.all (fun p => decide (p.1 < args.size)) = true) (hA : subm (fun t => args[t]?) KL) (hs : args.size ≤ n)
    (h : ∀ a : Act, Ev n a (mof KL) → cd.wp P (bodyPost P fn R) a w) : Calls P f args w R := by
  refine enter_wp hf hb hn ?_
  intro a ha
  refine h a ⟨enter_size ha (by omega), enter_defers ha, fun t v ht => ?_⟩
  have h1 := subm.look hA ht
  have h2 : t < args.size := (Array.getElem?_eq_some_iff.1 h1).1
  exact ⟨by omega, enter_ev ha h1⟩

abbrev b0 : BB := fun _ => false
abbrev f0 : FF := fun _ => none
def stg : List RF → Nat → Nat → Fact → List RF
  | [], _, _, _ => []
  | F :: L, 0, i, G => .st i G F :: L
  | F :: L, k + 1, i, G => F :: stg L k i G
theorem All.stg {w : World} {c : Colr} : ∀ {L : List RF} (k i : Nat) (G : Fact), All L b0 f0 w c → All (stg L k i G) b0 f0 w c
  | [], _, _, _, _ => trivial
  | _ :: _, 0, _, _, h => ⟨⟨fun hb => (by cases hb), fun _ => h.1⟩, h.2⟩
  | _ :: L, k + 1, i, G, h => ⟨h.1, All.stg k i G h.2⟩
theorem All.cn {L : List RF} {w : World} {c : Colr} (p n : Nat) (t : TypeId) (s : Nat) (z : Array Value) (τ : TyC) (h : All L b0 f0 w c) : All (.new p n t s z τ :: L) b0 f0 w c := ⟨RF.new_none, h⟩
theorem All.box {L : List RF} {b : BB} {f : FF} {w : World} {c : Colr} {g t n : Nat} {τ : TyC} (h : All L b f w c) (k : Nat) (hk : nthR L k = .s (Fact.box g t n τ)) : BoxC w c g t n τ := by
  have := All.nth k h
  rw [hk] at this
  exact this
theorem All.val {L : List RF} {b : BB} {f : FF} {w : World} {c : Colr} {τ : TyC} {v : Value} (h : All L b f w c) (k : Nat) (hk : nthR L k = .s (Fact.val τ v)) : τ.sat v w c := by
  have := All.nth k h
  rw [hk] at this
  exact this
theorem All.sb0 {L : List RF} {b : BB} {f : FF} {w : World} {c : Colr} {g t n i : Nat} {τ : TyC} {F1 : Fact} (h : All L b f w c) (k : Nat) (hk : nthR L k = .st i F1 (.s (Fact.box g t n τ))) (hb : b i = false) : BoxC w c g t n τ := by
  have := All.nth k h
  rw [hk] at this
  exact this.2 hb
theorem All.nb {L : List RF} {b : BB} {f : FF} {w : World} {c : Colr} {g t n p sp : Nat} {z : Array Value} {τ : TyC} (h : All L b f w c) (k : Nat) (hk : nthR L k = .new p n t sp z τ) (hf : f p = some (.pointer (some ⟨g, 0, none⟩))) (hb : b sp = true) : BoxC w c g t n τ := by
  have := All.nth k h
  rw [hk] at this
  exact nbox this hf hb

theorem sPkt (d : Nat) {o : Oper} (r0 r1 : XA n l dt m D i) {z : Operand} (hz : ∀ {w : World} {c : Colr} {v : Value}, r0.r.T V w c v → r0.r.W v = .bool true := by first | exact fun h => h | exact fun _ => rfl) (hi : nthL l i = some o := by rfl) (hop : o.op = .pick r0.r.opd r1.r.opd z := by rfl) (hd : o.dst = some d := by rfl) (hA : Fs.filter (aff [] i (some d)) = [] := by rfl) (hT : ∀ w c v, r1.r.T V w c v → (V d).sat (r1.r.W v) w c := by first | exact fun _ _ _ h => h | exact fun _ _ _ _ => rfl) (hg : Gd l n dt V i o.guard := by first | exact trivial | exact ⟨rfl, _, ⟨rfl, rfl⟩, rfl⟩) : OpStep P l dt Q n a m D CB Fs V w0 c0 i := by
  intro b f w c x o' hJ hout hF hE ho K
  obtain rfl : o = o' := Option.some.inj (hi.symm.trans ho)
  obtain ⟨v0, ev0, sv0⟩ := r0.ev hJ hout hF hE K
  obtain ⟨v1, ev1, sv1⟩ := r1.ev hJ hout hF hE K
  exact .pure d (hg.wanted hJ hF hE K) hd (by rw [hA]; trivial) hJ.gi (ex_pick (b := true) hop (ev0.trans (hz sv0)) ev1) (hT w c v1 sv1)
theorem sPkf (d : Nat) {o : Oper} (r0 r1 : XA n l dt m D i) {z : Operand} (hz : ∀ {w : World} {c : Colr} {v : Value}, r0.r.T V w c v → r0.r.W v = .bool false := by first | exact fun h => h | exact fun _ => rfl) (hi : nthL l i = some o := by rfl) (hop : o.op = .pick r0.r.opd z r1.r.opd := by rfl) (hd : o.dst = some d := by rfl) (hA : Fs.filter (aff [] i (some d)) = [] := by rfl) (hT : ∀ w c v, r1.r.T V w c v → (V d).sat (r1.r.W v) w c := by first | exact fun _ _ _ h => h | exact fun _ _ _ _ => rfl) (hg : Gd l n dt V i o.guard := by first | exact trivial | exact ⟨rfl, _, ⟨rfl, rfl⟩, rfl⟩) : OpStep P l dt Q n a m D CB Fs V w0 c0 i := by
  intro b f w c x o' hJ hout hF hE ho K
  obtain rfl : o = o' := Option.some.inj (hi.symm.trans ho)
  obtain ⟨v0, ev0, sv0⟩ := r0.ev hJ hout hF hE K
  obtain ⟨v1, ev1, sv1⟩ := r1.ev hJ hout hF hE K
  exact .pure d (hg.wanted hJ hF hE K) hd (by rw [hA]; trivial) hJ.gi (ex_pick (b := false) hop (ev0.trans (hz sv0)) ev1) (hT w c v1 sv1)
theorem sSlen (d : Nat) {o : Oper} {t e : TypeId} {A : Option Addr} {k cp : Nat} (r0 : XA n l dt m D i) (ht : P.underlying t = some (.slice e)) (hz : ∀ {b : BB} {f : FF} {w : World} {c : Colr} {v : Value}, Kx dt w0 c0 CB Fs i b f w c → r0.r.T V w c v → r0.r.W v = .slice A k cp) (hi : nthL l i = some o := by rfl) (hop : o.op = .call { callee := .builtin .len, args := #[r0.r.opd], argTypes := #[t] } := by rfl) (hd : o.dst = some d := by rfl) (hA : Fs.filter (aff [] i (some d)) = [] := by rfl) (hV : V d = TyC.eq (.int .i64 k) := by rfl) (hg : Gd l n dt V i o.guard := by first | exact trivial | exact ⟨rfl, _, ⟨rfl, rfl⟩, rfl⟩) : OpStep P l dt Q n a m D CB Fs V w0 c0 i := by
  intro b f w c x o' hJ hout hF hE ho K
  obtain rfl : o = o' := Option.some.inj (hi.symm.trans ho)
  obtain ⟨v0, ev0, sv0⟩ := r0.ev hJ hout hF hE K
  exact .pure d (hg.wanted hJ hF hE K) hd (by rw [hA]; trivial) hJ.gi (ex_len hop ht (ev0.trans (hz K sv0))) (by rw [hV]; rfl)
theorem run_not {P : Program} {w : World} (b : Bool) : (Op.unary .not (.bool b)).run P w = .ok (.bool (!b)) w := by
  simp [Op.unary, go_sem]
/-- The load of a box; of a field of a box whose address the region has made. -/
theorem sLb (d : Nat) {o : Oper} {g t nc mm : Nat} {τ : TyC} {ty : TypeId} (r0 : XA n l dt m D i) (k : Nat) (hA : Agg P ty mm) (hs : τ.str mm) (hi : nthL l i = some o := by rfl) (hop : o.op = .load ty r0.r.opd := by rfl) (hd : o.dst = some d := by rfl) (hk : nthR Fs k = .s (Fact.box g t nc τ) := by rfl) (ha : ∀ v, r0.r.W v = .pointer (some ⟨g, 0, none⟩) := by exact fun _ => rfl) (hA' : Fs.filter (aff [] i (some d)) = [] := by rfl) (hV : V d = τ := by rfl) (hg : Gd l n dt V i o.guard := by first | exact trivial | exact ⟨rfl, _, ⟨rfl, rfl⟩, rfl⟩) : OpStep P l dt Q n a m D CB Fs V w0 c0 i := by
  intro b f w c x o' hJ hout hF hE ho K
  obtain rfl : o = o' := Option.some.inj (hi.symm.trans ho)
  obtain ⟨v0, ev0, sv0⟩ := r0.ev hJ hout hF hE K
  obtain ⟨u, h1, h2⟩ := BoxC.load (K.fac.box k hk) hA hs
  exact .pure d (hg.wanted hJ hF hE K) hd (by rw [hA']; trivial) hJ.gi (ex_load hop (ev0.trans (ha v0)) h1) (by rw [hV]; exact h2)
theorem sLf (d : Nat) {o : Oper} {ad : Addr} {ty : TypeId} (r0 : XA n l dt m D i) (L : ∀ {b : BB} {f : FF} {w : World} {c : Colr}, Kx dt w0 c0 CB Fs i b f w c → ∃ u, (loadVar ty ad).run P w = .ok u w ∧ (V d).sat u w c) (hi : nthL l i = some o := by rfl) (hop : o.op = .load ty r0.r.opd := by rfl) (hd : o.dst = some d := by rfl) (hz : ∀ w c v, r0.r.T V w c v → r0.r.W v = .pointer (some ad) := by first | exact fun _ _ _ h => h | exact fun _ _ _ _ => rfl) (hA' : Fs.filter (aff [] i (some d)) = [] := by rfl) (hg : Gd l n dt V i o.guard := by first | exact trivial | exact ⟨rfl, _, ⟨rfl, rfl⟩, rfl⟩) : OpStep P l dt Q n a m D CB Fs V w0 c0 i := by
  intro b f w c x o' hJ hout hF hE ho K
  obtain rfl : o = o' := Option.some.inj (hi.symm.trans ho)
  obtain ⟨v0, ev0, sv0⟩ := r0.ev hJ hout hF hE K
  obtain ⟨u, h1, h2⟩ := L K
  exact .pure d (hg.wanted hJ hF hE K) hd (by rw [hA']; trivial) hJ.gi (ex_load hop (ev0.trans (hz w c v0 sv0)) h1) h2

abbrev iE (x : Int) : TyC := TyC.eq (.int .i64 x)
abbrev bE (x : Bool) : TyC := TyC.eq (.bool x)
abbrev uE : TyC := TyC.eq undef
abbrev PT : TyC := TyC.ptr
abbrev pE (g k : Nat) : TyC := TyC.eq (.pointer (some ⟨g, k, none⟩))
end
end Go.Col

namespace Go.Dig
set_option linter.unusedVariables false

/-- The value of digits in base B, the least significant one first. -/
def val (B : Nat) : List Nat → Nat
  | [] => 0
  | d :: l => d + B * val B l
@[simp] theorem val_nil (B : Nat) : val B [] = 0 := rfl
theorem val_cons (B d : Nat) (l : List Nat) : val B (d :: l) = d + B * val B l := rfl
theorem val_append (B : Nat) (a b : List Nat) : val B (a ++ b) = val B a + B ^ a.length * val B b := by
  induction a with
  | nil => simp
  | cons x a ih =>
    rw [List.cons_append, val_cons, ih, val_cons, List.length_cons, Nat.pow_succ, Nat.mul_add, ← Nat.mul_assoc, Nat.mul_comm (B ^ a.length) B]
    omega
theorem val_snoc (B : Nat) (a : List Nat) (d : Nat) : val B (a ++ [d]) = val B a + B ^ a.length * d := by
  rw [val_append, val_cons, val_nil, Nat.mul_zero, Nat.add_zero]
theorem val_take {B : Nat} {l : List Nat} {k d : Nat} (h : l[k]? = some d) : val B (l.take (k + 1)) = val B (l.take k) + B ^ k * d := by
  have hk := (List.getElem?_eq_some_iff.1 h).1
  rw [List.take_add_one, h, Option.toList_some, val_snoc, List.length_take, Nat.min_eq_left (by omega)]
theorem val_drop {B : Nat} {l : List Nat} {k d : Nat} (h : l[k]? = some d) : val B (l.drop k) = d + B * val B (l.drop (k + 1)) := by
  obtain ⟨hk, rfl⟩ := List.getElem?_eq_some_iff.1 h
  rw [List.drop_eq_getElem_cons hk, val_cons]
theorem val_split (B : Nat) (l : List Nat) (k : Nat) (hk : k ≤ l.length) : val B l = val B (l.take k) + B ^ k * val B (l.drop k) := by
  have := val_append B (l.take k) (l.drop k)
  rw [List.take_append_drop, List.length_take, Nat.min_eq_left hk] at this
  exact this
/-- Every digit is less than the base. -/
def Digs (B : Nat) (l : List Nat) : Prop := ∀ d ∈ l, d < B
theorem Digs.nil (B : Nat) : Digs B [] := fun d h => by simp at h
theorem Digs.cons {B d : Nat} {l : List Nat} (h : d < B) (hl : Digs B l) : Digs B (d :: l) := fun x hx => by
  rcases List.mem_cons.1 hx with rfl | hx
  · exact h
  · exact hl x hx
theorem Digs.snoc {B d : Nat} {l : List Nat} (hl : Digs B l) (h : d < B) : Digs B (l ++ [d]) := fun x hx => by
  rcases List.mem_append.1 hx with hx | hx
  · exact hl x hx
  · simp at hx; omega
theorem Digs.app {B : Nat} {a b : List Nat} (ha : Digs B a) (hb : Digs B b) : Digs B (a ++ b) := fun x hx => (List.mem_append.1 hx).elim (ha x) (hb x)
theorem Digs.take {B : Nat} {l : List Nat} (h : Digs B l) (k : Nat) : Digs B (l.take k) := fun x hx => h x (List.mem_of_mem_take hx)
theorem Digs.drop {B : Nat} {l : List Nat} (h : Digs B l) (k : Nat) : Digs B (l.drop k) := fun x hx => h x (List.mem_of_mem_drop hx)
theorem Digs.at_ {B : Nat} {l : List Nat} (h : Digs B l) {k d : Nat} (hd : l[k]? = some d) : d < B := h d (List.mem_of_getElem? hd)
theorem Digs.set_ {B : Nat} {l : List Nat} (h : Digs B l) {k d : Nat} (hd : d < B) : Digs B (l.set k d) := fun x hx => by
  rcases List.mem_or_eq_of_mem_set hx with h1 | h1
  · exact h x h1
  · omega
theorem Digs.zeros {B : Nat} (hB : 1 ≤ B) (n : Nat) : Digs B (List.replicate n 0) := fun x hx => by
  have := (List.mem_replicate.1 hx).2; omega
theorem val_zeros (B n : Nat) : val B (List.replicate n 0) = 0 := by
  induction n with
  | zero => rfl
  | succ n ih => rw [List.replicate_succ, val_cons, ih]; simp
theorem val_lt {B : Nat} {l : List Nat} (h : Digs B l) : val B l < B ^ l.length := by
  induction l with
  | nil => simp
  | cons x l ih =>
    have h1 := ih (fun d hd => h d (by simp [hd]))
    have h2 := h x (by simp)
    rw [val_cons, List.length_cons, Nat.pow_succ]
    have h3 : B * (val B l + 1) ≤ B * B ^ l.length := Nat.mul_le_mul_left _ h1
    rw [Nat.mul_add, Nat.mul_comm B (B ^ l.length)] at h3
    omega
/-- No zero at the end. -/
def Trim (l : List Nat) : Prop := l.getLast? ≠ some 0
theorem Trim.nil : Trim [] := by simp [Trim]
theorem Trim.snoc {l : List Nat} {d : Nat} (h : d ≠ 0) : Trim (l ++ [d]) := by simp [Trim, h]
theorem Trim.drop {l : List Nat} (h : Trim l) (k : Nat) : Trim (l.drop k) := by
  unfold Trim at *
  rw [List.getLast?_drop]
  split
  · simp
  · exact h
/-- The list without the zeros at its end. -/
def trim : List Nat → List Nat
  | [] => []
  | d :: l => match trim l with
    | [] => if d = 0 then [] else [d]
    | x :: t => d :: x :: t
theorem trim_cons (d : Nat) (l : List Nat) : trim (d :: l) = if d = 0 ∧ trim l = [] then [] else d :: trim l := by
  rw [trim]
  split
  · rename_i h
    by_cases hd : d = 0 <;> simp [h, hd]
  · rename_i h
    simp [h]
theorem trim_snoc_zero (l : List Nat) : trim (l ++ [0]) = trim l := by
  induction l with
  | nil => rfl
  | cons x l ih => rw [List.cons_append, trim_cons, trim_cons, ih]
theorem trim_snoc_pos (l : List Nat) {d : Nat} (h : d ≠ 0) : trim (l ++ [d]) = l ++ [d] := by
  induction l with
  | nil => simp [trim, h]
  | cons x l ih => rw [List.cons_append, trim_cons, ih]; simp
theorem trim_Trim (l : List Nat) : Trim (trim l) := by
  induction l with
  | nil => exact Trim.nil
  | cons x l ih =>
    rw [trim_cons]
    split
    · exact Trim.nil
    · rename_i h
      unfold Trim at *
      cases hl : trim l with
      | nil => rw [hl] at h; simp at h ⊢; exact h
      | cons y t => rw [hl] at ih; simpa using ih
theorem val_trim (B : Nat) (l : List Nat) : val B (trim l) = val B l := by
  induction l with
  | nil => rfl
  | cons x l ih =>
    rw [trim_cons, val_cons]
    split
    · rename_i h
      rw [h.2] at ih
      rw [← ih, h.1]; simp
    · rw [val_cons, ih]
theorem trim_digs {B : Nat} {l : List Nat} (h : Digs B l) : Digs B (trim l) := by
  induction l with
  | nil => exact Digs.nil B
  | cons x l ih =>
    rw [trim_cons]
    split
    · exact Digs.nil B
    · exact Digs.cons (h x (by simp)) (ih (fun d hd => h d (by simp [hd])))
theorem trim_take (l : List Nat) : trim l = l.take (trim l).length := by
  induction l with
  | nil => rfl
  | cons x l ih =>
    rw [trim_cons]
    split
    · simp
    · rw [List.length_cons, List.take_succ_cons, ← ih]
theorem trim_len (l : List Nat) : (trim l).length ≤ l.length := by
  have := congrArg List.length (trim_take l)
  rw [List.length_take] at this
  omega
/-- One step of trimming, by the last digit of the first k. -/
theorem trim_step {l : List Nat} {k d : Nat} (h : l[k]? = some d) (hd : d = 0) : trim (l.take (k + 1)) = trim (l.take k) := by
  rw [List.take_add_one, h, Option.toList_some, hd, trim_snoc_zero]
theorem trim_stop {l : List Nat} {k d : Nat} (h : l[k]? = some d) (hd : d ≠ 0) : trim (l.take (k + 1)) = l.take (k + 1) := by
  rw [List.take_add_one, h, Option.toList_some, trim_snoc_pos _ hd]

/-- l is THE list of digits of n. -/
structure Num (B : Nat) (l : List Nat) (n : Nat) : Prop where
  digs : Digs B l
  trim : Trim l
  val : val B l = n
theorem Num.zero (B : Nat) : Num B [] 0 := ⟨Digs.nil B, Trim.nil, rfl⟩
theorem Num.of_trim {B : Nat} {l : List Nat} (h : Digs B l) : Num B (Dig.trim l) (Dig.val B l) := ⟨trim_digs h, trim_Trim l, val_trim B l⟩
theorem val_pos {B : Nat} {l : List Nat} (hB : 1 ≤ B) (h : Trim l) (hn : l ≠ []) : B ^ (l.length - 1) ≤ val B l := by
  rcases List.eq_nil_or_concat l with rfl | ⟨a, d, rfl⟩
  · exact absurd rfl hn
  · rw [List.concat_eq_append] at h ⊢
    have hd : d ≠ 0 := fun e => h (by simp [e])
    rw [val_snoc, List.length_append, List.length_singleton, Nat.add_sub_cancel]
    exact Nat.le_trans (Nat.le_mul_of_pos_right _ (by omega)) (Nat.le_add_left _ _)
theorem Num.nil_iff {B : Nat} {l : List Nat} {n : Nat} (hB : 1 ≤ B) (h : Num B l n) : l = [] ↔ n = 0 := by
  constructor
  · intro e; subst e; exact h.val.symm
  · intro e
    rcases Decidable.em (l = []) with h1 | h1
    · exact h1
    · have h2 := val_pos hB h.trim h1
      have h3 : 0 < B ^ (l.length - 1) := Nat.pow_pos hB
      rw [h.val] at h2; omega
theorem Num.len_lt {B : Nat} (hB : 2 ≤ B) {a b : List Nat} {m n : Nat} (ha : Num B a m) (hb : Num B b n) (h : a.length < b.length) : m < n := by
  have h1 := val_lt ha.digs
  have h2 := val_pos (B := B) (by omega) hb.trim (fun e => by simp [e] at h)
  rw [ha.val] at h1
  rw [hb.val] at h2
  exact Nat.lt_of_lt_of_le h1 (Nat.le_trans (Nat.pow_le_pow_right (by omega) (by omega)) h2)
/-- A number below B^k has at most k digits, and the other way round. -/
theorem Num.len_le {B : Nat} (hB : 2 ≤ B) {a : List Nat} {m k : Nat} (ha : Num B a m) (h : m < B ^ k) : a.length ≤ k := by
  rcases Decidable.em (a = []) with h1 | h1
  · simp [h1]
  · have h2 := val_pos (B := B) (by omega) ha.trim h1
    rw [ha.val] at h2
    rcases Nat.lt_or_ge k a.length with h3 | h3
    · have := Nat.pow_le_pow_right (n := B) (by omega) (show k ≤ a.length - 1 by omega)
      omega
    · exact h3
theorem Num.lt {B : Nat} {a : List Nat} {m k : Nat} (hB : 1 ≤ B) (ha : Num B a m) (h : a.length ≤ k) : m < B ^ k := by
  have := val_lt ha.digs
  rw [ha.val] at this
  exact Nat.lt_of_lt_of_le this (Nat.pow_le_pow_right hB h)
/-- The first difference from the top decides. -/
theorem val_lt_of {B : Nat} {a b : List Nat} (ha : Digs B a) (hl : a.length = b.length) {k x y : Nat} (hx : a[k]? = some x) (hy : b[k]? = some y) (hd : a.drop (k + 1) = b.drop (k + 1)) (h : x < y) : val B a < val B b := by
  have hk := (List.getElem?_eq_some_iff.1 hx).1
  rw [val_split B a (k + 1) (by omega), val_split B b (k + 1) (by omega), hd, val_take hx, val_take hy]
  have h1 := val_lt (ha.take k)
  rw [List.length_take, Nat.min_eq_left (by omega)] at h1
  have h2 : B ^ k * (x + 1) ≤ B ^ k * y := Nat.mul_le_mul_left _ h
  rw [Nat.mul_add] at h2
  omega
theorem drop_step {a b : List Nat} {k x : Nat} (hx : a[k]? = some x) (hy : b[k]? = some x) (hd : a.drop (k + 1) = b.drop (k + 1)) : a.drop k = b.drop k := by
  obtain ⟨h1, e1⟩ := List.getElem?_eq_some_iff.1 hx
  obtain ⟨h2, e2⟩ := List.getElem?_eq_some_iff.1 hy
  rw [List.drop_eq_getElem_cons h1, List.drop_eq_getElem_cons h2, e1, e2, hd]
theorem Num.uniq {B : Nat} (hB : 2 ≤ B) : ∀ {a b : List Nat} {n : Nat}, Num B a n → Num B b n → a = b := by
  intro a b n ha hb
  have hl : a.length = b.length := by
    rcases Nat.lt_trichotomy a.length b.length with h | h | h
    · have := Num.len_lt hB ha hb h; omega
    · exact h
    · have := Num.len_lt hB hb ha h; omega
  have hv : Dig.val B a = Dig.val B b := by rw [ha.val, hb.val]
  have key : ∀ k, k ≤ a.length → a.drop (a.length - k) = b.drop (a.length - k) := by
    intro k
    induction k with
    | zero => intro _; rw [Nat.sub_zero, List.drop_of_length_le (Nat.le_refl _), List.drop_of_length_le (by omega)]
    | succ k ih =>
      intro hk
      have h1 := ih (by omega)
      rw [show a.length - k = a.length - (k + 1) + 1 by omega] at h1
      have hx := List.getElem?_eq_getElem (l := a) (i := a.length - (k + 1)) (by omega)
      have hy := List.getElem?_eq_getElem (l := b) (i := a.length - (k + 1)) (by omega)
      rcases Nat.lt_trichotomy (a[a.length - (k + 1)]'(by omega)) (b[a.length - (k + 1)]'(by omega)) with h | h | h
      · have := val_lt_of ha.digs hl hx hy h1 h; omega
      · rw [← h] at hy; exact drop_step hx hy h1
      · have := val_lt_of hb.digs hl.symm hy hx h1.symm h; omega
  have := key a.length (Nat.le_refl _)
  simpa using this

/-- The cells of numbers. -/
def nv (k : IntKind) (l : List Nat) : List Value := l.map (fun n : Nat => Value.int k n)
@[simp] theorem nv_length (k : IntKind) (l : List Nat) : (nv k l).length = l.length := by simp [nv]
theorem nv_append (k : IntKind) (a b : List Nat) : nv k (a ++ b) = nv k a ++ nv k b := by simp [nv]
theorem nv_at {k : IntKind} {l : List Nat} {i : Nat} {u : Value} (h : (nv k l)[i]? = some u) : ∃ z, l[i]? = some z ∧ u = .int k (z : Nat) := by
  simp only [nv, List.getElem?_map, Option.map_eq_some_iff] at h
  obtain ⟨c, h1, h2⟩ := h
  exact ⟨c, h1, h2.symm⟩
theorem nv_one {k : IntKind} (l : List Nat) : ∀ u ∈ nv k l, u.oneCell' = true := by
  intro u hu
  obtain ⟨_, _, rfl⟩ := List.mem_map.1 hu
  rfl
theorem nv_take (k : IntKind) (l : List Nat) (i : Nat) : (nv k l).take i = nv k (l.take i) := by simp [nv, List.map_take]
theorem nv_drop (k : IntKind) (l : List Nat) (i : Nat) : (nv k l).drop i = nv k (l.drop i) := by simp [nv, List.map_drop]
theorem nv_set (k : IntKind) (l : List Nat) (i d : Nat) : (nv k l).set i (.int k (d : Nat)) = nv k (l.set i d) := by simp [nv, List.map_set]
end Go.Dig

namespace Go.Dig
set_option linter.unusedVariables false

/-- A digit, or 0 behind the last one. -/
def dg (l : List Nat) (i : Nat) : Nat := l[i]?.getD 0
theorem dg_some {l : List Nat} {i d : Nat} (h : l[i]? = some d) : dg l i = d := by simp [dg, h]
theorem dg_none {l : List Nat} {i : Nat} (h : l.length ≤ i) : dg l i = 0 := by simp [dg, List.getElem?_eq_none h]
theorem dg_lt {B : Nat} {l : List Nat} (h : Digs B l) (hB : 1 ≤ B) (i : Nat) : dg l i < B := by
  rcases Nat.lt_or_ge i l.length with h1 | h1
  · rw [dg_some (List.getElem?_eq_getElem h1)]; exact h _ (List.getElem_mem h1)
  · rw [dg_none h1]; omega
theorem val_take_dg (B : Nat) (l : List Nat) (k : Nat) : val B (l.take (k + 1)) = val B (l.take k) + B ^ k * dg l k := by
  rcases Nat.lt_or_ge k l.length with h | h
  · rw [val_take (List.getElem?_eq_getElem h), dg_some (List.getElem?_eq_getElem h)]
  · rw [dg_none h, List.take_of_length_le h, List.take_of_length_le (by omega)]; simp
theorem val_drop_dg (B : Nat) (l : List Nat) (k : Nat) : val B (l.drop k) = dg l k + B * val B (l.drop (k + 1)) := by
  rcases Nat.lt_or_ge k l.length with h | h
  · rw [val_drop (List.getElem?_eq_getElem h), dg_some (List.getElem?_eq_getElem h)]
  · rw [dg_none h, List.drop_of_length_le h, List.drop_of_length_le (by omega)]; simp
theorem val_set {B : Nat} {l : List Nat} {p d : Nat} (h : l[p]? = some d) (d' : Nat) : val B (l.set p d') + B ^ p * d = val B l + B ^ p * d' := by
  induction l generalizing p with
  | nil => simp at h
  | cons x l ih =>
    cases p with
    | zero =>
      simp only [List.getElem?_cons_zero, Option.some.injEq] at h
      subst h
      rw [List.set_cons_zero, val_cons, val_cons, Nat.pow_zero, Nat.one_mul, Nat.one_mul]
      omega
    | succ p =>
      simp only [List.getElem?_cons_succ] at h
      have := ih h
      rw [List.set_cons_succ, val_cons, val_cons, Nat.pow_succ]
      have e1 : B ^ p * B * d = B * (B ^ p * d) := by rw [Nat.mul_comm (B ^ p) B, Nat.mul_assoc]
      have e2 : B ^ p * B * d' = B * (B ^ p * d') := by rw [Nat.mul_comm (B ^ p) B, Nat.mul_assoc]
      rw [e1, e2]
      have := congrArg (fun t => B * t) this
      simp only [Nat.mul_add] at this
      omega

/-- The sum of the first i digits of a and b: digits o and a carry. -/
structure AddI (B : Nat) (a b : List Nat) (i : Nat) (o : List Nat) (c : Nat) : Prop where
  len : o.length = i
  digs : Digs B o
  carry : c ≤ 1
  eq : val B o + B ^ i * c = val B (a.take i) + val B (b.take i)
theorem AddI.start (B : Nat) (a b : List Nat) : AddI B a b 0 [] 0 := ⟨rfl, Digs.nil B, by omega, by simp⟩
theorem AddI.step {B : Nat} {a b : List Nat} {i : Nat} {o : List Nat} {c : Nat} (hB : 2 ≤ B) (ha : Digs B a) (hb : Digs B b) (h : AddI B a b i o c) :
    AddI B a b (i + 1) (o ++ [(dg a i + dg b i + c) % B]) ((dg a i + dg b i + c) / B) := by
  have h1 := dg_lt ha (by omega) i
  have h2 := dg_lt hb (by omega) i
  have h3 := h.carry
  refine ⟨by simp [h.len], h.digs.snoc (Nat.mod_lt _ (by omega)), ?_, ?_⟩
  · have : (dg a i + dg b i + c) / B < 2 := by rw [Nat.div_lt_iff_lt_mul (by omega)]; omega
    omega
  · rw [val_snoc, h.len, val_take_dg, val_take_dg, Nat.pow_succ, Nat.mul_assoc, Nat.add_assoc, ← Nat.mul_add, Nat.mod_add_div, Nat.mul_add, Nat.mul_add]
    have := h.eq
    omega
theorem AddI.done {B : Nat} {a b : List Nat} {i : Nat} {o : List Nat} (h : AddI B a b i o 0) (ha : a.length ≤ i) (hb : b.length ≤ i) : val B o = val B a + val B b := by
  have := h.eq
  rw [List.take_of_length_le ha, List.take_of_length_le hb] at this
  simpa using this

theorem AddI.carry0 {B : Nat} {a b : List Nat} {k m : Nat} {o : List Nat} {c : Nat} (hB : 2 ≤ B) (h : AddI B a b k o c) (ha : Digs B a) (hb : Digs B b) (hla : a.length ≤ m) (hlb : b.length ≤ m) (hk : m + 1 ≤ k) : c = 0 := by
  have e := h.eq
  rw [List.take_of_length_le (by omega), List.take_of_length_le (by omega)] at e
  have h1 := Nat.lt_of_lt_of_le (val_lt ha) (Nat.pow_le_pow_right (by omega) hla)
  have h2 := Nat.lt_of_lt_of_le (val_lt hb) (Nat.pow_le_pow_right (by omega) hlb)
  rcases Nat.eq_zero_or_pos c with h3 | h3
  · exact h3
  · exfalso
    have h4 : B ^ (m + 1) ≤ B ^ k * c := Nat.le_trans (Nat.pow_le_pow_right (by omega) hk) (Nat.le_mul_of_pos_right _ h3)
    rw [Nat.pow_succ] at h4
    have h5 : B ^ m * 2 ≤ B ^ m * B := Nat.mul_le_mul_left _ hB
    omega
/-- The difference of the first i digits: digits o and a borrow. -/
structure SubI (B : Nat) (a b : List Nat) (i : Nat) (o : List Nat) (r : Nat) : Prop where
  len : o.length = i
  digs : Digs B o
  borrow : r ≤ 1
  eq : val B o + val B (b.take i) = val B (a.take i) + B ^ i * r
theorem SubI.start (B : Nat) (a b : List Nat) : SubI B a b 0 [] 0 := ⟨rfl, Digs.nil B, by omega, by simp⟩
theorem SubI.step {B : Nat} {a b : List Nat} {i : Nat} {o : List Nat} {r v r' : Nat} (hB : 2 ≤ B) (ha : Digs B a) (hb : Digs B b) (h : SubI B a b i o r) (hv : v < B) (hr : r' ≤ 1) (he : v + dg b i + r = dg a i + B * r') :
    SubI B a b (i + 1) (o ++ [v]) r' := by
  refine ⟨by simp [h.len], h.digs.snoc hv, hr, ?_⟩
  rw [val_snoc, h.len, val_take_dg, val_take_dg, Nat.pow_succ, Nat.mul_assoc]
  have := h.eq
  have h2 : B ^ i * (v + dg b i + r) = B ^ i * (dg a i + B * r') := by rw [he]
  simp only [Nat.mul_add] at h2
  omega
theorem SubI.done {B : Nat} {a b : List Nat} {o : List Nat} {r : Nat} (hB : 1 ≤ B) (h : SubI B a b a.length o r) (hb : b.length ≤ a.length) (hle : val B b ≤ val B a) : val B o = val B a - val B b := by
  have := h.eq
  rw [List.take_of_length_le (Nat.le_refl _), List.take_of_length_le hb] at this
  have hlt := val_lt h.digs
  rw [h.len] at hlt
  have hr := h.borrow
  have hr0 : r = 0 ∨ r = 1 := by omega
  rcases hr0 with rfl | rfl
  · simp at this; omega
  · rw [Nat.mul_one] at this; omega

/-- A product: i whole rows, and k digits of the next. -/
structure MulI (B : Nat) (a b : List Nat) (i k : Nat) (o : List Nat) (c : Nat) : Prop where
  len : o.length = a.length + b.length
  digs : Digs B o
  zero : ∀ j d, i + b.length ≤ j → o[j]? = some d → d = 0
  carry : c < B
  eq : val B o + B ^ (i + k) * c = val B (a.take i) * val B b + B ^ i * (dg a i * val B (b.take k))
theorem MulI.start {B : Nat} (hB : 1 ≤ B) (a b : List Nat) : MulI B a b 0 0 (List.replicate (a.length + b.length) 0) 0 := by
  refine ⟨by simp, Digs.zeros hB _, fun j d _ h => ?_, by omega, ?_⟩
  · have := List.mem_of_getElem? h
    exact (List.mem_replicate.1 this).2
  · simp [val_zeros]
theorem MulI.step {B : Nat} {a b : List Nat} {i k : Nat} {o : List Nat} {c d : Nat} (hB : 1 ≤ B) (ha : Digs B a) (hb : Digs B b) (h : MulI B a b i k o c) (hk : k < b.length) (hd : o[i + k]? = some d) :
    (d + dg a i * dg b k + c) / B < B ∧ MulI B a b i (k + 1) (o.set (i + k) ((d + dg a i * dg b k + c) % B)) ((d + dg a i * dg b k + c) / B) := by
  have h1 := dg_lt ha hB i
  have h2 := dg_lt hb hB k
  have h3 := h.carry
  have h4 := h.digs.at_ hd
  have hlt : (d + dg a i * dg b k + c) / B < B := by
    rw [Nat.div_lt_iff_lt_mul (by omega)]
    have h5 : dg a i * dg b k ≤ (B - 1) * (B - 1) := Nat.mul_le_mul (by omega) (by omega)
    obtain ⟨m, rfl⟩ : ∃ m, B = m + 1 := ⟨B - 1, by omega⟩
    simp only [Nat.add_sub_cancel] at h5
    have h6 : (m + 1) * (m + 1) = m * m + m + m + 1 := by rw [Nat.mul_add, Nat.add_mul]; omega
    omega
  refine ⟨hlt, by simp [h.len], h.digs.set_ (Nat.mod_lt _ (by omega)), ?_, hlt, ?_⟩
  · intro j e hj he
    rw [List.getElem?_set_ne (by omega)] at he
    exact h.zero j e hj he
  · have h5 := val_set (B := B) hd ((d + dg a i * dg b k + c) % B)
    have h6 := h.eq
    rw [val_take_dg, Nat.mul_add, Nat.mul_add, ← Nat.add_assoc i k 1]
    have e1 : B ^ (i + k + 1) * ((d + dg a i * dg b k + c) / B) + B ^ (i + k) * ((d + dg a i * dg b k + c) % B) = B ^ (i + k) * (d + dg a i * dg b k + c) := by
      rw [Nat.pow_succ, Nat.mul_assoc, ← Nat.mul_add, Nat.div_add_mod]
    have e2 : B ^ i * (dg a i * (B ^ k * dg b k)) = B ^ (i + k) * (dg a i * dg b k) := by
      rw [Nat.pow_add, Nat.mul_assoc, Nat.mul_left_comm (dg a i)]
    rw [e2]
    simp only [Nat.mul_add] at e1
    omega
theorem MulI.row {B : Nat} {a b : List Nat} {i : Nat} {o : List Nat} {c : Nat} (hB : 1 ≤ B) (h : MulI B a b i b.length o c) (hi : i < a.length) : MulI B a b (i + 1) 0 (o.set (i + b.length) c) 0 := by
  have hd : o[i + b.length]? = some 0 := by
    have hl : i + b.length < o.length := by rw [h.len]; omega
    have h1 := List.getElem?_eq_getElem hl
    have h2 := h.zero _ _ (Nat.le_refl _) h1
    rw [h1, h2]
  refine ⟨by simp [h.len], h.digs.set_ h.carry, ?_, by omega, ?_⟩
  · intro j e hj he
    rw [List.getElem?_set_ne (by omega)] at he
    exact h.zero j e (by omega) he
  · have h5 := val_set (B := B) hd c
    have h6 := h.eq
    rw [List.take_of_length_le (Nat.le_refl b.length)] at h6
    rw [val_take_dg, List.take_zero, val_nil, Nat.mul_zero, Nat.mul_zero, Nat.mul_zero, Nat.add_mul, Nat.mul_assoc]
    rw [Nat.mul_zero] at h5
    omega
theorem MulI.done {B : Nat} {a b : List Nat} {i : Nat} {o : List Nat} {c : Nat} (h : MulI B a b a.length 0 o 0) : val B o = val B a * val B b := by
  have := h.eq
  rw [List.take_of_length_le (Nat.le_refl a.length), List.take_zero] at this
  simpa using this

/-- A sign and an amount, as an integer. -/
def sg (s : Bool) (m : Nat) : Int := if s then -(m : Int) else m
theorem sg_abs (s : Bool) (m : Nat) : (sg s m).natAbs = m := by unfold sg; split <;> omega
theorem sg_neg (s : Bool) (m : Nat) : decide (sg s m < 0) = (s && decide (0 < m)) := by
  unfold sg
  cases s <;> simp
theorem sg_of (z : Int) : sg (decide (z < 0)) z.natAbs = z := by
  unfold sg
  by_cases h : z < 0 <;> simp [h] <;> omega

/-- What comparing two numbers gives. -/
def cmpI (x y : Int) : Int := if x < y then -1 else if y < x then 1 else 0
theorem cmpI_lt {x y : Int} (h : x < y) : cmpI x y = -1 := by unfold cmpI; rw [if_pos h]
theorem cmpI_gt {x y : Int} (h : y < x) : cmpI x y = 1 := by unfold cmpI; rw [if_neg (by omega), if_pos h]
theorem cmpI_eq {x y : Int} (h : x = y) : cmpI x y = 0 := by unfold cmpI; rw [if_neg (by omega), if_neg (by omega)]

end Go.Dig

namespace Go.Proofs.YtbocpkjajocpiaaGreatDoor
set_option linter.unusedVariables false
open Go.RowKit Go.Mem Go.Dig

theorem elemU32 : Elem Tryz.prog 33 108 (.int .u32 0) 4 := Elem.mk' Tryz.underlying33 (by kernel_rfl) rfl

set_option maxHeartbeats 400000 in
theorem trim_any (A : Option Addr) (n c : Nat) (l : List Nat) (w : World) (hr : Rd w A n (nv .u32 l)) (hnc : n ≤ c) (hc : c ≤ 9223372036854775807) :
    Calls Tryz.prog 88 #[.slice A n c] w fun e w' => e = .returned (.slice A (Dig.trim l).length c) ∧ w = w' := by
  have hl : l.length = n := by have := hr.len; rwa [nv_length] at this
  obtain ⟨T, hT⟩ : ∃ T, (Dig.trim l).length = T := ⟨_, rfl⟩
  rw [hT]
  have H0 := Lib.hid (And.intro hl (And.intro hr hT))
  clear hl hr hT
  have hup := fun (k : Nat) (i : Int) (hi : i = (k : Int)) (m : Nat) (hk : k ≤ c) (W : World) => run_upto elemU32 .i64 A m c k i hi hk W
  have HUP := Lib.hid hup
  clear hup
  go_enter Tryz.func88, Tryz.ntmps88
  go_wp2
  go_loop [0] (fun v => ∃ k : Nat, v = .slice A k c ∧ k ≤ n ∧ Hid ((Dig.trim (l.take k)).length = T)) (fun v => match v with | .slice _ k _ => k | _ => 0)
  case atStart =>
    obtain ⟨hl, hr, hT⟩ := H0.out
    exact ⟨n, rfl, Nat.le_refl _, by show _ = _; rw [List.take_of_length_le (by omega), hT]⟩
  case round =>
    obtain ⟨k, rfl, hk, HK⟩ := hrel
    by_cases h0 : k = 0
    · subst h0
      go_wp2
      go_ret
      have := HK.out
      simp [Dig.trim] at this
      rw [← this]
      exact ⟨rfl, rfl⟩
    · obtain ⟨j, rfl⟩ : ∃ j, k = j + 1 := ⟨k - 1, by omega⟩
      have hpos : decide ((0 : Int) < ((j + 1 : Nat) : Int)) = true := by simp
      obtain ⟨hl, hr, hT⟩ := H0.out
      obtain ⟨ad, u, rfl, hu, hcu⟩ := hr.at_ (show j < n by omega)
      obtain ⟨z, hz, rfl⟩ := nv_at hu
      have HZ := Lib.hid hz
      clear hl hr hT hu hz
      by_cases hz0 : z = 0
      · subst hz0
        have hup := HUP.out j ((j + 1 : Nat) - 1 : Int) (by omega) (j + 1) (by omega)
        go_wp2
        go_round
        case rel => exact ⟨j, rfl, by omega, by show _ = _; rw [← HK.out, trim_step HZ.out rfl]⟩
        case measure => simp
      · have hzb : ((z : Int) == 0) = false := by simp; omega
        go_wp2
        go_ret
        have := HK.out
        rw [trim_stop HZ.out hz0, List.length_take, Nat.min_eq_left (by have := H0.out.1; omega)] at this
        rw [← this]
        exact ⟨rfl, rfl⟩

theorem aggInt : Agg Tryz.prog 35 2 := ⟨_, Tryz.underlying35, rfl, by kernel_rfl⟩

set_option maxHeartbeats 400000 in
theorem made_any (s : Bool) (A : Option Addr) (n c : Nat) (l : List Nat) (w : World) (hr : Rd w A n (nv .u32 l)) (hnc : n ≤ c) (hc : c ≤ 9223372036854775807) :
    Calls Tryz.prog 107 #[.bool s, .slice A n c] w fun e w' => e = .returned (.agg #[.bool (s && decide (0 < (Dig.trim l).length)), .slice A (Dig.trim l).length c]) ∧ New w w' := by
  obtain ⟨T, hT⟩ : ∃ T, (Dig.trim l).length = T := ⟨_, rfl⟩
  rw [hT]
  have HR := Lib.hid (And.intro hr hT)
  clear hr hT
  have hfin : ∀ b : Bool, bodyPost Tryz.prog Tryz.f107 (fun e w' => e = .returned (.agg #[.bool b, .slice A T c]) ∧ New w w') .ret = bodyPost Tryz.prog Tryz.f107 (fun e w' => e = .returned (.agg #[.bool b, .slice A T c]) ∧ New w w') .ret := fun _ => rfl
  clear hfin
  cases s
  · rw [Bool.false_and]
    go_enter Tryz.func107, Tryz.ntmps107
    go_wp2_with fail
    refine (trim_any A n c l _ (HR.out.1.new ((Chg.refl _ _).alloc _)) hnc hc).mono ?_
    rintro e w1 ⟨rfl, rfl⟩
    rw [HR.out.2]
    go_wp2
    exact bodyPost_ret (res_c rfl _ rfl (aggInt.load (Blk.new _ _ _))) rfl ⟨rfl, (Chg.refl _ w).alloc _⟩
  · rw [Bool.true_and]
    by_cases h0 : T = 0
    · rw [show decide (0 < T) = false by simp; omega]
      subst h0
      go_enter Tryz.func107, Tryz.ntmps107
      go_wp2_with fail
      refine (trim_any A n c l _ (HR.out.1.new ((Chg.refl _ _).alloc _)) hnc hc).mono ?_
      rintro e w1 ⟨rfl, rfl⟩
      rw [HR.out.2]
      go_wp2
      exact bodyPost_ret (res_c rfl _ rfl (aggInt.load (Blk.new _ _ _))) rfl ⟨rfl, (Chg.refl _ w).alloc _⟩
    · rw [show decide (0 < T) = true by simp; omega]
      have hpos : (0 : Int) < (T : Int) := by omega
      have hTpos : 0 < T := by omega
      go_enter Tryz.func107, Tryz.ntmps107
      go_wp2_with fail
      refine (trim_any A n c l _ (HR.out.1.new ((Chg.refl _ _).alloc _)) hnc hc).mono ?_
      rintro e w1 ⟨rfl, rfl⟩
      rw [HR.out.2]
      go_wp2
      exact bodyPost_ret (res_c rfl _ rfl (aggInt.load (Blk.new _ _ _))) rfl ⟨rfl, (Chg.refl _ w).alloc _⟩

/-- The amount m lies in a slice. -/
def WM (w : World) (A : Option Addr) (n c : Nat) (m : Nat) : Prop := ∃ l, Rd w A n (nv .u32 l) ∧ n ≤ c ∧ c ≤ 9223372036854775807 ∧ Num 4294967296 l m
theorem WM.new {w w' : World} {A : Option Addr} {n c m : Nat} (h : WM w A n c m) (hn : New w w') : WM w' A n c m := by
  obtain ⟨l, h1, h2⟩ := h
  exact ⟨l, h1.new hn, h2⟩
theorem WM.store {w w' : World} {A : Option Addr} {n c m g : Nat} {t : TypeId} {cs : Array Value} (h : WM w A n c m) (hb : Blk w g t cs) (hi : NoInt cs.toList) (hc : Chg (fun k => k = g) w w') : WM w' A n c m := by
  obtain ⟨l, h1, h2⟩ := h
  refine ⟨l, h1.store hb (fun u hu => ?_) hc, h2⟩
  obtain ⟨z, _, rfl⟩ := List.mem_map.1 hu
  exact hi _ _
theorem WM.zero (w : World) : WM w none 0 0 0 := ⟨[], Rd.nil _ _, Nat.le_refl _, by omega, Num.zero _⟩
theorem WM.pos {w : World} {A : Option Addr} {n c m : Nat} (h : WM w A n c m) : n = 0 ↔ m = 0 := by
  obtain ⟨l, h1, _, _, h4⟩ := h
  rw [← h4.nil_iff (by omega)]
  have := h1.len
  rw [nv_length] at this
  constructor
  · intro h; exact List.eq_nil_of_length_eq_zero (by omega)
  · intro h; subst h; simpa using this.symm
theorem WM.lt {w : World} {A : Option Addr} {n c m : Nat} (h : WM w A n c m) {k : Nat} (hk : n ≤ k) : m < 4294967296 ^ k := by
  obtain ⟨l, h1, _, _, h4⟩ := h
  exact h4.lt (by omega) (by have := h1.len; rw [nv_length] at this; omega)
theorem WM.len {w : World} {A : Option Addr} {n c m : Nat} (h : WM w A n c m) {k : Nat} (hk : m < 4294967296 ^ k) : n ≤ k := by
  obtain ⟨l, h1, _, _, h4⟩ := h
  have := h4.len_le (by omega) hk
  have := h1.len
  rw [nv_length] at this
  omega
/-- v is the wide.Int z. -/
def WI (w : World) (v : Value) (z : Int) : Prop := ∃ s A n c, v = .agg #[.bool s, .slice A n c] ∧ s = decide (z < 0) ∧ WM w A n c z.natAbs
theorem WI.new {w w' : World} {v : Value} {z : Int} (h : WI w v z) (hn : New w w') : WI w' v z := by
  obtain ⟨s, A, n, c, h1, h2, h3⟩ := h
  exact ⟨s, A, n, c, h1, h2, h3.new hn⟩
theorem WI.zero (w : World) : WI w (.agg #[.bool false, .slice none 0 0]) 0 := ⟨_, _, _, _, rfl, rfl, WM.zero w⟩
theorem WI.store {w w' : World} {v : Value} {z : Int} {g : Nat} {t : TypeId} {cs : Array Value} (h : WI w v z) (hb : Blk w g t cs) (hi : NoInt cs.toList) (hc : Chg (fun k => k = g) w w') : WI w' v z := by
  obtain ⟨s, A, n, c, h1, h2, h3⟩ := h
  exact ⟨s, A, n, c, h1, h2, h3.store hb hi hc⟩
theorem noInt_two (s : Bool) (A : Option Addr) (n c : Nat) : NoInt (#[Value.bool s, Value.slice A n c] : Array Value).toList := fun k z h => by simp at h
/-- made: the sign and any digits. -/
theorem made_wi (s : Bool) (A : Option Addr) (n c : Nat) (l : List Nat) (w : World) (hr : Rd w A n (nv .u32 l)) (hd : Digs 4294967296 l) (hnc : n ≤ c) (hc : c ≤ 9223372036854775807) :
    Calls Tryz.prog 107 #[.bool s, .slice A n c] w fun e w' => ∃ v, e = .returned v ∧ WI w' v (sg s (val 4294967296 l)) ∧ New w w' := by
  refine (made_any s A n c l w hr hnc hc).mono ?_
  rintro e w' ⟨rfl, hn⟩
  have hN := Num.of_trim hd
  have hll : l.length = n := by have := hr.len; rwa [nv_length] at this
  have hlen := trim_len l
  refine ⟨_, rfl, ⟨_, _, _, _, rfl, ?_, Dig.trim l, ?_, by omega, hc, ?_⟩, hn⟩
  · rw [sg_neg]
    congr 1
    rw [decide_eq_decide]
    have := hN.nil_iff (by omega)
    constructor
    · intro h
      rcases Nat.eq_zero_or_pos (val 4294967296 l) with h1 | h1
      · rw [this.2 h1] at h; simp at h
      · exact h1
    · intro h
      rcases Nat.eq_zero_or_pos (Dig.trim l).length with h1 | h1
      · have := this.1 (List.eq_nil_of_length_eq_zero h1); omega
      · exact h1
  · have := (hr.new hn).take (k := (Dig.trim l).length) (by omega)
    rw [nv_take, ← trim_take] at this
    exact this
  · rw [sg_abs]; exact hN

set_option maxRecDepth 100000 in
set_option maxHeartbeats 1000000 in
theorem cmpMag_any (A : Option Addr) (n c : Nat) (A' : Option Addr) (n' c' : Nat) (x y : Nat) (w : World) (hx : WM w A n c x) (hy : WM w A' n' c' y) :
    Calls Tryz.prog 94 #[.slice A n c, .slice A' n' c'] w fun e w' => e = .returned (.int .i64 (cmpI x y)) ∧ ∃ q, w' = w.drewN q := by
  obtain ⟨la, ha, hc1, hc2, hNa⟩ := hx
  obtain ⟨lb, hb, hd1, hd2, hNb⟩ := hy
  have hla : la.length = n := by have := ha.len; rwa [nv_length] at this
  have hlb : lb.length = n' := by have := hb.len; rwa [nv_length] at this
  rcases Nat.lt_trichotomy n n' with h | h | h
  · rw [cmpI_lt (by have := hNa.len_lt (by omega) hNb (by omega); omega)]
    have hne : ((n : Int) != (n' : Int)) = true := by simp; omega
    clear hla hlb ha hb hNa hNb
    go_enter Tryz.func94, Tryz.ntmps94
    go_wp2
    go_ret
    exact ⟨rfl, 0, rfl⟩
  · subst h
    obtain ⟨C, hC⟩ : ∃ C, cmpI x y = C := ⟨_, rfl⟩
    rw [hC]
    have H0 := Lib.hid (And.intro ha (And.intro hb (And.intro hNa (And.intro hNb (And.intro hla (And.intro hlb hC))))))
    clear ha hb hNa hNb hla hlb hC
    go_enter Tryz.func94, Tryz.ntmps94
    go_wp2
    go_loopw [5] (fun i wr => ∃ k : Nat, k ≤ n ∧ i = .int .i64 ((k : Int) - 1) ∧ Hid (la.drop k = lb.drop k) ∧ ∃ q, wr = w.drewN q) (fun i _ => (intOf i + 1).toNat)
    case atStart =>
      obtain ⟨ha, hb, hNa, hNb, hla, hlb, hC⟩ := H0.out
      exact ⟨n, Nat.le_refl _, rfl, by show _ = _; rw [List.drop_of_length_le (by omega), List.drop_of_length_le (by omega)], 0, rfl⟩
    case round =>
      obtain ⟨k, hk, rfl, HD, q, hq⟩ := hrel
      have hnew : New w wr := by rw [hq]; exact (Chg.refl _ w).drewN q
      have HQ := Lib.hid hq
      clear hq
      by_cases h0 : k = 0
      · subst h0
        go_wp2
        go_ret
        obtain ⟨ha, hb, hNa, hNb, hla, hlb, hC⟩ := H0.out
        have e := HD.out
        rw [List.drop_zero, List.drop_zero] at e
        rw [← hC, cmpI_eq (by rw [← hNa.val, ← hNb.val, e])]
        exact ⟨rfl, q, HQ.out⟩
      · obtain ⟨j, rfl⟩ : ∃ j, k = j + 1 := ⟨k - 1, by omega⟩
        obtain ⟨ha, hb, hNa, hNb, hla, hlb, hC⟩ := H0.out
        obtain ⟨ad, u, rfl, hu, hcu⟩ := (ha.new hnew).at_ (show j < n by omega)
        obtain ⟨bd, v, rfl, hv, hcv⟩ := (hb.new hnew).at_ (show j < n by omega)
        obtain ⟨p, hp, rfl⟩ := nv_at hu
        obtain ⟨r, hr, rfl⟩ := nv_at hv
        have HP := Lib.hid (And.intro hp hr)
        have hj1 : (((j + 1 : Nat) : Int) - 1) = (j : Int) := by omega
        rw [hj1]
        clear hj1 ha hb hNa hNb hla hlb hC hu hv hp hr hnew
        rcases Nat.lt_trichotomy p r with h | h | h
        · have hlt : (p : Int) < (r : Int) := by omega
          go_wp2
          go_quiet (fail)
          go_wp2
          go_ret
          obtain ⟨ha, hb, hNa, hNb, hla, hlb, hC⟩ := H0.out
          obtain ⟨hp, hr⟩ := HP.out
          have := val_lt_of hNa.digs (by omega) hp hr HD.out h
          rw [hNa.val, hNb.val] at this
          rw [← hC, cmpI_lt (by omega)]
          exact ⟨rfl, _, by rw [HQ.out, World.drewN_drewN]⟩
        · subst h
          have hlt : decide ((p : Int) < (p : Int)) = false := by simp
          go_wp2
          go_quiet (fail)
          go_wp2
          go_quiet (fail)
          go_wp2
          go_roundw
          case rel =>
            obtain ⟨hp, hr⟩ := HP.out
            exact ⟨j, by omega, by go_num, drop_step hp hr HD.out, _, by rw [HQ.out, World.drewN_drewN]⟩
          case measure => simp [intOf]
        · have hlt : decide ((p : Int) < (r : Int)) = false := by simp; omega
          have hgt : (r : Int) < (p : Int) := by omega
          go_wp2
          go_quiet (fail)
          go_wp2
          go_quiet (fail)
          go_wp2
          go_ret
          obtain ⟨ha, hb, hNa, hNb, hla, hlb, hC⟩ := H0.out
          obtain ⟨hp, hr⟩ := HP.out
          have := val_lt_of hNb.digs (by omega) hr hp HD.out.symm h
          rw [hNa.val, hNb.val] at this
          rw [← hC, cmpI_gt (by omega)]
          exact ⟨rfl, _, by rw [World.drewN_drewN, HQ.out, World.drewN_drewN]⟩
  · rw [cmpI_gt (by have := hNb.len_lt (by omega) hNa (by omega); omega)]
    have hne : ((n : Int) != (n' : Int)) = true := by simp; omega
    have hlt : decide ((n : Int) < (n' : Int)) = false := by simp; omega
    have hlt' : decide (n < n') = false := by simp; omega
    clear hla hlb ha hb hNa hNb
    go_enter Tryz.func94, Tryz.ntmps94
    go_wp2
    go_ret
    exact ⟨rfl, 0, rfl⟩
end Go.Proofs.YtbocpkjajocpiaaGreatDoor

namespace Go.Proofs.YtbocpkjajocpiaaGreatDoor
set_option linter.unusedVariables false
open Go.RowKit Go.Mem Go.Dig

theorem rd_lit2 {w : World} {a b g : Nat} {e : TypeId} (hg : g = w.heap.size) : Rd (w.alloc (.cells #[.int .u32 (a : Int), .int .u32 (b : Int)] e)) (some ⟨g, 0, none⟩) 2 (nv .u32 [a, b]) := by
  subst hg; exact Rd.lit (nv .u32 [a, b]) rfl

set_option maxHeartbeats 400000 in
theorem from_any (n : Int) (w : World) (h1 : -9223372036854775808 ≤ n) (h2 : n ≤ 9223372036854775807) :
    Calls Tryz.prog 50 #[.int .i64 n] w fun e w' => ∃ v, e = .returned v ∧ WI w' v n ∧ New w w' := by
  obtain ⟨M, hM⟩ : ∃ M : Nat, n.natAbs = M := ⟨_, rfl⟩
  have hv : val 4294967296 [M % 4294967296, M / 4294967296] = M := by simp only [val_cons, val_nil]; omega
  have hdg : Digs 4294967296 [M % 4294967296, M / 4294967296] := Digs.cons (by omega) (Digs.cons (by omega) (Digs.nil _))
  by_cases h : n < 0
  · obtain rfl : n = -(M : Int) := by omega
    have hw : IntKind.u64.wrap (-IntKind.u64.wrap (-(M : Int))) = (M : Int) := by rw [IntKind.wrap_u64, IntKind.wrap_u64]; omega
    have H := Lib.hid (And.intro hv hdg)
    have hMb : M ≤ 9223372036854775808 := by omega
    clear hM hv hdg
    go_enter Tryz.func50, Tryz.ntmps50
    go_wp2_with fail
    rw [show ((M : Int) % 4294967296) = ((M % 4294967296 : Nat) : Int) by omega, show ((M : Int) / 4294967296) = ((M / 4294967296 : Nat) : Int) by omega]
    obtain ⟨hv, hdg⟩ := H.out
    have hb0 := Blk.new w 35 #[.bool false, .slice none 0 0]
    have hn0 : New w ((w.alloc (.cells #[.bool false, .slice none 0 0] 35)).alloc (.cells #[.int .u32 ((M % 4294967296 : Nat) : Int), .int .u32 ((M / 4294967296 : Nat) : Int)] 108)) := ((Chg.refl _ w).alloc _).alloc _
    refine (made_wi true _ 2 2 [M % 4294967296, M / 4294967296] _ (rd_lit2 (by simp)) hdg (by omega) (by omega)).mono ?_
    rintro e w1 ⟨v, rfl, hwi, hn1⟩
    rw [hv] at hwi
    have hb1 := (hb0.alloc (.cells #[.int .u32 ((M % 4294967296 : Nat) : Int), .int .u32 ((M / 4294967296 : Nat) : Int)] 108)).chg hn1 (fun h => h)
    obtain ⟨s, A, k, c, rfl, hs, hwm⟩ := hwi
    have hc0 := hb1.cell 0 rfl
    have hc1 := hb1.cell 1 rfl
    have hf0 := hb1.frozen 0
    have hf1 := hb1.frozen 1
    have H1 := Lib.hid (And.intro hb1 (And.intro (hn0.new hn1) (And.intro hs hwm)))
    clear hv hdg hb0 hn0 hn1 hb1 hs hwm hw H
    go_wp2
    obtain ⟨hb1, hn1, hs, hwm⟩ := H1.out
    have hn2 : New w ((w1.setCell ⟨w.heap.size, 0, none⟩ (.bool s)).setCell ⟨w.heap.size, 1, none⟩ (.slice A k c)) := (hn1.setCell (fun h => absurd h (by simp)) _).setCell (fun h => absurd h (by simp)) _
    refine bodyPost_ret (res_c rfl _ rfl (aggInt.load (hb1.set2 _ _))) rfl ⟨_, rfl, ⟨s, A, k, c, rfl, hs, ?_⟩, hn2⟩
    exact hwm.store hb1 (noInt_two _ _ _ _) (Chg.at2 _ _ _ _)
  · obtain rfl : n = (M : Int) := by omega
    have hd : decide ((M : Int) < 0) = false := by simp
    have H := Lib.hid (And.intro hv hdg)
    clear hM hv hdg
    go_enter Tryz.func50, Tryz.ntmps50
    go_wp2_with fail
    rw [show ((M : Int) % 4294967296) = ((M % 4294967296 : Nat) : Int) by omega, show ((M : Int) / 4294967296) = ((M / 4294967296 : Nat) : Int) by omega]
    obtain ⟨hv, hdg⟩ := H.out
    have hb0 := Blk.new w 35 #[.bool false, .slice none 0 0]
    have hn0 : New w ((w.alloc (.cells #[.bool false, .slice none 0 0] 35)).alloc (.cells #[.int .u32 ((M % 4294967296 : Nat) : Int), .int .u32 ((M / 4294967296 : Nat) : Int)] 108)) := ((Chg.refl _ w).alloc _).alloc _
    refine (made_wi false _ 2 2 [M % 4294967296, M / 4294967296] _ (rd_lit2 (by simp)) hdg (by omega) (by omega)).mono ?_
    rintro e w1 ⟨v, rfl, hwi, hn1⟩
    rw [hv] at hwi
    have hb1 := (hb0.alloc (.cells #[.int .u32 ((M % 4294967296 : Nat) : Int), .int .u32 ((M / 4294967296 : Nat) : Int)] 108)).chg hn1 (fun h => h)
    obtain ⟨s, A, k, c, rfl, hs, hwm⟩ := hwi
    have hc0 := hb1.cell 0 rfl
    have hc1 := hb1.cell 1 rfl
    have hf0 := hb1.frozen 0
    have hf1 := hb1.frozen 1
    have H1 := Lib.hid (And.intro hb1 (And.intro (hn0.new hn1) (And.intro hs hwm)))
    clear hv hdg hb0 hn0 hn1 hb1 hs hwm H
    go_wp2
    obtain ⟨hb1, hn1, hs, hwm⟩ := H1.out
    have hn2 : New w ((w1.setCell ⟨w.heap.size, 0, none⟩ (.bool s)).setCell ⟨w.heap.size, 1, none⟩ (.slice A k c)) := (hn1.setCell (fun h => absurd h (by simp)) _).setCell (fun h => absurd h (by simp)) _
    refine bodyPost_ret (res_c rfl _ rfl (aggInt.load (hb1.set2 _ _))) rfl ⟨_, rfl, ⟨s, A, k, c, rfl, hs, ?_⟩, hn2⟩
    exact hwm.store hb1 (noInt_two _ _ _ _) (Chg.at2 _ _ _ _)
set_option maxHeartbeats 400000 in
theorem compare_any (v v' : Value) (x y : Int) (w : World) (hx : WI w v x) (hy : WI w v' y) :
    Calls Tryz.prog 25 #[v, v'] w fun e w' => e = .returned (.int .i64 (cmpI x y)) ∧ New w w' := by
  obtain ⟨s, A, n, c, rfl, hs, hm⟩ := hx
  obtain ⟨s', A', n', c', rfl, hs', hm'⟩ := hy
  have H := Lib.hid (And.intro hs (And.intro hm (And.intro hs' hm')))
  clear hs hs' hm hm'
  cases s <;> cases s'
  · go_enter Tryz.func25, Tryz.ntmps25
    go_wp2_with fail
    obtain ⟨hs, hm, hs', hm'⟩ := H.out
    have hn0 : New w ((w.alloc (.cells #[.bool false, .slice A n c] 35)).alloc (.cells #[.bool false, .slice A' n' c'] 35)) := ((Chg.refl _ w).alloc _).alloc _
    refine (cmpMag_any A n c A' n' c' x.natAbs y.natAbs _ (hm.new hn0) (hm'.new hn0)).mono ?_
    rintro e w1 ⟨rfl, q, hq⟩
    have h1 : ¬ x < 0 := by simpa using hs.symm
    have h2 : ¬ y < 0 := by simpa using hs'.symm
    rw [show ((x.natAbs : Nat) : Int) = x by omega, show ((y.natAbs : Nat) : Int) = y by omega]
    have H1 := Lib.hid (show New w w1 by rw [hq]; exact hn0.drewN q)
    clear hs hm hs' hm' hn0 hq h1 h2
    go_wp2
    go_ret
    exact ⟨rfl, H1.out⟩
  · go_enter Tryz.func25, Tryz.ntmps25
    go_wp2
    go_ret
    obtain ⟨hs, hm, hs', hm'⟩ := H.out
    have h1 : ¬ x < 0 := by simpa using hs.symm
    have h2 : y < 0 := by simpa using hs'.symm
    exact ⟨by rw [cmpI_gt (by omega)]; rfl, ((Chg.refl _ w).alloc _).alloc _⟩
  · go_enter Tryz.func25, Tryz.ntmps25
    go_wp2
    go_ret
    obtain ⟨hs, hm, hs', hm'⟩ := H.out
    have h1 : x < 0 := by simpa using hs.symm
    have h2 : ¬ y < 0 := by simpa using hs'.symm
    exact ⟨by rw [cmpI_lt (by omega)]; rfl, ((Chg.refl _ w).alloc _).alloc _⟩
  · go_enter Tryz.func25, Tryz.ntmps25
    go_wp2_with fail
    obtain ⟨hs, hm, hs', hm'⟩ := H.out
    have hn0 : New w ((w.alloc (.cells #[.bool true, .slice A n c] 35)).alloc (.cells #[.bool true, .slice A' n' c'] 35)) := ((Chg.refl _ w).alloc _).alloc _
    refine (cmpMag_any A' n' c' A n c y.natAbs x.natAbs _ (hm'.new hn0) (hm.new hn0)).mono ?_
    rintro e w1 ⟨rfl, q, hq⟩
    have h1 : x < 0 := by simpa using hs.symm
    have h2 : y < 0 := by simpa using hs'.symm
    rw [show cmpI ((y.natAbs : Nat) : Int) ((x.natAbs : Nat) : Int) = cmpI x y by
      rw [show ((y.natAbs : Nat) : Int) = -y by omega, show ((x.natAbs : Nat) : Int) = -x by omega]
      unfold cmpI
      repeat' split
      all_goals omega]
    have H1 := Lib.hid (show New w w1 by rw [hq]; exact hn0.drewN q)
    clear hs hm hs' hm' hn0 hq h1 h2
    go_wp2
    go_ret
    exact ⟨rfl, H1.out⟩

set_option maxHeartbeats 400000 in
theorem sign_any (v : Value) (x : Int) (w : World) (hx : WI w v x) :
    Calls Tryz.prog 24 #[v] w fun e w' => e = .returned (.int .i64 (cmpI x 0)) ∧ New w w' := by
  obtain ⟨s, A, n, c, rfl, hs, hm⟩ := hx
  have H := Lib.hid (And.intro hs hm)
  clear hs hm
  go_enter Tryz.func24, Tryz.ntmps24
  go_wp2_with fail
  have hn0 : New w (w.alloc (.cells #[.bool s, .slice A n c] 35)) := (Chg.refl _ w).alloc _
  refine (compare_any _ _ x 0 _ (WI.new ⟨s, A, n, c, rfl, H.out⟩ hn0) (WI.zero _)).mono ?_
  rintro e w1 ⟨rfl, hn1⟩
  have H1 := Lib.hid (hn0.new hn1)
  clear hn0 hn1
  go_wp2
  go_ret
  exact ⟨rfl, H1.out⟩

set_option maxHeartbeats 400000 in
theorem neg_any (v : Value) (x : Int) (w : World) (hx : WI w v x) :
    Calls Tryz.prog 99 #[v] w fun e w' => ∃ v, e = .returned v ∧ WI w' v (-x) ∧ New w w' := by
  obtain ⟨s, A, n, c, rfl, hs, l, hr, hnc, hcm, hN⟩ := hx
  have H := Lib.hid (And.intro hs (And.intro hr hN))
  clear hs hr hN
  go_enter Tryz.func99, Tryz.ntmps99
  go_wp2_with fail
  obtain ⟨hs, hr, hN⟩ := H.out
  have hb0 := Blk.new (w.alloc (.cells #[.bool s, .slice A n c] 35)) 35 #[.bool false, .slice none 0 0]
  rw [World.size_alloc] at hb0
  have hn0 : New w ((w.alloc (.cells #[.bool s, .slice A n c] 35)).alloc (.cells #[.bool false, .slice none 0 0] 35)) := ((Chg.refl _ w).alloc _).alloc _
  refine (made_wi (!s) A n c l _ (hr.new hn0) hN.digs hnc hcm).mono ?_
  rintro e w1 ⟨v, rfl, hwi, hn1⟩
  have hval : sg (!s) (val 4294967296 l) = -x := by
    rw [hN.val, hs]
    unfold sg
    by_cases h : x < 0 <;> simp [h] <;> omega
  rw [hval] at hwi
  have hb1 := hb0.chg hn1 (fun h => h)
  obtain ⟨s', A', n', c', rfl, hs', hwm⟩ := hwi
  have hc0 := hb1.cell 0 rfl
  have hc1 := hb1.cell 1 rfl
  have hf0 := hb1.frozen 0
  have hf1 := hb1.frozen 1
  have H1 := Lib.hid (And.intro hb1 (And.intro (hn0.new hn1) (And.intro hs' hwm)))
  clear hb0 hn0 hn1 hb1 hs' hwm H hs hr hN hval
  go_wp2
  obtain ⟨hb1, hn1, hs, hwm⟩ := H1.out
  refine bodyPost_ret (res_c rfl _ rfl (aggInt.load (hb1.set2 _ _))) rfl ⟨_, rfl, ⟨s', A', n', c', rfl, hs, ?_⟩, ?_⟩
  · exact hwm.store hb1 (noInt_two _ _ _ _) (Chg.at2 _ _ _ _)
  · exact Chg.owned hn1 (Chg.at2 _ _ _ _) (fun k e => by omega)
end Go.Proofs.YtbocpkjajocpiaaGreatDoor

namespace Go.Proofs.YtbocpkjajocpiaaGreatDoor
set_option linter.unusedVariables false
open Go.RowKit Go.Mem Go.Dig

/-- trim of digits: an amount. -/
theorem trim_wm (A : Option Addr) (n c : Nat) (l : List Nat) (w : World) (hr : Rd w A n (nv .u32 l)) (hd : Digs 4294967296 l) (hnc : n ≤ c) (hc : c ≤ 9223372036854775807) :
    Calls Tryz.prog 88 #[.slice A n c] w fun e w' => ∃ T, e = .returned (.slice A T c) ∧ Hid (WM w A T c (val 4294967296 l) ∧ T ≤ n) ∧ w = w' := by
  refine (trim_any A n c l w hr hnc hc).mono ?_
  rintro e w' ⟨rfl, rfl⟩
  have hll : l.length = n := by have := hr.len; rwa [nv_length] at this
  have hlen := trim_len l
  refine ⟨_, rfl, ⟨⟨Dig.trim l, ?_, by omega, hc, Num.of_trim hd⟩, by omega⟩, rfl⟩
  have := hr.take (k := (Dig.trim l).length) (by omega)
  rwa [nv_take, ← trim_take] at this

set_option maxRecDepth 100000 in
set_option maxHeartbeats 4000000 in
theorem mulMag_any (A : Option Addr) (n c : Nat) (A' : Option Addr) (n' c' : Nat) (x y : Nat) (w : World) (hx : WM w A n c x) (hy : WM w A' n' c' y) (hn : n ≤ 1000000) (hn' : n' ≤ 1000000) :
    Calls Tryz.prog 77 #[.slice A n c, .slice A' n' c'] w fun e w' => ∃ R m d, e = .returned (.slice R m d) ∧ Hid (WM w' R m d (x * y) ∧ (∀ k, blk R = some k → w.heap.size ≤ k) ∧ New w w') := by
  obtain ⟨la, ha, hc1, hc2, hNa⟩ := hx
  obtain ⟨lb, hb, hd1, hd2, hNb⟩ := hy
  have hla : la.length = n := by have := ha.len; rwa [nv_length] at this
  have hlb : lb.length = n' := by have := hb.len; rwa [nv_length] at this
  have H0 := Lib.hid (And.intro ha (And.intro hb (And.intro hNa (And.intro hNb (And.intro hla hlb)))))
  clear ha hb hNa hNb hla hlb
  go_enter Tryz.func77, Tryz.ntmps77
  go_wp2_with (at_make; refine wpList_mk elemU32 rfl rfl _ _ rfl (n := n + n') rfl rfl (by omega) (by omega) (by omega) (by simp only [maxLen]; omega) ?_; intro w1 hown hg hz; have HMK := Lib.hid (And.intro hown (And.intro hg hz)); clear hown hg hz)
  obtain ⟨ho, hnw, hz⟩ := HMK.out
  rw [show List.replicate (n + n') (Value.int .u32 0) = nv .u32 (List.replicate (n + n') 0) by simp [nv]] at ho
  obtain ⟨g, hgq⟩ : ∃ g, w.heap.size = g := ⟨_, rfl⟩
  rw [hgq] at ho
  have HG := Lib.hid hgq
  have HW := Lib.hid (And.intro hnw ho)
  simp only [hgq]
  clear hgq hnw ho hz HMK
  go_loopw [19] (fun i wr => ∃ k : Nat, ∃ o, i = .int .i64 k ∧ k ≤ n ∧ Hid (MulI 4294967296 la lb k 0 o 0 ∧ wr.ownsRow g 108 1 (.slice (some ⟨g, 0, none⟩) (n + n') (n + n')) (n + n') (nv .u32 o) ∧ Chg (fun j => j = g) w1 wr)) (fun i _ => n - (intOf i).toNat)
  case atStart =>
    obtain ⟨ha, hb, hNa, hNb, hla, hlb⟩ := H0.out
    refine ⟨0, List.replicate (n + n') 0, rfl, by omega, ?_, HW.out.2, Chg.refl _ _⟩
    have := MulI.start (B := 4294967296) (by omega) la lb
    rwa [hla, hlb] at this
  case round =>
    obtain ⟨i, o, rfl, hi, HO⟩ := hrel
    by_cases hlt : i < n
    · obtain ⟨ha, hb, hNa, hNb, hla, hlb⟩ := H0.out
      have hchg : Chg (fun j => j = g) w wr := (HW.out.1.mono (fun _ _ h => h.elim)).trans HO.out.2.2 (fun _ _ h => h)
      obtain ⟨ad, u, rfl, hu, hcu⟩ := (ha.chg hchg (fun k _ h e => by have := HG.out; omega)).at_ hlt
      obtain ⟨p, hp, rfl⟩ := nv_at hu
      have hpb := hNa.digs.at_ hp
      have HP := Lib.hid hp
      clear ha hb hNa hNb hla hlb hchg hu hp
      go_wp2_with fail
      go_loopw [8, 26] (fun u v wr => ∃ k cr : Nat, ∃ o, u = .int .u64 cr ∧ v = .int .i64 k ∧ k ≤ n' ∧ cr < 4294967296 ∧ Hid (MulI 4294967296 la lb i k o cr ∧ wr.ownsRow g 108 1 (.slice (some ⟨g, 0, none⟩) (n + n') (n + n')) (n + n') (nv .u32 o) ∧ Chg (fun j => j = g) w1 wr)) (fun _ v _ => n' - (intOf v).toNat)
      case atStart => exact ⟨0, 0, o, rfl, rfl, by omega, by omega, HO.out⟩
      case round =>
        obtain ⟨wo, rfl⟩ : ∃ wo : World, wo = wr := ⟨_, rfl⟩
        obtain ⟨k, cr, o, rfl, rfl, hk, hcr, HI⟩ := hrel
        by_cases hlk : k < n'
        · obtain ⟨ha, hb, hNa, hNb, hla, hlb⟩ := H0.out
          have hchg : Chg (fun j => j = g) w wo := (HW.out.1.mono (fun _ _ h => h.elim)).trans HI.out.2.2 (fun _ _ h => h)
          obtain ⟨bd, v, rfl, hv, hcv⟩ := (hb.chg hchg (fun k _ h e => by have := HG.out; omega)).at_ hlk
          obtain ⟨r, hr, rfl⟩ := nv_at hv
          have hol : o.length = n + n' := by rw [HI.out.1.len, hla, hlb]
          obtain ⟨d, hd⟩ : ∃ d, o[i + k]? = some d := ⟨_, List.getElem?_eq_getElem (by omega)⟩
          have hcd := own_cell HI.out.2.1 (i := i + k) (u := .int .u32 (d : Nat)) (by rw [nv, List.getElem?_map, hd]; rfl)
          have hdb := HI.out.1.digs.at_ hd
          have hrb := hNb.digs.at_ hr
          have hst := HI.out.1.step (by omega) hNa.digs hNb.digs (by omega) hd
          rw [dg_some HP.out, dg_some hr] at hst
          obtain ⟨gg, hgg, _, hgs, hfz⟩ := own_form HI.out.2.1 (by omega)
          have hgg' : g = gg := by simpa using hgg
          subst hgg'
          have hf := hfz (i + k)
          obtain ⟨m, hm⟩ : ∃ m, p * r = m := ⟨_, rfl⟩
          have hmb : m ≤ 18446744065119617025 := by
            rw [← hm]
            exact Nat.le_trans (Nat.mul_le_mul (show p ≤ 4294967295 by omega) (show r ≤ 4294967295 by omega)) (by decide)
          have hmi : (p : Int) * (r : Int) = (m : Int) := by rw [← hm]; simp
          rw [hm] at hst
          obtain ⟨v, hv⟩ : ∃ v, d + m + cr = v := ⟨_, rfl⟩
          rw [hv] at hst
          have hvi : (cr : Int) + ((m : Int) + (d : Int)) = (v : Int) := by omega
          have hvb : v ≤ 18446744073709551615 := by omega
          have HS := Lib.hid hst
          have hik : (i : Int) + (k : Int) < (n : Int) + (n' : Int) := by omega
          clear ha hb hNa hNb hla hlb hchg hr hol hd hst hgg hfz hm
          go_wp2
          go_roundw
          case rel =>
            have ho3 := own_set HI.out.2.1 (i + k) (.int .u32 ((v % 4294967296 : Nat) : Int)) (by omega)
            rw [nv_set] at ho3
            refine ⟨k + 1, v / 4294967296, o.set (i + k) (v % 4294967296), congrArg (Value.int .u64) (by omega), by go_num, by omega, HS.out.1, HS.out.2, ?_, ?_⟩
            · rw [show ((v : Int) % 4294967296) = ((v % 4294967296 : Nat) : Int) by omega]; exact ho3
            · exact HI.out.2.2.setCell (fun _ => rfl) _
          case measure => simp [intOf]; omega
        · obtain rfl : n' = k := by omega
          obtain ⟨ha, hb, hNa, hNb, hla, hlb⟩ := H0.out
          have hol : o.length = n + n' := by rw [HI.out.1.len, hla, hlb]
          obtain ⟨d, hd⟩ : ∃ d, o[i + n']? = some d := ⟨_, List.getElem?_eq_getElem (by omega)⟩
          have hcd := own_cell HI.out.2.1 (i := i + n') (u := .int .u32 (d : Nat)) (by rw [nv, List.getElem?_map, hd]; rfl)
          obtain ⟨gg, hgg, _, hgs, hfz⟩ := own_form HI.out.2.1 (by omega)
          have hgg' : g = gg := by simpa using hgg
          subst hgg'
          have hf := hfz (i + n')
          have hrow : MulI 4294967296 la lb (i + 1) 0 (o.set (i + n') cr) 0 := by
            have := HI.out.1
            rw [← hlb] at this ⊢
            exact this.row (by omega) (by omega)
          have HS := Lib.hid hrow
          have hik : (i : Int) + (n' : Int) < (n : Int) + (n' : Int) := by omega
          clear ha hb hNa hNb hla hlb hol hd hrow hgg hfz
          go_wp2
          go_roundw
          case rel =>
            have ho3 := own_set HI.out.2.1 (i + n') (.int .u32 (cr : Int)) (by omega)
            rw [nv_set] at ho3
            refine ⟨i + 1, o.set (i + n') cr, by go_num, by omega, HS.out, ho3, ?_⟩
            exact HI.out.2.2.setCell (fun _ => rfl) _
          case measure => simp [intOf]; omega
    · obtain rfl : n = i := by omega
      go_wp2_with fail
      obtain ⟨ha, hb, hNa, hNb, hla, hlb⟩ := H0.out
      have hval : val 4294967296 o = x * y := by
        have := HO.out.1
        rw [← hla] at this
        rw [this.done (i := 0) (c := 0), hNa.val, hNb.val]
      have hn1 : New w wr := HW.out.1.trans HO.out.2.2 (fun j hj e => by have := HG.out; omega)
      refine (trim_wm _ (n + n') (n + n') o wr (Rd.of_own HO.out.2.1) HO.out.1.digs (Nat.le_refl _) (by omega)).mono ?_
      rintro e w2 ⟨T, rfl, HT, rfl⟩
      have HF := Lib.hid (And.intro hval hn1)
      clear ha hb hNa hNb hla hlb hval hn1
      go_wp2
      go_ret
      obtain ⟨hval, hn1⟩ := HF.out
      have hT := HT.out.1
      rw [hval] at hT
      exact ⟨_, _, _, rfl, hT, fun k hk => by have := HG.out; simp [blk] at hk; omega, hn1⟩
end Go.Proofs.YtbocpkjajocpiaaGreatDoor

namespace Go.Proofs.YtbocpkjajocpiaaGreatDoor
set_option linter.unusedVariables false
open Go.RowKit Go.Mem Go.Dig

/-- The amounts in range lie below this one. -/
def powN (k : Nat) : Nat := 4294967296 ^ k
def topN : Nat := powN 512
/-- What is returned for z, and the error. -/
def rg (z : Int) : Int := if z.natAbs < topN then z else 0
def rgE (z : Int) : Int := if z.natAbs < topN then 0 else 4
theorem rg_in {z : Int} (h : z.natAbs < topN) : rg z = z ∧ rgE z = 0 := by unfold rg rgE; rw [if_pos h, if_pos h]; exact ⟨rfl, rfl⟩
theorem rg_out {z : Int} (h : ¬ z.natAbs < topN) : rg z = 0 ∧ rgE z = 4 := by unfold rg rgE; rw [if_neg h, if_neg h]; exact ⟨rfl, rfl⟩
theorem WM.powN {w : World} {A : Option Addr} {n c m : Nat} (h : WM w A n c m) (k : Nat) : n ≤ k ↔ m < powN k :=
  ⟨fun hn => h.lt (k := k) hn, fun hm => h.len (k := k) hm⟩
theorem WM.top {w : World} {A : Option Addr} {n c m : Nat} (h : WM w A n c m) : n ≤ 512 ↔ m < topN := h.powN 512

set_option maxRecDepth 100000 in
set_option maxHeartbeats 2000000 in
theorem ranged_any (s : Bool) (A : Option Addr) (n c : Nat) (l : List Nat) (w : World) (hr : Rd w A n (nv .u32 l)) (hd : Digs 4294967296 l) (hnc : n ≤ c) (hc : c ≤ 9223372036854775807) :
    Calls Tryz.prog 78 #[.bool s, .slice A n c] w fun e w' => ∃ s' A' n' c', e = .returned (.tuple #[.agg #[.bool s', .slice A' n' c'], .int .i64 (rgE (sg s (val 4294967296 l)))]) ∧ Hid (WI w' (.agg #[.bool s', .slice A' n' c']) (rg (sg s (val 4294967296 l))) ∧ New w w') := by
  obtain ⟨z, hz⟩ : ∃ z, sg s (val 4294967296 l) = z := ⟨_, rfl⟩
  rw [hz]
  have H0 := Lib.hid (And.intro hr (And.intro hd hz))
  clear hr hd hz
  obtain ⟨ER, hER⟩ : ∃ ER, rgE z = ER := ⟨_, rfl⟩
  obtain ⟨RG, hRG⟩ : ∃ RG, rg z = RG := ⟨_, rfl⟩
  rw [hER, hRG]
  have HE := Lib.hid (And.intro hER hRG)
  clear hER hRG
  go_enter Tryz.func78, Tryz.ntmps78
  go_wp2_with fail
  refine Calls.new1 ?_
  intro W1 hb1 hn1 hz1
  refine (made_wi s A n c l W1 (H0.out.1.new hn1) H0.out.2.1 hnc hc).mono ?_
  rintro e w2 ⟨v2, rfl, ⟨s2, A2, n2, c2, rfl, hs2, hm2⟩, hn2⟩
  rw [H0.out.2.2] at hs2 hm2
  have hb2 := hb1.chg hn2 (fun h => h)
  have k0 := hb2.cell 0 (u := .bool false) rfl
  have k1 := hb2.cell 1 (u := .slice none 0 0) rfl
  have f0 := hb2.frozen 0
  have f1 := hb2.frozen 1
  have hl2 : w.heap.size < w2.heap.size := hb2.lt
  have H2 := Lib.hid (And.intro hb2 (And.intro (hn1.new hn2) (And.intro hs2 hm2)))
  have htop := hm2.top
  clear hb1 hn1 hz1 hs2 hm2 hn2 hb2
  by_cases h5 : n2 ≤ 512
  · have hv := rg_in (htop.1 h5)
    rw [HE.out.1, HE.out.2] at hv
    obtain ⟨hv1, hv2⟩ := hv
    have HV := Lib.hid (And.intro hv1 hv2)
    have hd5 : decide ((512 : Int) < (n2 : Int)) = false := by simp; omega
    clear hv1 hv2 htop
    go_wp2
    obtain ⟨hb2, hn2, hs2, hm2⟩ := H2.out
    have hfin := (hb2.set2 (.bool s2) (.slice A2 n2 c2)).alloc (.cells #[.bool s2, .slice A2 n2 c2] 35)
    refine bodyPost_ret (res_ct rfl _ rfl (aggInt.load hfin) rfl) rfl ⟨s2, A2, n2, c2, by rw [HV.out.2]; rfl, ?_, ?_⟩
    · rw [HV.out.1]
      exact ⟨s2, A2, n2, c2, rfl, hs2, (hm2.store hb2 (noInt_two _ _ _ _) (Chg.at2 _ _ _ _)).new ((Chg.refl _ _).alloc _)⟩
    · exact (Chg.owned hn2 (Chg.at2 _ _ _ _) (fun k e => by omega)).alloc _
  · have hv := rg_out (fun h => h5 (htop.2 h))
    rw [HE.out.1, HE.out.2] at hv
    obtain ⟨hv1, hv2⟩ := hv
    have HV := Lib.hid (And.intro hv1 hv2)
    have hd5 : (512 : Int) < (n2 : Int) := by omega
    clear hv1 hv2 htop
    go_wp2
    obtain ⟨hb2, hn2, hs2, hm2⟩ := H2.out
    have hfin := (hb2.set2 (.bool false) (.slice none 0 0)).alloc (.cells #[.bool s2, .slice A2 n2 c2] 35)
    refine bodyPost_ret (res_ct rfl _ rfl (aggInt.load hfin) rfl) rfl ⟨false, none, 0, 0, by rw [HV.out.2]; rfl, ?_, ?_⟩
    · rw [HV.out.1]
      exact WI.zero _
    · exact (Chg.owned hn2 (Chg.at2 _ _ _ _) (fun k e => by omega)).alloc _
theorem ranged_wm (s : Bool) (A : Option Addr) (n c m : Nat) (w : World) (h : WM w A n c m) :
    Calls Tryz.prog 78 #[.bool s, .slice A n c] w fun e w' => ∃ s' A' n' c', e = .returned (.tuple #[.agg #[.bool s', .slice A' n' c'], .int .i64 (rgE (sg s m))]) ∧ Hid (WI w' (.agg #[.bool s', .slice A' n' c']) (rg (sg s m)) ∧ New w w') := by
  obtain ⟨l, hr, hnc, hc, hN⟩ := h
  have := ranged_any s A n c l w hr hN.digs hnc hc
  rwa [hN.val] at this

theorem bz_wlen {w : World} {A : Option Addr} {n c : Nat} {z : Int} (h : WM w A n c z.natAbs) {k : Nat} (hk : z.natAbs < 2 ^ k) : n ≤ k :=
  h.len (Nat.lt_of_lt_of_le hk (Nat.pow_le_pow_left (by omega) k))
theorem sg_mulW' (s t : Bool) (a b : Nat) : sg (s != t) (a * b : Nat) = sg s a * sg t b := by
  cases s <;> cases t <;> simp [sg, Int.neg_mul, Int.mul_neg]

set_option maxRecDepth 100000 in
set_option maxHeartbeats 2000000 in
theorem wmul_wm (s s' b : Bool) (hb : (s, s', b) = (false, false, false) ∨ (s, s', b) = (false, true, true) ∨ (s, s', b) = (true, false, true) ∨ (s, s', b) = (true, true, false)) (A : Option Addr) (n c : Nat) (A' : Option Addr) (n' c' : Nat) (X Y : Nat) (z : Int) (hz : sg b (X * Y : Nat) = z) (w : World) (hm : WM w A n c X) (hm' : WM w A' n' c' Y) (hn : n ≤ 1000000) (hn' : n' ≤ 1000000) :
    Calls Tryz.prog 129 #[.agg #[.bool s, .slice A n c], .agg #[.bool s', .slice A' n' c']] w fun e w' => ∃ s A n c, e = .returned (.tuple #[.agg #[.bool s, .slice A n c], .int .i64 (rgE z)]) ∧ Hid (WI w' (.agg #[.bool s, .slice A n c]) (rg z) ∧ New w w') := by
  have H0 := Lib.hid (And.intro hm (And.intro hm' hz))
  clear hm hm' hz
  rcases hb with hb | hb | hb | hb
  · injection hb with hb1 hb2
    injection hb2 with hb2 hb3
    subst hb1 hb2 hb3
    go_enter Tryz.func129, Tryz.ntmps129
    go_wp2_with fail
    refine Code.new3 ?_
    intro W hb1 hb2 hb3 hnW hzW
    have hc10 := hb1.cell 0 (u := .bool false) rfl
    have hc11 := hb1.cell 1 (u := .slice A n c) rfl
    have hc20 := hb2.cell 0 (u := .bool false) rfl
    have hc21 := hb2.cell 1 (u := .slice A' n' c') rfl
    have hc30 := hb3.cell 0 (u := .bool false) rfl
    have hc31 := hb3.cell 1 (u := .slice none 0 0) rfl
    have hf30 := hb3.frozen 0
    have hf31 := hb3.frozen 1
    have hmul : ∀ W', New W W' → Calls Tryz.prog 77 #[.slice A n c, .slice A' n' c'] W' fun e w' => ∃ R m d, e = .returned (.slice R m d) ∧ Hid (WM w' R m d (X * Y)) ∧ Hid (New W w') := fun W' h =>
      (mulMag_any A n c A' n' c' _ _ W' (H0.out.1.new (hnW.new h)) (H0.out.2.1.new (hnW.new h)) hn hn').mono fun e w' ⟨R, m, d, h1, h2⟩ => ⟨R, m, d, h1, h2.out.1, h.new h2.out.2.2⟩
    have hran : ∀ R m d W', Hid (WM W' R m d (X * Y)) → Calls Tryz.prog 78 #[.bool false, .slice R m d] W' fun e w' => ∃ s' A' n' c', e = .returned (.tuple #[.agg #[.bool s', .slice A' n' c'], .int .i64 (rgE z)]) ∧ Hid (WI w' (.agg #[.bool s', .slice A' n' c']) (rg z)) ∧ Hid (New W' w') := fun R m d W' h => by
      have := ranged_wm false R m d _ W' h.out
      rw [H0.out.2.2] at this
      exact this.mono fun e w' ⟨s5, A5, n5, c5, h1, h2⟩ => ⟨s5, A5, n5, c5, h1, h2.out.1, h2.out.2⟩
    have HP := Lib.hid hmul
    have HR := Lib.hid hran
    have HB := Lib.hid (And.intro hb1 (And.intro hb2 (And.intro hb3 hnW)))
    clear hmul hran hb1 hb2 hb3 hnW
    go_region_held3 (fun w' => w'.cell? ⟨w.heap.size, 0, none⟩ = some (.bool false) ∧ w'.cell? ⟨w.heap.size, 1, none⟩ = some (.slice A n c) ∧ w'.cell? ⟨w.heap.size + 1, 0, none⟩ = some (.bool false) ∧ w'.cell? ⟨w.heap.size + 1, 1, none⟩ = some (.slice A' n' c')) (first | exact ⟨by assumption, by assumption, by assumption, by assumption⟩ | exact ⟨far2 he10 (by dsimp only; omega) _ _, far2 he11 (by dsimp only; omega) _ _, far2 he20 (by dsimp only; omega) _ _, far2 he21 (by dsimp only; omega) _ _⟩)
      (first
        | (go_at_call 77; refine (HP.out _ ?_).mono ?_; exact (Chg.refl _ _).drew; rintro e w5 ⟨R, k, d, rfl, HO5, HN5⟩; have hd10 := HN5.out.cell hc10 (fun h => h); have hd11 := HN5.out.cell hc11 (fun h => h); have hd20 := HN5.out.cell hc20 (fun h => h); have hd21 := HN5.out.cell hc21 (fun h => h); have hd30 := HN5.out.cell hc30 (fun h => h); have hd31 := HN5.out.cell hc31 (fun h => h))
        | (go_at_call 78; refine (HR.out _ _ _ _ HO5).mono ?_; rintro e w6 ⟨s6, A6, n6, c6, rfl, H6, HN6⟩; have he10 := HN6.out.cell hd10 (fun h => h); have he11 := HN6.out.cell hd11 (fun h => h); have he20 := HN6.out.cell hd20 (fun h => h); have he21 := HN6.out.cell hd21 (fun h => h); have he30 := HN6.out.cell hd30 (fun h => h); have he31 := HN6.out.cell hd31 (fun h => h); have hh30 := ((HB.out.2.2.1.chg HN5.out (fun h => h)).chg HN6.out (fun h => h)).frozen 0; have hh31 := ((HB.out.2.2.1.chg HN5.out (fun h => h)).chg HN6.out (fun h => h)).frozen 1))
    all_goals
      clear hc10 hc11 hc20 hc21 hc30 hc31 hf30 hf31 hd10 hd11 hd20 hd21 hd30 hd31
      go_wp2
      have hb6 := (HB.out.2.2.1.chg HN5.out (fun h => h)).chg HN6.out (fun h => h)
      refine bodyPost_ret (res_ct rfl _ rfl (aggInt.load (hb6.set2 _ _)) rfl) rfl ⟨s6, A6, n6, c6, rfl, H6.out.store hb6 (noInt_two _ _ _ _) (Chg.at2 _ _ _ _), ?_⟩
      exact Chg.owned (HB.out.2.2.2.new (HN5.out.new HN6.out)) (Chg.at2 _ _ _ _) (fun k e => by omega)
  · injection hb with hb1 hb2
    injection hb2 with hb2 hb3
    subst hb1 hb2 hb3
    go_enter Tryz.func129, Tryz.ntmps129
    go_wp2_with fail
    refine Code.new3 ?_
    intro W hb1 hb2 hb3 hnW hzW
    have hc10 := hb1.cell 0 (u := .bool false) rfl
    have hc11 := hb1.cell 1 (u := .slice A n c) rfl
    have hc20 := hb2.cell 0 (u := .bool true) rfl
    have hc21 := hb2.cell 1 (u := .slice A' n' c') rfl
    have hc30 := hb3.cell 0 (u := .bool false) rfl
    have hc31 := hb3.cell 1 (u := .slice none 0 0) rfl
    have hf30 := hb3.frozen 0
    have hf31 := hb3.frozen 1
    have hmul : ∀ W', New W W' → Calls Tryz.prog 77 #[.slice A n c, .slice A' n' c'] W' fun e w' => ∃ R m d, e = .returned (.slice R m d) ∧ Hid (WM w' R m d (X * Y)) ∧ Hid (New W w') := fun W' h =>
      (mulMag_any A n c A' n' c' _ _ W' (H0.out.1.new (hnW.new h)) (H0.out.2.1.new (hnW.new h)) hn hn').mono fun e w' ⟨R, m, d, h1, h2⟩ => ⟨R, m, d, h1, h2.out.1, h.new h2.out.2.2⟩
    have hran : ∀ R m d W', Hid (WM W' R m d (X * Y)) → Calls Tryz.prog 78 #[.bool true, .slice R m d] W' fun e w' => ∃ s' A' n' c', e = .returned (.tuple #[.agg #[.bool s', .slice A' n' c'], .int .i64 (rgE z)]) ∧ Hid (WI w' (.agg #[.bool s', .slice A' n' c']) (rg z)) ∧ Hid (New W' w') := fun R m d W' h => by
      have := ranged_wm true R m d _ W' h.out
      rw [H0.out.2.2] at this
      exact this.mono fun e w' ⟨s5, A5, n5, c5, h1, h2⟩ => ⟨s5, A5, n5, c5, h1, h2.out.1, h2.out.2⟩
    have HP := Lib.hid hmul
    have HR := Lib.hid hran
    have HB := Lib.hid (And.intro hb1 (And.intro hb2 (And.intro hb3 hnW)))
    clear hmul hran hb1 hb2 hb3 hnW
    go_region_held3 (fun w' => w'.cell? ⟨w.heap.size, 0, none⟩ = some (.bool false) ∧ w'.cell? ⟨w.heap.size, 1, none⟩ = some (.slice A n c) ∧ w'.cell? ⟨w.heap.size + 1, 0, none⟩ = some (.bool true) ∧ w'.cell? ⟨w.heap.size + 1, 1, none⟩ = some (.slice A' n' c')) (first | exact ⟨by assumption, by assumption, by assumption, by assumption⟩ | exact ⟨far2 he10 (by dsimp only; omega) _ _, far2 he11 (by dsimp only; omega) _ _, far2 he20 (by dsimp only; omega) _ _, far2 he21 (by dsimp only; omega) _ _⟩)
      (first
        | (go_at_call 77; refine (HP.out _ ?_).mono ?_; exact (Chg.refl _ _).drew; rintro e w5 ⟨R, k, d, rfl, HO5, HN5⟩; have hd10 := HN5.out.cell hc10 (fun h => h); have hd11 := HN5.out.cell hc11 (fun h => h); have hd20 := HN5.out.cell hc20 (fun h => h); have hd21 := HN5.out.cell hc21 (fun h => h); have hd30 := HN5.out.cell hc30 (fun h => h); have hd31 := HN5.out.cell hc31 (fun h => h))
        | (go_at_call 78; refine (HR.out _ _ _ _ HO5).mono ?_; rintro e w6 ⟨s6, A6, n6, c6, rfl, H6, HN6⟩; have he10 := HN6.out.cell hd10 (fun h => h); have he11 := HN6.out.cell hd11 (fun h => h); have he20 := HN6.out.cell hd20 (fun h => h); have he21 := HN6.out.cell hd21 (fun h => h); have he30 := HN6.out.cell hd30 (fun h => h); have he31 := HN6.out.cell hd31 (fun h => h); have hh30 := ((HB.out.2.2.1.chg HN5.out (fun h => h)).chg HN6.out (fun h => h)).frozen 0; have hh31 := ((HB.out.2.2.1.chg HN5.out (fun h => h)).chg HN6.out (fun h => h)).frozen 1))
    all_goals
      clear hc10 hc11 hc20 hc21 hc30 hc31 hf30 hf31 hd10 hd11 hd20 hd21 hd30 hd31
      go_wp2
      have hb6 := (HB.out.2.2.1.chg HN5.out (fun h => h)).chg HN6.out (fun h => h)
      refine bodyPost_ret (res_ct rfl _ rfl (aggInt.load (hb6.set2 _ _)) rfl) rfl ⟨s6, A6, n6, c6, rfl, H6.out.store hb6 (noInt_two _ _ _ _) (Chg.at2 _ _ _ _), ?_⟩
      exact Chg.owned (HB.out.2.2.2.new (HN5.out.new HN6.out)) (Chg.at2 _ _ _ _) (fun k e => by omega)
  · injection hb with hb1 hb2
    injection hb2 with hb2 hb3
    subst hb1 hb2 hb3
    go_enter Tryz.func129, Tryz.ntmps129
    go_wp2_with fail
    refine Code.new3 ?_
    intro W hb1 hb2 hb3 hnW hzW
    have hc10 := hb1.cell 0 (u := .bool true) rfl
    have hc11 := hb1.cell 1 (u := .slice A n c) rfl
    have hc20 := hb2.cell 0 (u := .bool false) rfl
    have hc21 := hb2.cell 1 (u := .slice A' n' c') rfl
    have hc30 := hb3.cell 0 (u := .bool false) rfl
    have hc31 := hb3.cell 1 (u := .slice none 0 0) rfl
    have hf30 := hb3.frozen 0
    have hf31 := hb3.frozen 1
    have hmul : ∀ W', New W W' → Calls Tryz.prog 77 #[.slice A n c, .slice A' n' c'] W' fun e w' => ∃ R m d, e = .returned (.slice R m d) ∧ Hid (WM w' R m d (X * Y)) ∧ Hid (New W w') := fun W' h =>
      (mulMag_any A n c A' n' c' _ _ W' (H0.out.1.new (hnW.new h)) (H0.out.2.1.new (hnW.new h)) hn hn').mono fun e w' ⟨R, m, d, h1, h2⟩ => ⟨R, m, d, h1, h2.out.1, h.new h2.out.2.2⟩
    have hran : ∀ R m d W', Hid (WM W' R m d (X * Y)) → Calls Tryz.prog 78 #[.bool true, .slice R m d] W' fun e w' => ∃ s' A' n' c', e = .returned (.tuple #[.agg #[.bool s', .slice A' n' c'], .int .i64 (rgE z)]) ∧ Hid (WI w' (.agg #[.bool s', .slice A' n' c']) (rg z)) ∧ Hid (New W' w') := fun R m d W' h => by
      have := ranged_wm true R m d _ W' h.out
      rw [H0.out.2.2] at this
      exact this.mono fun e w' ⟨s5, A5, n5, c5, h1, h2⟩ => ⟨s5, A5, n5, c5, h1, h2.out.1, h2.out.2⟩
    have HP := Lib.hid hmul
    have HR := Lib.hid hran
    have HB := Lib.hid (And.intro hb1 (And.intro hb2 (And.intro hb3 hnW)))
    clear hmul hran hb1 hb2 hb3 hnW
    go_region_held3 (fun w' => w'.cell? ⟨w.heap.size, 0, none⟩ = some (.bool true) ∧ w'.cell? ⟨w.heap.size, 1, none⟩ = some (.slice A n c) ∧ w'.cell? ⟨w.heap.size + 1, 0, none⟩ = some (.bool false) ∧ w'.cell? ⟨w.heap.size + 1, 1, none⟩ = some (.slice A' n' c')) (first | exact ⟨by assumption, by assumption, by assumption, by assumption⟩ | exact ⟨far2 he10 (by dsimp only; omega) _ _, far2 he11 (by dsimp only; omega) _ _, far2 he20 (by dsimp only; omega) _ _, far2 he21 (by dsimp only; omega) _ _⟩)
      (first
        | (go_at_call 77; refine (HP.out _ ?_).mono ?_; exact (Chg.refl _ _).drew; rintro e w5 ⟨R, k, d, rfl, HO5, HN5⟩; have hd10 := HN5.out.cell hc10 (fun h => h); have hd11 := HN5.out.cell hc11 (fun h => h); have hd20 := HN5.out.cell hc20 (fun h => h); have hd21 := HN5.out.cell hc21 (fun h => h); have hd30 := HN5.out.cell hc30 (fun h => h); have hd31 := HN5.out.cell hc31 (fun h => h))
        | (go_at_call 78; refine (HR.out _ _ _ _ HO5).mono ?_; rintro e w6 ⟨s6, A6, n6, c6, rfl, H6, HN6⟩; have he10 := HN6.out.cell hd10 (fun h => h); have he11 := HN6.out.cell hd11 (fun h => h); have he20 := HN6.out.cell hd20 (fun h => h); have he21 := HN6.out.cell hd21 (fun h => h); have he30 := HN6.out.cell hd30 (fun h => h); have he31 := HN6.out.cell hd31 (fun h => h); have hh30 := ((HB.out.2.2.1.chg HN5.out (fun h => h)).chg HN6.out (fun h => h)).frozen 0; have hh31 := ((HB.out.2.2.1.chg HN5.out (fun h => h)).chg HN6.out (fun h => h)).frozen 1))
    all_goals
      clear hc10 hc11 hc20 hc21 hc30 hc31 hf30 hf31 hd10 hd11 hd20 hd21 hd30 hd31
      go_wp2
      have hb6 := (HB.out.2.2.1.chg HN5.out (fun h => h)).chg HN6.out (fun h => h)
      refine bodyPost_ret (res_ct rfl _ rfl (aggInt.load (hb6.set2 _ _)) rfl) rfl ⟨s6, A6, n6, c6, rfl, H6.out.store hb6 (noInt_two _ _ _ _) (Chg.at2 _ _ _ _), ?_⟩
      exact Chg.owned (HB.out.2.2.2.new (HN5.out.new HN6.out)) (Chg.at2 _ _ _ _) (fun k e => by omega)
  · injection hb with hb1 hb2
    injection hb2 with hb2 hb3
    subst hb1 hb2 hb3
    go_enter Tryz.func129, Tryz.ntmps129
    go_wp2_with fail
    refine Code.new3 ?_
    intro W hb1 hb2 hb3 hnW hzW
    have hc10 := hb1.cell 0 (u := .bool true) rfl
    have hc11 := hb1.cell 1 (u := .slice A n c) rfl
    have hc20 := hb2.cell 0 (u := .bool true) rfl
    have hc21 := hb2.cell 1 (u := .slice A' n' c') rfl
    have hc30 := hb3.cell 0 (u := .bool false) rfl
    have hc31 := hb3.cell 1 (u := .slice none 0 0) rfl
    have hf30 := hb3.frozen 0
    have hf31 := hb3.frozen 1
    have hmul : ∀ W', New W W' → Calls Tryz.prog 77 #[.slice A n c, .slice A' n' c'] W' fun e w' => ∃ R m d, e = .returned (.slice R m d) ∧ Hid (WM w' R m d (X * Y)) ∧ Hid (New W w') := fun W' h =>
      (mulMag_any A n c A' n' c' _ _ W' (H0.out.1.new (hnW.new h)) (H0.out.2.1.new (hnW.new h)) hn hn').mono fun e w' ⟨R, m, d, h1, h2⟩ => ⟨R, m, d, h1, h2.out.1, h.new h2.out.2.2⟩
    have hran : ∀ R m d W', Hid (WM W' R m d (X * Y)) → Calls Tryz.prog 78 #[.bool false, .slice R m d] W' fun e w' => ∃ s' A' n' c', e = .returned (.tuple #[.agg #[.bool s', .slice A' n' c'], .int .i64 (rgE z)]) ∧ Hid (WI w' (.agg #[.bool s', .slice A' n' c']) (rg z)) ∧ Hid (New W' w') := fun R m d W' h => by
      have := ranged_wm false R m d _ W' h.out
      rw [H0.out.2.2] at this
      exact this.mono fun e w' ⟨s5, A5, n5, c5, h1, h2⟩ => ⟨s5, A5, n5, c5, h1, h2.out.1, h2.out.2⟩
    have HP := Lib.hid hmul
    have HR := Lib.hid hran
    have HB := Lib.hid (And.intro hb1 (And.intro hb2 (And.intro hb3 hnW)))
    clear hmul hran hb1 hb2 hb3 hnW
    go_region_held3 (fun w' => w'.cell? ⟨w.heap.size, 0, none⟩ = some (.bool true) ∧ w'.cell? ⟨w.heap.size, 1, none⟩ = some (.slice A n c) ∧ w'.cell? ⟨w.heap.size + 1, 0, none⟩ = some (.bool true) ∧ w'.cell? ⟨w.heap.size + 1, 1, none⟩ = some (.slice A' n' c')) (first | exact ⟨by assumption, by assumption, by assumption, by assumption⟩ | exact ⟨far2 he10 (by dsimp only; omega) _ _, far2 he11 (by dsimp only; omega) _ _, far2 he20 (by dsimp only; omega) _ _, far2 he21 (by dsimp only; omega) _ _⟩)
      (first
        | (go_at_call 77; refine (HP.out _ ?_).mono ?_; exact (Chg.refl _ _).drew; rintro e w5 ⟨R, k, d, rfl, HO5, HN5⟩; have hd10 := HN5.out.cell hc10 (fun h => h); have hd11 := HN5.out.cell hc11 (fun h => h); have hd20 := HN5.out.cell hc20 (fun h => h); have hd21 := HN5.out.cell hc21 (fun h => h); have hd30 := HN5.out.cell hc30 (fun h => h); have hd31 := HN5.out.cell hc31 (fun h => h))
        | (go_at_call 78; refine (HR.out _ _ _ _ HO5).mono ?_; rintro e w6 ⟨s6, A6, n6, c6, rfl, H6, HN6⟩; have he10 := HN6.out.cell hd10 (fun h => h); have he11 := HN6.out.cell hd11 (fun h => h); have he20 := HN6.out.cell hd20 (fun h => h); have he21 := HN6.out.cell hd21 (fun h => h); have he30 := HN6.out.cell hd30 (fun h => h); have he31 := HN6.out.cell hd31 (fun h => h); have hh30 := ((HB.out.2.2.1.chg HN5.out (fun h => h)).chg HN6.out (fun h => h)).frozen 0; have hh31 := ((HB.out.2.2.1.chg HN5.out (fun h => h)).chg HN6.out (fun h => h)).frozen 1))
    all_goals
      clear hc10 hc11 hc20 hc21 hc30 hc31 hf30 hf31 hd10 hd11 hd20 hd21 hd30 hd31
      go_wp2
      have hb6 := (HB.out.2.2.1.chg HN5.out (fun h => h)).chg HN6.out (fun h => h)
      refine bodyPost_ret (res_ct rfl _ rfl (aggInt.load (hb6.set2 _ _)) rfl) rfl ⟨s6, A6, n6, c6, rfl, H6.out.store hb6 (noInt_two _ _ _ _) (Chg.at2 _ _ _ _), ?_⟩
      exact Chg.owned (HB.out.2.2.2.new (HN5.out.new HN6.out)) (Chg.at2 _ _ _ _) (fun k e => by omega)
theorem wmul_any (v v' : Value) (x y : Int) (w : World) (hx : WI w v x) (hy : WI w v' y) (bx : x.natAbs < 2 ^ 1000000) (bY : y.natAbs < 2 ^ 1000000) :
    Calls Tryz.prog 129 #[v, v'] w fun e w' => ∃ s A n c, e = .returned (.tuple #[.agg #[.bool s, .slice A n c], .int .i64 (rgE (x * y))]) ∧ Hid (WI w' (.agg #[.bool s, .slice A n c]) (rg (x * y)) ∧ New w w') := by
  obtain ⟨s, A, n, c, rfl, hs, hm⟩ := hx
  obtain ⟨s', A', n', c', rfl, hs', hm'⟩ := hy
  refine wmul_wm s s' (s != s') (by cases s <;> cases s' <;> simp) A n c A' n' c' x.natAbs y.natAbs (x * y) ?_ w hm hm' (bz_wlen hm bx) (bz_wlen hm' bY)
  rw [hs, hs', sg_mulW', sg_of, sg_of]
end Go.Proofs.YtbocpkjajocpiaaGreatDoor

namespace Go.Fr
set_option linter.unusedVariables false
open Go.Dig

/-- The denominator as an integer. -/
def dn (x : Rat) : Int := (x.den : Int)
theorem dn_pos (x : Rat) : 0 < dn x := by
  have := x.den_pos
  unfold dn
  omega
theorem ext {x y : Rat} (h : x.num = y.num) (h' : dn x = dn y) : x = y := Rat.ext h (by unfold dn at h'; omega)
theorem low (x : Rat) : Int.gcd x.num (dn x) = 1 := x.reduced
theorem mk_self (x : Rat) : Rat.divInt x.num (dn x) = x := Rat.num_divInt_den x
theorem make_pos {p q : Int} (h : 0 < q) : p / ((Int.gcd p q : Nat) : Int) = (Rat.divInt p q).num ∧ q / ((Int.gcd p q : Nat) : Int) = dn (Rat.divInt p q) := by
  constructor
  · rw [Rat.num_divInt, Int.sign_eq_one_of_pos h, Int.one_mul, Int.gcd_comm]
  · unfold dn
    rw [Rat.den_divInt, if_neg (by omega), Int.natCast_ediv, Int.natAbs_of_nonneg (by omega), Int.gcd_comm]
theorem make_neg {p q : Int} (h : q < 0) : (-p) / ((Int.gcd (-p) (-q) : Nat) : Int) = (Rat.divInt p q).num ∧ (-q) / ((Int.gcd (-p) (-q) : Nat) : Int) = dn (Rat.divInt p q) := by
  rw [← Rat.neg_divInt_neg p q]
  exact make_pos (by omega)
theorem gcd_ne {p q : Int} (h : q ≠ 0) : ((Int.gcd p q : Nat) : Int) ≠ 0 := by
  have := Int.gcd_pos_of_ne_zero_right p h
  omega
theorem num_le (p q : Int) : (Rat.divInt p q).num.natAbs ≤ p.natAbs := by
  rcases Int.lt_trichotomy q 0 with h | h | h
  · rw [← (make_neg (p := p) h).1]
    have := Int.natAbs_ediv_le_natAbs (-p) ((Int.gcd (-p) (-q) : Nat) : Int)
    omega
  · subst h; rw [Rat.divInt_zero]; simp
  · rw [← (make_pos (p := p) h).1]
    exact Int.natAbs_ediv_le_natAbs _ _
theorem den_le {p q : Int} (h : q ≠ 0) : (dn (Rat.divInt p q)).natAbs ≤ q.natAbs := by
  rcases Int.lt_trichotomy q 0 with h' | h' | h'
  · rw [← (make_neg (p := p) h').2]
    have := Int.natAbs_ediv_le_natAbs (-q) ((Int.gcd (-p) (-q) : Nat) : Int)
    omega
  · exact absurd h' h
  · rw [← (make_pos (p := p) h').2]
    exact Int.natAbs_ediv_le_natAbs _ _

section
variable (x y : Rat)
/-- The greatest common divisor of the denominators. -/
def dg : Int := ((Int.gcd (dn x) (dn y) : Nat) : Int)
theorem dg_ne : dg x y ≠ 0 := gcd_ne (by have := dn_pos y; omega)
theorem dg_x : dg x y * (dn x / dg x y) = dn x := Int.mul_ediv_cancel' (Int.gcd_dvd_left _ _)
theorem dg_y : dg x y * (dn y / dg x y) = dn y := Int.mul_ediv_cancel' (Int.gcd_dvd_right _ _)
theorem add_eq : Rat.divInt (x.num * (dn y / dg x y) + y.num * (dn x / dg x y)) (dn x / dg x y * dn y) = x + y := by
  have h : x + y = Rat.divInt (x.num * dn y + y.num * dn x) (dn x * dn y) := by
    rw [Rat.add_def', ← Rat.divInt_ofNat]
    simp [dn]
  rw [h]
  have h1 := dg_x x y
  have h2 := dg_y x y
  have h0 := dg_ne x y
  generalize dg x y = g at *
  generalize dn x / g = a at *
  generalize dn y / g = b at *
  rw [← h1, ← h2, show x.num * (g * b) + y.num * (g * a) = g * (x.num * b + y.num * a) by rw [Int.mul_add, Int.mul_left_comm, Int.mul_left_comm y.num], show g * a * (g * b) = g * (a * (g * b)) by rw [Int.mul_assoc]]
  exact (Rat.divInt_mul_left h0).symm
theorem mul_num : (x * y).num = x.num / ((Int.gcd x.num (dn y) : Nat) : Int) * (y.num / ((Int.gcd y.num (dn x) : Nat) : Int)) := by
  show (Rat.mul x y).num = _
  delta Rat.mul
  dsimp only
  rw [Int.divExact_eq_tdiv, Int.divExact_eq_tdiv]
  have h1 : x.num.tdiv ((Int.gcd x.num (dn y) : Nat) : Int) = x.num / ((Int.gcd x.num (dn y) : Nat) : Int) := Int.tdiv_eq_ediv_of_dvd (Int.gcd_dvd_left x.num (dn y))
  have h2 : y.num.tdiv ((Int.gcd y.num (dn x) : Nat) : Int) = y.num / ((Int.gcd y.num (dn x) : Nat) : Int) := Int.tdiv_eq_ediv_of_dvd (Int.gcd_dvd_left y.num (dn x))
  rw [← h1, ← h2]
  rfl
theorem mul_den : dn (x * y) = dn x / ((Int.gcd y.num (dn x) : Nat) : Int) * (dn y / ((Int.gcd x.num (dn y) : Nat) : Int)) := by
  show (((Rat.mul x y).den : Nat) : Int) = _
  delta Rat.mul
  dsimp only
  rw [Nat.divExact_eq_div, Nat.divExact_eq_div, Int.natCast_mul, Int.natCast_ediv, Int.natCast_ediv]
  rfl
theorem mul_eq : Rat.divInt (x.num * y.num) (dn x * dn y) = x * y := by
  rw [Rat.mul_def', ← Rat.divInt_ofNat]
  simp [dn]
theorem inv_eq : Rat.divInt (dn y) y.num = y⁻¹ := (Rat.inv_def y).symm
end

/-- -1, 0 or 1. -/
def cmpR (x y : Rat) : Int := cmpI (x.num * dn y) (y.num * dn x)
theorem cmpR_lt {x y : Rat} : cmpR x y = -1 ↔ x < y := by
  rw [Rat.lt_iff]
  unfold cmpR cmpI dn
  split
  · simp [*]
  · split <;> simp [*]
theorem cmpR_eq {x y : Rat} : cmpR x y = 0 ↔ x = y := by
  rw [Rat.eq_iff_mul_eq_mul]
  unfold cmpR cmpI dn
  split
  · simp; omega
  · split <;> simp <;> omega
theorem cmpR_gt {x y : Rat} : cmpR x y = 1 ↔ y < x := by
  rw [Rat.lt_iff]
  unfold cmpR cmpI dn
  split
  · simp; omega
  · split <;> simp [*]
theorem cmpR_cases (x y : Rat) : (x < y ∧ cmpR x y = -1) ∨ (x = y ∧ cmpR x y = 0) ∨ (y < x ∧ cmpR x y = 1) := by
  have h : cmpR x y = -1 ∨ cmpR x y = 0 ∨ cmpR x y = 1 := by
    unfold cmpR cmpI
    split
    · exact .inl rfl
    · split
      · exact .inr (.inr rfl)
      · exact .inr (.inl rfl)
  rcases h with h | h | h
  · exact .inl ⟨cmpR_lt.1 h, h⟩
  · exact .inr (.inl ⟨cmpR_eq.1 h, h⟩)
  · exact .inr (.inr ⟨cmpR_gt.1 h, h⟩)
theorem cmpI_swap (a b : Int) : cmpI b a = -cmpI a b := by
  rcases Int.lt_trichotomy a b with h | h | h
  · rw [cmpI_lt h, cmpI_gt h]; rfl
  · rw [cmpI_eq h, cmpI_eq h.symm]; rfl
  · rw [cmpI_gt h, cmpI_lt h]
/-! ### comparing by whole parts and rests -/
theorem cmpI_of_sub {a b c d : Int} (h : a - b = c - d) : cmpI a b = cmpI c d := by
  unfold cmpI
  split
  · rw [if_pos (by omega)]
  · split
    · rw [if_neg (by omega), if_pos (by omega)]
    · rw [if_neg (by omega), if_neg (by omega)]
theorem cf_same {p q r s : Int} (h : p / q = r / s) : cmpI (p * s) (r * q) = cmpI (p % q * s) (r % s * q) := by
  refine cmpI_of_sub ?_
  have h1 := Int.mul_ediv_add_emod p q
  have h2 := Int.mul_ediv_add_emod r s
  rw [h] at h1
  generalize r / s = k at *
  generalize p % q = x at *
  generalize r % s = y at *
  rw [← h1, ← h2, Int.add_mul, Int.add_mul, show q * k * s = s * k * q by rw [Int.mul_comm q k, Int.mul_comm s k, Int.mul_assoc, Int.mul_assoc, Int.mul_comm q s]]
  omega
theorem cf_other {p q r s : Int} (hq : 0 < q) (hs : 0 < s) (h : ¬ p / q = r / s) : cmpI (p * s) (r * q) = cmpI (p / q) (r / s) := by
  have key : ∀ {p q r s : Int}, 0 < q → 0 < s → p / q < r / s → p * s < r * q := by
    intro p q r s hq hs h
    have h1 := Int.lt_ediv_add_one_mul_self p hq
    have h2 := Int.ediv_mul_le r (b := s) (by omega)
    have h3 : (p / q + 1) * q ≤ r / s * q := Int.mul_le_mul_of_nonneg_right (by omega) (by omega)
    have h4 : p < r / s * q := by omega
    have h5 : p * s < r / s * q * s := Int.mul_lt_mul_of_pos_right h4 hs
    have h6 : r / s * s * q ≤ r * q := Int.mul_le_mul_of_nonneg_right h2 (by omega)
    rw [Int.mul_right_comm] at h5
    omega
  rcases Int.lt_trichotomy (p / q) (r / s) with g | g | g
  · rw [cmpI_lt (key hq hs g), cmpI_lt g]
  · exact absurd g h
  · rw [cmpI_gt (key hs hq g), cmpI_gt g]
theorem cf_zero {x y q s : Int} (hx : 0 ≤ x) (hy : 0 ≤ y) (hq : 0 < q) (hs : 0 < s) (h : x = 0 ∨ y = 0) : cmpI (x * s) (y * q) = cmpI x 0 - cmpI y 0 := by
  rcases h with rfl | rfl
  · rw [Int.zero_mul]
    rcases Int.lt_or_eq_of_le hy with h | h
    · rw [cmpI_lt (Int.mul_pos h hq), cmpI_eq rfl, cmpI_gt h]; rfl
    · subst h; rw [Int.zero_mul]; rfl
  · rw [Int.zero_mul]
    rcases Int.lt_or_eq_of_le hx with h | h
    · rw [cmpI_gt (Int.mul_pos h hs), cmpI_gt h]; rfl
    · subst h; rw [Int.zero_mul]; rfl
theorem cf_turn (x y q s : Int) : cmpI (x * s) (y * q) = -cmpI (q * y) (s * x) := by
  rw [← cmpI_swap, Int.mul_comm x s, Int.mul_comm y q]
end Go.Fr

namespace Go.Proofs.YtbocpkjajocpiaaGreatDoor
set_option linter.unusedVariables false
open Go.Dig Go.Fr

/-- In range. -/
def fit (z : Int) : Prop := z.natAbs < topN
instance (z : Int) : Decidable (fit z) := by unfold fit; exact inferInstance
def ft (x : Rat) : Prop := fit x.num ∧ fit (dn x)
instance (x : Rat) : Decidable (ft x) := by unfold ft; exact inferInstance
theorem topN_pos : 4294967296 ≤ topN := by
  have h : ∀ k, 1 ≤ k → 4294967296 ≤ powN k := fun k hk => by
    unfold powN
    exact Nat.le_trans (by decide) (Nat.pow_le_pow_right (show 0 < 4294967296 by omega) hk)
  exact h 512 (by omega)
theorem fit_small {z : Int} (h1 : -4294967296 < z) (h2 : z < 4294967296) : fit z := by
  have := topN_pos
  unfold fit
  omega
theorem ft_zero : ft 0 := ⟨fit_small (by decide) (by decide), fit_small (by decide) (by decide)⟩
theorem ft_one : ft 1 := ⟨fit_small (by decide) (by decide), fit_small (by decide) (by decide)⟩
theorem fit.neg {z : Int} (h : fit z) : fit (-z) := by unfold fit at *; omega
theorem ft.neg {x : Rat} (h : ft x) : ft (-x) := ⟨h.1.neg, h.2⟩
/-- A fraction in range, or 0, and its error. -/
def rgR (x : Rat) : Rat := if ft x then x else 0
def rgRE (x : Rat) : Int := if ft x then 0 else 4
/-- The numbers of a sum. -/
def LL (x y : Rat) : Int := x.num * (dn y / dg x y)
def RR (x y : Rat) : Int := y.num * (dn x / dg x y)
def DD (x y : Rat) : Int := dn x / dg x y * dn y
def addOk (x y : Rat) : Prop := fit (LL x y) ∧ fit (RR x y) ∧ fit (LL x y + RR x y) ∧ fit (DD x y)
instance (x y : Rat) : Decidable (addOk x y) := by unfold addOk; exact inferInstance
def addV (x y : Rat) : Rat := if addOk x y then x + y else 0
def addE (x y : Rat) : Int := if addOk x y then 0 else 4
theorem add_mk (x y : Rat) : Rat.divInt (LL x y + RR x y) (DD x y) = x + y := add_eq x y
theorem DD_pos (x y : Rat) : 0 < DD x y := by
  have h1 := dn_pos x
  have h2 := dn_pos y
  have h3 := dg_x x y
  have hg : 0 < dg x y := by
    have h := dg_ne x y
    have h' : (0 : Int) ≤ dg x y := by unfold Fr.dg; omega
    omega
  refine Int.mul_pos ?_ h2
  rcases Int.lt_or_le 0 (dn x / dg x y) with h | h
  · exact h
  · have := Int.mul_nonpos_of_nonneg_of_nonpos (Int.le_of_lt hg) h
    omega
theorem ft_mk {p q : Int} (hp : fit p) (hq : fit q) : ft (Rat.divInt p q) := by
  refine ⟨Nat.lt_of_le_of_lt (num_le p q) hp, ?_⟩
  rcases Int.decEq q 0 with h | h
  · exact Nat.lt_of_le_of_lt (den_le h) hq
  · subst h
    rw [Rat.divInt_zero]
    exact ft_zero.2
/-- Bounds by powers of 2. -/
def Fb (k : Nat) (x : Rat) : Prop := x.num.natAbs < 2 ^ k ∧ (dn x).natAbs < 2 ^ k
theorem ediv_le (a b : Int) : (a / b).natAbs ≤ a.natAbs := Int.natAbs_ediv_le_natAbs a b
theorem nmul_lt {a b : Int} {j k : Nat} (ha : a.natAbs < 2 ^ j) (hb : b.natAbs < 2 ^ k) : (a * b).natAbs < 2 ^ (j + k) := by
  rw [Int.natAbs_mul, Nat.pow_add]
  exact Nat.mul_lt_mul'' ha hb
theorem nadd_lt {a b : Int} {j : Nat} (ha : a.natAbs < 2 ^ j) (hb : b.natAbs < 2 ^ j) : (a + b).natAbs < 2 ^ (j + 1) := by
  rw [Nat.pow_succ]
  omega
theorem Fb.mono {j k : Nat} {x : Rat} (h : Fb j x) (hjk : j ≤ k) : Fb k x :=
  ⟨Nat.lt_of_lt_of_le h.1 (Nat.pow_le_pow_right (by omega) hjk), Nat.lt_of_lt_of_le h.2 (Nat.pow_le_pow_right (by omega) hjk)⟩
section
variable {j k : Nat} {x y : Rat}
theorem LL_lt (hx : Fb j x) (hy : Fb k y) : (LL x y).natAbs < 2 ^ (j + k) := nmul_lt hx.1 (Nat.lt_of_le_of_lt (ediv_le _ _) hy.2)
theorem RR_lt (hx : Fb j x) (hy : Fb k y) : (RR x y).natAbs < 2 ^ (j + k) := by
  rw [Nat.add_comm]
  exact nmul_lt hy.1 (Nat.lt_of_le_of_lt (ediv_le _ _) hx.2)
theorem DD_lt (hx : Fb j x) (hy : Fb k y) : (DD x y).natAbs < 2 ^ (j + k) := nmul_lt (Nat.lt_of_le_of_lt (ediv_le _ _) hx.2) hy.2
theorem fit_of {z : Int} {m : Nat} (h : z.natAbs < 2 ^ m) (hm : m ≤ 16384) : fit z := by
  obtain ⟨K, hK⟩ : ∃ K, K = 512 := ⟨_, rfl⟩
  have : powN K = 2 ^ (32 * K) := by unfold powN; rw [Nat.pow_mul]
  unfold fit
  rw [show topN = powN 512 from rfl, ← hK, this]
  exact Nat.lt_of_lt_of_le h (Nat.pow_le_pow_right (by omega) (by omega))
theorem addOk_of (hx : Fb j x) (hy : Fb k y) (h : j + k + 1 ≤ 16384) : addOk x y :=
  ⟨fit_of (LL_lt hx hy) (by omega), fit_of (RR_lt hx hy) (by omega), fit_of (nadd_lt (LL_lt hx hy) (RR_lt hx hy)) h, fit_of (DD_lt hx hy) (by omega)⟩
theorem Fb.add (hx : Fb j x) (hy : Fb k y) : Fb (j + k + 1) (x + y) := by
  rw [← add_mk]
  refine ⟨Nat.lt_of_le_of_lt (num_le _ _) (nadd_lt (LL_lt hx hy) (RR_lt hx hy)), ?_⟩
  refine Nat.lt_of_le_of_lt (den_le (by have := DD_pos x y; omega)) (Nat.lt_of_lt_of_le (DD_lt hx hy) (Nat.pow_le_pow_right (by omega) (by omega)))
theorem Fb.mul (hx : Fb j x) (hy : Fb k y) : Fb (j + k) (x * y) := by
  rw [← mul_eq]
  refine ⟨Nat.lt_of_le_of_lt (num_le _ _) (nmul_lt hx.1 hy.1), Nat.lt_of_le_of_lt (den_le ?_) (nmul_lt hx.2 hy.2)⟩
  have := Int.mul_pos (dn_pos x) (dn_pos y)
  omega
theorem Fb.neg (hx : Fb j x) : Fb j (-x) := ⟨by show (-x.num).natAbs < _; rw [Int.natAbs_neg]; exact hx.1, hx.2⟩
theorem Fb.ft (hx : Fb j x) (h : j ≤ 16384) : ft x := ⟨fit_of hx.1 h, fit_of hx.2 h⟩
theorem Fb.mk {p q : Int} (hp : p.natAbs < 2 ^ j) (hq : q.natAbs < 2 ^ j) (hj : 1 ≤ j) : Fb j (Rat.divInt p q) := by
  refine ⟨Nat.lt_of_le_of_lt (num_le _ _) hp, ?_⟩
  rcases Int.decEq q 0 with h | h
  · exact Nat.lt_of_le_of_lt (den_le h) hq
  · rw [h, Rat.divInt_zero]
    show (1 : Nat) < _
    exact Nat.lt_of_lt_of_le (by decide) (Nat.pow_le_pow_right (show 0 < 2 by omega) hj)
end
/-- A quotient. -/
def divV (x y : Rat) : Rat := if y = 0 then 0 else rgR (x / y)
def divE (x y : Rat) : Int := if y = 0 then 1 else rgRE (x / y)
end Go.Proofs.YtbocpkjajocpiaaGreatDoor

namespace Go.Proofs.YtbocpkjajocpiaaGreatDoor
set_option linter.unusedVariables false
open Go.RowKit Go.Mem Go.Dig

theorem noInt_two' (s : Bool) (A : Option Addr) (n c : Nat) : NoInt (#[Value.bool s, Value.slice A n c] : Array Value).toList := fun k z h => by simp at h
theorem aggN : Agg Tryz.prog 26 2 := ⟨_, Tryz.underlying26, rfl, by kernel_rfl⟩
/-- The amount m lies in a slice, in base 10000. -/
def DM (w : World) (A : Option Addr) (n c : Nat) (m : Nat) : Prop := ∃ l, Rd w A n (nv .i64 l) ∧ n ≤ c ∧ c ≤ 9223372036854775807 ∧ Num 10000 l m
theorem DM.new {w w' : World} {A : Option Addr} {n c m : Nat} (h : DM w A n c m) (hn : New w w') : DM w' A n c m := by
  obtain ⟨l, h1, h2⟩ := h
  exact ⟨l, h1.new hn, h2⟩
theorem DM.store {w w' : World} {A : Option Addr} {n c m g : Nat} {t : TypeId} {cs : Array Value} (h : DM w A n c m) (hb : Blk w g t cs) (hi : NoInt cs.toList) (hc : Chg (fun k => k = g) w w') : DM w' A n c m := by
  obtain ⟨l, h1, h2⟩ := h
  refine ⟨l, h1.store hb (fun u hu => ?_) hc, h2⟩
  obtain ⟨z, _, rfl⟩ := List.mem_map.1 hu
  exact hi _ _
theorem DM.zero (w : World) : DM w none 0 0 0 := ⟨[], Rd.nil _ _, Nat.le_refl _, by omega, Num.zero _⟩
theorem DM.pos {w : World} {A : Option Addr} {n c m : Nat} (h : DM w A n c m) : n = 0 ↔ m = 0 := by
  obtain ⟨l, h1, _, _, h4⟩ := h
  rw [← h4.nil_iff (by omega)]
  have := h1.len
  rw [nv_length] at this
  constructor
  · intro h; exact List.eq_nil_of_length_eq_zero (by omega)
  · intro h; subst h; simpa using this.symm
theorem DM.lt {w : World} {A : Option Addr} {n c m : Nat} (h : DM w A n c m) {k : Nat} (hk : n ≤ k) : m < 10000 ^ k := by
  obtain ⟨l, h1, _, _, h4⟩ := h
  exact h4.lt (by omega) (by have := h1.len; rw [nv_length] at this; omega)
theorem DM.len {w : World} {A : Option Addr} {n c m : Nat} (h : DM w A n c m) {k : Nat} (hk : m < 10000 ^ k) : n ≤ k := by
  obtain ⟨l, h1, _, _, h4⟩ := h
  have := h4.len_le (by omega) hk
  have := h1.len
  rw [nv_length] at this
  omega
/-- v is the refuterref03.N z. -/
def RN (w : World) (v : Value) (z : Int) : Prop := ∃ s A n c, v = .agg #[.bool s, .slice A n c] ∧ s = decide (z < 0) ∧ DM w A n c z.natAbs
theorem RN.new {w w' : World} {v : Value} {z : Int} (h : RN w v z) (hn : New w w') : RN w' v z := by
  obtain ⟨s, A, n, c, h1, h2, h3⟩ := h
  exact ⟨s, A, n, c, h1, h2, h3.new hn⟩
theorem RN.store {w w' : World} {v : Value} {z : Int} {g : Nat} {t : TypeId} {cs : Array Value} (h : RN w v z) (hb : Blk w g t cs) (hi : NoInt cs.toList) (hc : Chg (fun k => k = g) w w') : RN w' v z := by
  obtain ⟨s, A, n, c, h1, h2, h3⟩ := h
  exact ⟨s, A, n, c, h1, h2, h3.store hb hi hc⟩
theorem RN.zero (w : World) : RN w (.agg #[.bool false, .slice none 0 0]) 0 := ⟨_, _, _, _, rfl, rfl, DM.zero w⟩

set_option maxHeartbeats 1000000 in
theorem normal_any (s : Bool) (A : Option Addr) (n c : Nat) (l : List Nat) (w : World) (hr : Rd w A n (nv .i64 l)) (hnc : n ≤ c) (hc : c ≤ 9223372036854775807) :
    Calls Tryz.prog 72 #[.bool s, .slice A n c] w fun e w' => e = .returned (.agg #[.bool (s && decide (0 < (Dig.trim l).length)), .slice A (Dig.trim l).length c]) ∧ New w w' := by
  have hl : l.length = n := by have := hr.len; rwa [nv_length] at this
  obtain ⟨T, hT⟩ : ∃ T, (Dig.trim l).length = T := ⟨_, rfl⟩
  rw [hT]
  obtain ⟨b, hb⟩ : ∃ b, (s && decide (0 < T)) = b := ⟨_, rfl⟩
  rw [hb]
  have H0 := Lib.hid (And.intro hl (And.intro hr (And.intro hT hb)))
  clear hl hr hT hb
  have hup := fun (k : Nat) (i : Int) (hi : i = (k : Int)) (m : Nat) (hk : k ≤ c) (W : World) => run_upto elemInts .i64 A m c k i hi hk W
  have HUP := Lib.hid hup
  clear hup
  go_enter Tryz.func72, Tryz.ntmps72
  go_wp2
  obtain ⟨W, hW⟩ : ∃ W, w.alloc (.cells #[.bool false, .slice none 0 0] 26) = W := ⟨_, rfl⟩
  have HB : Hid (Blk W w.heap.size 26 #[.bool false, .slice none 0 0] ∧ New w W) := by rw [← hW]; exact ⟨Blk.new _ _ _, (Chg.refl _ w).alloc _⟩
  rw [hW]
  clear hW
  go_loopw [1] (fun v wr => ∃ k : Nat, v = .slice A k c ∧ k ≤ n ∧ Hid ((Dig.trim (l.take k)).length = T) ∧ wr = W) (fun v _ => match v with | .slice _ k _ => k | _ => 0)
  case atStart =>
    obtain ⟨hl, hr, hT, hb⟩ := H0.out
    exact ⟨n, rfl, Nat.le_refl _, by show _ = _; rw [List.take_of_length_le (by omega), hT], rfl⟩
  case round =>
    obtain ⟨k, rfl, hk, HK, rfl⟩ := hrel
    have hc0 := HB.out.1.cell 0 (u := .bool false) rfl
    have hc1 := HB.out.1.cell 1 (u := .slice none 0 0) rfl
    have hf0 := HB.out.1.frozen 0
    have hf1 := HB.out.1.frozen 1
    by_cases h0 : k = 0
    · subst h0
      have hTk : T = 0 := by
        have := HK.out
        simp [Dig.trim] at this
        omega
      have hbv : b = false := by
        have hb := H0.out.2.2.2
        rw [← hb, hTk]; simp
      subst hTk
      subst hbv
      cases s
      all_goals
        go_wp2
        refine bodyPost_ret (res_c rfl _ rfl (aggN.load (HB.out.1.set2 _ _))) rfl ⟨rfl, ?_⟩
        exact Chg.owned HB.out.2 (Chg.at2 _ _ _ _) (fun k e => by omega)
    · obtain ⟨j, rfl⟩ : ∃ j, k = j + 1 := ⟨k - 1, by omega⟩
      have hpos : decide ((0 : Int) < ((j + 1 : Nat) : Int)) = true := by simp
      obtain ⟨hl, hr, hT, hb⟩ := H0.out
      have hr2 := hr.new HB.out.2
      obtain ⟨ad, u, rfl, hu, hcu⟩ := hr2.at_ (show j < n by omega)
      obtain ⟨z, hz, rfl⟩ := nv_at hu
      have HZ := Lib.hid hz
      clear hl hr hr2 hT hb hu hz
      by_cases hz0 : z = 0
      · subst hz0
        have hup := HUP.out j ((j + 1 : Nat) - 1 : Int) (by omega) (j + 1) (by omega)
        go_wp2
        go_roundw
        case rel => exact ⟨j, rfl, by omega, by show _ = _; rw [← HK.out, trim_step HZ.out rfl], trivial⟩
        case measure => simp
      · have hzb : ((z : Int) == 0) = false := by simp; omega
        have hTk : T = j + 1 := by
          have := HK.out
          rw [trim_stop HZ.out hz0, List.length_take, Nat.min_eq_left (by have := H0.out.1; omega)] at this
          omega
        have hbv : b = s := by
          have hb := H0.out.2.2.2
          rw [← hb, hTk]; simp
        subst hTk
        subst hbv
        cases b
        all_goals
          go_wp2
          refine bodyPost_ret (res_c rfl _ rfl (aggN.load (HB.out.1.set2 _ _))) rfl ⟨rfl, ?_⟩
          exact Chg.owned HB.out.2 (Chg.at2 _ _ _ _) (fun k e => by omega)

/-- normal: the sign and any digits. -/
theorem normal_rn (s : Bool) (A : Option Addr) (n c : Nat) (l : List Nat) (w : World) (hr : Rd w A n (nv .i64 l)) (hd : Digs 10000 l) (hnc : n ≤ c) (hc : c ≤ 9223372036854775807) :
    Calls Tryz.prog 72 #[.bool s, .slice A n c] w fun e w' => ∃ v, e = .returned v ∧ RN w' v (sg s (val 10000 l)) ∧ New w w' := by
  refine (normal_any s A n c l w hr hnc hc).mono ?_
  rintro e w' ⟨rfl, hn⟩
  have hN := Num.of_trim hd
  have hll : l.length = n := by have := hr.len; rwa [nv_length] at this
  have hlen := trim_len l
  refine ⟨_, rfl, ⟨_, _, _, _, rfl, ?_, Dig.trim l, ?_, by omega, hc, ?_⟩, hn⟩
  · rw [sg_neg]
    congr 1
    rw [decide_eq_decide]
    have := hN.nil_iff (by omega)
    constructor
    · intro h
      rcases Nat.eq_zero_or_pos (val 10000 l) with h1 | h1
      · rw [this.2 h1] at h; simp at h
      · exact h1
    · intro h
      rcases Nat.eq_zero_or_pos (Dig.trim l).length with h1 | h1
      · have := this.1 (List.eq_nil_of_length_eq_zero h1); omega
      · exact h1
  · have := (hr.new hn).take (k := (Dig.trim l).length) (by omega)
    rw [nv_take, ← trim_take] at this
    exact this
  · rw [sg_abs]; exact hN

/-- Digits of n, one after another. -/
structure OfI (n m i : Nat) (o : List Nat) : Prop where
  len : o.length = i
  digs : Digs 10000 o
  eq : val 10000 o + 10000 ^ i * m = n
theorem OfI.step {n m i : Nat} {o : List Nat} (h : OfI n m i o) : OfI n (m / 10000) (i + 1) (o ++ [m % 10000]) := by
  refine ⟨by simp [h.len], h.digs.snoc (Nat.mod_lt _ (by omega)), ?_⟩
  rw [val_snoc, h.len, Nat.pow_succ, Nat.mul_assoc, Nat.add_assoc, ← Nat.mul_add, Nat.mod_add_div]
  exact h.eq
theorem tmod_neg' (m : Nat) : (-(m : Int)).tmod 10000 = -((m % 10000 : Nat) : Int) := by rw [Int.neg_tmod, Int.tmod_eq_emod_of_nonneg (by omega)]; simp
theorem tdiv_neg' (m : Nat) : (-(m : Int)).tdiv 10000 = -((m / 10000 : Nat) : Int) := by rw [Int.neg_tdiv, Int.tdiv_eq_ediv_of_nonneg (by omega)]; simp

set_option maxHeartbeats 2000000 in
theorem of_any (n : Int) (w : World) (h1 : -9223372036854775808 ≤ n) (h2 : n ≤ 9223372036854775807) :
    Calls Tryz.prog 15 #[.int .i64 n] w fun e w' => ∃ v, e = .returned v ∧ RN w' v n ∧ New w w' := by
  obtain ⟨M, hM⟩ : ∃ M : Nat, n.natAbs = M := ⟨_, rfl⟩
  have hMb : M ≤ 9223372036854775808 := by omega
  have hM5 : M < 10000 ^ (5 - 0) := Nat.lt_of_le_of_lt hMb (by decide)
  by_cases h : n < 0
  · obtain rfl : n = -(M : Int) := by omega
    have hMp : 0 < M := by omega
    clear hM
    go_enter Tryz.func15, Tryz.ntmps15
    go_wp2
    obtain ⟨W, hW⟩ : ∃ W, w.alloc (.cells #[.bool false, .slice none 0 0] 26) = W := ⟨_, rfl⟩
    have HB : Hid (Blk W w.heap.size 26 #[.bool false, .slice none 0 0] ∧ New w W) := by rw [← hW]; exact ⟨Blk.new _ _ _, (Chg.refl _ w).alloc _⟩
    rw [hW]
    clear hW
    go_loopw [0, 3] (fun v d wr => ∃ m i : Nat, ∃ A c o, v = .int .i64 (-(m : Int)) ∧ m ≤ 9223372036854775808 ∧ i ≤ 5 ∧ d = .slice A i c ∧ Hid (m < 10000 ^ (5 - i) ∧ OfI M m i o ∧ wr.ownsRow W.heap.size 3 1 (.slice A i c) i (nv .i64 o) ∧ New W wr)) (fun v _ _ => (-(intOf v)).toNat)
    case atStart => exact ⟨M, 0, none, 0, [], rfl, by omega, by omega, rfl, hM5, ⟨rfl, Digs.nil _, by simp⟩, World.ownsRow_nil _ _ _ _, Chg.refl _ _⟩
    case round =>
      obtain ⟨m, i, A, c, o, rfl, hm, hi, rfl, HO⟩ := hrel
      by_cases hm0 : m = 0
      · subst hm0
        go_wp2_with fail
        obtain ⟨_, hO, ho, hn⟩ := HO.out
        have hcap := own_cap ho
        refine (normal_rn true A i c o wr (Rd.of_own ho) hO.digs hcap.1 hcap.2).mono ?_
        rintro e w2 ⟨v, rfl, ⟨s2, A2, n2, c2, rfl, hs2, hm2⟩, hn2⟩
        have hval : sg true (val 10000 o) = -(M : Int) := by have := hO.eq; unfold sg; simp at this ⊢; omega
        rw [hval] at hs2 hm2
        have hb2 := (HB.out.1.chg hn (fun h => h)).chg hn2 (fun h => h)
        have hc0 := hb2.cell 0 (u := .bool false) rfl
        have hc1 := hb2.cell 1 (u := .slice none 0 0) rfl
        have hf0 := hb2.frozen 0
        have hf1 := hb2.frozen 1
        have H2 := Lib.hid (And.intro hb2 (And.intro (HB.out.2.new (hn.new hn2)) (And.intro hs2 hm2)))
        clear hO ho hn hcap hn2 hs2 hm2 hval hb2 HO
        go_wp2
        obtain ⟨hb2, hn2, hs2, hm2⟩ := H2.out
        refine bodyPost_ret (res_c rfl _ rfl (aggN.load (hb2.set2 _ _))) rfl ⟨_, rfl, ⟨s2, A2, n2, c2, rfl, hs2, hm2.store hb2 (noInt_two' _ _ _ _) (Chg.at2 _ _ _ _)⟩, ?_⟩
        exact Chg.owned hn2 (Chg.at2 _ _ _ _) (fun k e => by omega)
      · have hi5 : i < 5 := by
          rcases Nat.lt_or_ge i 5 with h | h
          · exact h
          · have := HO.out.1
            rw [show 5 - i = 0 by omega] at this
            omega
        have hne : ((-(m : Int)) != 0) = true := by simp; omega
        obtain ⟨d, hd⟩ : ∃ d, m % 10000 = d := ⟨_, rfl⟩
        obtain ⟨q, hq⟩ : ∃ q, m / 10000 = q := ⟨_, rfl⟩
        have hqm : q < m := by omega
        have hdb : d < 10000 := by omega
        have htm : (-(m : Int)).tmod 10000 = -(d : Int) := by rw [tmod_neg', hd]
        have htd : (-(m : Int)).tdiv 10000 = -(q : Int) := by rw [tdiv_neg', hq]
        have HN : Hid (q < 10000 ^ (5 - (i + 1)) ∧ OfI M q (i + 1) (o ++ [d])) := by
          obtain ⟨h1, hO, _⟩ := HO.out
          refine ⟨?_, by rw [← hd, ← hq]; exact hO.step⟩
          rw [← hq, Nat.div_lt_iff_lt_mul (by omega), ← Nat.pow_succ]
          show m < 10000 ^ (5 - (i + 1) + 1)
          rw [show 5 - (i + 1) + 1 = 5 - i by omega]
          exact h1
        clear hd hq
        by_cases hd0 : d = 0
        · replace htm : (-(m : Int)).tmod 10000 = (d : Int) := by rw [htm]; omega
          have hdn : decide ((d : Int) < 0) = false := by simp
          clear hd0
          go_wp2_with (at_builtin; refine wpList_app elemInts rfl _ _ rfl rfl (HO.out.2.2.1.alloc _) rfl (Rd.lit (nv .i64 [d]) rfl) (nv_one _) (by simp only [maxLen]; omega) (by omega) (by have := HO.out.2.2.2.size; simp; omega) ?_; intro A' c' w1 hown hg hat; have HA := Lib.hid (And.intro hown hg); clear hown hg hat)
          go_roundw
          case rel =>
            obtain ⟨hown, hg⟩ := HA.out
            rw [← nv_append] at hown
            refine ⟨q, i + 1, A', c', o ++ [d], rfl, by omega, by omega, rfl, HN.out.1, HN.out.2, hown, ?_⟩
            exact (HO.out.2.2.2.alloc _).grown hg (fun k hk hlt => by have := own_blk_le HO.out.2.2.1 hk; omega)
          case measure => simp [intOf]; omega
        · have hdn : -(d : Int) < 0 := by omega
          go_wp2_with (at_builtin; refine wpList_app elemInts rfl _ _ rfl rfl (HO.out.2.2.1.alloc _) rfl (Rd.lit (nv .i64 [d]) rfl) (nv_one _) (by simp only [maxLen]; omega) (by omega) (by have := HO.out.2.2.2.size; simp; omega) ?_; intro A' c' w1 hown hg hat; have HA := Lib.hid (And.intro hown hg); clear hown hg hat)
          go_roundw
          case rel =>
            obtain ⟨hown, hg⟩ := HA.out
            rw [← nv_append] at hown
            refine ⟨q, i + 1, A', c', o ++ [d], rfl, by omega, by omega, rfl, HN.out.1, HN.out.2, hown, ?_⟩
            exact (HO.out.2.2.2.alloc _).grown hg (fun k hk hlt => by have := own_blk_le HO.out.2.2.1 hk; omega)
          case measure => simp [intOf]; omega
  · obtain rfl : n = (M : Int) := by omega
    have hMb2 : M ≤ 9223372036854775807 := by omega
    have hdec : decide ((M : Int) < 0) = false := by simp
    clear hM
    go_enter Tryz.func15, Tryz.ntmps15
    go_wp2
    obtain ⟨W, hW⟩ : ∃ W, w.alloc (.cells #[.bool false, .slice none 0 0] 26) = W := ⟨_, rfl⟩
    have HB : Hid (Blk W w.heap.size 26 #[.bool false, .slice none 0 0] ∧ New w W) := by rw [← hW]; exact ⟨Blk.new _ _ _, (Chg.refl _ w).alloc _⟩
    rw [hW]
    clear hW
    go_loopw [0, 3] (fun v d wr => ∃ m i : Nat, ∃ A c o, v = .int .i64 (m : Int) ∧ m ≤ 9223372036854775807 ∧ i ≤ 5 ∧ d = .slice A i c ∧ Hid (m < 10000 ^ (5 - i) ∧ OfI M m i o ∧ wr.ownsRow W.heap.size 3 1 (.slice A i c) i (nv .i64 o) ∧ New W wr)) (fun v _ _ => (intOf v).toNat)
    case atStart => exact ⟨M, 0, none, 0, [], rfl, by omega, by omega, rfl, hM5, ⟨rfl, Digs.nil _, by simp⟩, World.ownsRow_nil _ _ _ _, Chg.refl _ _⟩
    case round =>
      obtain ⟨m, i, A, c, o, rfl, hm, hi, rfl, HO⟩ := hrel
      by_cases hm0 : m = 0
      · subst hm0
        go_wp2_with fail
        obtain ⟨_, hO, ho, hn⟩ := HO.out
        have hcap := own_cap ho
        refine (normal_rn false A i c o wr (Rd.of_own ho) hO.digs hcap.1 hcap.2).mono ?_
        rintro e w2 ⟨v, rfl, ⟨s2, A2, n2, c2, rfl, hs2, hm2⟩, hn2⟩
        have hval : sg false (val 10000 o) = (M : Int) := by have := hO.eq; unfold sg; simp at this ⊢; omega
        rw [hval] at hs2 hm2
        have hb2 := (HB.out.1.chg hn (fun h => h)).chg hn2 (fun h => h)
        have hc0 := hb2.cell 0 (u := .bool false) rfl
        have hc1 := hb2.cell 1 (u := .slice none 0 0) rfl
        have hf0 := hb2.frozen 0
        have hf1 := hb2.frozen 1
        have H2 := Lib.hid (And.intro hb2 (And.intro (HB.out.2.new (hn.new hn2)) (And.intro hs2 hm2)))
        clear hO ho hn hcap hn2 hs2 hm2 hval hb2 HO
        go_wp2
        obtain ⟨hb2, hn2, hs2, hm2⟩ := H2.out
        refine bodyPost_ret (res_c rfl _ rfl (aggN.load (hb2.set2 _ _))) rfl ⟨_, rfl, ⟨s2, A2, n2, c2, rfl, hs2, hm2.store hb2 (noInt_two' _ _ _ _) (Chg.at2 _ _ _ _)⟩, ?_⟩
        exact Chg.owned hn2 (Chg.at2 _ _ _ _) (fun k e => by omega)
      · have hi5 : i < 5 := by
          rcases Nat.lt_or_ge i 5 with h | h
          · exact h
          · have := HO.out.1
            rw [show 5 - i = 0 by omega] at this
            omega
        have hne : ((m : Int) != 0) = true := by simp; omega
        obtain ⟨d, hd⟩ : ∃ d, m % 10000 = d := ⟨_, rfl⟩
        obtain ⟨q, hq⟩ : ∃ q, m / 10000 = q := ⟨_, rfl⟩
        have hqm : q < m := by omega
        have hdb : d < 10000 := by omega
        have htm : (m : Int) % 10000 = (d : Int) := by omega
        have htd : (m : Int) / 10000 = (q : Int) := by omega
        have hdn : decide ((d : Int) < 0) = false := by simp
        have HN : Hid (q < 10000 ^ (5 - (i + 1)) ∧ OfI M q (i + 1) (o ++ [d])) := by
          obtain ⟨h1, hO, _⟩ := HO.out
          refine ⟨?_, by rw [← hd, ← hq]; exact hO.step⟩
          rw [← hq, Nat.div_lt_iff_lt_mul (by omega), ← Nat.pow_succ]
          show m < 10000 ^ (5 - (i + 1) + 1)
          rw [show 5 - (i + 1) + 1 = 5 - i by omega]
          exact h1
        clear hd hq
        go_wp2_with (at_builtin; refine wpList_app elemInts rfl _ _ rfl rfl (HO.out.2.2.1.alloc _) rfl (Rd.lit (nv .i64 [d]) rfl) (nv_one _) (by simp only [maxLen]; omega) (by omega) (by have := HO.out.2.2.2.size; simp; omega) ?_; intro A' c' w1 hown hg hat; have HA := Lib.hid (And.intro hown hg); clear hown hg hat)
        go_roundw
        case rel =>
          obtain ⟨hown, hg⟩ := HA.out
          rw [← nv_append] at hown
          refine ⟨q, i + 1, A', c', o ++ [d], rfl, by omega, by omega, rfl, HN.out.1, HN.out.2, hown, ?_⟩
          exact (HO.out.2.2.2.alloc _).grown hg (fun k hk hlt => by have := own_blk_le HO.out.2.2.1 hk; omega)
        case measure => simp [intOf]; omega
end Go.Proofs.YtbocpkjajocpiaaGreatDoor
