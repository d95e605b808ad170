/- Coloured blocks: what a region changes, by colours; facts that are kept, by colours. No program is named here. -/
import Derived.Test.YtdflpcbkkpgnlaaB0
import Derived.Test.YtdflpcbkkpgnlaaTyOps3Z
namespace Go.Col
set_option linter.unusedVariables false
open Go.RowKit Go.Mem

abbrev Colr := Nat → Nat
/-- Cells that no coloured block holds. -/
def NB : Value → Bool
  | _ => false
def GI (w : World) (c : Colr) : Prop := ∀ k cs t x, w.heap[k]? = some (.cells cs t x) → c k ≠ 0 → ∀ v ∈ cs.toList, NB v = false
theorem GI.zero (w : World) : GI w (fun _ => 0) := fun k cs t x _ h => absurd rfl h
theorem GI.drew {w : World} {c : Colr} (h : GI w c) : GI w.drew c := h

/-- From w, c to w', c': only blocks of the colours of S have changed, new ones are plain, forgotten or of these colours. -/
structure Ext (S : List Nat) (w : World) (c : Colr) (w' : World) (c' : Colr) : Prop where
  ok : (S.contains 0 || S.contains 1) = false
  chg : Chg (fun k => S.contains (c k) = true) w w'
  col : ∀ k, k < w.heap.size → c' k = c k
  neu : ∀ k, w.heap.size ≤ k → k < w'.heap.size → c' k = 0 ∨ c' k = 1 ∨ S.contains (c' k) = true
  gi : GI w' c'
section
variable {S T : List Nat} {w w' w'' : World} {c c' c'' : Colr}
theorem Ext.z (h : Ext S w c w' c') : S.contains 0 = false := (Bool.or_eq_false_iff.1 h.ok).1
theorem Ext.one (h : Ext S w c w' c') : S.contains 1 = false := (Bool.or_eq_false_iff.1 h.ok).2
theorem Ext.refl (hS : (S.contains 0 || S.contains 1) = false) (h : GI w c) : Ext S w c w c := ⟨hS, Chg.refl _ _, fun _ _ => rfl, fun k h1 h2 => by omega, h⟩
theorem Ext.drew (hS : (S.contains 0 || S.contains 1) = false) (h : GI w c) : Ext S w c w.drew c := ⟨hS, (Chg.refl _ _).drew, fun _ _ => rfl, fun k h1 (h2 : k < w.heap.size) => by omega, h⟩
theorem sub_all (h : T.all (S.contains ·) = true) {n : Nat} (hn : T.contains n = true) : S.contains n = true :=
  List.all_eq_true.1 h n (by simpa using hn)
theorem Ext.trans (h : Ext S w c w' c') (h' : Ext T w' c' w'' c'') (hs : T.all (S.contains ·) = true) : Ext S w c w'' c'' := by
  refine ⟨h.ok, h.chg.trans h'.chg (fun k hk ht => ?_), fun k hk => (h'.col k (Nat.lt_of_lt_of_le hk h.chg.size)).trans (h.col k hk), fun k h1 h2 => ?_, h'.gi⟩
  · rw [h.col k hk] at ht
    exact sub_all hs ht
  · by_cases hk : k < w'.heap.size
    · rw [h'.col k hk]
      exact h.neu k h1 hk
    · rcases h'.neu k (by omega) h2 with h3 | h3 | h3
      · exact .inl h3
      · exact .inr (.inl h3)
      · exact .inr (.inr (sub_all hs h3))
theorem Ext.mono (h : Ext T w c w' c') (hs : T.all (S.contains ·) = true) (hS : (S.contains 0 || S.contains 1) = false) : Ext S w c w' c' :=
  ⟨hS, h.chg.mono (fun k _ ht => sub_all hs ht), h.col, fun k h1 h2 => (h.neu k h1 h2).imp (fun h => h) (Or.imp (fun h => h) (sub_all hs)), h.gi⟩
def ext0 (c : Colr) (n : Nat) : Colr := fun k => if k < n then c k else 0
theorem Ext.of_new (h : New w w') (g : GI w c) : Ext [] w c w' (ext0 c w.heap.size) := by
  refine ⟨rfl, h.mono (fun _ _ hf => hf.elim), fun k hk => by simp [ext0, hk], fun k h1 h2 => .inl (if_neg (show ¬ k < w.heap.size by omega)), ?_⟩
  intro k cs t x hb hc v hv
  unfold ext0 at hc
  split at hc
  · rename_i hk
    rw [h.block k hk (fun h => h)] at hb
    exact g k cs t x hb hc v hv
  · exact absurd rfl hc
def setC (c : Colr) (g n : Nat) : Colr := fun k => if k = g then n else c k
theorem Ext.alloc {n : Nat} {cs : Array Value} {t : TypeId} (g : GI w c) (hn : ([n].contains 0 || [n].contains 1) = false) (hcs : cs.toList.all (fun v => !NB v) = true) : Ext [n] w c (w.alloc (.cells cs t)) (setC c w.heap.size n) := by
  refine ⟨hn, (Chg.refl _ w).alloc _, fun k hk => if_neg (show ¬ k = w.heap.size by omega), fun k h1 h2 => ?_, ?_⟩
  · have : k = w.heap.size := by simp at h2; omega
    subst this
    exact .inr (.inr (by simp [setC]))
  · intro k cs' t' x hb hc v hv
    by_cases hk : k = w.heap.size
    · subst hk
      rw [heap_alloc_new] at hb
      injection hb with hb
      injection hb with hb
      subst hb
      have := List.all_eq_true.1 hcs v (by simpa using hv)
      simpa using this
    · have hlt : k < w.heap.size := by
        have := (Array.getElem?_eq_some_iff.1 hb).1
        simp at this; omega
      rw [Below.heap_alloc w _ k hlt] at hb
      simp only [setC, if_neg hk] at hc
      exact g k cs' t' x hb hc v hv
theorem Ext.allocP {o : Obj} (g : GI w c) : Ext [] w c (w.alloc o) (ext0 c w.heap.size) := Ext.of_new ((Chg.refl _ w).alloc o) g
theorem Ext.store {n g : Nat} {t : TypeId} {cs : Array Value} (gi : GI w c) (hc : Chg (fun k => k = g) w w') (hz : w'.heap.size = w.heap.size) (hn : c g = n) (hS : ([n].contains 0 || [n].contains 1) = false) (hb : Blk w' g t cs) (hcs : cs.toList.all (fun v => !NB v) = true) : Ext [n] w c w' c := by
  refine ⟨hS, hc.mono (fun k _ e => by subst e; simp [hn]), fun _ _ => rfl, fun k h1 h2 => by omega, ?_⟩
  intro k cs' t' x hb' hck v hv
  by_cases hk : k = g
  · subst hk
    unfold Blk at hb
    rw [hb] at hb'
    injection hb' with hb'
    injection hb' with hb'
    subst hb'
    have := List.all_eq_true.1 hcs v (by simpa using hv)
    simpa using this
  · have hlt : k < w.heap.size := by
      have := (Array.getElem?_eq_some_iff.1 hb').1
      omega
    rw [hc.block k hlt hk] at hb'
    exact gi k cs' t' x hb' hck v hv
/-- The blocks that were there when all was plain have not changed. -/
theorem Ext.new0 (h : Ext S w (fun _ => 0) w' c') : New w w' := h.chg.mono (fun k _ hk => by rw [h.z] at hk; cases hk)
theorem add_block (ad : Addr) (j : Nat) : (ad.add j).block = ad.block := by
  cases ad
  simp only [Addr.add]
  split <;> rfl
/-- A slice that holds a barred value lies in a plain block: it is kept. -/
theorem rd_ext {A : Option Addr} {n : Nat} {xs : List Value} (h : Rd w A n xs) (hx : xs = [] ∨ ∃ x ∈ xs, NB x = true) (g : GI w c) (he : Ext S w c w' c') : Rd w' A n xs := by
  refine ⟨h.1, fun hn => ?_⟩
  obtain ⟨ad, rfl, hc⟩ := h.2 hn
  refine ⟨ad, rfl, fun j u hu => ?_⟩
  refine he.chg.cell (hc j u hu) ?_
  have hz : c (ad.add j).block = 0 := by
    rcases hx with rfl | ⟨x, hx1, hx2⟩
    · simp at hu
    obtain ⟨i, hi, hxi⟩ := List.mem_iff_getElem.1 hx1
    have h1 := hc i x (by rw [List.getElem?_eq_getElem hi, hxi])
    rw [add_block, ← add_block ad i]
    refine Decidable.byContradiction fun hne => ?_
    unfold World.cell? at h1
    split at h1
    · rename_i cs t x' heq
      split at h1
      · cases h1
      · have := g _ cs t x' heq hne x (by have := Array.mem_of_getElem? h1; simpa using this)
        rw [hx2] at this
        cases this
    · cases h1
  rw [hz, he.z]
  simp
/-- A slice in a plain block is kept. -/
theorem rd_ext0 {A : Option Addr} {n : Nat} {xs : List Value} (h : Rd w A n xs) (hx : ∀ ad, A = some ad → 0 < n → c ad.block = 0) (he : Ext S w c w' c') : Rd w' A n xs := by
  refine ⟨h.1, fun hn => ?_⟩
  obtain ⟨ad, rfl, hc⟩ := h.2 hn
  refine ⟨ad, rfl, fun j u hu => ?_⟩
  refine he.chg.cell (hc j u hu) ?_
  have hz : c (ad.add j).block = 0 := by rw [add_block]; exact hx ad rfl hn
  rw [hz, he.z]
  simp
theorem cell_lt {ad : Addr} {u : Value} (h : w.cell? ad = some u) : ad.block < w.heap.size := by
  unfold World.cell? at h
  split at h
  · rename_i heq
    exact (Array.getElem?_eq_some_iff.1 heq).1
  · cases h
end

/-- What a value is. -/
structure TyC where
  sat : Value → World → Colr → Prop
  stab : ∀ {S v w c w' c'}, sat v w c → GI w c → Ext S w c w' c' → sat v w' c'
def TyC.any : TyC := ⟨fun _ _ _ => True, fun _ _ _ => trivial⟩
def TyC.eq (u : Value) : TyC := ⟨fun v _ _ => v = u, fun h _ _ => h⟩
def TyC.tup1 (a : TyC) (u : Value) : TyC := ⟨fun v w c => ∃ x, v = .tuple #[x, u] ∧ a.sat x w c, fun ⟨x, h1, h2⟩ g e => ⟨x, h1, a.stab h2 g e⟩⟩
def TyC.tup2 (a b : TyC) (u : Value) : TyC := ⟨fun v w c => ∃ x y, v = .tuple #[x, y, u] ∧ a.sat x w c ∧ b.sat y w c, fun ⟨x, y, h1, h2, h3⟩ g e => ⟨x, y, h1, a.stab h2 g e, b.stab h3 g e⟩⟩
def TyC.pair (a b : TyC) : TyC := ⟨fun v w c => ∃ x y, v = .tuple #[x, y] ∧ a.sat x w c ∧ b.sat y w c, fun ⟨x, y, h1, h2, h3⟩ g e => ⟨x, y, h1, a.stab h2 g e, b.stab h3 g e⟩⟩
def TyC.ptr : TyC := ⟨fun v _ _ => ∃ g, v = .pointer (some ⟨g, 0, none⟩), fun h _ _ => h⟩
def TyC.sl (n : Nat) : TyC := ⟨fun v _ _ => ∃ g, v = .slice (some ⟨g, 0, none⟩) n n, fun h _ _ => h⟩
/-- Cells. -/
structure CTyC where
  sat : Array Value → World → Colr → Prop
  stab : ∀ {S v w c w' c'}, sat v w c → GI w c → Ext S w c w' c' → sat v w' c'

/-- Values of the type are structs of n cells, none of them barred. -/
def TyC.str (τ : TyC) (n : Nat) : Prop := ∀ v w c, τ.sat v w c → ∃ cs : Array Value, v = .agg cs ∧ cs.size = n ∧ cs.all (·.oneCell') = true ∧ cs.toList.all (fun v => !NB v) = true

def BoxC (w : World) (c : Colr) (g : Nat) (t : TypeId) (n : Nat) (τ : TyC) : Prop := c g = n ∧ ∃ v, τ.sat v w c ∧ Blk w g t v.cells
/-- A fact that is kept as long as no block of its colours changes. -/
structure Fact where
  cols : List Nat
  P : World → Colr → Prop
  stab : ∀ {S w c w' c'}, P w c → GI w c → Ext S w c w' c' → cols.any (S.contains ·) = false → P w' c'
def Fact.val (τ : TyC) (v : Value) : Fact := ⟨[], fun w c => τ.sat v w c, fun h g e _ => τ.stab h g e⟩
theorem blk_ext {S : List Nat} {w w' : World} {c c' : Colr} {g n : Nat} {t : TypeId} {cs : Array Value} (hb : Blk w g t cs) (hc : c g = n) (he : Ext S w c w' c') (hn : S.contains n = false) : Blk w' g t cs ∧ c' g = n :=
  ⟨hb.chg he.chg (fun h => by rw [hc, hn] at h; cases h), (he.col g hb.lt).trans hc⟩
def Fact.box (g : Nat) (t : TypeId) (n : Nat) (τ : TyC) : Fact := ⟨[n], fun w c => BoxC w c g t n τ, fun ⟨h1, v, h2, h3⟩ gi e hn => by
  have hn' := by simpa using hn
  obtain ⟨q1, q2⟩ := blk_ext h3 h1 e (by simpa using hn')
  exact ⟨q2, v, τ.stab h2 gi e, q1⟩⟩
/-- A plain block. -/
def Fact.row (g : Nat) (t : TypeId) (κ : CTyC) : Fact := ⟨[], fun w c => c g = 0 ∧ ∃ cs, κ.sat cs w c ∧ Blk w g t cs, fun ⟨h1, v, h2, h3⟩ gi e _ => by
  obtain ⟨q1, q2⟩ := blk_ext h3 h1 e e.z
  exact ⟨q2, v, κ.stab h2 gi e, q1⟩⟩

/-- What a value is that owns blocks of some colours. -/
structure TyO where
  cols : List Nat
  sat : Value → World → Colr → Prop
  stab : ∀ {S v w c w' c'}, sat v w c → GI w c → Ext S w c w' c' → cols.any (S.contains ·) = false → sat v w' c'
def Fact.own (τ : TyO) (v : Value) : Fact := ⟨τ.cols, τ.sat v, τ.stab⟩
abbrev BB := Nat → Bool
abbrev FF := Nat → Option Value
theorem any_app {l l' : List Nat} {p : Nat → Bool} (h : (l ++ l').any p = false) : l.any p = false ∧ l'.any p = false := by
  rw [List.any_append, Bool.or_eq_false_iff] at h
  exact h
/-- A fact in a region: what it says depends on the operations that have run and on the slots that they have written. st: from operation i on F1 instead. new: a box that is made in the region: slot p holds its address; operation s fills it; z: its cells at first. own: slot p holds a value that owns blocks. -/
inductive RF where
  | s (F : Fact)
  | st (i : Nat) (F1 : Fact) (F0 : RF)
  | new (p n : Nat) (t : TypeId) (s : Nat) (z : Array Value) (τ : TyC)
  | own (p : Nat) (τ : TyO)
def RF.cols : RF → List Nat
  | .s F => F.cols
  | .st _ F1 F0 => F1.cols ++ F0.cols
  | .new _ n _ _ _ _ => [n]
  | .own _ τ => τ.cols
def RF.ops : RF → List Nat
  | .s _ => []
  | .st i _ F0 => i :: F0.ops
  | .new _ _ _ sp _ _ => [sp]
  | .own _ _ => []
def RF.slots : RF → List Nat
  | .s _ => []
  | .st _ _ F0 => F0.slots
  | .new p _ _ _ _ _ => [p]
  | .own p _ => [p]
def RF.P : RF → BB → FF → World → Colr → Prop
  | .s F, _, _, w, c => F.P w c
  | .st i F1 F0, b, f, w, c => (b i = true → F1.P w c) ∧ (b i = false → F0.P b f w c)
  | .new p n t sp z τ, b, f, w, c => ∀ g, (f p).bind adr = some g → (b sp = true → BoxC w c g t n τ) ∧ (b sp = false → c g = n ∧ Blk w g t z)
  | .own p τ, b, f, w, c => ∀ v, f p = some v → τ.sat v w c
theorem RF.dep {b b' : BB} {f f' : FF} {w : World} {c : Colr} : ∀ (F : RF), F.P b f w c → (∀ i, F.ops.contains i = true → b' i = b i) → (∀ d, F.slots.contains d = true → f' d = f d) → F.P b' f' w c
  | .s F, h, _, _ => h
  | .st i F1 F0, ⟨h1, h2⟩, ho, hs => ⟨fun hb => h1 ((ho i (by simp [RF.ops])) ▸ hb), fun hb => RF.dep F0 (h2 ((ho i (by simp [RF.ops])) ▸ hb)) (fun j hj => ho j (by simp [RF.ops] at hj ⊢; exact .inr hj)) hs⟩
  | .new p n t sp z τ, h, ho, hs => fun g hg => by
    rw [hs p (by simp [RF.slots])] at hg
    rw [ho sp (by simp [RF.ops])]
    exact h g hg
  | .own p τ, h, ho, hs => fun g hg => by
    rw [hs p (by simp [RF.slots])] at hg
    exact h g hg
theorem RF.stab {b : BB} {f : FF} {S : List Nat} {w w' : World} {c c' : Colr} : ∀ (F : RF), F.P b f w c → GI w c → Ext S w c w' c' → F.cols.any (S.contains ·) = false → F.P b f w' c'
  | .s F, h, g, e, hn => F.stab h g e hn
  | .st i F1 F0, ⟨h1, h2⟩, g, e, hn => ⟨fun hb => F1.stab (h1 hb) g e (any_app hn).1, fun hb => RF.stab F0 (h2 hb) g e (any_app hn).2⟩
  | .new p n t sp z τ, h, gi, e, hn => fun g hg => by
    obtain ⟨h1, h2⟩ := h g hg
    refine ⟨fun hb => (Fact.box g t n τ).stab (h1 hb) gi e hn, fun hb => ?_⟩
    obtain ⟨q1, q2⟩ := h2 hb
    exact (blk_ext q2 q1 e (by simpa [RF.cols] using hn)).symm
  | .own p τ, h, gi, e, hn => fun g hg => τ.stab (h g hg) gi e hn
def Fact.tru : Fact := ⟨[], fun _ _ => True, fun _ _ _ _ => trivial⟩
/-- What it says behind the region. -/
def RF.fin : RF → Fact
  | .s F => F
  | .st _ F1 _ => F1
  | .new _ _ _ _ _ _ => Fact.tru
  | .own _ _ => Fact.tru
theorem RF.to_fin {b : BB} {f : FF} {w : World} {c : Colr} : ∀ (F : RF), F.P b f w c → (∀ i, F.ops.contains i = true → b i = true) → F.fin.P w c
  | .s F, h, _ => h
  | .st i F1 F0, h, hb => h.1 (hb i (by simp [RF.ops]))
  | .new _ _ _ _ _ _, _, _ => trivial
  | .own _ _, _, _ => trivial
def All : List RF → BB → FF → World → Colr → Prop
  | [], _, _, _, _ => True
  | F :: L, b, f, w, c => F.P b f w c ∧ All L b f w c
def bup (b : BB) (i : Nat) : BB := fun k => if k = i then true else b k
def aff (S : List Nat) (i : Nat) (od : Option Nat) (F : RF) : Bool := F.cols.any (S.contains ·) || F.ops.contains i || (match od with | some d => F.slots.contains d | none => false)
theorem aff_no {S : List Nat} {i : Nat} {od : Option Nat} {F : RF} (h : aff S i od F = false) : F.cols.any (S.contains ·) = false ∧ (∀ j, F.ops.contains j = true → j ≠ i) ∧ (∀ d, F.slots.contains d = true → od ≠ some d) := by
  unfold aff at h
  rw [Bool.or_eq_false_iff, Bool.or_eq_false_iff] at h
  refine ⟨h.1.1, fun j hj e => ?_, fun d hd e => ?_⟩
  · subst e; rw [hj] at h; cases h.1.2
  · subst e
    have := h.2
    simp only at this
    rw [hd] at this; cases this
theorem All.step {S : List Nat} {i : Nat} {od : Option Nat} {v : Value} {b : BB} {f : FF} {w w' : World} {c c' : Colr} (hg : GI w c) (he : Ext S w c w' c') : ∀ Fs : List RF, All Fs b f w c → All (Fs.filter (aff S i od)) (bup b i) (upF od v f) w' c' → All Fs (bup b i) (upF od v f) w' c'
  | [], _, _ => trivial
  | F :: Fs, h, h' => by
    cases ha : aff S i od F with
    | true =>
      rw [List.filter_cons_of_pos ha] at h'
      exact ⟨h'.1, All.step hg he Fs h.2 h'.2⟩
    | false =>
      rw [List.filter_cons_of_neg (by rw [ha]; simp)] at h'
      obtain ⟨h1, h2, h3⟩ := aff_no ha
      refine ⟨RF.dep F (RF.stab F h.1 hg he h1) (fun j hj => ?_) (fun d hd => ?_), All.step hg he Fs h.2 h'⟩
      · simp [bup, h2 j hj]
      · simp [upF, h3 d hd]
theorem All.stab {b : BB} {f : FF} {w w' : World} {c c' : Colr} (hg : GI w c) (he : Ext [] w c w' c') : ∀ Fs : List RF, All Fs b f w c → All Fs b f w' c'
  | [], _ => trivial
  | F :: Fs, h => ⟨RF.stab F h.1 hg he (by simp), All.stab hg he Fs h.2⟩

section
variable {P : Program} {ops : Array Oper} {Q : Exit → Act → World → Prop} {T : Array Value} {ds : List Deferred}
structure J (ops : Array Oper) (w0 : World) (c0 : Colr) (CB : List Nat) (Fs : List RF) (V : Nat → TyC) (b : BB) (f : FF) (w : World) (c : Colr) : Prop where
  gi : GI w c
  ext : Ext CB w0 c0 w c
  typ : ∀ d v, f d = some v → (V d).sat v w c
  fac : All Fs b f w c
  set : ∀ (i : Nat) (o : Oper) d, ops[i]? = some o → o.dst = some d → (b i = true ↔ f d ≠ none)
  out : ∀ d, (∀ (i : Nat) (o : Oper), ops[i]? = some o → o.dst ≠ some d) → f d = none
  cl : ∀ (i : Nat) (o : Oper), ops[i]? = some o → b i = true → ∀ e ∈ o.after, Region.binds .any e = true → b e.on = true
/-- What a step has to show. -/
inductive Step (P : Program) (ops : Array Oper) (Q : Exit → Act → World → Prop) (CB : List Nat) (Fs : List RF) (V : Nat → TyC) (b : BB) (f : FF) (w : World) (c : Colr) (a : Act) (i : Nat) (o : Oper) : Prop where
  | run (S : List Nat) (od : Option Nat) (hw : Region.wanted o (yielded ops a.tmps) = true) (hd : o.dst = od) (hS : S.all (CB.contains ·) = true)
      (h : o.wp P a w (fun a' w' => ∃ v c', a' = a.put o.dst v ∧ Ext S w c w' c' ∧ (∀ d, od = some d → (V d).sat v w' c') ∧ All (Fs.filter (aff S i od)) (bup b i) (upF od v f) w' c') Q)
  | skip (od : Option Nat) (hd : o.dst = od) (hw : Region.wanted o (yielded ops a.tmps) = false) (hs : ∀ d, od = some d → (V d).sat undef w c) (h : All (Fs.filter (aff [] i od)) (bup b i) (upF od undef f) w c)

theorem region_typed {id : Nat} {dr : Bool} {w0 : World} {c0 : Colr} (hm : dr = true → P.follows .mixedOrders = true) (CB : List Nat) (Fs : List RF) (V : Nat → TyC)
    (hCB : (CB.contains 0 || CB.contains 1) = false) (hg : GI w0 c0) (hF : All Fs (fun _ => false) (fun _ => none) w0 c0)
    (hord : ∀ (i : Nat) (o : Oper), ops[i]? = some o → ∀ e ∈ o.after, Region.binds .any e = true → e.on < i)
    (hdst : ∀ (i j : Nat) (o o' : Oper) d, ops[i]? = some o → ops[j]? = some o' → o.dst = some d → o'.dst = some d → i = j)
    (hdone : ∀ b f w c, J ops w0 c0 CB Fs V b f w c → (∀ i, i < ops.size → b i = true) → Q .normal ⟨upd T f, ds⟩ w)
    (hstep : ∀ (b : BB) (f : FF) (w : World) (c : Colr) (i : Nat) (o : Oper), J ops w0 c0 CB Fs V b f w c → ops[i]? = some o → b i = false → (∀ e ∈ o.after, Region.binds .any e = true → b e.on = true) →
      Step P ops Q CB Fs V b f w c ⟨upd T f, ds⟩ i o) :
    (Code.region id ops dr).wp P Q ⟨T, ds⟩ w0 := by
  have start : J ops w0 c0 CB Fs V (fun _ => false) (fun _ => none) w0 c0 :=
    ⟨hg, Ext.refl hCB hg, fun d v h => (by cases h), hF, fun i o d _ _ => by simp, fun _ _ => rfl, fun i o _ h => (by cases h)⟩
  have start2 : J ops w0 c0 CB Fs V (fun _ => false) (fun _ => none) w0.drew c0 :=
    ⟨hg.drew, Ext.drew hCB hg, fun d v h => (by cases h), All.stab hg (Ext.drew rfl hg) _ hF, fun i o d _ _ => by simp, fun _ _ => rfl, fun i o _ h => (by cases h)⟩
  refine region_inv2 hm (fun b f w => ∃ c, J ops w0 c0 CB Fs V b f w c) hord ⟨⟨c0, start⟩, ⟨c0, start2⟩⟩ (fun b f w ⟨c, hJ⟩ hb => hdone b f w c hJ hb) ?_
  rintro b f w i o ⟨c, hJ⟩ ho hbi ha
  have hcl : ∀ (j : Nat) (o' : Oper), ops[j]? = some o' → (if j = i then true else b j) = true → ∀ e ∈ o'.after, Region.binds .any e = true → (if e.on = i then true else b e.on) = true := by
    intro j o' ho' hb e he hbe
    split
    · rfl
    · by_cases hj : j = i
      · subst hj
        rw [ho] at ho'
        injection ho' with ho'
        subst ho'
        exact ha e he hbe
      · rw [if_neg hj] at hb
        exact hJ.cl j o' ho' hb e he hbe
  have key : ∀ (S : List Nat) (od : Option Nat) (v : Value) (w' : World) (c' : Colr), o.dst = od → S.all (CB.contains ·) = true → Ext S w c w' c' → (∀ d, od = some d → (V d).sat v w' c') → All (Fs.filter (aff S i od)) (bup b i) (upF od v f) w' c' → J ops w0 c0 CB Fs V (fun k => if k = i then true else b k) (upF o.dst v f) w' c' := by
    intro S od v w' c' hd hS he hv hA
    subst hd
    refine ⟨he.gi, hJ.ext.trans he hS, fun d' v' h' => ?_, All.step hJ.gi he Fs hJ.fac hA, fun j o' d' ho' hd' => ?_, fun d' hd' => ?_, hcl⟩
    · simp only [upF] at h'
      split at h'
      · rename_i e
        injection h' with h'
        subst h'
        exact hv d' e
      · exact (V d').stab (hJ.typ d' v' h') hJ.gi he
    · simp only [upF]
      by_cases hj : j = i
      · subst hj
        rw [ho] at ho'
        injection ho' with ho'
        subst ho'
        simp [hd']
      · have hne : ¬ (o.dst = some d') := fun e => hj (hdst j i o' o d' ho' ho hd' e)
        rw [if_neg hj, if_neg hne]
        exact hJ.set j o' d' ho' hd'
    · have hne : ¬ (o.dst = some d') := fun e => hd' i o ho e
      simp only [upF]
      rw [if_neg hne]
      exact hJ.out d' hd'
  cases hstep b f w c i o hJ ho hbi ha with
  | run S od hw hd hS h =>
    refine .inl ⟨hw, ?_⟩
    refine Oper.wp_mono ?_ h
    rintro a' w' ⟨v, c', rfl, he, hv, hA⟩
    exact ⟨v, rfl, c', key S od v w' c' hd hS he hv hA⟩
  | skip od hd hw hs h =>
    refine .inr ⟨hw, ?_⟩
    exact ⟨c, key [] od undef w c hd rfl (Ext.refl rfl hJ.gi) hs h⟩

theorem region_tz {id : Nat} {dr : Bool} {a : Act} {w0 : World} {c0 : Colr} (hm : dr = true → P.follows .mixedOrders = true) (D : List Nat) (hchk : chk ops D = true) (CB : List Nat) (Fs : List RF) (V : Nat → TyC)
    (hCB : (CB.contains 0 || CB.contains 1) = false) (hg : GI w0 c0) (hF : All Fs (fun _ => false) (fun _ => none) w0 c0)
    (hstep : ∀ (b : BB) (f : FF) (w : World) (c : Colr) (x : Act) (i : Nat) (o : Oper), i < ops.size → J ops w0 c0 CB Fs V b f w c → (∀ d, d ∉ D → f d = none) → Fr a x f → ops[i]? = some o → b i = false → (∀ e ∈ o.after, Region.binds .any e = true → b e.on = true) →
      Step P ops Q CB Fs V b f w c x i o)
    (hdone : ∀ b f w c x, J ops w0 c0 CB Fs V b f w c → (∀ i, i < ops.size → b i = true) → (∀ d, d ∉ D → f d = none) → Fr a x f → Q .normal x w) :
    (Code.region id ops dr).wp P Q a w0 := by
  obtain ⟨T, ds⟩ := a
  have hout : ∀ b f w c, J ops w0 c0 CB Fs V b f w c → ∀ d, d ∉ D → f d = none := fun b f w c hJ d hd => hJ.out d (fun i o ho e => hd (chk_in hchk i o d ho e))
  have hfr : ∀ f, Fr ⟨T, ds⟩ ⟨upd T f, ds⟩ f := fun f => ⟨fun t ht => by rw [upd_eval T f ds t ht]; rfl, by simp [upd], rfl⟩
  refine region_typed hm CB Fs V hCB hg hF (chk_ord hchk) (chk_dst hchk) (fun b f w c hJ hb => hdone b f w c _ hJ hb (hout _ _ _ _ hJ) (hfr f)) ?_
  intro b f w c i o hJ ho hbi ha
  exact hstep b f w c _ i o (Array.getElem?_eq_some_iff.1 ho).1 hJ (hout _ _ _ _ hJ) (hfr f) ho hbi ha

theorem J.got {w0 : World} {c0 : Colr} {CB : List Nat} {Fs : List RF} {V : Nat → TyC} {b : BB} {f : FF} {w : World} {c : Colr} {i d : Nat} {x : Op} {g : Option (Nat × Bool)} {deps : List Nat} (hJ : J ops w0 c0 CB Fs V b f w c) (h : IsO ops i (some d) x g deps) (hb : b i = true) : ∃ v, f d = some v ∧ (V d).sat v w c := by
  obtain ⟨o, ho, _, hd, _⟩ := h
  have h1 := (hJ.set i o d ho hd).1 hb
  cases hf : f d with
  | none => exact absurd hf h1
  | some v => exact ⟨v, rfl, hJ.typ d v hf⟩
theorem J.none {w0 : World} {c0 : Colr} {CB : List Nat} {Fs : List RF} {V : Nat → TyC} {b : BB} {f : FF} {w : World} {c : Colr} {i d : Nat} {x : Op} {g : Option (Nat × Bool)} {deps : List Nat} (hJ : J ops w0 c0 CB Fs V b f w c) (h : IsO ops i (some d) x g deps) (hb : b i = false) : f d = none := by
  obtain ⟨o, h1, _, h2, _⟩ := h
  cases hf : f d with
  | none => rfl
  | some v =>
    have := (hJ.set i o d h1 h2).2 (by rw [hf]; simp)
    rw [hb] at this
    cases this
/-- An operation that waits for one that has not run has not run. -/
theorem J.not {w0 : World} {c0 : Colr} {CB : List Nat} {Fs : List RF} {V : Nat → TyC} {b : BB} {f : FF} {w : World} {c : Colr} {i j : Nat} {d : Option Nat} {x : Op} {g : Option (Nat × Bool)} {deps : List Nat} (hJ : J ops w0 c0 CB Fs V b f w c) (h : IsO ops i d x g deps) (hj : b j = false) (hd : j ∈ deps) : b i = false := by
  obtain ⟨o, h1, _, h2, _, h5⟩ := h
  cases hb : b i with
  | false => rfl
  | true =>
    obtain ⟨e, he, hbe, rfl⟩ := h5 j hd
    have := hJ.cl i o h1 hb e he hbe
    rw [hj] at this
    cases this
/-- What an operation waits for that has run has run. -/
theorem J.has {w0 : World} {c0 : Colr} {CB : List Nat} {Fs : List RF} {V : Nat → TyC} {b : BB} {f : FF} {w : World} {c : Colr} {i j : Nat} {d : Option Nat} {x : Op} {g : Option (Nat × Bool)} {deps : List Nat} (hJ : J ops w0 c0 CB Fs V b f w c) (h : IsO ops i d x g deps) (hb : b i = true) (hd : j ∈ deps) : b j = true := by
  obtain ⟨o, h1, _, h2, _, h5⟩ := h
  obtain ⟨e, he, hbe, rfl⟩ := h5 j hd
  exact hJ.cl i o h1 hb e he hbe

/-! ### what operations do -/
variable {CB : List Nat} {Fs : List RF} {V : Nat → TyC} {b : BB} {f : FF} {w : World} {c : Colr} {a : Act} {i : Nat} {o : Oper} {v : Value}
theorem Step.pure (d : Nat) (hw : Region.wanted o (yielded ops a.tmps) = true) (hd : o.dst = some d) (hA : All (Fs.filter (aff [] i (some d))) (bup b i) (upF (some d) v f) w c) (hg : GI w c) (h : (execOp a.eval o).run P w = .ok (.value v) w) (hv : (V d).sat v w c) : Step P ops Q CB Fs V b f w c a i o :=
  .run [] (some d) hw hd rfl (wp_val h ⟨v, c, rfl, Ext.refl rfl hg, fun d' e => by injection e with e; subst e; exact hv, hA⟩)
theorem Step.non (d : Nat) (hw : Region.wanted o (yielded ops a.tmps) = false) (hd : o.dst = some d) (hA : All (Fs.filter (aff [] i (some d))) (bup b i) (upF (some d) undef f) w c) (hv : (V d).sat undef w c) : Step P ops Q CB Fs V b f w c a i o :=
  .skip (some d) hd hw (fun d' e => by injection e with e; subst e; exact hv) hA
/-- A call that changes blocks of the colours of S. -/
def CE (P : Program) (f : Nat) (vs : Array Value) (w : World) (c : Colr) (S : List Nat) (R : Value → World → Colr → Prop) : Prop := GI w c → Calls P f vs w fun e w' => ∃ v c', e = .returned v ∧ R v w' c' ∧ Ext S w c w' c'
/-- A call that changes nothing. -/
def CV (P : Program) (f : Nat) (vs : Array Value) (w : World) (c : Colr) (τ : TyC) : Prop := CE P f vs w c [] (fun v w' c' => τ.sat v w' c')
theorem CV.of_new {f : Nat} {vs : Array Value} {τ : TyC} {R : Value → World → Prop} (h : Calls P f vs w fun e w' => ∃ v, e = .returned v ∧ R v w' ∧ New w w') (hR : ∀ v w' c', R v w' → τ.sat v w' c') : CV P f vs w c τ := fun hg =>
  h.mono fun e w' ⟨v, h1, h2, h3⟩ => ⟨v, _, h1, hR v w' _ h2, Ext.of_new h3 hg⟩
theorem wp_callE {K : Act → World → Prop} {fn : Nat} {args : Array Operand} {tys : Array TypeId} {vs : Array Value} {S : List Nat} {R : Value → World → Colr → Prop} (h : o.op = .call { callee := .value (.func fn), args := args, argTypes := tys }) (ha : args.map a.eval = vs) (he : ∀ w, (callFunc fn vs).run P w = .ok (.enter fn vs) w)
    (hc : CE P fn vs w c S R) (hg : GI w c) (hk : ∀ v w' c', R v w' c' → Ext S w c w' c' → K (a.put o.dst v) w') : o.wp P a w K Q := by
  unfold Oper.wp execOp
  rw [h]
  have hev : a.eval (.func fn) = .func (.func fn) #[] #[] := rfl
  simp [resolve, invoke, hev, ha, he, Oper.upon, go_sem]
  refine (hc hg).mono ?_
  rintro e w' ⟨v, c', rfl, h1, h2⟩
  exact hk v w' c' h1 h2
theorem Step.call (d : Nat) {fn : Nat} {args : Array Operand} {tys : Array TypeId} {vs : Array Value} (hw : Region.wanted o (yielded ops a.tmps) = true) (hd : o.dst = some d) (hA : (Fs.filter (aff [] i (some d))) = []) (hg : GI w c) (h : o.op = .call { callee := .value (.func fn), args := args, argTypes := tys }) (ha : args.map a.eval = vs) (he : ∀ w, (callFunc fn vs).run P w = .ok (.enter fn vs) w)
    (hc : CV P fn vs w c (V d)) : Step P ops Q CB Fs V b f w c a i o :=
  .run [] (some d) hw hd rfl (wp_callE h ha he hc hg (fun v w' c' hv hE => ⟨v, c', rfl, hE, fun d' e => by injection e with e; subst e; exact hv, by rw [hA]; trivial⟩))
theorem Step.callE (d : Nat) (S : List Nat) {R : Value → World → Colr → Prop} {fn : Nat} {args : Array Operand} {tys : Array TypeId} {vs : Array Value} (hw : Region.wanted o (yielded ops a.tmps) = true) (hd : o.dst = some d) (hS : S.all (CB.contains ·) = true) (hg : GI w c) (h : o.op = .call { callee := .value (.func fn), args := args, argTypes := tys }) (ha : args.map a.eval = vs) (he : ∀ w, (callFunc fn vs).run P w = .ok (.enter fn vs) w)
    (hc : CE P fn vs w c S R) (hk : ∀ v w' c', R v w' c' → Ext S w c w' c' → (V d).sat v w' c' ∧ All (Fs.filter (aff S i (some d))) (bup b i) (upF (some d) v f) w' c') : Step P ops Q CB Fs V b f w c a i o :=
  .run S (some d) hw hd hS (wp_callE h ha he hc hg (fun v w' c' hv hE => ⟨v, c', rfl, hE, fun d' e => by injection e with e; subst e; exact (hk v w' c' hv hE).1, (hk v w' c' hv hE).2⟩))
theorem bup_at {b : BB} {i : Nat} : bup b i i = true := by simp [bup]
theorem bup_ne {b : BB} {i k : Nat} (h : (k == i) = false) : bup b i k = b k := by simp at h; simp [bup, h]
theorem up_at {d : Nat} {v : Value} {f : FF} : upF (some d) v f d = some v := by simp [upF]
/-- A box is made and filled at once: op box. -/
theorem new_box {p n s : Nat} {t : TypeId} {z cs : Array Value} {τ : TyC} {u : Value} (hcs : u.cells = cs) (hu : τ.sat u w c) (hg : GI w c) (hi : s = i) (hn : ([n].contains 0 || [n].contains 1) = false) (hb : cs.toList.all (fun v => !NB v) = true) :
    (RF.new p n t s z τ).P (bup b i) (upF (some p) (.pointer (some ⟨w.heap.size, 0, none⟩)) f) (w.alloc (.cells cs t)) (setC c w.heap.size n) := by
  subst hi hcs
  intro g hgp
  rw [up_at] at hgp
  obtain rfl : w.heap.size = g := by simpa [adr] using hgp
  refine ⟨fun _ => ⟨by simp [setC], u, τ.stab hu hg (Ext.alloc hg hn hb), Blk.new _ _ _⟩, fun h => ?_⟩
  rw [bup_at] at h; cases h
theorem new_zero {p n s : Nat} {t : TypeId} {z : Array Value} {τ : TyC} (hs : b s = false) (hi : (s == i) = false) :
    (RF.new p n t s z τ).P (bup b i) (upF (some p) (.pointer (some ⟨w.heap.size, 0, none⟩)) f) (w.alloc (.cells z t)) (setC c w.heap.size n) := by
  intro g hgp
  rw [up_at] at hgp
  obtain rfl : w.heap.size = g := by simpa [adr] using hgp
  refine ⟨fun h => ?_, fun h => ⟨by simp [setC], Blk.new _ _ _⟩⟩
  rw [bup_ne hi, hs] at h; cases h
theorem Step.box (p n : Nat) (s : Nat) (z cs : Array Value) (τ : TyC) {ty : TypeId} {x : Operand} {u : Value} (hw : Region.wanted o (yielded ops a.tmps) = true) (hd : o.dst = some p) (hS : [n].all (CB.contains ·) = true) (hF : Fs.filter (aff [n] i (some p)) = [RF.new p n ty s z τ]) (hg : GI w c) (ho : o.op = .box ty x) (hx : a.eval x = u) (hcs : u.cells = cs) (hu : τ.sat u w c) (hi : s = i) (hn : ([n].contains 0 || [n].contains 1) = false) (hb : cs.toList.all (fun v => !NB v) = true) (hV : V p = TyC.ptr) :
    Step P ops Q CB Fs V b f w c a i o := by
  refine .run [n] (some p) hw hd hS (wp_val (ex_box ho hx) ⟨_, setC c w.heap.size n, rfl, ?_, fun d e => ?_, ?_⟩)
  · rw [hcs]; exact Ext.alloc hg hn hb
  · injection e with e; subst e; rw [hV]; exact ⟨_, rfl⟩
  · rw [hF, hcs]; exact ⟨new_box hcs hu hg hi hn hb, trivial⟩
theorem Step.alloc (p n : Nat) (s : Nat) (z : Array Value) (τ : TyC) {ty : TypeId} {u : Value} (hw : Region.wanted o (yielded ops a.tmps) = true) (hd : o.dst = some p) (hS : [n].all (CB.contains ·) = true) (hF : Fs.filter (aff [n] i (some p)) = [RF.new p n ty s z τ]) (hg : GI w c) (ho : o.op = .alloc ty) (hz : (zeroValue ty).run P w = .ok u w) (hcs : u.cells = z) (hsb : b s = false) (hi : (s == i) = false) (hn : ([n].contains 0 || [n].contains 1) = false) (hb : z.toList.all (fun v => !NB v) = true) (hV : V p = TyC.ptr) :
    Step P ops Q CB Fs V b f w c a i o := by
  refine .run [n] (some p) hw hd hS (wp_val (ex_alloc ho hz) ⟨_, setC c w.heap.size n, rfl, ?_, fun d e => ?_, ?_⟩)
  · rw [hcs]; exact Ext.alloc hg hn hb
  · injection e with e; subst e; rw [hV]; exact ⟨_, rfl⟩
  · rw [hF, hcs]; exact ⟨new_zero hsb hi, trivial⟩
theorem Step.alloc0 (p n : Nat) (s : Nat) (z : Array Value) (τ : TyC) {ty : TypeId} {u : Value} (hw : Region.wanted o (yielded ops a.tmps) = true) (hd : o.dst = some p) (hS : [n].all (CB.contains ·) = true) (hF : Fs.filter (aff [n] i (some p)) = [RF.new p n ty s z τ]) (hg : GI w c) (ho : o.op = .alloc ty) (hz : (zeroValue ty).run P w = .ok u w) (hcs : u.cells = z) (hu : τ.sat u w c) (hi : s = i) (hn : ([n].contains 0 || [n].contains 1) = false) (hb : z.toList.all (fun v => !NB v) = true) (hV : V p = TyC.ptr) :
    Step P ops Q CB Fs V b f w c a i o := by
  refine .run [n] (some p) hw hd hS (wp_val (ex_alloc ho hz) ⟨_, setC c w.heap.size n, rfl, ?_, fun d e => ?_, ?_⟩)
  · rw [hcs]; exact Ext.alloc hg hn hb
  · injection e with e; subst e; rw [hV]; exact ⟨_, rfl⟩
  · rw [hF, hcs]; exact ⟨new_box hcs hu hg hi hn hb, trivial⟩
/-- A whole value is stored into a block of colour n. -/
theorem store_col {ty t : TypeId} {g n m : Nat} {old cs : Array Value} (hA : Agg P ty m) (hb : Blk w g t old) (ho : old.size = m) (hc : cs.size = m) (h1 : cs.all (·.oneCell') = true) (hg : GI w c) (hn : c g = n) (hS : ([n].contains 0 || [n].contains 1) = false) (hNB : cs.toList.all (fun v => !NB v) = true) :
    ∃ w', (storeVar ty ⟨g, 0, none⟩ (.agg cs)).run P w = .ok () w' ∧ Ext [n] w c w' c ∧ Blk w' g t cs := by
  obtain ⟨d, hu, hd, hi⟩ := hA
  have hr := run_storeVar_row (P := P) w g t ty old cs hb (by rw [hi, hc]) (by rw [ho, hc]) h1
  have hb' : Blk (w.setRow g cs) g t cs := setRow_heap w g old cs t (0, 0) hb
  exact ⟨_, hr, Ext.store hg ⟨rfl, rfl, rfl, by simp [World.setRow], fun k hk hne => setRow_other w g k cs hne⟩ (by simp [World.setRow]) hn hS hb' hNB, hb'⟩
theorem store_tyc {ty t : TypeId} {g n m : Nat} {old : Array Value} {τ : TyC} (hA : Agg P ty m) (hs : τ.str m) (hb : Blk w g t old) (ho : old.size = m) (hv : τ.sat v w c) (hg : GI w c) (hn : c g = n) (hS : ([n].contains 0 || [n].contains 1) = false) :
    ∃ w', (storeVar ty ⟨g, 0, none⟩ v).run P w = .ok () w' ∧ Ext [n] w c w' c ∧ BoxC w' c g t n τ := by
  obtain ⟨cs, rfl, h1, h2, h3⟩ := hs v w c hv
  obtain ⟨w', q1, q2, q3⟩ := store_col (P := P) (t := t) hA hb ho h1 h2 hg hn hS h3
  exact ⟨w', q1, q2, hn, _, τ.stab hv hg q2, q3⟩
theorem BoxC.old {g n m : Nat} {t : TypeId} {τ : TyC} (h : BoxC w c g t n τ) (hs : τ.str m) : ∃ old, Blk w g t old ∧ old.size = m ∧ c g = n := by
  obtain ⟨h1, u, h2, h3⟩ := h
  obtain ⟨cs, rfl, h4, _⟩ := hs u w c h2
  exact ⟨_, h3, h4, h1⟩
theorem BoxC.load {g n m : Nat} {t ty : TypeId} {τ : TyC} (h : BoxC w c g t n τ) (hA : Agg P ty m) (hs : τ.str m) : ∃ u, (loadVar ty ⟨g, 0, none⟩).run P w = .ok u w ∧ τ.sat u w c := by
  obtain ⟨h1, u, h2, h3⟩ := h
  obtain ⟨cs, rfl, h4, _⟩ := hs u w c h2
  subst h4
  exact ⟨_, Agg.load hA h3, h2⟩
theorem Step.store (n : Nat) (S : List Nat) {ty : TypeId} {x y : Operand} {ad : Addr} (hS : S = [n]) (hw : Region.wanted o (yielded ops a.tmps) = true) (hd : o.dst = none) (hCB : [n].all (CB.contains ·) = true) (ho : o.op = .store ty x y) (hx : a.eval x = .pointer (some ad)) (hy : a.eval y = v)
    (h : ∃ w', (storeVar ty ad v).run P w = .ok () w' ∧ Ext [n] w c w' c ∧ All (Fs.filter (aff [n] i none)) (bup b i) f w' c) : Step P ops Q CB Fs V b f w c a i o := by
  obtain ⟨w', h1, h2, h3⟩ := h
  have hu : upF none undef f = f := by funext d; simp [upF]
  refine .run [n] none hw hd hCB (wp_skp (ex_store ho hx hy h1) ⟨undef, c, by rw [hd], h2, fun d e => (by cases e), ?_⟩)
  rw [hu]
  exact h3
end
theorem RF.new_none {p n s : Nat} {t : TypeId} {z : Array Value} {τ : TyC} {b : BB} {w : World} {c : Colr} : (RF.new p n t s z τ).P b (fun _ => none) w c := fun g hg => by cases hg
theorem RF.own_none {p : Nat} {τ : TyO} {b : BB} {w : World} {c : Colr} : (RF.own p τ).P b (fun _ => none) w c := fun g hg => by cases hg
end Go.Col
namespace Go.Col
open Go.RowKit Go.Mem
theorem All.at {b : BB} {f : FF} {w : World} {c : Colr} : ∀ {Fs : List RF}, All Fs b f w c → ∀ (k : Nat) {F : RF}, Fs[k]? = some F → F.P b f w c
  | F :: Fs, h, 0, F', hk => by
    simp at hk; subst hk; exact h.1
  | F :: Fs, h, k + 1, F', hk => All.at (Fs := Fs) h.2 k (by simpa using hk)
  | [], _, k, F', hk => by simp at hk
/-- The types of slots, from a list. -/
def tyvC (L : List (Nat × TyC)) (d : Nat) : TyC := (L.lookup d).getD TyC.any
section
variable {P : Program} {ops : Array Oper} {Q : Exit → Act → World → Prop} {CB : List Nat} {Fs : List RF} {V : Nat → TyC} {b : BB} {f : FF} {w : World} {c : Colr} {a : Act} {i : Nat} {o : Oper} {v : Value}
theorem Step.allocz (p n : Nat) (s : Nat) (z : Array Value) (τ : TyC) {ty : TypeId} {u : Value} {cs : Array Value} (hw : Region.wanted o (yielded ops a.tmps) = true) (hd : o.dst = some p) (hS : [n].all (CB.contains ·) = true) (hF : Fs.filter (aff [n] i (some p)) = [RF.new p n ty s z τ]) (hg : GI w c) (ho : o.op = .alloc ty) (hz : (zeroValue ty).run P w = .ok u w) (hcs : u.cells = cs) (hu : τ.sat u w c) (hi : s = i) (hn : ([n].contains 0 || [n].contains 1) = false) (hb : cs.toList.all (fun v => !NB v) = true) (hV : V p = TyC.ptr) :
    Step P ops Q CB Fs V b f w c a i o := by
  refine .run [n] (some p) hw hd hS (wp_val (ex_alloc ho hz) ⟨_, setC c w.heap.size n, rfl, ?_, fun d e => ?_, ?_⟩)
  · rw [hcs]; exact Ext.alloc hg hn hb
  · injection e with e; subst e; rw [hV]; exact ⟨_, rfl⟩
  · rw [hF, hcs]; exact ⟨new_box hcs hu hg hi hn hb, trivial⟩
/-- A contract of a function that is handed plain values: what it returns, and only new memory. -/
def CT0 (P : Program) (f : Nat) (vs : Array Value) (w : World) (τ : TyC) : Prop := Calls P f vs w fun e w' => ∃ v, e = .returned v ∧ τ.sat v w' (fun _ => 0) ∧ New w w'
/-- What a value is does not ask for colours. -/
def TyC.plain (τ : TyC) : Prop := ∀ v w c c', τ.sat v w c → τ.sat v w c'
theorem CT0.cv {fn : Nat} {vs : Array Value} {τ : TyC} (h : CT0 P fn vs w τ) (hp : τ.plain) : CV P fn vs w c τ := CV.of_new (R := fun v w' => τ.sat v w' (fun _ => 0)) h (fun v w' c' hv => hp v w' _ c' hv)
theorem CT0.of_CT {fn : Nat} {vs : Array Value} {τ : Ty} {σ : TyC} (h : CT P fn vs w τ) (hs : ∀ v w', τ.sat v w' → σ.sat v w' (fun _ => 0)) : CT0 P fn vs w σ := h.mono fun e w' ⟨v, h1, h2, h3⟩ => ⟨v, h1, hs v w' h2, h3⟩
theorem plain_tup1 {τ : TyC} {u : Value} (h : τ.plain) : (τ.tup1 u).plain := fun v w c c' ⟨x, h1, h2⟩ => ⟨x, h1, h x w c c' h2⟩
theorem plain_tup2 {τ σ : TyC} {u : Value} (h : τ.plain) (h' : σ.plain) : (τ.tup2 σ u).plain := fun v w c c' ⟨x, y, h1, h2, h3⟩ => ⟨x, y, h1, h x w c c' h2, h' y w c c' h3⟩
theorem plain_pair {τ σ : TyC} (h : τ.plain) (h' : σ.plain) : (τ.pair σ).plain := fun v w c c' ⟨x, y, h1, h2, h3⟩ => ⟨x, y, h1, h x w c c' h2, h' y w c c' h3⟩
theorem plain_eq (u : Value) : (TyC.eq u).plain := fun v w c c' h => h
variable {fn : Func} {p q r : Tmp}
theorem res_tt (h : fn.results = #[.tmp p, .tmp q]) (tmps : Array Value) {v u : Value} (hp : tmps.getD p undef = v) (hq : tmps.getD q undef = u) : (results fn tmps).run P w = .ok (.tuple #[v, u]) w := by
  have hp' : tmps[p]?.getD undef = v := by simpa using hp
  have hq' : tmps[q]?.getD undef = u := by simpa using hq
  simp [results, h, hp', hq']
theorem res_t (h : fn.results = #[.tmp p]) (tmps : Array Value) {v : Value} (hp : tmps.getD p undef = v) : (results fn tmps).run P w = .ok v w := by
  have hp' : tmps[p]?.getD undef = v := by simpa using hp
  simp [results, h, hp']
theorem res_cc {g g2 : Nat} {ty ty2 : TypeId} (h : fn.results = #[.cell p ty, .cell q ty2]) (tmps : Array Value) {v v2 : Value} (hp : tmps.getD p undef = .pointer (some ⟨g, 0, none⟩)) (hl : (loadVar ty ⟨g, 0, none⟩).run P w = .ok v w)
    (hq : tmps.getD q undef = .pointer (some ⟨g2, 0, none⟩)) (hl2 : (loadVar ty2 ⟨g2, 0, none⟩).run P w = .ok v2 w) : (results fn tmps).run P w = .ok (.tuple #[v, v2]) w := by
  have hp' : tmps[p]?.getD undef = .pointer (some ⟨g, 0, none⟩) := by simpa using hp
  have hq' : tmps[q]?.getD undef = .pointer (some ⟨g2, 0, none⟩) := by simpa using hq
  simp [results, h, hp', hq', asAddr, hl, hl2]
end
/-- The first part ends in an assertion. -/
theorem wp_join {P : Program} {x y : Code} {Q : Exit → Act → World → Prop} {a : Act} {w : World} (M : Act → World → Prop) (h1 : x.wp P (Exit.then M Q) a w) (h2 : ∀ a w, M a w → y.wp P Q a w) : (Code.seq x y).wp P Q a w := by
  refine wp_seq (wp_mono h1 (fun e a' w' h => ?_))
  cases e with
  | normal => exact h2 a' w' h
  | _ => exact h
theorem run_rem_i {P : Program} {w : World} (x y : Int) (t : TypeId) (h : y ≠ 0) : (binOp .rem t (.int .i64 x) (.int .i64 y)).run P w = .ok (.int .i64 (x.tmod y)) w := by
  simp [binOp, Op.intDiv, h, go_sem]
theorem run_quo_i {P : Program} {w : World} (x y : Int) (t : TypeId) (h : y ≠ 0 ∧ y ≠ -1) (hx : -9223372036854775808 ≤ x ∧ x ≤ 9223372036854775807) : (binOp .quo t (.int .i64 x) (.int .i64 y)).run P w = .ok (.int .i64 (x.tdiv y)) w := by
  have hr : IntKind.i64.wrap (x.tdiv y) = x.tdiv y := by
    refine IntWalk.i64_in _ ?_
    have h1 := Int.natAbs_tdiv_le_natAbs x y
    by_cases hm : x = -9223372036854775808
    · subst hm
      by_cases hy1 : y = 1
      · subst hy1; decide
      · have h2 : ((-9223372036854775808 : Int).tdiv y).natAbs ≤ 4611686018427387904 := by
          rw [Int.natAbs_tdiv]
          have h3 : 2 ≤ y.natAbs := by omega
          exact Nat.div_le_of_le_mul (by omega)
        omega
    · omega
  simp [binOp, Op.intDiv, h.1, hr, go_sem]
end Go.Col
