/- The parts Mem, MemSet, MemMk, RegInv, MemRes, Typed, TypedOps, TyW, TyOps2, TyOps3, Col, Seq, St, PureDig of the proof, in one text. -/
import Derived.WalkKit
import Derived.WalkSpells
import Derived.WalkLawsBesides
import Derived.Maps.AppendAt
import Derived.Deep.AppendLies
import Derived.Deep.Draws
import Derived.Lib.Hide
import Derived.Orders
import Derived.IntWalk
import Derived.LoopN
set_option linter.unusedSimpArgs false
set_option linter.unusedVariables false

namespace Go.Mem
set_option linter.unusedVariables false
open Go.RowKit

/-- What a call changes at most: the blocks of S, and new ones. -/
structure Chg (S : Nat → Prop) (w w' : World) : Prop where
  os : w'.os = w.os
  tape : w'.tape = w.tape
  output : w'.output = w.output
  size : w.heap.size ≤ w'.heap.size
  block : ∀ k, k < w.heap.size → ¬ S k → w'.heap[k]? = w.heap[k]?

/-- Nothing that was there has changed. -/
abbrev New (w w' : World) : Prop := Chg (fun _ => False) w w'

section
variable {S T : Nat → Prop} {w w' w'' : World}
theorem Chg.refl (S : Nat → Prop) (w : World) : Chg S w w := ⟨rfl, rfl, rfl, Nat.le_refl _, fun _ _ _ => rfl⟩
theorem Chg.trans (h : Chg S w w') (h' : Chg T w' w'') (hs : ∀ k, k < w.heap.size → T k → S k) : Chg S w w'' :=
  ⟨h'.os.trans h.os, h'.tape.trans h.tape, h'.output.trans h.output, Nat.le_trans h.size h'.size,
    fun k hk hn => (h'.block k (Nat.lt_of_lt_of_le hk h.size) (fun ht => hn (hs k hk ht))).trans (h.block k hk hn)⟩
theorem Chg.new (h : Chg S w w') (h' : New w' w'') : Chg S w w'' := h.trans h' (fun _ _ hf => hf.elim)
theorem Chg.mono (h : Chg S w w') (hs : ∀ k, k < w.heap.size → S k → T k) : Chg T w w' :=
  ⟨h.os, h.tape, h.output, h.size, fun k hk hn => h.block k hk (fun hS => hn (hs k hk hS))⟩
theorem Chg.drew (h : Chg S w w') : Chg S w w'.drew := ⟨h.os, h.tape, h.output, h.size, h.block⟩
theorem Chg.drewN (h : Chg S w w') (n : Nat) : Chg S w (w'.drewN n) := ⟨h.os, h.tape, h.output, h.size, h.block⟩
theorem Chg.alloc (h : Chg S w w') (o : Obj) : Chg S w (w'.alloc o) :=
  ⟨h.os, h.tape, h.output, Nat.le_trans h.size (by simp), fun k hk hn => (Below.heap_alloc w' o k (Nat.lt_of_lt_of_le hk h.size)).trans (h.block k hk hn)⟩
theorem Chg.setCell (h : Chg S w w') {p : Addr} (hp : p.block < w.heap.size → S p.block) (u : Value) : Chg S w (w'.setCell p u) :=
  ⟨h.os, h.tape, h.output, Nat.le_trans h.size (by simp [World.setCell]), fun k hk hn => (Below.heap_setCell w' p u k (fun e => hn (by subst e; exact hp hk))).trans (h.block k hk hn)⟩
theorem Chg.grown (h : Chg S w w') {row : Option Nat} (hg : w'.grownBy w'' row) (hr : ∀ k, row = some k → k < w.heap.size → S k) : Chg S w w'' :=
  ⟨hg.os.trans h.os, hg.tape.trans h.tape, hg.output.trans h.output, Nat.le_trans h.size hg.size,
    fun k hk hn => (hg.block k (Nat.lt_of_lt_of_le hk h.size) (fun e => hn (hr k e.symm hk))).trans (h.block k hk hn)⟩
theorem Chg.below (h : Chg S w w') {B : Nat} (hs : ∀ k, S k → B ≤ k) (hB : B ≤ w.heap.size) : Below B w w' :=
  ⟨h.os, h.tape, h.output, h.size, fun k hk => h.block k (by omega) (fun hS => by have := hs k hS; omega)⟩
theorem New.below (h : New w w') : Below w.heap.size w w' := Chg.below h (fun _ hf => hf.elim) (Nat.le_refl _)
theorem New.of_below (h : Below w.heap.size w w') : New w w' := ⟨h.os, h.tape, h.output, h.size, fun k hk _ => h.block k hk⟩
theorem Chg.cell (h : Chg S w w') {p : Addr} {u : Value} (hc : w.cell? p = some u) (hn : ¬ S p.block) : w'.cell? p = some u :=
  (World.cell?_of_block (h.block p.block (World.block_lt_of_cell? w p hc) hn)).trans hc
theorem Chg.heap (h : Chg S w w') {g : Nat} {o : Obj} (hc : w.heap[g]? = some o) (hn : ¬ S g) : w'.heap[g]? = some o :=
  (h.block g (Array.getElem?_eq_some_iff.1 hc).1 hn).trans hc
/-- What the call leaves of its own: all that has changed lies at N or behind it. -/
theorem Chg.own (h : Chg S w w') (hs : ∀ k, k < w.heap.size → ¬ S k) : New w w' := h.mono (fun k hk hS => hs k hk hS)
end

/-- The block that a slice's address lies in. -/
def blk (A : Option Addr) : Option Nat := A.map (·.block)

/-- A slice whose n one-cell elements are xs. -/
def Rd (w : World) (A : Option Addr) (n : Nat) (xs : List Value) : Prop :=
  xs.length = n ∧ (0 < n → ∃ ad, A = some ad ∧ ∀ j u, xs[j]? = some u → w.cell? (ad.add j) = some u)

theorem block_add (a : Addr) (n : Nat) : (a.add n).block = a.block := by unfold Addr.add; split <;> rfl
theorem add_add' (a : Addr) (i j : Nat) : (a.add i).add j = a.add (i + j) := by
  unfold Addr.add
  by_cases hi : i = 0 <;> by_cases hj : j = 0 <;> simp [hi, hj, Nat.add_assoc]

section
variable {S : Nat → Prop} {w w' : World} {A : Option Addr} {n : Nat} {xs : List Value}
theorem Rd.nil (w : World) (A : Option Addr) : Rd w A 0 [] := ⟨rfl, fun h => absurd h (by omega)⟩
theorem Rd.len (h : Rd w A n xs) : xs.length = n := h.1
theorem Rd.at_ {k : Nat} (h : Rd w A n xs) (hk : k < n) : ∃ ad u, A = some ad ∧ xs[k]? = some u ∧ w.cell? (ad.add k) = some u := by
  obtain ⟨ad, e, hc⟩ := h.2 (by omega)
  have hl : k < xs.length := by have := h.1; omega
  exact ⟨ad, xs[k], e, List.getElem?_eq_getElem hl, hc k _ (List.getElem?_eq_getElem hl)⟩
theorem Rd.chg (h : Rd w A n xs) (hc : Chg S w w') (hs : ∀ k, blk A = some k → k < w.heap.size → ¬ S k) : Rd w' A n xs :=
  ⟨h.1, fun hn => by
    obtain ⟨ad, rfl, hcell⟩ := h.2 hn
    refine ⟨ad, rfl, fun j u hu => ?_⟩
    have h1 := hcell j u hu
    have hlt := World.block_lt_of_cell? w _ h1
    rw [block_add] at hlt
    exact hc.cell h1 (by rw [block_add]; exact hs ad.block rfl hlt)⟩
theorem Rd.new (h : Rd w A n xs) (hc : New w w') : Rd w' A n xs := h.chg hc (fun _ _ _ hf => hf)
theorem Rd.of_own {base : Nat} {e : TypeId} {c : Nat} (h : w.ownsRow base e 1 (.slice A n c) n xs) : Rd w A n xs := by
  refine ⟨by simpa using h.1, fun hn => ?_⟩
  obtain ⟨g, cap, hv, _, hlt⟩ := h.form hn
  have hA : A = some ⟨g, 0, none⟩ := by injection hv
  subst hA
  exact ⟨_, rfl, h.cells (g := g) rfl⟩
theorem Rd.take (h : Rd w A n xs) {k : Nat} (hk : k ≤ n) : Rd w A k (xs.take k) :=
  ⟨by rw [List.length_take, h.1]; omega, fun hn => by
    obtain ⟨ad, rfl, hc⟩ := h.2 (by omega)
    refine ⟨ad, rfl, fun j u hu => hc j u ?_⟩
    rw [List.getElem?_take] at hu
    split at hu
    · exact hu
    · cases hu⟩
theorem Rd.drop (h : Rd w A n xs) {k : Nat} (hk : k ≤ n) : Rd w (A.map (·.add k)) (n - k) (xs.drop k) :=
  ⟨by rw [List.length_drop, h.1], fun hn => by
    obtain ⟨ad, rfl, hc⟩ := h.2 (by omega)
    refine ⟨ad.add k, rfl, fun j u hu => ?_⟩
    rw [add_add']
    exact hc _ u (by rw [← hu, List.getElem?_drop])⟩
theorem Rd.cut (h : Rd w A n xs) {k cap : Nat} (hk : k ≤ n) (hc : n ≤ cap) : Rd w (if cap = k then A else A.map (·.add k)) (n - k) (xs.drop k) := by
  by_cases e : cap = k
  · have hn : n - k = 0 := by omega
    rw [if_pos e, hn]
    have : xs.drop k = [] := List.drop_eq_nil_of_le (by rw [h.1]; omega)
    rw [this]; exact Rd.nil w A
  · rw [if_neg e]; exact h.drop hk
end

/-- The slice type t has the one-cell element type e, with zero value z and that many bytes. -/
def Elem (P : Program) (t e : TypeId) (z : Value) (bytes : Nat) : Prop :=
  P.underlying t = some (.slice e) ∧ (∃ i, P.info? e = some i ∧ i.zero = some z ∧ i.size = 1 ∧ i.bytes = bytes) ∧ z.cells.size = 1

theorem Elem.mk' {P : Program} {t e : TypeId} {z : Value} {bytes : Nat} (h : P.underlying t = some (.slice e))
    (hi : (P.info? e).map (fun i => (i.zero, i.size, i.bytes)) = some (some z, 1, bytes)) (hz : z.cells.size = 1) : Elem P t e z bytes :=
  ⟨h, info_parts hi, hz⟩

theorem ownBlock_slice (A : Option Addr) (n c : Nat) : (Value.slice A n c).ownBlock = blk A := by cases A <;> rfl

section
variable {P : Program} {w : World} {base : Nat} {t e : TypeId} {z : Value} {bytes : Nat}

theorem own_slice {v : Value} {n : Nat} {xs : List Value} (h : w.ownsRow base e 1 v n xs) : ∃ A c, v = .slice A n c := by
  rcases h.2 with ⟨rfl, rfl⟩ | ⟨g, cap, cur, rfl, _⟩
  · exact ⟨_, _, rfl⟩
  · exact ⟨_, _, rfl⟩

theorem own_blk_le {A : Option Addr} {n c : Nat} {xs : List Value} (h : w.ownsRow base e 1 (.slice A n c) n xs) {k : Nat} (hk : blk A = some k) : base ≤ k ∧ k < w.heap.size :=
  h.lt k (by rw [ownBlock_slice]; exact hk)

theorem own_cap {A : Option Addr} {n c : Nat} {xs : List Value} (h : w.ownsRow base e 1 (.slice A n c) n xs) : n ≤ c ∧ c ≤ maxLen := by
  rcases h.2 with ⟨hv, rfl⟩ | ⟨g, cap, cur, hv, _, _, h1, h2, _⟩
  · injection hv with _ _ hc; subst hc; exact ⟨Nat.le_refl _, Nat.zero_le _⟩
  · injection hv with _ _ hc; subst hc; exact ⟨h1, h2⟩

theorem own_chg {w' : World} {S : Nat → Prop} {A : Option Addr} {n c : Nat} {xs : List Value} (h : w.ownsRow base e 1 (.slice A n c) n xs) (hc : Chg S w w') (hs : ∀ k, blk A = some k → ¬ S k) : w'.ownsRow base e 1 (.slice A n c) n xs := by
  refine ⟨h.1, ?_⟩
  rcases h.2 with h0 | ⟨g, cap, cur, hv, hb, hg, r⟩
  · exact .inl h0
  · refine .inr ⟨g, cap, cur, hv, hb, ?_, r⟩
    have hA : A = some ⟨g, 0, none⟩ := by injection hv
    exact hc.heap hg (hs g (by rw [hA]; rfl))

/-- append, whatever the source: nil, empty or not. -/
theorem run_app (hE : Elem P t e z bytes) (ty : TypeId) {A0 : Option Addr} {n c0 : Nat} {xs : List Value} (hown : w.ownsRow base e 1 (.slice A0 n c0) n xs)
    {A : Option Addr} {m c : Nat} {news : List Value} (hr : Rd w A m news) (h1 : ∀ u ∈ news, u.oneCell' = true)
    (h63 : n + m ≤ maxLen) (hbytes : (n + m) * bytes ≤ 140737488355328) (hbase : base ≤ w.heap.size) :
    ∃ A' c' w', (Builtin.append_ #[t, t] ty #[.slice A0 n c0, .slice A m c]).run P w = .ok (.slice A' (n + m) c') w' ∧
      w'.ownsRow base e 1 (.slice A' (n + m) c') (n + m) (xs ++ news) ∧ w.grownBy w' (blk A0) ∧ (blk A' = blk A0 ∨ blk A' = some w.heap.size) := by
  obtain ⟨ht, ⟨i, hi, hz, hsize, hby⟩, hzs⟩ := hE
  rcases A with _ | ad
  · have hm : m = 0 := by
      rcases Nat.eq_zero_or_pos m with h0 | h0
      · exact h0
      · obtain ⟨ad, h, _⟩ := hr.2 h0
        cases h
    subst hm
    have hn : news = [] := List.eq_nil_of_length_eq_zero hr.1
    subst hn
    refine ⟨A0, c0, w, ?_, by simpa using hown, World.grownBy.refl w _, .inl rfl⟩
    have hcap := (own_cap hown).1
    rcases hown.2 with ⟨hv, rfl⟩ | ⟨g, cap, cur, hv, _, _, hnc, _⟩
    · injection hv with h1 _ h3
      subst h1 h3
      simp [Builtin.append_, run_underlying ht, sizeOf, typeInfo, hi, Builtin.lenOf, Builtin.firstCells]
    · injection hv with h1 _ h3
      subst h1 h3
      simp [Builtin.append_, run_underlying ht, sizeOf, typeInfo, hi, Builtin.lenOf, Builtin.firstCells, hnc, storeCells]
  · have hcells : ∀ j u, news[j]? = some u → w.cell? (ad.add j) = some u := by
      intro j u hu
      rcases Nat.eq_zero_or_pos m with h0 | h0
      · subst h0
        have hn : news = [] := List.eq_nil_of_length_eq_zero hr.1
        subst hn
        simp at hu
      · obtain ⟨ad', h, hc⟩ := hr.2 h0
        injection h with h
        subst h
        exact hc j u hu
    obtain ⟨v', w', hrun, h2, h3, _, h5⟩ := run_append_own_at (P := P) w base t ty e i z 1 bytes ht hi hz hsize hby hzs (by omega) _ n xs hown ad m c news (by simpa using hr.1) hcells h1 h63 hbytes hbase
    obtain ⟨A', c', rfl⟩ := own_slice h2
    rw [ownBlock_slice] at h3 h5
    rw [ownBlock_slice] at h5
    exact ⟨A', c', w', hrun, h2, h3, h5⟩

theorem wpList_app (hE : Elem P t e z bytes) {ops : Array Oper} {rest : List Oper} {o : Oper} {a : Act} {Q : Exit → Act → World → Prop} (hgd : o.guard = none) (s x : Operand)
    (ho : o.op = .call { callee := .builtin .append, args := #[s, x], argTypes := #[t, t] })
    {A0 : Option Addr} {n c0 : Nat} {xs : List Value} (hs : a.eval s = .slice A0 n c0) (hown : w.ownsRow base e 1 (.slice A0 n c0) n xs)
    {A : Option Addr} {m c : Nat} {news : List Value} (hx : a.eval x = .slice A m c) (hr : Rd w A m news) (h1 : ∀ u ∈ news, u.oneCell' = true)
    (h63 : n + m ≤ maxLen) (hbytes : (n + m) * bytes ≤ 140737488355328) (hbase : base ≤ w.heap.size)
    (h : ∀ A' c' w', w'.ownsRow base e 1 (.slice A' (n + m) c') (n + m) (xs ++ news) → w.grownBy w' (blk A0) → (blk A' = blk A0 ∨ blk A' = some w.heap.size) → wpList P ops Q rest (a.put o.dst (.slice A' (n + m) c')) w') :
    wpList P ops Q (o :: rest) a w := by
  refine wpList_plain hgd fun K hK => ?_
  obtain ⟨A', c', w', hrun, h2, h3, h4⟩ := run_app (P := P) hE o.type hown hr h1 h63 hbytes hbase
  unfold Oper.wp execOp
  simp only [ho, resolve, invoke, builtin, Sem.run_bind, Sem.run_pure, Result.andThen_ok, List.map_toArray, List.map_cons, List.map_nil, hs, hx]
  rw [hrun]
  exact hK _ _ (h A' c' w' h2 h3 h4)
end

/-- The address of x[k:]. -/
def cutA (A : Option Addr) (c k : Nat) : Option Addr := if c = k then A else A.map (·.add k)
theorem blk_cutA (A : Option Addr) (c k : Nat) : blk (cutA A c k) = blk A := by
  unfold cutA blk
  split
  · rfl
  · cases A <;> simp [block_add]
theorem Rd.cutA {w : World} {A : Option Addr} {n : Nat} {xs : List Value} (h : Rd w A n xs) {k cap : Nat} (hk : k ≤ n) (hc : n ≤ cap) : Rd w (cutA A cap k) (n - k) (xs.drop k) := h.cut hk hc
theorem run_cut {P : Program} {t e : TypeId} {z : Value} {bytes : Nat} (hE : Elem P t e z bytes) (kl : IntKind) (A : Option Addr) (n c k : Nat) (i : Int) (hi : i = (k : Int)) (hk : k ≤ n) (W : World) :
    (Instr.slice t (.slice A n c) (some (.int kl i)) none none).run P W = .ok (.slice (cutA A c k) (n - k) (c - k)) W := by
  obtain ⟨ht, ⟨info, hi1, hi2, hi3, hi4⟩, _⟩ := hE
  have hel : P.elem t = e := by simp [Program.elem, ht]
  subst hi
  have := run_slice_l (P := P) W t A n c (by rw [hel]; exact ht) kl (k : Int) (by omega) (by omega)
  rw [this, hel]
  simp [sizeOf, typeInfo, hi1, hi3, sliced, cutA]
theorem run_upto {P : Program} {t e : TypeId} {z : Value} {bytes : Nat} (hE : Elem P t e z bytes) (kl : IntKind) (A : Option Addr) (n c k : Nat) (i : Int) (hi : i = (k : Int)) (hk : k ≤ c) (W : World) :
    (Instr.slice t (.slice A n c) none (some (.int kl i)) none).run P W = .ok (.slice A k c) W := by
  obtain ⟨ht, ⟨info, hi1, hi2, hi3, hi4⟩, _⟩ := hE
  have hel : P.elem t = e := by simp [Program.elem, ht]
  subst hi
  have := run_slice_h (P := P) W t A n c (by rw [hel]; exact ht) kl (k : Int) (by omega) (by omega)
  rw [this, hel]
  have e1 : A.map (fun x : Addr => x.add 0) = A := by cases A <;> simp [Addr.add]
  simp [sizeOf, typeInfo, hi1, hi3, sliced, e1]

/-- A block just laid, read as a slice. -/
theorem Rd.lit {w : World} (cs : List Value) {e : TypeId} {n : Nat} (hn : cs.length = n) : Rd (w.alloc (.cells cs.toArray e)) (some ⟨w.heap.size, 0, none⟩) n cs := by
  refine ⟨hn, fun _ => ⟨_, rfl, fun j u hu => ?_⟩⟩
  rw [Addr.add_lit, Nat.zero_add]
  exact (cell_of_row _ w.heap.size j _ e (0, 0) (heap_alloc_new w _)).trans (by simpa using hu)

/-- A block of one cell, just laid, read as a slice of one element. -/
theorem Rd.one {w : World} {v : Value} {e : TypeId} : Rd (w.alloc (.cells #[v] e)) (some ⟨w.heap.size, 0, none⟩) 1 [v] := by
  refine ⟨rfl, fun _ => ⟨_, rfl, fun j u hu => ?_⟩⟩
  match j, hu with
  | 0, hu =>
    simp at hu; subst hu
    show (w.alloc (.cells #[v] e)).cell? ((⟨w.heap.size, 0, none⟩ : Addr).add 0) = some v
    rw [Addr.add_lit]
    exact cell_of_row _ w.heap.size 0 _ e (0, 0) (heap_alloc_new w _)

/-! ### a block that is known whole -/
def Blk (w : World) (g : Nat) (t : TypeId) (cs : Array Value) : Prop := w.heap[g]? = some (.cells cs t (0, 0))
section
variable {w w' : World} {g : Nat} {t : TypeId} {cs : Array Value} {S : Nat → Prop}
theorem Blk.lt (h : Blk w g t cs) : g < w.heap.size := (Array.getElem?_eq_some_iff.1 h).1
theorem Blk.cell (h : Blk w g t cs) (i : Nat) {u : Value} (hu : cs[i]? = some u) : w.cell? ⟨g, i, none⟩ = some u := (cell_of_row w g i cs t (0, 0) h).trans hu
theorem Blk.frozen (h : Blk w g t cs) (i : Nat) : w.frozen? ⟨g, i, none⟩ = false := by
  unfold Blk at h
  simp [World.frozen?, h]
theorem Blk.new (w : World) (t : TypeId) (cs : Array Value) : Blk (w.alloc (.cells cs t)) w.heap.size t cs := heap_alloc_new w _
theorem Blk.drew (h : Blk w g t cs) : Blk w.drew g t cs := h
theorem Blk.drewN (h : Blk w g t cs) (n : Nat) : Blk (w.drewN n) g t cs := h
theorem Blk.alloc (h : Blk w g t cs) (o : Obj) : Blk (w.alloc o) g t cs := (Below.heap_alloc w o g h.lt).trans h
theorem Blk.set_ (h : Blk w g t cs) (i : Nat) (u : Value) : Blk (w.setCell ⟨g, i, none⟩ u) g t (cs.setIfInBounds i u) := by
  unfold Blk at h ⊢
  simp [World.setCell, Array.getElem?_modify, h]
theorem Blk.far (h : Blk w g t cs) {p : Addr} (hp : g ≠ p.block) (u : Value) : Blk (w.setCell p u) g t cs := (Below.heap_setCell w p u g hp).trans h
theorem Blk.chg (h : Blk w g t cs) (hc : Chg S w w') (hg : ¬ S g) : Blk w' g t cs := Chg.heap hc h hg
theorem Blk.grown {row : Option Nat} (h : Blk w g t cs) (hb : w.grownBy w' row) (hg : row ≠ some g) : Blk w' g t cs := (hb.block g h.lt (fun e => hg e.symm)).trans h
theorem Blk.ne_own {base : Nat} {e : TypeId} {A : Option Addr} {n c : Nat} {xs : List Value} (h : Blk w g t cs) (ho : w.ownsRow base e 1 (.slice A n c) n xs) (hne : t ≠ e) : blk A ≠ some g := by
  intro hA
  rcases ho.2 with ⟨hv, _⟩ | ⟨g', cap, cur, hv, _, hh, _⟩
  · injection hv with h1; subst h1; cases hA
  · injection hv with h1
    subst h1
    have : g' = g := by simpa [blk] using hA
    subst this
    unfold Blk at h
    rw [h] at hh
    injection hh with hh
    injection hh with _ ht
    exact hne ht
end

/-! ### bytes -/
/-- The cell of a byte. -/
def By (c : UInt8) : Value := .int .u8 (c.toNat : Int)
def bs (l : List UInt8) : List Value := l.map By
@[simp] theorem bs_length (l : List UInt8) : (bs l).length = l.length := by simp [bs]
@[simp] theorem bs_nil : bs [] = [] := rfl
theorem bs_append (a b : List UInt8) : bs (a ++ b) = bs a ++ bs b := by simp [bs]
theorem bs_one : ∀ (l : List UInt8), ∀ u ∈ bs l, u.oneCell' = true := by
  intro l u hu
  obtain ⟨_, _, rfl⟩ := List.mem_map.1 hu
  rfl
theorem bs_take (l : List UInt8) (k : Nat) : (bs l).take k = bs (l.take k) := by simp [bs, List.map_take]
theorem bs_drop (l : List UInt8) (k : Nat) : (bs l).drop k = bs (l.drop k) := by simp [bs, List.map_drop]
theorem bs_at {l : List UInt8} {k : Nat} {u : Value} (h : (bs l)[k]? = some u) : ∃ c, l[k]? = some c ∧ u = .int .u8 (c.toNat : Int) := by
  simp only [bs, List.getElem?_map, Option.map_eq_some_iff] at h
  obtain ⟨c, h1, h2⟩ := h
  exact ⟨c, h1, h2.symm⟩
/-- The cells of ints. -/
def is (l : List Int) : List Value := l.map (Value.int .i64)

theorem is_at {l : List Int} {k : Nat} {u : Value} (h : (is l)[k]? = some u) : ∃ z, l[k]? = some z ∧ u = .int .i64 z := by
  simp only [is, List.getElem?_map, Option.map_eq_some_iff] at h
  obtain ⟨c, h1, h2⟩ := h
  exact ⟨c, h1, h2.symm⟩
@[simp] theorem is_length (l : List Int) : (is l).length = l.length := by simp [is]
theorem is_append (a b : List Int) : is (a ++ b) = is a ++ is b := by simp [is]
/-! ### min, max, string(b) -/
theorem run_min2 {P : Program} (x y m : Int) (h : (x ≤ y ∧ m = x) ∨ (y ≤ x ∧ m = y)) (ts : Array TypeId) (t : TypeId) (W : World) :
    (Builtin.min_ ts t #[.int .i64 x, .int .i64 y]).run P W = .ok (.int .i64 m) W := by
  simp [go_sem]
  split <;> omega
theorem run_max2 {P : Program} (x y m : Int) (h : (x ≤ y ∧ m = y) ∨ (y ≤ x ∧ m = x)) (ts : Array TypeId) (t : TypeId) (W : World) :
    (Builtin.max_ ts t #[.int .i64 x, .int .i64 y]).run P W = .ok (.int .i64 m) W := by
  simp [go_sem]
  split <;> omega
theorem run_tostr {P : Program} {src dst e : TypeId} (hs : P.underlying src = some (.slice e)) (he : P.underlying e = some (.int .u8)) (hd : P.underlying dst = some .string)
    {W : World} {A : Option Addr} {n c : Nat} {l : List UInt8} (hr : Rd W A n (bs l)) : (convert src dst (.slice A n c)).run P W = .ok (.string ⟨l.toArray⟩) W := by
  have hl : l.length = n := by have := hr.len; rwa [bs_length] at this
  subst hl
  cases A with
  | none =>
    have h0 : l = [] := by
      rcases Nat.eq_zero_or_pos l.length with h | h
      · exact List.eq_nil_of_length_eq_zero h
      · obtain ⟨ad, h, _⟩ := hr.2 h; cases h
    subst h0
    rw [run_convert_bytes_nil W src e hs he _ _ dst hd]
    rfl
  | some a =>
    refine run_convert_bytes_back W src dst e a c l hs he hd (fun j hj => ?_)
    obtain ⟨ad, h, hc⟩ := hr.2 (by omega)
    injection h with h
    subst h
    exact hc j _ (by simp [bs, By, hj])

/-! ### a slice of byte slices -/
/-- The values vs are slices of bytes that read as ls. -/
def Lists (W : World) (vs : List Value) (ls : List (List UInt8)) : Prop :=
  vs.length = ls.length ∧ ∀ (i : Nat) (v : Value) (l : List UInt8), vs[i]? = some v → ls[i]? = some l → ∃ A n c, v = .slice A n c ∧ n ≤ c ∧ c ≤ maxLen ∧ Rd W A n (bs l) ∧ ∀ k, blk A = some k → k < W.heap.size
theorem Lists.new {W W' : World} {vs : List Value} {ls : List (List UInt8)} (h : Lists W vs ls) (hn : New W W') : Lists W' vs ls :=
  ⟨h.1, fun i v l hv hl => by
    obtain ⟨A, n, c, h1, h2, h3, h4, h5⟩ := h.2 i v l hv hl
    exact ⟨A, n, c, h1, h2, h3, h4.new hn, fun k hk => Nat.lt_of_lt_of_le (h5 k hk) hn.size⟩⟩
theorem Lists.chg {S : Nat → Prop} {W W' : World} {vs : List Value} {ls : List (List UInt8)} (h : Lists W vs ls) (hn : Chg S W W') (hs : ∀ v ∈ vs, ∀ A n c, v = .slice A n c → ∀ k, blk A = some k → ¬ S k) : Lists W' vs ls :=
  ⟨h.1, fun i v l hv hl => by
    obtain ⟨A, n, c, h1, h2, h3, h4, h5⟩ := h.2 i v l hv hl
    exact ⟨A, n, c, h1, h2, h3, h4.chg hn (fun k hk _ => hs v (List.mem_of_getElem? hv) A n c h1 k hk), fun k hk => Nat.lt_of_lt_of_le (h5 k hk) hn.size⟩⟩
theorem Lists.nil (W : World) : Lists W [] [] := ⟨rfl, fun i v l hv _ => by simp at hv⟩
theorem Lists.snoc {W : World} {vs : List Value} {ls : List (List UInt8)} (h : Lists W vs ls) {A : Option Addr} {n c : Nat} {l : List UInt8} (hnc : n ≤ c) (hc : c ≤ maxLen) (hr : Rd W A n (bs l)) (hb : ∀ k, blk A = some k → k < W.heap.size) :
    Lists W (vs ++ [.slice A n c]) (ls ++ [l]) := by
  refine ⟨by simp [h.1], fun i v x hv hx => ?_⟩
  rw [List.getElem?_append] at hv hx
  rw [← h.1] at hx
  split at hv
  · rename_i hi
    rw [if_pos hi] at hx
    exact h.2 i v x hv hx
  · rename_i hi
    rw [if_neg hi] at hx
    have hi0 : i - vs.length = 0 := by
      have := (List.getElem?_eq_some_iff.1 hv).1
      simp at this
      omega
    rw [hi0] at hv hx
    simp at hv hx
    subst hv hx
    exact ⟨A, n, c, rfl, hnc, hc, hr, hb⟩
theorem Lists.take {W : World} {vs : List Value} {ls : List (List UInt8)} (h : Lists W vs ls) (k : Nat) : Lists W (vs.take k) (ls.take k) :=
  ⟨by simp [h.1], fun i v l hv hl => by
    rw [List.getElem?_take] at hv hl
    split at hv
    · rename_i hi
      rw [if_pos hi] at hl
      exact h.2 i v l hv hl
    · cases hv⟩

/-- The values vs are slices of bytes of the call's own (from block base on, of the element type e) that read as ls. -/
def OLists (W : World) (base : Nat) (e : TypeId) (vs : List Value) (ls : List (List UInt8)) : Prop :=
  vs.length = ls.length ∧ ∀ (i : Nat) (v : Value) (l : List UInt8), vs[i]? = some v → ls[i]? = some l → ∃ A n c, v = .slice A n c ∧ W.ownsRow base e 1 (.slice A n c) n (bs l)
theorem OLists.nil (W : World) (base : Nat) (e : TypeId) : OLists W base e [] [] := ⟨rfl, fun i v l hv _ => by simp at hv⟩
theorem OLists.new {W W' : World} {base : Nat} {e : TypeId} {vs : List Value} {ls : List (List UInt8)} (h : OLists W base e vs ls) (hn : New W W') : OLists W' base e vs ls :=
  ⟨h.1, fun i v l hv hl => by
    obtain ⟨A, n, c, h1, h2⟩ := h.2 i v l hv hl
    exact ⟨A, n, c, h1, own_chg h2 hn (fun _ _ h => h)⟩⟩
/-- A change of rows of other element types (and of new blocks) leaves them. -/
theorem OLists.chg {S : Nat → Prop} {W W' : World} {base : Nat} {e : TypeId} {vs : List Value} {ls : List (List UInt8)} (h : OLists W base e vs ls) (hn : Chg S W W') (hs : ∀ k cs, W.heap[k]? = some (.cells cs e (0, 0)) → ¬ S k) : OLists W' base e vs ls :=
  ⟨h.1, fun i v l hv hl => by
    obtain ⟨A, n, c, h1, h2⟩ := h.2 i v l hv hl
    refine ⟨A, n, c, h1, own_chg h2 hn (fun k hk => ?_)⟩
    rcases h2.2 with ⟨hv, _⟩ | ⟨g, cap, cur, hv, _, hh, _⟩
    · injection hv with hv; subst hv; cases hk
    · injection hv with hv
      subst hv
      have : g = k := by simpa [blk] using hk
      subst this
      exact hs g cur hh⟩
theorem OLists.snoc {W : World} {base : Nat} {e : TypeId} {vs : List Value} {ls : List (List UInt8)} (h : OLists W base e vs ls) {A : Option Addr} {n c : Nat} {l : List UInt8} (ho : W.ownsRow base e 1 (.slice A n c) n (bs l)) :
    OLists W base e (vs ++ [.slice A n c]) (ls ++ [l]) := by
  refine ⟨by simp [h.1], fun i v x hv hx => ?_⟩
  rw [List.getElem?_append] at hv hx
  rw [← h.1] at hx
  split at hv
  · rename_i hi
    rw [if_pos hi] at hx
    exact h.2 i v x hv hx
  · rename_i hi
    rw [if_neg hi] at hx
    have hi0 : i - vs.length = 0 := by
      have := (List.getElem?_eq_some_iff.1 hv).1
      simp at this
      omega
    rw [hi0] at hv hx
    simp at hv hx
    subst hv hx
    exact ⟨A, n, c, rfl, ho⟩
end Go.Mem

namespace Go.Mem
set_option linter.unusedVariables false
open Go.RowKit

theorem own_form {w : World} {base : Nat} {e : TypeId} {A : Option Addr} {n c : Nat} {xs : List Value} (h : w.ownsRow base e 1 (.slice A n c) n xs) (hn : 0 < n) : ∃ g, A = some ⟨g, 0, none⟩ ∧ base ≤ g ∧ g < w.heap.size ∧ ∀ i, w.frozen? ⟨g, i, none⟩ = false := by
  rcases h.2 with ⟨_, rfl⟩ | ⟨g, cap, cur, hv, hb, hg, _⟩
  · omega
  · injection hv with hA
    exact ⟨g, hA, hb, (Array.getElem?_eq_some_iff.1 hg).1, fun i => by simp [World.frozen?, hg]⟩
theorem own_cell {w : World} {base : Nat} {e : TypeId} {g n c : Nat} {xs : List Value} (h : w.ownsRow base e 1 (.slice (some ⟨g, 0, none⟩) n c) n xs) {i : Nat} {u : Value} (hu : xs[i]? = some u) : w.cell? ⟨g, i, none⟩ = some u := by
  have hr := Rd.of_own h
  have hi : i < n := by have := (List.getElem?_eq_some_iff.1 hu).1; have := hr.1; omega
  obtain ⟨ad, hA, hc⟩ := hr.2 (by omega)
  injection hA with hA
  subst hA
  have := hc i u hu
  rwa [Addr.add_lit, Nat.zero_add] at this
theorem own_set {w : World} {base : Nat} {e : TypeId} {g n c : Nat} {xs : List Value} (h : w.ownsRow base e 1 (.slice (some ⟨g, 0, none⟩) n c) n xs) (i : Nat) (u : Value) (hi : i < n) : (w.setCell ⟨g, i, none⟩ u).ownsRow base e 1 (.slice (some ⟨g, 0, none⟩) n c) n (xs.set i u) := by
  refine ⟨by simpa using h.1, ?_⟩
  rcases h.2 with ⟨hv, _⟩ | ⟨g', cap, cur, hv, hb, hg, h1, h2, h3, h4⟩
  · injection hv with hA; cases hA
  · injection hv with hA hn hc
    injection hA with hA
    injection hA with hA
    subst hA hc
    refine .inr ⟨g, c, cur.setIfInBounds i u, rfl, hb, ?_, h1, h2, by simpa using h3, ?_⟩
    · simp [World.setCell, Array.getElem?_modify, hg]
    · rw [Array.toList_setIfInBounds, List.take_set, h4]
end Go.Mem

namespace Go.Mem
set_option linter.unusedVariables false
open Go.RowKit
theorem wpList_mk {P : Program} {w : World} {t e : TypeId} {z : Value} {bytes : Nat} (hE : Elem P t e z bytes) (hz : z.cells = #[z]) {ops : Array Oper} {rest : List Oper} {o : Oper} {a : Act} {Q : Exit → Act → World → Prop} (hgd : o.guard = none) (l c : Operand)
    (ho : o.op = Op.makeSlice t l c) {kl kc : IntKind} {L C : Int} {n : Nat} (hl : a.eval l = .int kl L) (hc : a.eval c = .int kc C) (hL : L = (n : Int)) (hC : C = (n : Int)) (b2 : bytes * n ≤ 281474976710656) (b3 : n ≤ maxLen)
    (h : ∀ w', w'.ownsRow w.heap.size e 1 (.slice (some ⟨w.heap.size, 0, none⟩) n n) n (List.replicate n z) → New w w' → w'.heap.size = w.heap.size + 1 → wpList P ops Q rest (a.put o.dst (.slice (some ⟨w.heap.size, 0, none⟩) n n)) w') :
    wpList P ops Q (o :: rest) a w := by
  obtain ⟨ht, ⟨i, hi, hz0, hz1, hz2⟩, hzs⟩ := hE
  refine wpList_plain hgd fun K hK => ?_
  subst hL hC
  have h63' : (n : Int) ≤ 9223372036854775807 := by
    have h := b3
    simp [maxLen] at h
    omega
  have hb' : (i.bytes : Int) * (n : Int) ≤ 281474976710656 := by
    rw [hz2]
    have h : ((bytes * n : Nat) : Int) ≤ 281474976710656 := by omega
    rwa [Int.natCast_mul] at h
  have hr := run_make (P := P) w t e i z ht hi hz0 kl kc n n (by omega) (Int.le_refl _) hb' h63'
  simp only [Int.toNat_natCast, hz1, Nat.mul_one] at hr
  have ho1 := World.ownsRow_lit (e := e) (size := 1) w (madeCells z.cells n) n (Nat.le_refl _) b3 (by rw [size_madeCells, Nat.mul_one])
  rw [hz, toList_madeCells_one] at ho1
  rw [hz] at hr
  unfold Oper.wp
  simp [execOp, ho, hl, hc, hr, Result.andThen]
  exact hK _ _ (h _ ho1 ((Chg.refl _ w).alloc _) (by simp))
end Go.Mem

namespace Go.Mem
set_option linter.unusedVariables false
open Go.RowKit

/-- Temporaries, some of them written anew. -/
def upd (T : Array Value) (f : Nat → Option Value) : Array Value := T.mapIdx fun i x => (f i).getD x
def upF (dst : Option Tmp) (v : Value) (f : Nat → Option Value) : Nat → Option Value := fun i => if dst = some i then some v else f i
theorem upd_none (T : Array Value) : upd T (fun _ => none) = T := by
  unfold upd
  apply Array.ext
  · simp
  · intro i h1 h2; simp
theorem upd_put (T : Array Value) (f : Nat → Option Value) (dst : Option Tmp) (v : Value) (ds : List Deferred) : (Act.mk (upd T f) ds).put dst v = Act.mk (upd T (upF dst v f)) ds := by
  cases dst with
  | none =>
    show Act.mk (upd T f) ds = _
    congr 1
  | some d =>
    show Act.mk ((upd T f).setIfInBounds d v) ds = _
    congr 1
    unfold upd
    apply Array.ext
    · simp
    · intro i h1 h2
      have hi : i < T.size := by simpa using h2
      rw [Array.getElem_setIfInBounds (by simpa using hi), Array.getElem_mapIdx, Array.getElem_mapIdx]
      unfold upF
      by_cases h : d = i
      · simp [h]
      · simp [h]
theorem upd_eval (T : Array Value) (f : Nat → Option Value) (ds : List Deferred) (t : Tmp) (h : t < T.size) : (Act.mk (upd T f) ds).eval (.tmp t) = (f t).getD (T.getD t undef) := by
  show (upd T f).getD t undef = _
  unfold upd
  simp [Array.getD, h]

theorem ready_mem {md : Region.Mode} {ops : Array Oper} {listed : Array Bool} {i : Nat} (h : i ∈ Region.ready md ops listed) : i < ops.size ∧ listed.getD i true = false ∧ ∃ o, ops[i]? = some o ∧ ∀ e ∈ o.after, Region.binds md e = true → listed.getD e.on false = true := by
  unfold Region.ready at h
  rw [List.mem_filter] at h
  obtain ⟨h1, h2⟩ := h
  have h1 : i < ops.size := by simpa using h1
  rw [Bool.and_eq_true] at h2
  obtain ⟨h2, h3⟩ := h2
  refine ⟨h1, ?_, ops[i], by simp [h1], ?_⟩
  · cases hx : listed.getD i true with
    | false => rfl
    | true => rw [hx] at h2; cases h2
  rw [Array.getElem?_eq_getElem h1] at h3
  simp only [Option.map_some, Option.getD_some] at h3
  intro e he hb
  have := (Array.all_eq_true_iff_forall_mem.1 h3) e he
  simpa [hb] using this
theorem ready_none {md : Region.Mode} {ops : Array Oper} {listed : Array Bool} (h : Region.ready md ops listed = []) {i : Nat} {o : Oper} (ho : ops[i]? = some o) (ha : ∀ e ∈ o.after, Region.binds md e = true → listed.getD e.on false = true) : listed.getD i true = true := by
  cases hl : listed.getD i true with
  | true => rfl
  | false =>
    exfalso
    have hi : i < ops.size := (Array.getElem?_eq_some_iff.1 ho).1
    have hm : i ∈ Region.ready md ops listed := by
      unfold Region.ready
      rw [List.mem_filter]
      refine ⟨by simpa using hi, ?_⟩
      rw [hl, ho]
      simp only [Bool.not_false, Bool.true_and, Option.map_some, Option.getD_some]
      rw [Array.all_eq_true_iff_forall_mem]
      intro e he
      cases hb : Region.binds md e with
      | false => simp
      | true => simpa using ha e he hb
    rw [h] at hm
    cases hm

section
variable {P : Program} {ops : Array Oper} {Q : Exit → Act → World → Prop} {md : Region.Mode} {T : Array Value} {ds : List Deferred}
/-- How many operations are left. -/
def left (listed : Array Bool) : Nat := listed.toList.countP (!·)
theorem left_set {listed : Array Bool} {i : Nat} (hi : listed.getD i true = false) : left (listed.setIfInBounds i true) + 1 ≤ left listed := by
  have hlt : i < listed.size := by
    rcases Nat.lt_or_ge i listed.size with h | h
    · exact h
    · simp [Array.getD, Nat.not_lt.2 h] at hi
  have hx : listed[i] = false := by simpa [Array.getD, hlt] using hi
  unfold left
  rw [Array.toList_setIfInBounds]
  have hl : i < listed.toList.length := by simpa using hlt
  have hx' : listed.toList[i] = false := by simpa using hx
  generalize listed.toList = L at *
  clear hi hx hlt
  induction L generalizing i with
  | nil => simp at hl
  | cons x L ih =>
    cases i with
    | zero => simp at hx'; subst hx'; simp
    | succ i =>
      have := ih (i := i) (by simpa using hl) (by simpa using hx')
      rw [List.set_cons_succ, List.countP_cons, List.countP_cons]
      omega

end
end Go.Mem

namespace Go.Mem
set_option linter.unusedVariables false
open Go.RowKit
section
variable {P : Program} {fn : Func} {p q r : Tmp} {ty ty2 ty3 : TypeId} {w : World} {g g2 g3 : Nat} {t t2 t3 : TypeId} {cs cs2 cs3 : Array Value} {d d2 : TypeDesc}
/-- The type ty is a struct or an array of that many cells. -/
def Agg (P : Program) (ty : TypeId) (n : Nat) : Prop := ∃ d, P.underlying ty = some d ∧ (match d with | .struct _ | .array _ _ => true | _ => false) = true ∧ (P.info? ty).map (·.size) = some n
theorem Agg.load (h : Agg P ty cs.size) (hb : Blk w g t cs) : (loadVar ty ⟨g, 0, none⟩).run P w = .ok (.agg cs) w := by
  obtain ⟨d, hu, hd, hi⟩ := h
  exact run_loadVar_row w g t ty cs (0, 0) d hb hu (by cases d <;> first | rfl | (simp at hd)) hi
/-- The type ty is no struct and no array. -/
def Flat (P : Program) (ty : TypeId) : Prop := ∃ d, P.underlying ty = some d ∧ (match d with | .struct _ | .array _ _ => true | _ => false) = false
theorem Flat.load {v : Value} (h : Flat P ty) (hb : Blk w g t #[v]) : (loadVar ty ⟨g, 0, none⟩).run P w = .ok v w := by
  obtain ⟨d, hu, hd⟩ := h
  have hc := hb.cell 0 (u := v) rfl
  cases d <;> simp_all [loadVar, isAgg, run_underlying hu]
theorem res_c (h : fn.results = #[.cell p ty]) (tmps : Array Value) (hp : tmps.getD p undef = .pointer (some ⟨g, 0, none⟩)) {v : Value} (hl : (loadVar ty ⟨g, 0, none⟩).run P w = .ok v w) :
    (results fn tmps).run P w = .ok v w := by
  have hp' : tmps[p]?.getD undef = .pointer (some ⟨g, 0, none⟩) := by simpa using hp
  simp [results, h, hp', asAddr, hl]
theorem res_ct (h : fn.results = #[.cell p ty, .tmp q]) (tmps : Array Value) (hp : tmps.getD p undef = .pointer (some ⟨g, 0, none⟩)) {v u : Value} (hl : (loadVar ty ⟨g, 0, none⟩).run P w = .ok v w) (hq : tmps.getD q undef = u) :
    (results fn tmps).run P w = .ok (.tuple #[v, u]) w := by
  have hp' : tmps[p]?.getD undef = .pointer (some ⟨g, 0, none⟩) := by simpa using hp
  have hq' : tmps[q]?.getD undef = u := by simpa using hq
  simp [results, h, hp', hq', asAddr, hl]
theorem res_cct (h : fn.results = #[.cell p ty, .cell q ty2, .tmp r]) (tmps : Array Value) (hp : tmps.getD p undef = .pointer (some ⟨g, 0, none⟩)) {v v2 u : Value} (hl : (loadVar ty ⟨g, 0, none⟩).run P w = .ok v w)
    (hq : tmps.getD q undef = .pointer (some ⟨g2, 0, none⟩)) (hl2 : (loadVar ty2 ⟨g2, 0, none⟩).run P w = .ok v2 w) (hr : tmps.getD r undef = u) :
    (results fn tmps).run P w = .ok (.tuple #[v, v2, u]) w := by
  have hp' : tmps[p]?.getD undef = .pointer (some ⟨g, 0, none⟩) := by simpa using hp
  have hq' : tmps[q]?.getD undef = .pointer (some ⟨g2, 0, none⟩) := by simpa using hq
  have hr' : tmps[r]?.getD undef = u := by simpa using hr
  simp [results, h, hp', hq', hr', asAddr, hl, hl2]
end

section
variable {w w' : World} {A : Option Addr} {n g : Nat} {t : TypeId} {cs : Array Value} {xs : List Value}
/-- A slice does not lie in a block that holds none of its values. -/
theorem Rd.apart (h : Rd w A n xs) (hb : Blk w g t cs) (hne : ∀ u ∈ xs, u ∉ cs.toList) (hn : 0 < n) : blk A ≠ some g := by
  obtain ⟨ad, u, rfl, hu, hc⟩ := h.at_ hn
  intro e
  have e : ad.block = g := by simpa [blk] using e
  have hm := List.mem_of_getElem? hu
  unfold World.cell? at hc
  rw [block_add, e] at hc
  unfold Blk at hb
  rw [hb] at hc
  simp only at hc
  split at hc
  · cases hc
  · exact hne u hm (by have := Array.mem_of_getElem? hc; simpa using this)
theorem Rd.store (h : Rd w A n xs) (hb : Blk w g t cs) (hne : ∀ u ∈ xs, u ∉ cs.toList) (hc : Chg (fun k => k = g) w w') : Rd w' A n xs := by
  rcases Nat.eq_zero_or_pos n with h0 | h0
  · subst h0; exact ⟨h.1, fun h => absurd h (by omega)⟩
  · exact h.chg hc (fun k hk _ e => h.apart hb hne h0 (by rw [hk, e]))
/-- No number among the values. -/
def NoInt (l : List Value) : Prop := ∀ k z, Value.int k z ∉ l
theorem Blk.set2 {x y : Value} (h : Blk w g t #[x, y]) (a b : Value) : Blk ((w.setCell ⟨g, 0, none⟩ a).setCell ⟨g, 1, none⟩ b) g t #[a, b] := (h.set_ 0 a).set_ 1 b
theorem Blk.set1 {x : Value} (h : Blk w g t #[x]) (a : Value) : Blk (w.setCell ⟨g, 0, none⟩ a) g t #[a] := h.set_ 0 a
theorem far1 {p : Addr} {v : Value} (h : w.cell? p = some v) (hne : p.block ≠ g) (x : Value) : (w.setCell ⟨g, 0, none⟩ x).cell? p = some v :=
  (World.cell?_of_block (Below.heap_setCell w ⟨g, 0, none⟩ x p.block hne)).trans h
theorem far2 {p : Addr} {v : Value} (h : w.cell? p = some v) (hne : p.block ≠ g) (x y : Value) : ((w.setCell ⟨g, 0, none⟩ x).setCell ⟨g, 1, none⟩ y).cell? p = some v :=
  (World.cell?_of_block (Below.heap_setCell _ ⟨g, 1, none⟩ y p.block hne)).trans (far1 h hne x)
theorem Chg.at1 (w : World) (g : Nat) (a : Value) : Chg (fun k => k = g) w (w.setCell ⟨g, 0, none⟩ a) := (Chg.refl (fun k => k = g) w).setCell (p := ⟨g, 0, none⟩) (fun _ => rfl) _
theorem Chg.at2 (w : World) (g : Nat) (a b : Value) : Chg (fun k => k = g) w ((w.setCell ⟨g, 0, none⟩ a).setCell ⟨g, 1, none⟩ b) := ((Chg.refl (fun k => k = g) w).setCell (p := ⟨g, 0, none⟩) (fun _ => rfl) _).setCell (p := ⟨g, 1, none⟩) (fun _ => rfl) _
/-- A change of a block that is the call's own. -/
theorem Chg.owned {S : Nat → Prop} {w0 : World} (h : New w0 w) (hc : Chg S w w') (hs : ∀ k, S k → w0.heap.size ≤ k) : New w0 w' := h.trans hc (fun k hk hS => by have := hs k hS; omega)
end

/-! ### a call in a world in which blocks have just been laid -/
section
variable {P : Program} {f : Nat} {args : Array Value} {w : World} {c1 c2 c3 c4 c5 : Array Value} {t1 t2 t3 t4 t5 : TypeId} {K : Ending → World → Prop}
theorem Calls.new1 (h : ∀ W, Blk W w.heap.size t1 c1 → New w W → W.heap.size = w.heap.size + 1 → Calls P f args W K) : Calls P f args (w.alloc (.cells c1 t1)) K :=
  h _ (Blk.new _ _ _) ((Chg.refl _ w).alloc _) (by simp)
theorem Calls.new2 (h : ∀ W, Blk W w.heap.size t1 c1 → Blk W (w.heap.size + 1) t2 c2 → New w W → W.heap.size = w.heap.size + 2 → Calls P f args W K) : Calls P f args ((w.alloc (.cells c1 t1)).alloc (.cells c2 t2)) K :=
  Calls.new1 fun W hb hn hz => h W ((Blk.new w t1 c1).chg hn (fun h => h)) (by rw [World.size_alloc] at hb; exact hb) (((Chg.refl _ w).alloc _).new hn) (by rw [hz]; simp)
theorem Calls.new3 (h : ∀ W, Blk W w.heap.size t1 c1 → Blk W (w.heap.size + 1) t2 c2 → Blk W (w.heap.size + 1 + 1) t3 c3 → New w W → W.heap.size = w.heap.size + 3 → Calls P f args W K) : Calls P f args (((w.alloc (.cells c1 t1)).alloc (.cells c2 t2)).alloc (.cells c3 t3)) K :=
  Calls.new2 fun W hb hb' hn hz => h W ((Blk.new w t1 c1).chg hn (fun h => h)) (by rw [World.size_alloc] at hb; exact hb) (by rw [World.size_alloc] at hb'; exact hb') (((Chg.refl _ w).alloc _).new hn) (by rw [hz]; simp)
theorem Calls.new4 (h : ∀ W, Blk W w.heap.size t1 c1 → Blk W (w.heap.size + 1) t2 c2 → Blk W (w.heap.size + 1 + 1) t3 c3 → Blk W (w.heap.size + 1 + 1 + 1) t4 c4 → New w W → W.heap.size = w.heap.size + 4 → Calls P f args W K) : Calls P f args ((((w.alloc (.cells c1 t1)).alloc (.cells c2 t2)).alloc (.cells c3 t3)).alloc (.cells c4 t4)) K :=
  Calls.new3 fun W hb hb' hb'' hn hz => h W ((Blk.new w t1 c1).chg hn (fun h => h)) (by rw [World.size_alloc] at hb; exact hb) (by rw [World.size_alloc] at hb'; exact hb') (by rw [World.size_alloc] at hb''; exact hb'') (((Chg.refl _ w).alloc _).new hn) (by rw [hz]; simp)
/-- A walk in such a world. -/
theorem Code.new1 {c : Code} {Q : Exit → Act → World → Prop} {a : Act} (h : ∀ W, Blk W w.heap.size t1 c1 → New w W → W.heap.size = w.heap.size + 1 → Code.wp P c Q a W) : Code.wp P c Q a (w.alloc (.cells c1 t1)) :=
  h _ (Blk.new _ _ _) ((Chg.refl _ w).alloc _) (by simp)
theorem Code.new2 {c : Code} {Q : Exit → Act → World → Prop} {a : Act} (h : ∀ W, Blk W w.heap.size t1 c1 → Blk W (w.heap.size + 1) t2 c2 → New w W → W.heap.size = w.heap.size + 2 → Code.wp P c Q a W) : Code.wp P c Q a ((w.alloc (.cells c1 t1)).alloc (.cells c2 t2)) :=
  Code.new1 fun W hb hn hz => h W ((Blk.new w t1 c1).chg hn (fun h => h)) (by rw [World.size_alloc] at hb; exact hb) (((Chg.refl _ w).alloc _).new hn) (by rw [hz]; simp)
theorem Code.new3 {c : Code} {Q : Exit → Act → World → Prop} {a : Act} (h : ∀ W, Blk W w.heap.size t1 c1 → Blk W (w.heap.size + 1) t2 c2 → Blk W (w.heap.size + 1 + 1) t3 c3 → New w W → W.heap.size = w.heap.size + 3 → Code.wp P c Q a W) : Code.wp P c Q a (((w.alloc (.cells c1 t1)).alloc (.cells c2 t2)).alloc (.cells c3 t3)) :=
  Code.new2 fun W hb hb' hn hz => h W ((Blk.new w t1 c1).chg hn (fun h => h)) (by rw [World.size_alloc] at hb; exact hb) (by rw [World.size_alloc] at hb'; exact hb') (((Chg.refl _ w).alloc _).new hn) (by rw [hz]; simp)
theorem Code.new4 {c : Code} {Q : Exit → Act → World → Prop} {a : Act} (h : ∀ W, Blk W w.heap.size t1 c1 → Blk W (w.heap.size + 1) t2 c2 → Blk W (w.heap.size + 1 + 1) t3 c3 → Blk W (w.heap.size + 1 + 1 + 1) t4 c4 → New w W → W.heap.size = w.heap.size + 4 → Code.wp P c Q a W) : Code.wp P c Q a ((((w.alloc (.cells c1 t1)).alloc (.cells c2 t2)).alloc (.cells c3 t3)).alloc (.cells c4 t4)) :=
  Code.new3 fun W hb hb' hb'' hn hz => h W ((Blk.new w t1 c1).chg hn (fun h => h)) (by rw [World.size_alloc] at hb; exact hb) (by rw [World.size_alloc] at hb'; exact hb') (by rw [World.size_alloc] at hb''; exact hb'') (((Chg.refl _ w).alloc _).new hn) (by rw [hz]; simp)
end
end Go.Mem

namespace Go.Mem
set_option linter.unusedVariables false
open Go.RowKit

/-! ### the invariant law, for regions that draw and for regions in order, guards and all -/
section
variable {P : Program} {ops : Array Oper} {Q : Exit → Act → World → Prop} {md : Region.Mode} {T : Array Value} {ds : List Deferred}
/-- What one operation has to do for an invariant. -/
def OpOk (P : Program) (ops : Array Oper) (Q : Exit → Act → World → Prop) (T : Array Value) (ds : List Deferred) (I : (Nat → Bool) → (Nat → Option Value) → World → Prop) (b : Nat → Bool) (f : Nat → Option Value) (w : World) (i : Nat) (o : Oper) : Prop :=
  (Region.wanted o (yielded ops (upd T f)) = true ∧ o.wp P ⟨upd T f, ds⟩ w (fun a' w' => ∃ v, a' = (Act.mk (upd T f) ds).put o.dst v ∧ I (fun k => if k = i then true else b k) (upF o.dst v f) w') Q) ∨
  (Region.wanted o (yielded ops (upd T f)) = false ∧ I (fun k => if k = i then true else b k) (upF o.dst undef f) w)

theorem wpAny_inv2 (I : (Nat → Bool) → (Nat → Option Value) → World → Prop)
    (hord : ∀ (i : Nat) (o : Oper), ops[i]? = some o → ∀ e ∈ o.after, Region.binds md e = true → e.on < i)
    (hdone : ∀ b f w, I b f w → (∀ i, i < ops.size → b i = true) → Q .normal ⟨upd T f, ds⟩ w)
    (hstep : ∀ (b : Nat → Bool) (f : Nat → Option Value) (w : World) (i : Nat) (o : Oper), I b f w → ops[i]? = some o → b i = false → (∀ e ∈ o.after, Region.binds md e = true → b e.on = true) → OpOk P ops Q T ds I b f w i o) :
    ∀ (fuel : Nat) (listed : Array Bool) (f : Nat → Option Value) (w : World), listed.size = ops.size → left listed ≤ fuel → I (fun i => listed.getD i false) f w → wpAny P md ops Q fuel listed ⟨upd T f, ds⟩ w := by
  have hall : ∀ listed : Array Bool, listed.size = ops.size → Region.ready md ops listed = [] → ∀ i, i < ops.size → listed.getD i false = true := by
    intro listed hs hr i
    induction i using Nat.strongRecOn with
    | ind i ih =>
      intro hi
      have ho : ops[i]? = some ops[i] := Array.getElem?_eq_getElem hi
      have := ready_none hr ho (fun e he hbe => ih e.on (hord i _ ho e he hbe) (Nat.lt_trans (hord i _ ho e he hbe) hi))
      simpa [Array.getD, hs, hi] using this
  intro fuel
  induction fuel with
  | zero =>
    intro listed f w hs hl hJ
    have hr : Region.ready md ops listed = [] := by
      cases h : Region.ready md ops listed with
      | nil => rfl
      | cons i t =>
        have hm : i ∈ Region.ready md ops listed := by rw [h]; simp
        have := left_set (ready_mem hm).2.1
        omega
    exact ⟨hr, hdone _ _ _ hJ (hall listed hs hr)⟩
  | succ fuel ih =>
    intro listed f w hs hl hJ
    refine ⟨fun hr => hdone _ _ _ hJ (hall listed hs hr), fun i hi => ?_⟩
    obtain ⟨h1, h2, o, ho, ha⟩ := ready_mem hi
    have hb : listed.getD i false = false := by
      simpa [Array.getD, hs, h1] using h2
    have e : (fun k => (listed.setIfInBounds i true).getD k false) = (fun k => if k = i then true else listed.getD k false) := by
      funext k
      by_cases hk : k = i
      · subst hk; simp [Array.getD, hs, h1]
      · rw [if_neg hk]
        simp only [Array.getD_eq_getD_getElem?, Array.getElem?_setIfInBounds]
        rw [if_neg (fun e => hk e.symm)]
    unfold wpOp
    rw [ho]
    simp only
    rcases hstep _ f w i o hJ ho hb ha with ⟨hg, hw⟩ | ⟨hg, hw⟩
    · rw [if_pos hg]
      refine Or.inl (Oper.wp_mono ?_ hw)
      rintro a' w' ⟨v, rfl, hJ'⟩
      rw [upd_put]
      refine ih _ _ _ (by simpa using hs) (by have := left_set h2; omega) ?_
      rw [e]
      exact hJ'
    · rw [if_neg (by rw [hg]; simp)]
      rw [upd_put]
      refine ih _ _ _ (by simpa using hs) (by have := left_set h2; omega) ?_
      rw [e]
      exact hw

theorem wpOps_inv (I : (Nat → Bool) → (Nat → Option Value) → World → Prop)
    (hord : ∀ (i : Nat) (o : Oper), ops[i]? = some o → ∀ e ∈ o.after, Region.binds .any e = true → e.on < i)
    (hdone : ∀ b f w, I b f w → (∀ i, i < ops.size → b i = true) → Q .normal ⟨upd T f, ds⟩ w)
    (hstep : ∀ (b : Nat → Bool) (f : Nat → Option Value) (w : World) (i : Nat) (o : Oper), I b f w → ops[i]? = some o → b i = false → (∀ e ∈ o.after, Region.binds .any e = true → b e.on = true) → OpOk P ops Q T ds I b f w i o) :
    ∀ (m k : Nat) (f : Nat → Option Value) (w : World), k + m = ops.size → I (fun i => decide (i < k)) f w → wpOps P ops Q (List.range' k m) ⟨upd T f, ds⟩ w := by
  intro m
  induction m with
  | zero =>
    intro k f w hk hI
    exact hdone _ _ _ hI (fun i hi => by simp; omega)
  | succ m ih =>
    intro k f w hk hI
    have hlt : k < ops.size := by omega
    have ho : ops[k]? = some ops[k] := Array.getElem?_eq_getElem hlt
    rw [List.range'_succ]
    unfold wpOps
    rw [ho]
    simp only
    have e : (fun i => decide (i < k + 1)) = (fun i => if i = k then true else decide (i < k)) := by
      funext i
      by_cases h : i = k
      · subst h; simp
      · rw [if_neg h]
        by_cases h2 : i < k
        · have : i < k + 1 := by omega
          simp [h2, this]
        · have : ¬ i < k + 1 := by omega
          simp [h2, this]
    rcases hstep _ f w k _ hI ho (by simp) (fun e he hbe => by have := hord k _ ho e he hbe; simpa using this) with ⟨hg, hw⟩ | ⟨hg, hw⟩
    · rw [if_pos hg]
      refine Or.inl (Oper.wp_mono ?_ hw)
      rintro a' w' ⟨v, rfl, hJ'⟩
      rw [upd_put]
      refine ih _ _ _ (by omega) ?_
      rw [e]
      exact hJ'
    · rw [if_neg (by rw [hg]; simp)]
      rw [upd_put]
      refine ih _ _ _ (by omega) ?_
      rw [e]
      exact hw

theorem region_inv2 {id : Nat} {dr : Bool} {w : World} (hm : dr = true → P.follows .mixedOrders = true) (I : (Nat → Bool) → (Nat → Option Value) → World → Prop)
    (hord : ∀ (i : Nat) (o : Oper), ops[i]? = some o → ∀ e ∈ o.after, Region.binds .any e = true → e.on < i)
    (h0 : I (fun _ => false) (fun _ => none) w ∧ I (fun _ => false) (fun _ => none) w.drew)
    (hdone : ∀ b f w, I b f w → (∀ i, i < ops.size → b i = true) → Q .normal ⟨upd T f, ds⟩ w)
    (hstep : ∀ (b : Nat → Bool) (f : Nat → Option Value) (w : World) (i : Nat) (o : Oper), I b f w → ops[i]? = some o → b i = false → (∀ e ∈ o.after, Region.binds .any e = true → b e.on = true) → OpOk P ops Q T ds I b f w i o) :
    (Code.region id ops dr).wp P Q ⟨T, ds⟩ w := by
  cases dr with
  | true =>
    refine wp_region_any (hm rfl) ?_
    have h := wpAny_inv2 (P := P) (Q := Q) (md := .any) (T := T) (ds := ds) I hord hdone hstep ops.size (Array.replicate ops.size false) (fun _ => none) w.drew (by simp) (by unfold left; simp [List.countP_replicate]) (by
      have e : (fun i => (Array.replicate ops.size false).getD i false) = (fun _ => false) := by
        funext i
        simp only [Array.getD_eq_getD_getElem?, Array.getElem?_replicate]
        split <;> rfl
      rw [e]
      exact h0.2)
    rw [upd_none] at h
    exact h
  | false =>
    refine wp_region ?_
    have h := wpOps_inv (P := P) (Q := Q) (T := T) (ds := ds) I hord hdone hstep ops.size 0 (fun _ => none) w (by omega) (by
      have e : (fun i => decide (i < 0)) = (fun _ => false) := by
        funext i; simp
      rw [e]
      exact h0.1)
    rw [upd_none] at h
    rwa [List.range_eq_range']
end

/-- What a value is, in a world; kept by new memory, and by a store into a box whose cells are safe. -/
structure Ty where
  sat : Value → World → Prop
  new : ∀ {v w w'}, sat v w → New w w' → sat v w'
  st : ∀ {v w w' g t cs}, sat v w → Blk w g t cs → NoInt cs.toList → Chg (fun k => k = g) w w' → sat v w'
/-- What the cells of a block are. -/
structure CTy where
  sat : Array Value → World → Prop
  new : ∀ {v w w'}, sat v w → New w w' → sat v w'
  st : ∀ {v w w' g t cs}, sat v w → Blk w g t cs → NoInt cs.toList → Chg (fun k => k = g) w w' → sat v w'
def Ty.any : Ty := ⟨fun _ _ => True, fun _ _ => trivial, fun _ _ _ _ => trivial⟩
/-- That value. -/
def Ty.eq (c : Value) : Ty := ⟨fun v _ => v = c, fun h _ => h, fun h _ _ _ => h⟩
/-- A tuple. -/
def Ty.tup1 (a : Ty) (u : Value) : Ty := ⟨fun v w => ∃ x, v = .tuple #[x, u] ∧ a.sat x w, fun ⟨x, h1, h2⟩ hn => ⟨x, h1, a.new h2 hn⟩, fun ⟨x, h1, h2⟩ h3 h4 h5 => ⟨x, h1, a.st h2 h3 h4 h5⟩⟩
def Ty.tup2 (a b : Ty) (u : Value) : Ty := ⟨fun v w => ∃ x y, v = .tuple #[x, y, u] ∧ a.sat x w ∧ b.sat y w, fun ⟨x, y, h1, h2, h3⟩ hn => ⟨x, y, h1, a.new h2 hn, b.new h3 hn⟩, fun ⟨x, y, h1, h2, h2'⟩ h3 h4 h5 => ⟨x, y, h1, a.st h2 h3 h4 h5, b.st h2' h3 h4 h5⟩⟩
/-- The cells of one value; of two values in a row. -/
def Ty.c1 (a : Ty) : CTy := ⟨fun cs w => ∃ v, a.sat v w ∧ cs = v.cells, fun ⟨v, h1, h2⟩ hn => ⟨v, a.new h1 hn, h2⟩, fun ⟨v, h1, h2⟩ h3 h4 h5 => ⟨v, a.st h1 h3 h4 h5, h2⟩⟩
def Ty.c2 (a b : Ty) : CTy := ⟨fun cs w => ∃ v u, a.sat v w ∧ b.sat u w ∧ cs = v.cells ++ u.cells, fun ⟨v, u, h1, h2, h3⟩ hn => ⟨v, u, a.new h1 hn, b.new h2 hn, h3⟩, fun ⟨v, u, h1, h1', h2⟩ h3 h4 h5 => ⟨v, u, a.st h1 h3 h4 h5, b.st h1' h3 h4 h5, h2⟩⟩
/-- A slice that points to a block, in two words: the value's form. -/
def Ty.ptr : Ty := ⟨fun v _ => ∃ g, v = .pointer (some ⟨g, 0, none⟩), fun h _ => h, fun h _ _ _ => h⟩
/-- A call, by types. -/
def CT (P : Program) (f : Nat) (vs : Array Value) (w : World) (τ : Ty) : Prop := Calls P f vs w fun e w' => ∃ v, e = .returned v ∧ τ.sat v w' ∧ New w w'

/-- The block that an address lies in. -/
def adr : Value → Option Nat
  | .pointer (some a) => some a.block
  | .slice (some a) _ _ => some a.block
  | _ => none
/-- A box: the slot that holds its address (or the block, if it was there ahead of the region), its type, its cells at first, the operation that fills it, what it holds then. -/
structure Bx where
  p : Nat
  old : Option Nat
  t : TypeId
  z : Array Value
  st : Nat
  ct : CTy
def Bx.at (x : Bx) (f : Nat → Option Value) : Option Nat := match x.old with | some g => some g | none => (f x.p).bind adr

section
variable {P : Program} {ops : Array Oper} {Q : Exit → Act → World → Prop} {T : Array Value} {ds : List Deferred}

structure J (ops : Array Oper) (w0 : World) (CB : Nat → Prop) (O : List (Value × Ty)) (B : List Bx) (V : Nat → Ty) (b : Nat → Bool) (f : Nat → Option Value) (w : World) : Prop where
  chg : Chg CB w0 w
  typ : ∀ d v, f d = some v → (V d).sat v w
  otr : ∀ p ∈ O, p.2.sat p.1 w
  box : ∀ x ∈ B, ∀ g, x.at f = some g → g < w.heap.size ∧ (x.old = none → w0.heap.size ≤ g) ∧ ∃ cs, Blk w g x.t cs ∧ (b x.st = false → cs = x.z) ∧ (b x.st = true → x.ct.sat cs w)
  far : B.Pairwise (fun x y => ∀ g, x.at f = some g → y.at f ≠ some g)
  set : ∀ (i : Nat) (o : Oper) d, ops[i]? = some o → o.dst = some d → (b i = true ↔ f d ≠ none)
  out : ∀ d, (∀ (i : Nat) (o : Oper), ops[i]? = some o → o.dst ≠ some d) → f d = none
  cl : ∀ (i : Nat) (o : Oper), ops[i]? = some o → b i = true → ∀ e ∈ o.after, Region.binds .any e = true → b e.on = true

theorem J.typ0 {w0 : World} {CB : Nat → Prop} {O : List (Value × Ty)} {B : List Bx} {V : Nat → Ty} {b : Nat → Bool} {w : World} (h : J ops w0 CB O B V b (fun _ => none) w) : ∀ d v, (fun _ : Nat => (none : Option Value)) d = some v → (V d).sat v w.drew := fun d v h => (by cases h)
theorem J.box0 {w0 : World} {CB : Nat → Prop} {O : List (Value × Ty)} {B : List Bx} {V : Nat → Ty} {w : World} (h : J ops w0 CB O B V (fun _ => false) (fun _ => none) w) : ∀ x ∈ B, ∀ g, x.at (fun _ => none) = some g → g < w.drew.heap.size ∧ (x.old = none → w0.heap.size ≤ g) ∧ ∃ cs, Blk w.drew g x.t cs ∧ ((fun _ : Nat => false) x.st = false → cs = x.z) ∧ ((fun _ : Nat => false) x.st = true → x.ct.sat cs w.drew) := fun x hx g hg => by
  obtain ⟨h1, h2, cs, h3, h4, h5⟩ := h.box x hx g hg
  exact ⟨h1, h2, cs, Blk.drew h3, h4, fun h => (by cases h)⟩
/-- What a step has to show. -/
inductive Step (P : Program) (ops : Array Oper) (Q : Exit → Act → World → Prop) (w0 : World) (CB : Nat → Prop) (B : List Bx) (V : Nat → Ty) (b : Nat → Bool) (f : Nat → Option Value) (w : World) (a : Act) (i : Nat) (o : Oper) : Prop where
  | val (d : Nat) (hw : Region.wanted o (yielded ops a.tmps) = true) (hd : o.dst = some d) (hB : B.all (fun x => !(x.p == d && x.old.isNone)) = true) (hst : B.all (fun x => !(x.st == i)) = true)
      (h : o.wp P a w (fun a' w' => ∃ v, a' = a.put o.dst v ∧ New w w' ∧ (V d).sat v w') Q)
  | mk (x : Bx) (L R : List Bx) (hw : Region.wanted o (yielded ops a.tmps) = true) (hx : B = L ++ x :: R) (hL : L.all (fun y => !(y.p == x.p && y.old.isNone)) = true) (hR : R.all (fun y => !(y.p == x.p && y.old.isNone)) = true) (hold : x.old = none) (hd : o.dst = some x.p) (hst : (L ++ R).all (fun y => !(y.st == i)) = true)
      (h : o.wp P a w (fun a' w' => ∃ v g cs, a' = a.put o.dst v ∧ adr v = some g ∧ w.heap.size ≤ g ∧ g < w'.heap.size ∧ New w w' ∧ (V x.p).sat v w' ∧ Blk w' g x.t cs ∧ (¬ x.st = i → cs = x.z) ∧ (x.st = i → x.ct.sat cs w')) Q)
      (hno : ¬ x.st = i → b x.st = false)
  | skip (d : Nat) (hd : o.dst = some d) (hB : B.all (fun x => !(x.p == d && x.old.isNone)) = true) (hst : B.all (fun x => !(x.st == i)) = true) (hw : Region.wanted o (yielded ops a.tmps) = false) (h : (V d).sat undef w)
  | store (x : Bx) (L R : List Bx) (hw : Region.wanted o (yielded ops a.tmps) = true) (hx : B = L ++ x :: R) (hst : x.st = i) (hoth : (L ++ R).all (fun y => !(y.st == i)) = true) (hd : o.dst = none) (hz : NoInt x.z.toList) (hc : ∀ g, x.old = some g → CB g)
      (h : ∀ g, x.at f = some g → Blk w g x.t x.z → o.wp P a w (fun a' w' => (∃ v, a' = a.put o.dst v) ∧ Chg (fun k => k = g) w w' ∧ ∃ cs, Blk w' g x.t cs ∧ x.ct.sat cs w') Q)
      (hat : ∃ g, x.at f = some g)

theorem Bx.at_up {x : Bx} {d : Nat} {v : Value} {f : Nat → Option Value} (h : ¬ (x.p = d ∧ x.old = none)) : x.at (upF (some d) v f) = x.at f := by
  unfold Bx.at
  cases ho : x.old with
  | some g => rfl
  | none =>
    have hp : ¬ x.p = d := fun e => h ⟨e, ho⟩
    have hp' : ¬ d = x.p := fun e => hp e.symm
    simp [upF, hp']
theorem region_typed {id : Nat} {dr : Bool} {w0 : World} (hm : dr = true → P.follows .mixedOrders = true) (CB : Nat → Prop) (O : List (Value × Ty)) (B : List Bx) (V : Nat → Ty)
    (hord : ∀ (i : Nat) (o : Oper), ops[i]? = some o → ∀ e ∈ o.after, Region.binds .any e = true → e.on < i)
    (hdst : ∀ (i j : Nat) (o o' : Oper) d, ops[i]? = some o → ops[j]? = some o' → o.dst = some d → o'.dst = some d → i = j)
    (hO : ∀ p ∈ O, p.2.sat p.1 w0)
    (hold : ∀ x ∈ B, ∀ g, x.old = some g → Blk w0 g x.t x.z)
    (hfar : B.Pairwise (fun x y => ∀ g, x.old = some g → y.old ≠ some g))
    (hdone : ∀ b f w, J ops w0 CB O B V b f w → (∀ i, i < ops.size → b i = true) → Q .normal ⟨upd T f, ds⟩ w)
    (hstep : ∀ (b : Nat → Bool) (f : Nat → Option Value) (w : World) (i : Nat) (o : Oper), J ops w0 CB O B V b f w → ops[i]? = some o → b i = false → (∀ e ∈ o.after, Region.binds .any e = true → b e.on = true) →
      Step P ops Q w0 CB B V b f w ⟨upd T f, ds⟩ i o) :
    (Code.region id ops dr).wp P Q ⟨T, ds⟩ w0 := by
  have start : J ops w0 CB O B V (fun _ => false) (fun _ => none) w0 := by
    refine ⟨(Chg.refl _ _), fun d v h => (by cases h), hO, fun x hx g hg => ?_, ?_, fun i o d _ _ => by simp, fun _ _ => rfl, fun i o _ h => (by cases h)⟩
    · unfold Bx.at at hg
      cases ho : x.old with
      | none => rw [ho] at hg; simp at hg
      | some g' =>
        rw [ho] at hg
        injection hg with hg
        subst hg
        have hb := hold x hx g' ho
        exact ⟨hb.lt, fun h => (by cases h), x.z, hb, fun _ => rfl, fun h => (by cases h)⟩
    · refine hfar.imp (fun {x y} h g hx hy => ?_)
      unfold Bx.at at hx hy
      cases hox : x.old with
      | none => rw [hox] at hx; simp at hx
      | some g1 =>
        cases hoy : y.old with
        | none => rw [hoy] at hy; simp at hy
        | some g2 =>
          rw [hox] at hx
          rw [hoy] at hy
          injection hx with hx
          injection hy with hy
          exact h g (by rw [hox, hx]) (by rw [hoy, hy])
  refine region_inv2 hm (J ops w0 CB O B V) hord ⟨start, ⟨start.chg.drew, start.typ0, fun p hp => p.2.new (start.otr p hp) (Chg.refl _ _).drew, start.box0, start.far, start.set, start.out, start.cl⟩⟩ hdone ?_
  · intro b f w i o hJ ho hbi ha
    have hs := hstep b f w i o hJ ho hbi ha
    have hcl : ∀ (j : Nat) (o' : Oper), ops[j]? = some o' → (if j = i then true else b j) = true → ∀ e ∈ o'.after, Region.binds .any e = true → (if e.on = i then true else b e.on) = true := by
      intro j o' ho' hb e he hbe
      split
      · rfl
      · by_cases hj : j = i
        · subst hj
          rw [ho] at ho'
          injection ho' with ho'
          subst ho'
          exact ha e he hbe
        · rw [if_neg hj] at hb
          exact hJ.cl j o' ho' hb e he hbe
    cases hs with
    | val d hw hd hB hst h =>
      refine .inl ⟨hw, ?_⟩
      refine Oper.wp_mono ?_ h
      rintro a' w' ⟨v, rfl, hn, hv⟩
      refine ⟨v, rfl, ?_⟩
      have hB' : ∀ x ∈ B, ¬ (x.p = d ∧ x.old = none) := fun x hx hh => by
        have := List.all_eq_true.1 hB x hx
        simp [hh.1, hh.2] at this
      have hst' : ∀ x ∈ B, ¬ x.st = i := fun x hx hh => by
        have := List.all_eq_true.1 hst x hx
        simp [hh] at this
      rw [hd]
      refine ⟨hJ.chg.new hn, fun d' v' h' => ?_, fun p hp => p.2.new (hJ.otr p hp) hn, fun x hx g hg' => ?_, ?_, fun j o' d' ho' hd' => ?_, fun d' hd' => ?_, hcl⟩
      · simp only [upF] at h'
        split at h'
        · rename_i e
          injection e with e
          subst e
          injection h' with h'
          subst h'
          exact hv
        · exact (V d').new (hJ.typ d' v' h') hn
      · rw [Bx.at_up (hB' x hx)] at hg'
        obtain ⟨h1, h2, cs, h3, h4, h5⟩ := hJ.box x hx g hg'
        rw [if_neg (hst' x hx)]
        exact ⟨Nat.lt_of_lt_of_le h1 hn.size, h2, cs, h3.chg hn (fun h => h), h4, fun h => x.ct.new (h5 h) hn⟩
      · refine List.Pairwise.imp_of_mem ?_ hJ.far
        intro x y hx hy h g hg1 hg2
        rw [Bx.at_up (hB' x hx)] at hg1
        rw [Bx.at_up (hB' y hy)] at hg2
        exact h g hg1 hg2
      · simp only [upF]
        by_cases hj : j = i
        · subst hj
          rw [ho] at ho'
          injection ho' with ho'
          subst ho'
          rw [hd] at hd'
          simp [hd']
        · have hne : ¬ (some d = some d') := fun e => hj (hdst j i o' o d ho' ho (by rw [hd', e]) hd)
          rw [if_neg hj, if_neg hne]
          exact hJ.set j o' d' ho' hd'
      · have hne : ¬ (some d = some d') := fun e => hd' i o ho (by rw [hd, e])
        simp only [upF]
        rw [if_neg hne]
        exact hJ.out d' hd'
    | skip d hd hB hst hw hv =>
      refine .inr ⟨hw, ?_⟩
      obtain ⟨v, hvv⟩ : ∃ v, undef = v := ⟨_, rfl⟩
      rw [hvv] at hv ⊢
      have hn : New w w := Chg.refl _ _
      have hB' : ∀ x ∈ B, ¬ (x.p = d ∧ x.old = none) := fun x hx hh => by
        have := List.all_eq_true.1 hB x hx
        simp [hh.1, hh.2] at this
      have hst' : ∀ x ∈ B, ¬ x.st = i := fun x hx hh => by
        have := List.all_eq_true.1 hst x hx
        simp [hh] at this
      rw [hd]
      refine ⟨hJ.chg.new hn, fun d' v' h' => ?_, fun p hp => p.2.new (hJ.otr p hp) hn, fun x hx g hg' => ?_, ?_, fun j o' d' ho' hd' => ?_, fun d' hd' => ?_, hcl⟩
      · simp only [upF] at h'
        split at h'
        · rename_i e
          injection e with e
          subst e
          injection h' with h'
          subst h'
          exact hv
        · exact (V d').new (hJ.typ d' v' h') hn
      · rw [Bx.at_up (hB' x hx)] at hg'
        obtain ⟨h1, h2, cs, h3, h4, h5⟩ := hJ.box x hx g hg'
        rw [if_neg (hst' x hx)]
        exact ⟨Nat.lt_of_lt_of_le h1 hn.size, h2, cs, h3.chg hn (fun h => h), h4, fun h => x.ct.new (h5 h) hn⟩
      · refine List.Pairwise.imp_of_mem ?_ hJ.far
        intro x y hx hy h g hg1 hg2
        rw [Bx.at_up (hB' x hx)] at hg1
        rw [Bx.at_up (hB' y hy)] at hg2
        exact h g hg1 hg2
      · simp only [upF]
        by_cases hj : j = i
        · subst hj
          rw [ho] at ho'
          injection ho' with ho'
          subst ho'
          rw [hd] at hd'
          simp [hd']
        · have hne : ¬ (some d = some d') := fun e => hj (hdst j i o' o d ho' ho (by rw [hd', e]) hd)
          rw [if_neg hj, if_neg hne]
          exact hJ.set j o' d' ho' hd'
      · have hne : ¬ (some d = some d') := fun e => hd' i o ho (by rw [hd, e])
        simp only [upF]
        rw [if_neg hne]
        exact hJ.out d' hd'
    | mk x L R hw hx hL hR hox hd hst h hno =>
      refine .inl ⟨hw, ?_⟩
      refine Oper.wp_mono ?_ h
      rintro a' w' ⟨v, g, cs, rfl, hav, hg1, hg2, hn, hv, hb, hz, hct⟩
      refine ⟨v, rfl, ?_⟩
      have hfd : f x.p = none := by
        cases hf : f x.p with
        | none => rfl
        | some u =>
          have := (hJ.set i o x.p ho hd).2 (by rw [hf]; simp)
          rw [hbi] at this
          cases this
      have hothers : ∀ y ∈ L ++ R, ¬ (y.p = x.p ∧ y.old = none) ∧ ¬ y.st = i := by
        intro y hy
        have h1 : ¬ y.st = i := fun hh => by
          have := List.all_eq_true.1 hst y hy
          simp [hh] at this
        refine ⟨fun hh => ?_, h1⟩
        rcases List.mem_append.1 hy with hy | hy
        · have := List.all_eq_true.1 hL y hy
          simp [hh.1, hh.2] at this
        · have := List.all_eq_true.1 hR y hy
          simp [hh.1, hh.2] at this
      have hxat : x.at (upF (some x.p) v f) = some g := by
        unfold Bx.at
        rw [hox]
        simp [upF, hav]
      rw [hd]
      refine ⟨hJ.chg.new hn, fun d' v' h' => ?_, fun p hp => p.2.new (hJ.otr p hp) hn, fun y hy g' hg' => ?_, ?_, fun j o' d' ho' hd' => ?_, fun d' hd' => ?_, hcl⟩
      · simp only [upF] at h'
        split at h'
        · rename_i e
          injection e with e
          subst e
          injection h' with h'
          subst h'
          exact hv
        · exact (V d').new (hJ.typ d' v' h') hn
      · rw [hx] at hy
        by_cases hyx : y ∈ L ++ R
        · obtain ⟨q1, q2⟩ := hothers y hyx
          rw [Bx.at_up q1] at hg'
          have hyB : y ∈ B := by
            rw [hx]
            rcases List.mem_append.1 hyx with h | h <;> simp [h]
          obtain ⟨h1, h2, cs', h3, h4, h5⟩ := hJ.box y hyB g' hg'
          rw [if_neg q2]
          exact ⟨Nat.lt_of_lt_of_le h1 hn.size, h2, cs', h3.chg hn (fun h => h), h4, fun h => y.ct.new (h5 h) hn⟩
        · have hyx' : y = x := by
            rcases List.mem_append.1 hy with h | h
            · exact absurd (List.mem_append_left _ h) hyx
            · rcases List.mem_cons.1 h with h | h
              · exact h
              · exact absurd (List.mem_append_right _ h) hyx
          subst hyx'
          rw [hxat] at hg'
          injection hg' with hg'
          subst hg'
          refine ⟨hg2, fun _ => Nat.le_trans hJ.chg.size hg1, cs, hb, fun hh => ?_, fun hh => ?_⟩
          · by_cases e : y.st = i
            · rw [if_pos e] at hh; cases hh
            · exact hz e
          · by_cases e : y.st = i
            · exact hct e
            · rw [if_neg e, hno e] at hh
              cases hh
      · have hmem : ∀ y ∈ B, ∀ g', y.at f = some g' → g' < w.heap.size := fun y hy g' h' => (hJ.box y hy g' h').1
        have hfar' := hJ.far
        rw [hx] at hfar' ⊢
        have hsame : ∀ y ∈ L ++ R, y.at (upF (some x.p) v f) = y.at f := fun y hy => Bx.at_up (hothers y hy).1
        have hnew : ∀ y ∈ L ++ R, ∀ g', y.at f = some g' → g' ≠ g := fun y hy g' h' e => by
          have hyB : y ∈ B := by
            rw [hx]
            rcases List.mem_append.1 hy with h | h <;> simp [h]
          have := hmem y hyB g' h'
          omega
        rw [List.pairwise_append] at hfar' ⊢
        obtain ⟨f1, f2, f3⟩ := hfar'
        obtain ⟨f4, f5⟩ := List.pairwise_cons.1 f2
        refine ⟨f1.imp_of_mem ?_, List.pairwise_cons.2 ⟨fun y hy g' h1 h2 => ?_, f5.imp_of_mem ?_⟩, fun y hy z' hz' g' h1 h2 => ?_⟩
        · intro a b ha' hb' h g' h1 h2
          rw [hsame a (List.mem_append_left _ ha')] at h1
          rw [hsame b (List.mem_append_left _ hb')] at h2
          exact h g' h1 h2
        · rw [hxat] at h1
          injection h1 with h1
          rw [hsame y (List.mem_append_right _ hy)] at h2
          exact hnew y (List.mem_append_right _ hy) g' h2 h1.symm
        · intro a b ha' hb' h g' h1 h2
          rw [hsame a (List.mem_append_right _ ha')] at h1
          rw [hsame b (List.mem_append_right _ hb')] at h2
          exact h g' h1 h2
        · rw [hsame y (List.mem_append_left _ hy)] at h1
          rcases List.mem_cons.1 hz' with rfl | hz'
          · rw [hxat] at h2
            injection h2 with h2
            exact hnew y (List.mem_append_left _ hy) g' h1 h2.symm
          · rw [hsame z' (List.mem_append_right _ hz')] at h2
            exact f3 y hy z' (List.mem_cons_of_mem _ hz') g' h1 h2
      · simp only [upF]
        by_cases hj : j = i
        · subst hj
          rw [ho] at ho'
          injection ho' with ho'
          subst ho'
          rw [hd] at hd'
          simp [hd']
        · have hne : ¬ (some x.p = some d') := fun e => hj (hdst j i o' o x.p ho' ho (by rw [hd', e]) hd)
          rw [if_neg hj, if_neg hne]
          exact hJ.set j o' d' ho' hd'
      · have hne : ¬ (some x.p = some d') := fun e => hd' i o ho (by rw [hd, e])
        simp only [upF]
        rw [if_neg hne]
        exact hJ.out d' hd'
    | store x L R hw hx hst hoth hd hz hcb h hat =>
      refine .inl ⟨hw, ?_⟩
      obtain ⟨g, hg'⟩ := hat
      have hxB : x ∈ B := by rw [hx]; simp
      obtain ⟨h1, h2, cs0, h3, h4, h5⟩ := hJ.box x hxB g hg'
      have hcs := h4 (by rw [hst]; exact hbi)
      subst hcs
      refine Oper.wp_mono ?_ (h g hg' h3)
      rintro a' w' ⟨⟨v, rfl⟩, hch, cs, hb, hct⟩
      refine ⟨v, rfl, ?_⟩
      rw [hd]
      have hothers : ∀ y ∈ L ++ R, ¬ y.st = i := by
        intro y hy hh
        have := List.all_eq_true.1 hoth y hy
        simp [hh] at this
      have hfar' := hJ.far
      rw [hx, List.pairwise_append] at hfar'
      obtain ⟨f1, f2, f3⟩ := hfar'
      obtain ⟨f4, f5⟩ := List.pairwise_cons.1 f2
      have hne : ∀ y ∈ L ++ R, ∀ g', y.at f = some g' → g' ≠ g := by
        intro y hy g' hy' e
        subst e
        rcases List.mem_append.1 hy with h | h
        · exact f3 y h x (by simp) g' hy' hg'
        · exact f4 y h g' hg' hy'
      refine ⟨hJ.chg.trans hch (fun k hk e => ?_), fun d' v' h' => (V d').st (hJ.typ d' v' h') h3 hz hch, fun p hp => p.2.st (hJ.otr p hp) h3 hz hch, fun y hy g' hgy => ?_, hJ.far, fun j o' d' ho' hd' => ?_, hJ.out, hcl⟩
      · subst e
        cases hox : x.old with
        | some g2 =>
          have : x.at f = some g2 := by unfold Bx.at; rw [hox]
          rw [hg'] at this
          injection this with this
          subst this
          exact hcb _ hox
        | none =>
          have := h2 hox
          omega
      · by_cases hyx : y ∈ L ++ R
        · obtain ⟨q1, q2, cs', q3, q4, q5⟩ := hJ.box y (by rw [hx]; rcases List.mem_append.1 hyx with h | h <;> simp [h]) g' hgy
          rw [if_neg (hothers y hyx)]
          exact ⟨Nat.lt_of_lt_of_le q1 hch.size, q2, cs', q3.chg hch (fun e => hne y hyx g' hgy e), q4, fun h => y.ct.st (q5 h) h3 hz hch⟩
        · have hyx' : y = x := by
            rw [hx] at hy
            rcases List.mem_append.1 hy with h | h
            · exact absurd (List.mem_append_left _ h) hyx
            · rcases List.mem_cons.1 h with h | h
              · exact h
              · exact absurd (List.mem_append_right _ h) hyx
          subst hyx'
          have hgy : y.at f = some g' := hgy
          rw [hg'] at hgy
          injection hgy with hgy
          subst hgy
          rw [if_pos hst]
          exact ⟨Nat.lt_of_lt_of_le h1 hch.size, h2, cs, hb, fun h => (by cases h), fun _ => hct⟩
      · simp only [upF]
        by_cases hj : j = i
        · subst hj
          rw [ho] at ho'
          injection ho' with ho'
          subst ho'
          rw [hd] at hd'
          cases hd'
        · rw [if_neg hj]
          exact hJ.set j o' d' ho' hd'
end
end Go.Mem

namespace Go.Mem
set_option linter.unusedVariables false
open Go.RowKit
section
variable {P : Program} {o : Oper} {a : Act} {w w' : World} {K : Act → World → Prop} {Q : Exit → Act → World → Prop} {v : Value}
theorem wp_val (h : (execOp a.eval o).run P w = .ok (.value v) w') (hk : K (a.put o.dst v) w') : o.wp P a w K Q := by
  unfold Oper.wp
  rw [h]
  exact hk
theorem wp_skp (h : (execOp a.eval o).run P w = .ok .skip w') (hk : K (a.put o.dst undef) w') : o.wp P a w K Q := by
  unfold Oper.wp
  rw [h]
  exact hk
theorem ex_move {x : Operand} (h : o.op = .move x ∨ o.op = .assign x) (hx : a.eval x = v) : (execOp a.eval o).run P w = .ok (.value v) w := by
  rcases h with h | h <;> simp [execOp, h, hx, Sem.run_pure]
theorem ex_load {ty : TypeId} {x : Operand} {ad : Addr} (h : o.op = .load ty x) (hx : a.eval x = .pointer (some ad)) (hl : (loadVar ty ad).run P w = .ok v w) : (execOp a.eval o).run P w = .ok (.value v) w := by
  simp [execOp, h, Instr.loadAt, Instr.sureAddr, hx, hl, Result.andThen]
theorem ex_store {ty : TypeId} {x y : Operand} {ad : Addr} (h : o.op = .store ty x y) (hx : a.eval x = .pointer (some ad)) (hy : a.eval y = v) (hl : (storeVar ty ad v).run P w = .ok () w') : (execOp a.eval o).run P w = .ok .skip w' := by
  simp [execOp, h, Instr.storeAt, Instr.sureAddr, hx, hy, hl, Result.andThen]
theorem ex_alloc {ty : TypeId} {z : Value} (h : o.op = .alloc ty) (hz : (zeroValue ty).run P w = .ok z w) : (execOp a.eval o).run P w = .ok (.value (.pointer (some ⟨w.heap.size, 0, none⟩))) (w.alloc (.cells z.cells ty)) := by
  simp [execOp, h, Instr.alloc, hz, newVar, newRow, Result.andThen]
theorem ex_box {ty : TypeId} {x : Operand} (h : o.op = .box ty x) (hx : a.eval x = v) : (execOp a.eval o).run P w = .ok (.value (.pointer (some ⟨w.heap.size, 0, none⟩))) (w.alloc (.cells v.cells ty)) := by
  simp [execOp, h, Instr.box, hx, newVar, newRow, Result.andThen]
theorem ex_extract {x : Operand} {i : Nat} {vs : Array Value} (h : o.op = .extract x i) (hx : a.eval x = .tuple vs) (hv : vs[i]? = some v) : (execOp a.eval o).run P w = .ok (.value v) w := by
  simp [execOp, h, Instr.extract, hx, hv, Result.andThen]
theorem ex_build {ty : TypeId} {ps : Array (Nat × Operand)} {vs : Array (Nat × Value)} (h : o.op = .build ty ps) (hp : ps.map (fun x => (x.1, a.eval x.2)) = vs) (hr : (Instr.build ty vs).run P w = .ok v w) : (execOp a.eval o).run P w = .ok (.value v) w := by
  simp [execOp, h, hp, hr, Result.andThen]
theorem ex_lit {ty : TypeId} {n : Nat} {ps : Array (Nat × Operand)} {vs : Array (Nat × Value)} (h : o.op = .buildSlice ty n ps) (hp : ps.map (fun x => (x.1, a.eval x.2)) = vs) (hr : (Instr.buildSlice ty n vs).run P w = .ok v w') : (execOp a.eval o).run P w = .ok (.value v) w' := by
  simp [execOp, h, hp, hr, Result.andThen]
theorem ex_field {s : TypeId} {x : Operand} {f : Nat} {p : Value} (h : o.op = .fieldAddr s x f) (hx : a.eval x = p) (hr : (Instr.fieldAt s p f).run P w = .ok v w) : (execOp a.eval o).run P w = .ok (.value v) w := by
  simp [execOp, h, hx, hr, Result.andThen]
theorem ex_index {t : TypeId} {x y : Operand} {p i : Value} (h : o.op = .indexAddr t x y) (hx : a.eval x = p) (hy : a.eval y = i) (hr : (Instr.indexAt t p i).run P w = .ok v w) : (execOp a.eval o).run P w = .ok (.value v) w := by
  simp [execOp, h, hx, hy, hr, Result.andThen]
end
end Go.Mem

namespace Go.Mem
set_option linter.unusedVariables false
open Go.RowKit

/-- A region's operations look as a region's do: edges lead back, no slot is written twice, all slots that are written are listed. -/
def chk (ops : Array Oper) (D : List Nat) : Bool := (List.range ops.size).all fun i => match ops[i]? with
  | none => true
  | some o => o.after.all (fun e => !Region.binds .any e || decide (e.on < i)) && (match o.dst with
    | none => true
    | some d => D.contains d && (List.range i).all fun j => match ops[j]? with | none => true | some o' => !(o'.dst == some d))
section
variable {P : Program} {ops : Array Oper} {D : List Nat} {Q : Exit → Act → World → Prop}
theorem chk_at (h : chk ops D = true) {i : Nat} {o : Oper} (ho : ops[i]? = some o) : o.after.all (fun e => !Region.binds .any e || decide (e.on < i)) = true ∧ (match o.dst with
    | none => true
    | some d => D.contains d && (List.range i).all fun j => match ops[j]? with | none => true | some o' => !(o'.dst == some d)) = true := by
  have hi := (Array.getElem?_eq_some_iff.1 ho).1
  have := List.all_eq_true.1 h i (by simpa using hi)
  rw [ho] at this
  simpa [Bool.and_eq_true] using this
theorem chk_ord (h : chk ops D = true) : ∀ (i : Nat) (o : Oper), ops[i]? = some o → ∀ e ∈ o.after, Region.binds .any e = true → e.on < i := fun i o ho e he hb => by
  have := Array.all_eq_true_iff_forall_mem.1 (chk_at h ho).1 e he
  rw [hb] at this
  simpa using this
theorem chk_in (h : chk ops D = true) (i : Nat) (o : Oper) (d : Nat) (ho : ops[i]? = some o) (hd : o.dst = some d) : d ∈ D := by
  have := (chk_at h ho).2
  rw [hd] at this
  simp only [Bool.and_eq_true] at this
  simpa using this.1
theorem chk_lt (h : chk ops D = true) {i j : Nat} {o o' : Oper} {d : Nat} (ho : ops[i]? = some o) (ho' : ops[j]? = some o') (hd : o.dst = some d) (hd' : o'.dst = some d) (hj : j < i) : False := by
  have := (chk_at h ho).2
  rw [hd] at this
  simp only [Bool.and_eq_true] at this
  have := List.all_eq_true.1 this.2 j (by simpa using hj)
  rw [ho'] at this
  simp [hd'] at this
theorem chk_dst (h : chk ops D = true) : ∀ (i j : Nat) (o o' : Oper) d, ops[i]? = some o → ops[j]? = some o' → o.dst = some d → o'.dst = some d → i = j := fun i j o o' d ho ho' hd hd' => by
  rcases Nat.lt_trichotomy i j with hl | he | hg
  · exact (chk_lt h ho' ho hd' hd hl).elim
  · exact he
  · exact (chk_lt h ho ho' hd hd' hg).elim

/-- c is the frame a with the slots of f written anew. -/
structure Fr (a c : Act) (f : Nat → Option Value) : Prop where
  ev : ∀ t, t < a.tmps.size → c.eval (.tmp t) = (f t).getD (a.eval (.tmp t))
  size : c.tmps.size = a.tmps.size
  defers : c.defers = a.defers
theorem Fr.in {a c : Act} {f : Nat → Option Value} (h : Fr a c f) {t : Nat} {v : Value} (ht : t < a.tmps.size) (hf : f t = some v) : c.eval (.tmp t) = v := by rw [h.ev t ht, hf]; rfl
theorem Fr.out {a c : Act} {f : Nat → Option Value} (h : Fr a c f) {t : Nat} {v : Value} (ht : t < a.tmps.size) (hf : f t = none) (hv : a.eval (.tmp t) = v) : c.eval (.tmp t) = v := by rw [h.ev t ht, hf, hv]; rfl

/-- Operation i is x, writes slot d, is guarded by g, and waits for others. -/
def IsO (ops : Array Oper) (i : Nat) (d : Option Nat) (x : Op) (g : Option (Nat × Bool)) (deps : List Nat) : Prop := ∃ o, ops[i]? = some o ∧ o.op = x ∧ o.dst = d ∧ o.guard = g ∧ ∀ k ∈ deps, ∃ e ∈ o.after, Region.binds .any e = true ∧ e.on = k
theorem IsO.of {i : Nat} {d : Option Nat} {x : Op} {g : Option (Nat × Bool)} {deps : List Nat} (o : Oper) (ho : ops[i]? = some o) (h1 : o.op = x) (h2 : o.dst = d) (h3 : o.guard = g) (h4 : (deps.all fun k => o.after.any fun e => Region.binds .any e && e.on == k) = true) : IsO ops i d x g deps := by
  refine ⟨o, ho, h1, h2, h3, fun k hk => ?_⟩
  have h5 := List.all_eq_true.1 h4 k hk
  obtain ⟨i, hi, h6⟩ := Array.any_eq_true.1 h5
  rw [Bool.and_eq_true] at h6
  exact ⟨o.after[i], Array.getElem_mem hi, h6.1, by simpa using h6.2⟩
def nthL : List Oper → Nat → Option Oper
  | [], _ => none
  | a :: _, 0 => some a
  | _ :: l, n + 1 => nthL l n
theorem nthL_eq : ∀ (l : List Oper) (i : Nat), nthL l i = l[i]?
  | [], i => by simp [nthL]
  | a :: l, 0 => by simp [nthL]
  | a :: l, n + 1 => by simp [nthL, nthL_eq l n]
theorem IsO.mk' {l : List Oper} (hops : ops = l.toArray) (i : Nat) (o : Oper) (ho : nthL l i = some o) (deps : List Nat) (h4 : (deps.all fun k => o.after.any fun e => Region.binds .any e && e.on == k) = true) : IsO ops i o.dst o.op o.guard deps := by
  subst hops
  exact IsO.of o (by rw [← ho, nthL_eq]; simp) rfl rfl rfl h4
theorem IsO.none {i d : Nat} {x : Op} {g : Option (Nat × Bool)} {deps : List Nat} (h : IsO ops i (some d) x g deps) {w0 : World} {CB : Nat → Prop} {O : List (Value × Ty)} {B : List Bx} {V : Nat → Ty} {b : Nat → Bool} {f : Nat → Option Value} {w : World} (hJ : J ops w0 CB O B V b f w) (hb : b i = false) : f d = none := by
  obtain ⟨o, h1, _, h2, _⟩ := h
  cases hf : f d with
  | none => rfl
  | some v =>
    have := (hJ.set i o d h1 h2).2 (by rw [hf]; simp)
    rw [hb] at this
    cases this
theorem IsO.not {i j : Nat} {d : Option Nat} {x : Op} {g : Option (Nat × Bool)} {deps : List Nat} (h : IsO ops i d x g deps) {w0 : World} {CB : Nat → Prop} {O : List (Value × Ty)} {B : List Bx} {V : Nat → Ty} {b : Nat → Bool} {f : Nat → Option Value} {w : World} (hJ : J ops w0 CB O B V b f w) (hj : b j = false) (hd : j ∈ deps) : b i = false := by
  obtain ⟨o, h1, _, h2, _, h5⟩ := h
  cases hb : b i with
  | false => rfl
  | true =>
    obtain ⟨e, he, hbe, rfl⟩ := h5 j hd
    have := hJ.cl i o h1 hb e he hbe
    rw [hj] at this
    cases this
theorem then_ret {n : Act → World → Prop} {a : Act} {w : World} (h : Q .ret a w) : Exit.then n Q .ret a w := h
/-- A box that holds a value of a type. -/
def BX (w : World) (g : Nat) (t : TypeId) (τ : Ty) : Prop := ∃ v, τ.sat v w ∧ Blk w g t v.cells
theorem BX.new {w w' : World} {g : Nat} {t : TypeId} {τ : Ty} (h : BX w g t τ) (hn : New w w') : BX w' g t τ := by
  obtain ⟨v, h1, h2⟩ := h
  exact ⟨v, τ.new h1 hn, h2.chg hn (fun h => h)⟩
theorem BX.lt {w : World} {g : Nat} {t : TypeId} {τ : Ty} (h : BX w g t τ) : g < w.heap.size := by
  obtain ⟨v, h1, h2⟩ := h
  exact h2.lt
/-- Values of the type are structs of n cells. -/
def Ty.str (τ : Ty) (n : Nat) : Prop := ∀ v w, τ.sat v w → ∃ cs : Array Value, v = .agg cs ∧ cs.size = n ∧ cs.all (·.oneCell') = true
theorem BX.load {w : World} {g n : Nat} {t ty : TypeId} {τ : Ty} (h : BX w g t τ) (hs : τ.str n) (hA : Agg P ty n) : ∃ v, (loadVar ty ⟨g, 0, none⟩).run P w = .ok v w ∧ τ.sat v w := by
  obtain ⟨v, h1, h2⟩ := h
  obtain ⟨cs, rfl, h3, _⟩ := hs v w h1
  subst h3
  exact ⟨_, Agg.load hA h2, h1⟩
theorem BX.of {w : World} {g : Nat} {t : TypeId} {τ : Ty} {cs : Array Value} (hb : Blk w g t cs) (hc : τ.c1.sat cs w) : BX w g t τ := by
  obtain ⟨v, h1, rfl⟩ := hc
  exact ⟨v, h1, hb⟩
end
end Go.Mem

namespace Go.Mem
set_option linter.unusedVariables false
open Go.RowKit
section
variable {P : Program} {o : Oper} {a : Act} {w w' : World} {v : Value}
theorem enter_of {f : Nat} {fn : Func} (hf : P.funcs[f]? = some fn) (h : (fn.name == "runtime.NumGoroutine" || fn.body.isNone) = false) (args : Array Value) (w : World) : (callFunc f args).run P w = .ok (.enter f args) w := by
  rw [Bool.or_eq_false_iff] at h
  have h1 : ¬ fn.name = "runtime.NumGoroutine" := by simpa using h.1
  have h2 : ¬ fn.body = none := fun e => by rw [e] at h; cases h.2
  simp [callFunc, hf, h1, h2, go_sem]
theorem eqg_int (op : BinOp) (t : TypeId) (x y : Operand) (k k' : IntKind) (i j : Int) : (eqGuard op t x y (.int k i) (.int k' j)).run P w = .ok () w := by
  unfold eqGuard
  split <;> simp [go_sem]
theorem eqg_str (op : BinOp) (t : TypeId) (x y : Operand) (i j : ByteArray) : (eqGuard op t x y (.string i) (.string j)).run P w = .ok () w := by
  unfold eqGuard
  split <;> simp [go_sem]
theorem ex_bin {op : BinOp} {t u : TypeId} {x y : Operand} {vx vy : Value} (h : o.op = .binOp op t x y u) (hx : a.eval x = vx) (hy : a.eval y = vy) (hg : (eqGuard op t x y vx vy).run P w = .ok () w) (hr : (binOp op t vx vy).run P w = .ok v w) : (execOp a.eval o).run P w = .ok (.value v) w := by
  simp [execOp, h, hx, hy, hg, hr, Result.andThen]
theorem ex_pick {x y z : Operand} {b : Bool} (h : o.op = .pick x y z) (hx : a.eval x = .bool b) (hy : (if b then a.eval y else a.eval z) = v) : (execOp a.eval o).run P w = .ok (.value v) w := by
  cases b <;> simp_all [execOp, asBool, go_sem]
/-- The address of a field. -/
theorem run_field {s : TypeId} {g f off sz : Nat} {fs : Array Field} {fd : Field} (hs : P.underlying s = some (.struct fs)) (hf : fs[f]? = some fd) (ho : fd.offset = off) (hz : (P.info? fd.type).map (·.size) = some sz) (hz0 : (sz == 0) = false) : (Instr.fieldAt s (.pointer (some ⟨g, 0, none⟩)) f).run P w = .ok (.pointer (some ⟨g, off, none⟩)) w := by
  subst ho
  have hz0' : ¬ sz = 0 := by simpa using hz0
  cases hq : P.info? fd.type with
  | none => rw [hq] at hz; cases hz
  | some d =>
    rw [hq] at hz
    injection hz with hz
    simp [Instr.fieldAt, run_underlying hs, hf, Instr.sureAddr, fieldPlace, sizeOf, typeInfo, hq, hz, hz0', Addr.add_lit, Result.andThen, go_sem]
/-- Some cells in a row, as a struct. -/
theorem load_cells {ty : TypeId} {n : Nat} {ad : Addr} (hA : Agg P ty n) (cs : List Value) (hn : cs.length = n) (h : ∀ j u, cs[j]? = some u → w.cell? (ad.add j) = some u) : (loadVar ty ad).run P w = .ok (.agg cs.toArray) w := by
  obtain ⟨d, hu, hd, hi⟩ := hA
  have hl := run_loadCells_list (P := P) (w := w) ad cs h
  rw [hn] at hl
  cases hq : P.info? ty with
  | none => rw [hq] at hi; cases hi
  | some i =>
    rw [hq] at hi
    injection hi with hi
    cases d <;> simp_all [loadVar, isAgg, run_underlying hu, sizeOf, typeInfo, Result.andThen, go_sem]
/-- Cells of a block from one place on. -/
theorem blk_cells {g k : Nat} {t : TypeId} {cs : Array Value} (hb : Blk w g t cs) (ds : List Value) (h : ∀ j u, ds[j]? = some u → cs[k + j]? = some u) : ∀ j u, ds[j]? = some u → w.cell? ((⟨g, k, none⟩ : Addr).add j) = some u := fun j u hu => by
  rw [Addr.add_lit]
  exact hb.cell (k + j) (h j u hu)
theorem run_eql (t : TypeId) (k : IntKind) (x y : Int) : (binOp .eql t (.int k x) (.int k y)).run P w = .ok (.bool (x == y)) w := by
  simp [binOp, go_sem]
theorem run_neq (t : TypeId) (k : IntKind) (x y : Int) : (binOp .neq t (.int k x) (.int k y)).run P w = .ok (.bool (!(x == y))) w := by
  simp [binOp, go_sem]
  rfl
theorem run_lss (t : TypeId) (k : IntKind) (x y : Int) : (binOp .lss t (.int k x) (.int k y)).run P w = .ok (.bool (decide (x < y))) w := by
  simp [binOp, go_sem]
theorem run_leq (t : TypeId) (k : IntKind) (x y : Int) : (binOp .leq t (.int k x) (.int k y)).run P w = .ok (.bool (decide (x ≤ y))) w := by
  simp [binOp, go_sem]
theorem run_gtr (t : TypeId) (k : IntKind) (x y : Int) : (binOp .gtr t (.int k x) (.int k y)).run P w = .ok (.bool (decide (y < x))) w := by
  simp [binOp, go_sem]
theorem run_geq (t : TypeId) (k : IntKind) (x y : Int) : (binOp .geq t (.int k x) (.int k y)).run P w = .ok (.bool (decide (y ≤ x))) w := by
  simp [binOp, go_sem]
theorem run_as {v v' : Value} {e : Sem Value} (h : e.run P w = .ok v w) (hv : v = v') : e.run P w = .ok v' w := hv ▸ h
theorem enter_size {a : Act} {args : Array Value} {n N : Nat} (ha : a = { tmps := args ++ Array.replicate n undef, defers := [] }) (h : args.size + n = N) : a.tmps.size = N := by
  subst ha
  simpa using h
theorem enter_ev {a : Act} {args : Array Value} {n : Nat} (ha : a = { tmps := args ++ Array.replicate n undef, defers := [] }) {i : Nat} {v : Value} (h : args[i]? = some v) : a.eval (.tmp i) = v := by
  subst ha
  show (args ++ Array.replicate n undef).getD i undef = v
  rw [Array.getD_eq_getD_getElem?, Array.getElem?_append_left (Array.getElem?_eq_some_iff.1 h).1, h]
  rfl
theorem enter_defers {a : Act} {args : Array Value} {n : Nat} (ha : a = { tmps := args ++ Array.replicate n undef, defers := [] }) : a.defers = [] := by rw [ha]
theorem enter_wp {f : Nat} {fn : Func} {c : Code} {args : Array Value} {w : World} {R : Ending → World → Prop} {n : Nat} (hf : P.funcs[f]? = some fn) (hb : fn.body = some c) (hn : fn.ntmps = n)
    (h : ∀ a : Act, a = { tmps := args ++ Array.replicate (n - args.size) undef, defers := [] } → c.wp P (bodyPost P fn R) a w) : Calls P f args w R := by
  refine calls_of_wp hf hb ?_
  rw [hn]
  exact h _ rfl
theorem ex_len {x : Operand} {t e : TypeId} {A : Option Addr} {n c : Nat} (h : o.op = .call { callee := .builtin .len, args := #[x], argTypes := #[t] }) (ht : P.underlying t = some (.slice e)) (hx : a.eval x = .slice A n c) : (execOp a.eval o).run P w = .ok (.value (.int .i64 n)) w := by
  simp [execOp, h, resolve, invoke, builtin, hx, Builtin.len_, run_underlying ht, goInt, Result.andThen]
theorem inBlock_exit {Q : Exit → Act → World → Prop} {id : Nat} (h : Q .normal a w) : Exit.inBlock id Q (.exit id) a w := by
  simpa [Exit.inBlock] using h
theorem then_exit {Q : Exit → Act → World → Prop} {n : Act → World → Prop} {id : Nat} (h : Q (.exit id) a w) : Exit.then n Q (.exit id) a w := h
theorem inBlock_ret {Q : Exit → Act → World → Prop} {id : Nat} (h : Q .ret a w) : Exit.inBlock id Q .ret a w := h
theorem run_add' (x y : Int) (t : TypeId) : (binOp .add t (.int .i64 x) (.int .i64 y)).run P w = .ok (.int .i64 (IntKind.i64.wrap (x + y))) w := by
  simp [binOp, go_sem]
theorem run_sub' (x y : Int) (t : TypeId) : (binOp .sub t (.int .i64 x) (.int .i64 y)).run P w = .ok (.int .i64 (IntKind.i64.wrap (x - y))) w := by
  simp [binOp, go_sem]
theorem run_mul' (x y : Int) (t : TypeId) : (binOp .mul t (.int .i64 x) (.int .i64 y)).run P w = .ok (.int .i64 (IntKind.i64.wrap (x * y))) w := by
  simp [binOp, go_sem]
end
end Go.Mem

namespace Go.Mem
set_option linter.unusedVariables false
open Go.RowKit
section
variable {P : Program} {o : Oper} {a : Act} {w w' : World} {v : Value}
/-- A loop by a ghost that falls. -/
theorem loop_ghost {Q : Exit → Act → World → Prop} {c : Code} (I : Nat → Act → World → Prop) (n : Nat) (h0 : I n a w) (round : ∀ n a w, I n a w → c.wp P (Exit.then (fun a' w' => ∃ m, m < n ∧ I m a' w') Q) a w) : (Code.loop c).wp P Q a w := by
  have key : ∀ N n, n < N → ∀ a w, I n a w → Code.rounds P c Q N a w := by
    intro N
    induction N with
    | zero => intro n h; omega
    | succ N ih =>
      intro n hn a w hI
      rw [rounds_succ]
      refine wp_mono (round n a w hI) (fun e a' w' h => ?_)
      cases e with
      | normal =>
        obtain ⟨m, hm, hI'⟩ := h
        exact ih m (by omega) a' w' hI'
      | _ => exact h
  exact wp_loop_rounds (n + 1) (key (n + 1) n (by omega) a w h0)
theorem ex_un {op : UnOp} {t : TypeId} {x : Operand} {vx : Value} (h : o.op = .unOp op t x) (hx : a.eval x = vx) (hr : (Op.unary op vx).run P w = .ok v w) : (execOp a.eval o).run P w = .ok (.value v) w := by
  simp [execOp, h, hx, hr, Result.andThen]
theorem run_negi (x : Int) : (Op.unary .neg (.int .i64 x)).run P w = .ok (.int .i64 (IntKind.i64.wrap (-x))) w := by
  simp [Op.unary, go_sem]
theorem then_normal {Q : Exit → Act → World → Prop} {n : Act → World → Prop} (h : n a w) : Exit.then n Q .normal a w := h
theorem inBlock_normal {Q : Exit → Act → World → Prop} {id : Nat} (h : Q .normal a w) : Exit.inBlock id Q .normal a w := h
end
end Go.Mem

namespace Go.Col
set_option linter.unusedVariables false
open Go.RowKit Go.Mem

abbrev Colr := Nat → Nat
/-- Cells that no coloured block holds. -/
def NB : Value → Bool
  | .int .u32 _ => true
  | .int .i64 z => z != 0
  | _ => false
def GI (w : World) (c : Colr) : Prop := ∀ k cs t x, w.heap[k]? = some (.cells cs t x) → c k ≠ 0 → ∀ v ∈ cs.toList, NB v = false
theorem GI.zero (w : World) : GI w (fun _ => 0) := fun k cs t x _ h => absurd rfl h
theorem GI.drew {w : World} {c : Colr} (h : GI w c) : GI w.drew c := h

/-- From w, c to w', c': only blocks of the colours of S have changed, new ones are plain, forgotten or of these colours. -/
structure Ext (S : List Nat) (w : World) (c : Colr) (w' : World) (c' : Colr) : Prop where
  ok : (S.contains 0 || S.contains 1) = false
  chg : Chg (fun k => S.contains (c k) = true) w w'
  col : ∀ k, k < w.heap.size → c' k = c k
  neu : ∀ k, w.heap.size ≤ k → k < w'.heap.size → c' k = 0 ∨ c' k = 1 ∨ S.contains (c' k) = true
  gi : GI w' c'
section
variable {S T : List Nat} {w w' w'' : World} {c c' c'' : Colr}
theorem Ext.z (h : Ext S w c w' c') : S.contains 0 = false := (Bool.or_eq_false_iff.1 h.ok).1
theorem Ext.one (h : Ext S w c w' c') : S.contains 1 = false := (Bool.or_eq_false_iff.1 h.ok).2
theorem Ext.refl (hS : (S.contains 0 || S.contains 1) = false) (h : GI w c) : Ext S w c w c := ⟨hS, Chg.refl _ _, fun _ _ => rfl, fun k h1 h2 => by omega, h⟩
theorem Ext.drew (hS : (S.contains 0 || S.contains 1) = false) (h : GI w c) : Ext S w c w.drew c := ⟨hS, (Chg.refl _ _).drew, fun _ _ => rfl, fun k h1 (h2 : k < w.heap.size) => by omega, h⟩
theorem sub_all (h : T.all (S.contains ·) = true) {n : Nat} (hn : T.contains n = true) : S.contains n = true :=
  List.all_eq_true.1 h n (by simpa using hn)
theorem Ext.trans (h : Ext S w c w' c') (h' : Ext T w' c' w'' c'') (hs : T.all (S.contains ·) = true) : Ext S w c w'' c'' := by
  refine ⟨h.ok, h.chg.trans h'.chg (fun k hk ht => ?_), fun k hk => (h'.col k (Nat.lt_of_lt_of_le hk h.chg.size)).trans (h.col k hk), fun k h1 h2 => ?_, h'.gi⟩
  · rw [h.col k hk] at ht
    exact sub_all hs ht
  · by_cases hk : k < w'.heap.size
    · rw [h'.col k hk]
      exact h.neu k h1 hk
    · rcases h'.neu k (by omega) h2 with h3 | h3 | h3
      · exact .inl h3
      · exact .inr (.inl h3)
      · exact .inr (.inr (sub_all hs h3))
theorem Ext.mono (h : Ext T w c w' c') (hs : T.all (S.contains ·) = true) (hS : (S.contains 0 || S.contains 1) = false) : Ext S w c w' c' :=
  ⟨hS, h.chg.mono (fun k _ ht => sub_all hs ht), h.col, fun k h1 h2 => (h.neu k h1 h2).imp (fun h => h) (Or.imp (fun h => h) (sub_all hs)), h.gi⟩
def ext0 (c : Colr) (n : Nat) : Colr := fun k => if k < n then c k else 0
theorem Ext.of_new (h : New w w') (g : GI w c) : Ext [] w c w' (ext0 c w.heap.size) := by
  refine ⟨rfl, h.mono (fun _ _ hf => hf.elim), fun k hk => by simp [ext0, hk], fun k h1 h2 => .inl (if_neg (show ¬ k < w.heap.size by omega)), ?_⟩
  intro k cs t x hb hc v hv
  unfold ext0 at hc
  split at hc
  · rename_i hk
    rw [h.block k hk (fun h => h)] at hb
    exact g k cs t x hb hc v hv
  · exact absurd rfl hc
def setC (c : Colr) (g n : Nat) : Colr := fun k => if k = g then n else c k
theorem Ext.alloc {n : Nat} {cs : Array Value} {t : TypeId} (g : GI w c) (hn : ([n].contains 0 || [n].contains 1) = false) (hcs : cs.toList.all (fun v => !NB v) = true) : Ext [n] w c (w.alloc (.cells cs t)) (setC c w.heap.size n) := by
  refine ⟨hn, (Chg.refl _ w).alloc _, fun k hk => if_neg (show ¬ k = w.heap.size by omega), fun k h1 h2 => ?_, ?_⟩
  · have : k = w.heap.size := by simp at h2; omega
    subst this
    exact .inr (.inr (by simp [setC]))
  · intro k cs' t' x hb hc v hv
    by_cases hk : k = w.heap.size
    · subst hk
      rw [heap_alloc_new] at hb
      injection hb with hb
      injection hb with hb
      subst hb
      have := List.all_eq_true.1 hcs v (by simpa using hv)
      simpa using this
    · have hlt : k < w.heap.size := by
        have := (Array.getElem?_eq_some_iff.1 hb).1
        simp at this; omega
      rw [Below.heap_alloc w _ k hlt] at hb
      simp only [setC, if_neg hk] at hc
      exact g k cs' t' x hb hc v hv
theorem Ext.allocP {o : Obj} (g : GI w c) : Ext [] w c (w.alloc o) (ext0 c w.heap.size) := Ext.of_new ((Chg.refl _ w).alloc o) g
theorem Ext.store {n g : Nat} {t : TypeId} {cs : Array Value} (gi : GI w c) (hc : Chg (fun k => k = g) w w') (hz : w'.heap.size = w.heap.size) (hn : c g = n) (hS : ([n].contains 0 || [n].contains 1) = false) (hb : Blk w' g t cs) (hcs : cs.toList.all (fun v => !NB v) = true) : Ext [n] w c w' c := by
  refine ⟨hS, hc.mono (fun k _ e => by subst e; simp [hn]), fun _ _ => rfl, fun k h1 h2 => by omega, ?_⟩
  intro k cs' t' x hb' hck v hv
  by_cases hk : k = g
  · subst hk
    unfold Blk at hb
    rw [hb] at hb'
    injection hb' with hb'
    injection hb' with hb'
    subst hb'
    have := List.all_eq_true.1 hcs v (by simpa using hv)
    simpa using this
  · have hlt : k < w.heap.size := by
      have := (Array.getElem?_eq_some_iff.1 hb').1
      omega
    rw [hc.block k hlt hk] at hb'
    exact gi k cs' t' x hb' hck v hv
/-- The blocks that were there when all was plain have not changed. -/
theorem Ext.new0 (h : Ext S w (fun _ => 0) w' c') : New w w' := h.chg.mono (fun k _ hk => by rw [h.z] at hk; cases hk)
theorem add_block (ad : Addr) (j : Nat) : (ad.add j).block = ad.block := by
  cases ad
  simp only [Addr.add]
  split <;> rfl
/-- A slice that holds a barred value lies in a plain block: it is kept. -/
theorem rd_ext {A : Option Addr} {n : Nat} {xs : List Value} (h : Rd w A n xs) (hx : xs = [] ∨ ∃ x ∈ xs, NB x = true) (g : GI w c) (he : Ext S w c w' c') : Rd w' A n xs := by
  refine ⟨h.1, fun hn => ?_⟩
  obtain ⟨ad, rfl, hc⟩ := h.2 hn
  refine ⟨ad, rfl, fun j u hu => ?_⟩
  refine he.chg.cell (hc j u hu) ?_
  have hz : c (ad.add j).block = 0 := by
    rcases hx with rfl | ⟨x, hx1, hx2⟩
    · simp at hu
    obtain ⟨i, hi, hxi⟩ := List.mem_iff_getElem.1 hx1
    have h1 := hc i x (by rw [List.getElem?_eq_getElem hi, hxi])
    rw [add_block, ← add_block ad i]
    refine Decidable.byContradiction fun hne => ?_
    unfold World.cell? at h1
    split at h1
    · rename_i cs t x' heq
      split at h1
      · cases h1
      · have := g _ cs t x' heq hne x (by have := Array.mem_of_getElem? h1; simpa using this)
        rw [hx2] at this
        cases this
    · cases h1
  rw [hz, he.z]
  simp
/-- A slice in a plain block is kept. -/
theorem rd_ext0 {A : Option Addr} {n : Nat} {xs : List Value} (h : Rd w A n xs) (hx : ∀ ad, A = some ad → 0 < n → c ad.block = 0) (he : Ext S w c w' c') : Rd w' A n xs := by
  refine ⟨h.1, fun hn => ?_⟩
  obtain ⟨ad, rfl, hc⟩ := h.2 hn
  refine ⟨ad, rfl, fun j u hu => ?_⟩
  refine he.chg.cell (hc j u hu) ?_
  have hz : c (ad.add j).block = 0 := by rw [add_block]; exact hx ad rfl hn
  rw [hz, he.z]
  simp
theorem cell_lt {ad : Addr} {u : Value} (h : w.cell? ad = some u) : ad.block < w.heap.size := by
  unfold World.cell? at h
  split at h
  · rename_i heq
    exact (Array.getElem?_eq_some_iff.1 heq).1
  · cases h
end

/-- What a value is. -/
structure TyC where
  sat : Value → World → Colr → Prop
  stab : ∀ {S v w c w' c'}, sat v w c → GI w c → Ext S w c w' c' → sat v w' c'
def TyC.any : TyC := ⟨fun _ _ _ => True, fun _ _ _ => trivial⟩
def TyC.eq (u : Value) : TyC := ⟨fun v _ _ => v = u, fun h _ _ => h⟩
def TyC.tup1 (a : TyC) (u : Value) : TyC := ⟨fun v w c => ∃ x, v = .tuple #[x, u] ∧ a.sat x w c, fun ⟨x, h1, h2⟩ g e => ⟨x, h1, a.stab h2 g e⟩⟩
def TyC.tup2 (a b : TyC) (u : Value) : TyC := ⟨fun v w c => ∃ x y, v = .tuple #[x, y, u] ∧ a.sat x w c ∧ b.sat y w c, fun ⟨x, y, h1, h2, h3⟩ g e => ⟨x, y, h1, a.stab h2 g e, b.stab h3 g e⟩⟩
def TyC.pair (a b : TyC) : TyC := ⟨fun v w c => ∃ x y, v = .tuple #[x, y] ∧ a.sat x w c ∧ b.sat y w c, fun ⟨x, y, h1, h2, h3⟩ g e => ⟨x, y, h1, a.stab h2 g e, b.stab h3 g e⟩⟩
def TyC.ptr : TyC := ⟨fun v _ _ => ∃ g, v = .pointer (some ⟨g, 0, none⟩), fun h _ _ => h⟩
/-- Cells. -/
structure CTyC where
  sat : Array Value → World → Colr → Prop
  stab : ∀ {S v w c w' c'}, sat v w c → GI w c → Ext S w c w' c' → sat v w' c'

/-- Values of the type are structs of n cells, none of them barred. -/
def TyC.str (τ : TyC) (n : Nat) : Prop := ∀ v w c, τ.sat v w c → ∃ cs : Array Value, v = .agg cs ∧ cs.size = n ∧ cs.all (·.oneCell') = true ∧ cs.toList.all (fun v => !NB v) = true

def BoxC (w : World) (c : Colr) (g : Nat) (t : TypeId) (n : Nat) (τ : TyC) : Prop := c g = n ∧ ∃ v, τ.sat v w c ∧ Blk w g t v.cells
/-- A fact that is kept as long as no block of its colours changes. -/
structure Fact where
  cols : List Nat
  P : World → Colr → Prop
  stab : ∀ {S w c w' c'}, P w c → GI w c → Ext S w c w' c' → cols.any (S.contains ·) = false → P w' c'
def Fact.val (τ : TyC) (v : Value) : Fact := ⟨[], fun w c => τ.sat v w c, fun h g e _ => τ.stab h g e⟩
theorem blk_ext {S : List Nat} {w w' : World} {c c' : Colr} {g n : Nat} {t : TypeId} {cs : Array Value} (hb : Blk w g t cs) (hc : c g = n) (he : Ext S w c w' c') (hn : S.contains n = false) : Blk w' g t cs ∧ c' g = n :=
  ⟨hb.chg he.chg (fun h => by rw [hc, hn] at h; cases h), (he.col g hb.lt).trans hc⟩
def Fact.box (g : Nat) (t : TypeId) (n : Nat) (τ : TyC) : Fact := ⟨[n], fun w c => BoxC w c g t n τ, fun ⟨h1, v, h2, h3⟩ gi e hn => by
  have hn' := by simpa using hn
  obtain ⟨q1, q2⟩ := blk_ext h3 h1 e (by simpa using hn')
  exact ⟨q2, v, τ.stab h2 gi e, q1⟩⟩
/-- A plain block. -/
def Fact.row (g : Nat) (t : TypeId) (κ : CTyC) : Fact := ⟨[], fun w c => c g = 0 ∧ ∃ cs, κ.sat cs w c ∧ Blk w g t cs, fun ⟨h1, v, h2, h3⟩ gi e _ => by
  obtain ⟨q1, q2⟩ := blk_ext h3 h1 e e.z
  exact ⟨q2, v, κ.stab h2 gi e, q1⟩⟩

/-- What a value is that owns blocks of some colours. -/
structure TyO where
  cols : List Nat
  sat : Value → World → Colr → Prop
  stab : ∀ {S v w c w' c'}, sat v w c → GI w c → Ext S w c w' c' → cols.any (S.contains ·) = false → sat v w' c'
def Fact.own (τ : TyO) (v : Value) : Fact := ⟨τ.cols, τ.sat v, τ.stab⟩
abbrev BB := Nat → Bool
abbrev FF := Nat → Option Value
theorem any_app {l l' : List Nat} {p : Nat → Bool} (h : (l ++ l').any p = false) : l.any p = false ∧ l'.any p = false := by
  rw [List.any_append, Bool.or_eq_false_iff] at h
  exact h
/-- A fact in a region: what it says depends on the operations that have run and on the slots that they have written. st: from operation i on F1 instead. new: a box that is made in the region: slot p holds its address; operation s fills it; z: its cells at first. own: slot p holds a value that owns blocks. -/
inductive RF where
  | s (F : Fact)
  | st (i : Nat) (F1 : Fact) (F0 : RF)
  | new (p n : Nat) (t : TypeId) (s : Nat) (z : Array Value) (τ : TyC)
  | own (p : Nat) (τ : TyO)
def RF.cols : RF → List Nat
  | .s F => F.cols
  | .st _ F1 F0 => F1.cols ++ F0.cols
  | .new _ n _ _ _ _ => [n]
  | .own _ τ => τ.cols
def RF.ops : RF → List Nat
  | .s _ => []
  | .st i _ F0 => i :: F0.ops
  | .new _ _ _ sp _ _ => [sp]
  | .own _ _ => []
def RF.slots : RF → List Nat
  | .s _ => []
  | .st _ _ F0 => F0.slots
  | .new p _ _ _ _ _ => [p]
  | .own p _ => [p]
def RF.P : RF → BB → FF → World → Colr → Prop
  | .s F, _, _, w, c => F.P w c
  | .st i F1 F0, b, f, w, c => (b i = true → F1.P w c) ∧ (b i = false → F0.P b f w c)
  | .new p n t sp z τ, b, f, w, c => ∀ g, (f p).bind adr = some g → (b sp = true → BoxC w c g t n τ) ∧ (b sp = false → c g = n ∧ Blk w g t z)
  | .own p τ, b, f, w, c => ∀ v, f p = some v → τ.sat v w c
theorem RF.dep {b b' : BB} {f f' : FF} {w : World} {c : Colr} : ∀ (F : RF), F.P b f w c → (∀ i, F.ops.contains i = true → b' i = b i) → (∀ d, F.slots.contains d = true → f' d = f d) → F.P b' f' w c
  | .s F, h, _, _ => h
  | .st i F1 F0, ⟨h1, h2⟩, ho, hs => ⟨fun hb => h1 ((ho i (by simp [RF.ops])) ▸ hb), fun hb => RF.dep F0 (h2 ((ho i (by simp [RF.ops])) ▸ hb)) (fun j hj => ho j (by simp [RF.ops] at hj ⊢; exact .inr hj)) hs⟩
  | .new p n t sp z τ, h, ho, hs => fun g hg => by
    rw [hs p (by simp [RF.slots])] at hg
    rw [ho sp (by simp [RF.ops])]
    exact h g hg
  | .own p τ, h, ho, hs => fun g hg => by
    rw [hs p (by simp [RF.slots])] at hg
    exact h g hg
theorem RF.stab {b : BB} {f : FF} {S : List Nat} {w w' : World} {c c' : Colr} : ∀ (F : RF), F.P b f w c → GI w c → Ext S w c w' c' → F.cols.any (S.contains ·) = false → F.P b f w' c'
  | .s F, h, g, e, hn => F.stab h g e hn
  | .st i F1 F0, ⟨h1, h2⟩, g, e, hn => ⟨fun hb => F1.stab (h1 hb) g e (any_app hn).1, fun hb => RF.stab F0 (h2 hb) g e (any_app hn).2⟩
  | .new p n t sp z τ, h, gi, e, hn => fun g hg => by
    obtain ⟨h1, h2⟩ := h g hg
    refine ⟨fun hb => (Fact.box g t n τ).stab (h1 hb) gi e hn, fun hb => ?_⟩
    obtain ⟨q1, q2⟩ := h2 hb
    exact (blk_ext q2 q1 e (by simpa [RF.cols] using hn)).symm
  | .own p τ, h, gi, e, hn => fun g hg => τ.stab (h g hg) gi e hn
def Fact.tru : Fact := ⟨[], fun _ _ => True, fun _ _ _ _ => trivial⟩
/-- What it says behind the region. -/
def RF.fin : RF → Fact
  | .s F => F
  | .st _ F1 _ => F1
  | .new _ _ _ _ _ _ => Fact.tru
  | .own _ _ => Fact.tru
theorem RF.to_fin {b : BB} {f : FF} {w : World} {c : Colr} : ∀ (F : RF), F.P b f w c → (∀ i, F.ops.contains i = true → b i = true) → F.fin.P w c
  | .s F, h, _ => h
  | .st i F1 F0, h, hb => h.1 (hb i (by simp [RF.ops]))
  | .new _ _ _ _ _ _, _, _ => trivial
  | .own _ _, _, _ => trivial
def All : List RF → BB → FF → World → Colr → Prop
  | [], _, _, _, _ => True
  | F :: L, b, f, w, c => F.P b f w c ∧ All L b f w c
def bup (b : BB) (i : Nat) : BB := fun k => if k = i then true else b k
def aff (S : List Nat) (i : Nat) (od : Option Nat) (F : RF) : Bool := F.cols.any (S.contains ·) || F.ops.contains i || (match od with | some d => F.slots.contains d | none => false)
theorem aff_no {S : List Nat} {i : Nat} {od : Option Nat} {F : RF} (h : aff S i od F = false) : F.cols.any (S.contains ·) = false ∧ (∀ j, F.ops.contains j = true → j ≠ i) ∧ (∀ d, F.slots.contains d = true → od ≠ some d) := by
  unfold aff at h
  rw [Bool.or_eq_false_iff, Bool.or_eq_false_iff] at h
  refine ⟨h.1.1, fun j hj e => ?_, fun d hd e => ?_⟩
  · subst e; rw [hj] at h; cases h.1.2
  · subst e
    have := h.2
    simp only at this
    rw [hd] at this; cases this
theorem All.step {S : List Nat} {i : Nat} {od : Option Nat} {v : Value} {b : BB} {f : FF} {w w' : World} {c c' : Colr} (hg : GI w c) (he : Ext S w c w' c') : ∀ Fs : List RF, All Fs b f w c → All (Fs.filter (aff S i od)) (bup b i) (upF od v f) w' c' → All Fs (bup b i) (upF od v f) w' c'
  | [], _, _ => trivial
  | F :: Fs, h, h' => by
    cases ha : aff S i od F with
    | true =>
      rw [List.filter_cons_of_pos ha] at h'
      exact ⟨h'.1, All.step hg he Fs h.2 h'.2⟩
    | false =>
      rw [List.filter_cons_of_neg (by rw [ha]; simp)] at h'
      obtain ⟨h1, h2, h3⟩ := aff_no ha
      refine ⟨RF.dep F (RF.stab F h.1 hg he h1) (fun j hj => ?_) (fun d hd => ?_), All.step hg he Fs h.2 h'⟩
      · simp [bup, h2 j hj]
      · simp [upF, h3 d hd]
theorem All.stab {b : BB} {f : FF} {w w' : World} {c c' : Colr} (hg : GI w c) (he : Ext [] w c w' c') : ∀ Fs : List RF, All Fs b f w c → All Fs b f w' c'
  | [], _ => trivial
  | F :: Fs, h => ⟨RF.stab F h.1 hg he (by simp), All.stab hg he Fs h.2⟩

section
variable {P : Program} {ops : Array Oper} {Q : Exit → Act → World → Prop} {T : Array Value} {ds : List Deferred}
structure J (ops : Array Oper) (w0 : World) (c0 : Colr) (CB : List Nat) (Fs : List RF) (V : Nat → TyC) (b : BB) (f : FF) (w : World) (c : Colr) : Prop where
  gi : GI w c
  ext : Ext CB w0 c0 w c
  typ : ∀ d v, f d = some v → (V d).sat v w c
  fac : All Fs b f w c
  set : ∀ (i : Nat) (o : Oper) d, ops[i]? = some o → o.dst = some d → (b i = true ↔ f d ≠ none)
  out : ∀ d, (∀ (i : Nat) (o : Oper), ops[i]? = some o → o.dst ≠ some d) → f d = none
  cl : ∀ (i : Nat) (o : Oper), ops[i]? = some o → b i = true → ∀ e ∈ o.after, Region.binds .any e = true → b e.on = true
/-- What a step has to show. -/
inductive Step (P : Program) (ops : Array Oper) (Q : Exit → Act → World → Prop) (CB : List Nat) (Fs : List RF) (V : Nat → TyC) (b : BB) (f : FF) (w : World) (c : Colr) (a : Act) (i : Nat) (o : Oper) : Prop where
  | run (S : List Nat) (od : Option Nat) (hw : Region.wanted o (yielded ops a.tmps) = true) (hd : o.dst = od) (hS : S.all (CB.contains ·) = true)
      (h : o.wp P a w (fun a' w' => ∃ v c', a' = a.put o.dst v ∧ Ext S w c w' c' ∧ (∀ d, od = some d → (V d).sat v w' c') ∧ All (Fs.filter (aff S i od)) (bup b i) (upF od v f) w' c') Q)
  | skip (od : Option Nat) (hd : o.dst = od) (hw : Region.wanted o (yielded ops a.tmps) = false) (hs : ∀ d, od = some d → (V d).sat undef w c) (h : All (Fs.filter (aff [] i od)) (bup b i) (upF od undef f) w c)

theorem region_typed {id : Nat} {dr : Bool} {w0 : World} {c0 : Colr} (hm : dr = true → P.follows .mixedOrders = true) (CB : List Nat) (Fs : List RF) (V : Nat → TyC)
    (hCB : (CB.contains 0 || CB.contains 1) = false) (hg : GI w0 c0) (hF : All Fs (fun _ => false) (fun _ => none) w0 c0)
    (hord : ∀ (i : Nat) (o : Oper), ops[i]? = some o → ∀ e ∈ o.after, Region.binds .any e = true → e.on < i)
    (hdst : ∀ (i j : Nat) (o o' : Oper) d, ops[i]? = some o → ops[j]? = some o' → o.dst = some d → o'.dst = some d → i = j)
    (hdone : ∀ b f w c, J ops w0 c0 CB Fs V b f w c → (∀ i, i < ops.size → b i = true) → Q .normal ⟨upd T f, ds⟩ w)
    (hstep : ∀ (b : BB) (f : FF) (w : World) (c : Colr) (i : Nat) (o : Oper), J ops w0 c0 CB Fs V b f w c → ops[i]? = some o → b i = false → (∀ e ∈ o.after, Region.binds .any e = true → b e.on = true) →
      Step P ops Q CB Fs V b f w c ⟨upd T f, ds⟩ i o) :
    (Code.region id ops dr).wp P Q ⟨T, ds⟩ w0 := by
  have start : J ops w0 c0 CB Fs V (fun _ => false) (fun _ => none) w0 c0 :=
    ⟨hg, Ext.refl hCB hg, fun d v h => (by cases h), hF, fun i o d _ _ => by simp, fun _ _ => rfl, fun i o _ h => (by cases h)⟩
  have start2 : J ops w0 c0 CB Fs V (fun _ => false) (fun _ => none) w0.drew c0 :=
    ⟨hg.drew, Ext.drew hCB hg, fun d v h => (by cases h), All.stab hg (Ext.drew rfl hg) _ hF, fun i o d _ _ => by simp, fun _ _ => rfl, fun i o _ h => (by cases h)⟩
  refine region_inv2 hm (fun b f w => ∃ c, J ops w0 c0 CB Fs V b f w c) hord ⟨⟨c0, start⟩, ⟨c0, start2⟩⟩ (fun b f w ⟨c, hJ⟩ hb => hdone b f w c hJ hb) ?_
  rintro b f w i o ⟨c, hJ⟩ ho hbi ha
  have hcl : ∀ (j : Nat) (o' : Oper), ops[j]? = some o' → (if j = i then true else b j) = true → ∀ e ∈ o'.after, Region.binds .any e = true → (if e.on = i then true else b e.on) = true := by
    intro j o' ho' hb e he hbe
    split
    · rfl
    · by_cases hj : j = i
      · subst hj
        rw [ho] at ho'
        injection ho' with ho'
        subst ho'
        exact ha e he hbe
      · rw [if_neg hj] at hb
        exact hJ.cl j o' ho' hb e he hbe
  have key : ∀ (S : List Nat) (od : Option Nat) (v : Value) (w' : World) (c' : Colr), o.dst = od → S.all (CB.contains ·) = true → Ext S w c w' c' → (∀ d, od = some d → (V d).sat v w' c') → All (Fs.filter (aff S i od)) (bup b i) (upF od v f) w' c' → J ops w0 c0 CB Fs V (fun k => if k = i then true else b k) (upF o.dst v f) w' c' := by
    intro S od v w' c' hd hS he hv hA
    subst hd
    refine ⟨he.gi, hJ.ext.trans he hS, fun d' v' h' => ?_, All.step hJ.gi he Fs hJ.fac hA, fun j o' d' ho' hd' => ?_, fun d' hd' => ?_, hcl⟩
    · simp only [upF] at h'
      split at h'
      · rename_i e
        injection h' with h'
        subst h'
        exact hv d' e
      · exact (V d').stab (hJ.typ d' v' h') hJ.gi he
    · simp only [upF]
      by_cases hj : j = i
      · subst hj
        rw [ho] at ho'
        injection ho' with ho'
        subst ho'
        simp [hd']
      · have hne : ¬ (o.dst = some d') := fun e => hj (hdst j i o' o d' ho' ho hd' e)
        rw [if_neg hj, if_neg hne]
        exact hJ.set j o' d' ho' hd'
    · have hne : ¬ (o.dst = some d') := fun e => hd' i o ho e
      simp only [upF]
      rw [if_neg hne]
      exact hJ.out d' hd'
  cases hstep b f w c i o hJ ho hbi ha with
  | run S od hw hd hS h =>
    refine .inl ⟨hw, ?_⟩
    refine Oper.wp_mono ?_ h
    rintro a' w' ⟨v, c', rfl, he, hv, hA⟩
    exact ⟨v, rfl, c', key S od v w' c' hd hS he hv hA⟩
  | skip od hd hw hs h =>
    refine .inr ⟨hw, ?_⟩
    exact ⟨c, key [] od undef w c hd rfl (Ext.refl rfl hJ.gi) hs h⟩

theorem region_tz {id : Nat} {dr : Bool} {a : Act} {w0 : World} {c0 : Colr} (hm : dr = true → P.follows .mixedOrders = true) (D : List Nat) (hchk : chk ops D = true) (CB : List Nat) (Fs : List RF) (V : Nat → TyC)
    (hCB : (CB.contains 0 || CB.contains 1) = false) (hg : GI w0 c0) (hF : All Fs (fun _ => false) (fun _ => none) w0 c0)
    (hstep : ∀ (b : BB) (f : FF) (w : World) (c : Colr) (x : Act) (i : Nat) (o : Oper), i < ops.size → J ops w0 c0 CB Fs V b f w c → (∀ d, d ∉ D → f d = none) → Fr a x f → ops[i]? = some o → b i = false → (∀ e ∈ o.after, Region.binds .any e = true → b e.on = true) →
      Step P ops Q CB Fs V b f w c x i o)
    (hdone : ∀ b f w c x, J ops w0 c0 CB Fs V b f w c → (∀ i, i < ops.size → b i = true) → (∀ d, d ∉ D → f d = none) → Fr a x f → Q .normal x w) :
    (Code.region id ops dr).wp P Q a w0 := by
  obtain ⟨T, ds⟩ := a
  have hout : ∀ b f w c, J ops w0 c0 CB Fs V b f w c → ∀ d, d ∉ D → f d = none := fun b f w c hJ d hd => hJ.out d (fun i o ho e => hd (chk_in hchk i o d ho e))
  have hfr : ∀ f, Fr ⟨T, ds⟩ ⟨upd T f, ds⟩ f := fun f => ⟨fun t ht => by rw [upd_eval T f ds t ht]; rfl, by simp [upd], rfl⟩
  refine region_typed hm CB Fs V hCB hg hF (chk_ord hchk) (chk_dst hchk) (fun b f w c hJ hb => hdone b f w c _ hJ hb (hout _ _ _ _ hJ) (hfr f)) ?_
  intro b f w c i o hJ ho hbi ha
  exact hstep b f w c _ i o (Array.getElem?_eq_some_iff.1 ho).1 hJ (hout _ _ _ _ hJ) (hfr f) ho hbi ha

theorem J.none {w0 : World} {c0 : Colr} {CB : List Nat} {Fs : List RF} {V : Nat → TyC} {b : BB} {f : FF} {w : World} {c : Colr} {i d : Nat} {x : Op} {g : Option (Nat × Bool)} {deps : List Nat} (hJ : J ops w0 c0 CB Fs V b f w c) (h : IsO ops i (some d) x g deps) (hb : b i = false) : f d = none := by
  obtain ⟨o, h1, _, h2, _⟩ := h
  cases hf : f d with
  | none => rfl
  | some v =>
    have := (hJ.set i o d h1 h2).2 (by rw [hf]; simp)
    rw [hb] at this
    cases this
/-- An operation that waits for one that has not run has not run. -/
theorem J.not {w0 : World} {c0 : Colr} {CB : List Nat} {Fs : List RF} {V : Nat → TyC} {b : BB} {f : FF} {w : World} {c : Colr} {i j : Nat} {d : Option Nat} {x : Op} {g : Option (Nat × Bool)} {deps : List Nat} (hJ : J ops w0 c0 CB Fs V b f w c) (h : IsO ops i d x g deps) (hj : b j = false) (hd : j ∈ deps) : b i = false := by
  obtain ⟨o, h1, _, h2, _, h5⟩ := h
  cases hb : b i with
  | false => rfl
  | true =>
    obtain ⟨e, he, hbe, rfl⟩ := h5 j hd
    have := hJ.cl i o h1 hb e he hbe
    rw [hj] at this
    cases this
/-- What an operation waits for that has run has run. -/
theorem J.has {w0 : World} {c0 : Colr} {CB : List Nat} {Fs : List RF} {V : Nat → TyC} {b : BB} {f : FF} {w : World} {c : Colr} {i j : Nat} {d : Option Nat} {x : Op} {g : Option (Nat × Bool)} {deps : List Nat} (hJ : J ops w0 c0 CB Fs V b f w c) (h : IsO ops i d x g deps) (hb : b i = true) (hd : j ∈ deps) : b j = true := by
  obtain ⟨o, h1, _, h2, _, h5⟩ := h
  obtain ⟨e, he, hbe, rfl⟩ := h5 j hd
  exact hJ.cl i o h1 hb e he hbe

/-! ### what operations do -/
variable {CB : List Nat} {Fs : List RF} {V : Nat → TyC} {b : BB} {f : FF} {w : World} {c : Colr} {a : Act} {i : Nat} {o : Oper} {v : Value}
theorem Step.pure (d : Nat) (hw : Region.wanted o (yielded ops a.tmps) = true) (hd : o.dst = some d) (hA : All (Fs.filter (aff [] i (some d))) (bup b i) (upF (some d) v f) w c) (hg : GI w c) (h : (execOp a.eval o).run P w = .ok (.value v) w) (hv : (V d).sat v w c) : Step P ops Q CB Fs V b f w c a i o :=
  .run [] (some d) hw hd rfl (wp_val h ⟨v, c, rfl, Ext.refl rfl hg, fun d' e => by injection e with e; subst e; exact hv, hA⟩)
theorem Step.non (d : Nat) (hw : Region.wanted o (yielded ops a.tmps) = false) (hd : o.dst = some d) (hA : All (Fs.filter (aff [] i (some d))) (bup b i) (upF (some d) undef f) w c) (hv : (V d).sat undef w c) : Step P ops Q CB Fs V b f w c a i o :=
  .skip (some d) hd hw (fun d' e => by injection e with e; subst e; exact hv) hA
/-- A call that changes blocks of the colours of S. -/
def CE (P : Program) (f : Nat) (vs : Array Value) (w : World) (c : Colr) (S : List Nat) (R : Value → World → Colr → Prop) : Prop := GI w c → Calls P f vs w fun e w' => ∃ v c', e = .returned v ∧ R v w' c' ∧ Ext S w c w' c'
/-- A call that changes nothing. -/
def CV (P : Program) (f : Nat) (vs : Array Value) (w : World) (c : Colr) (τ : TyC) : Prop := CE P f vs w c [] (fun v w' c' => τ.sat v w' c')
theorem CV.of_new {f : Nat} {vs : Array Value} {τ : TyC} {R : Value → World → Prop} (h : Calls P f vs w fun e w' => ∃ v, e = .returned v ∧ R v w' ∧ New w w') (hR : ∀ v w' c', R v w' → τ.sat v w' c') : CV P f vs w c τ := fun hg =>
  h.mono fun e w' ⟨v, h1, h2, h3⟩ => ⟨v, _, h1, hR v w' _ h2, Ext.of_new h3 hg⟩
theorem wp_callE {K : Act → World → Prop} {fn : Nat} {args : Array Operand} {tys : Array TypeId} {vs : Array Value} {S : List Nat} {R : Value → World → Colr → Prop} (h : o.op = .call { callee := .value (.func fn), args := args, argTypes := tys }) (ha : args.map a.eval = vs) (he : ∀ w, (callFunc fn vs).run P w = .ok (.enter fn vs) w)
    (hc : CE P fn vs w c S R) (hg : GI w c) (hk : ∀ v w' c', R v w' c' → Ext S w c w' c' → K (a.put o.dst v) w') : o.wp P a w K Q := by
  unfold Oper.wp execOp
  rw [h]
  have hev : a.eval (.func fn) = .func (.func fn) #[] #[] := rfl
  simp [resolve, invoke, hev, ha, he, Oper.upon, go_sem]
  refine (hc hg).mono ?_
  rintro e w' ⟨v, c', rfl, h1, h2⟩
  exact hk v w' c' h1 h2
theorem Step.call (d : Nat) {fn : Nat} {args : Array Operand} {tys : Array TypeId} {vs : Array Value} (hw : Region.wanted o (yielded ops a.tmps) = true) (hd : o.dst = some d) (hA : (Fs.filter (aff [] i (some d))) = []) (hg : GI w c) (h : o.op = .call { callee := .value (.func fn), args := args, argTypes := tys }) (ha : args.map a.eval = vs) (he : ∀ w, (callFunc fn vs).run P w = .ok (.enter fn vs) w)
    (hc : CV P fn vs w c (V d)) : Step P ops Q CB Fs V b f w c a i o :=
  .run [] (some d) hw hd rfl (wp_callE h ha he hc hg (fun v w' c' hv hE => ⟨v, c', rfl, hE, fun d' e => by injection e with e; subst e; exact hv, by rw [hA]; trivial⟩))
theorem Step.callE (d : Nat) (S : List Nat) {R : Value → World → Colr → Prop} {fn : Nat} {args : Array Operand} {tys : Array TypeId} {vs : Array Value} (hw : Region.wanted o (yielded ops a.tmps) = true) (hd : o.dst = some d) (hS : S.all (CB.contains ·) = true) (hg : GI w c) (h : o.op = .call { callee := .value (.func fn), args := args, argTypes := tys }) (ha : args.map a.eval = vs) (he : ∀ w, (callFunc fn vs).run P w = .ok (.enter fn vs) w)
    (hc : CE P fn vs w c S R) (hk : ∀ v w' c', R v w' c' → Ext S w c w' c' → (V d).sat v w' c' ∧ All (Fs.filter (aff S i (some d))) (bup b i) (upF (some d) v f) w' c') : Step P ops Q CB Fs V b f w c a i o :=
  .run S (some d) hw hd hS (wp_callE h ha he hc hg (fun v w' c' hv hE => ⟨v, c', rfl, hE, fun d' e => by injection e with e; subst e; exact (hk v w' c' hv hE).1, (hk v w' c' hv hE).2⟩))
theorem bup_at {b : BB} {i : Nat} : bup b i i = true := by simp [bup]
theorem bup_ne {b : BB} {i k : Nat} (h : (k == i) = false) : bup b i k = b k := by simp at h; simp [bup, h]
theorem up_at {d : Nat} {v : Value} {f : FF} : upF (some d) v f d = some v := by simp [upF]
/-- A box is made and filled at once: op box. -/
theorem new_box {p n s : Nat} {t : TypeId} {z cs : Array Value} {τ : TyC} {u : Value} (hcs : u.cells = cs) (hu : τ.sat u w c) (hg : GI w c) (hi : s = i) (hn : ([n].contains 0 || [n].contains 1) = false) (hb : cs.toList.all (fun v => !NB v) = true) :
    (RF.new p n t s z τ).P (bup b i) (upF (some p) (.pointer (some ⟨w.heap.size, 0, none⟩)) f) (w.alloc (.cells cs t)) (setC c w.heap.size n) := by
  subst hi hcs
  intro g hgp
  rw [up_at] at hgp
  obtain rfl : w.heap.size = g := by simpa [adr] using hgp
  refine ⟨fun _ => ⟨by simp [setC], u, τ.stab hu hg (Ext.alloc hg hn hb), Blk.new _ _ _⟩, fun h => ?_⟩
  rw [bup_at] at h; cases h
theorem new_zero {p n s : Nat} {t : TypeId} {z : Array Value} {τ : TyC} (hs : b s = false) (hi : (s == i) = false) :
    (RF.new p n t s z τ).P (bup b i) (upF (some p) (.pointer (some ⟨w.heap.size, 0, none⟩)) f) (w.alloc (.cells z t)) (setC c w.heap.size n) := by
  intro g hgp
  rw [up_at] at hgp
  obtain rfl : w.heap.size = g := by simpa [adr] using hgp
  refine ⟨fun h => ?_, fun h => ⟨by simp [setC], Blk.new _ _ _⟩⟩
  rw [bup_ne hi, hs] at h; cases h
theorem Step.box (p n : Nat) (s : Nat) (z cs : Array Value) (τ : TyC) {ty : TypeId} {x : Operand} {u : Value} (hw : Region.wanted o (yielded ops a.tmps) = true) (hd : o.dst = some p) (hS : [n].all (CB.contains ·) = true) (hF : Fs.filter (aff [n] i (some p)) = [RF.new p n ty s z τ]) (hg : GI w c) (ho : o.op = .box ty x) (hx : a.eval x = u) (hcs : u.cells = cs) (hu : τ.sat u w c) (hi : s = i) (hn : ([n].contains 0 || [n].contains 1) = false) (hb : cs.toList.all (fun v => !NB v) = true) (hV : V p = TyC.ptr) :
    Step P ops Q CB Fs V b f w c a i o := by
  refine .run [n] (some p) hw hd hS (wp_val (ex_box ho hx) ⟨_, setC c w.heap.size n, rfl, ?_, fun d e => ?_, ?_⟩)
  · rw [hcs]; exact Ext.alloc hg hn hb
  · injection e with e; subst e; rw [hV]; exact ⟨_, rfl⟩
  · rw [hF, hcs]; exact ⟨new_box hcs hu hg hi hn hb, trivial⟩
theorem Step.alloc (p n : Nat) (s : Nat) (z : Array Value) (τ : TyC) {ty : TypeId} {u : Value} (hw : Region.wanted o (yielded ops a.tmps) = true) (hd : o.dst = some p) (hS : [n].all (CB.contains ·) = true) (hF : Fs.filter (aff [n] i (some p)) = [RF.new p n ty s z τ]) (hg : GI w c) (ho : o.op = .alloc ty) (hz : (zeroValue ty).run P w = .ok u w) (hcs : u.cells = z) (hsb : b s = false) (hi : (s == i) = false) (hn : ([n].contains 0 || [n].contains 1) = false) (hb : z.toList.all (fun v => !NB v) = true) (hV : V p = TyC.ptr) :
    Step P ops Q CB Fs V b f w c a i o := by
  refine .run [n] (some p) hw hd hS (wp_val (ex_alloc ho hz) ⟨_, setC c w.heap.size n, rfl, ?_, fun d e => ?_, ?_⟩)
  · rw [hcs]; exact Ext.alloc hg hn hb
  · injection e with e; subst e; rw [hV]; exact ⟨_, rfl⟩
  · rw [hF, hcs]; exact ⟨new_zero hsb hi, trivial⟩
/-- A whole value is stored into a block of colour n. -/
theorem store_col {ty t : TypeId} {g n m : Nat} {old cs : Array Value} (hA : Agg P ty m) (hb : Blk w g t old) (ho : old.size = m) (hc : cs.size = m) (h1 : cs.all (·.oneCell') = true) (hg : GI w c) (hn : c g = n) (hS : ([n].contains 0 || [n].contains 1) = false) (hNB : cs.toList.all (fun v => !NB v) = true) :
    ∃ w', (storeVar ty ⟨g, 0, none⟩ (.agg cs)).run P w = .ok () w' ∧ Ext [n] w c w' c ∧ Blk w' g t cs := by
  obtain ⟨d, hu, hd, hi⟩ := hA
  have hr := run_storeVar_row (P := P) w g t ty old cs hb (by rw [hi, hc]) (by rw [ho, hc]) h1
  have hb' : Blk (w.setRow g cs) g t cs := setRow_heap w g old cs t (0, 0) hb
  exact ⟨_, hr, Ext.store hg ⟨rfl, rfl, rfl, by simp [World.setRow], fun k hk hne => setRow_other w g k cs hne⟩ (by simp [World.setRow]) hn hS hb' hNB, hb'⟩
theorem store_tyc {ty t : TypeId} {g n m : Nat} {old : Array Value} {τ : TyC} (hA : Agg P ty m) (hs : τ.str m) (hb : Blk w g t old) (ho : old.size = m) (hv : τ.sat v w c) (hg : GI w c) (hn : c g = n) (hS : ([n].contains 0 || [n].contains 1) = false) :
    ∃ w', (storeVar ty ⟨g, 0, none⟩ v).run P w = .ok () w' ∧ Ext [n] w c w' c ∧ BoxC w' c g t n τ := by
  obtain ⟨cs, rfl, h1, h2, h3⟩ := hs v w c hv
  obtain ⟨w', q1, q2, q3⟩ := store_col (P := P) (t := t) hA hb ho h1 h2 hg hn hS h3
  exact ⟨w', q1, q2, hn, _, τ.stab hv hg q2, q3⟩
theorem BoxC.old {g n m : Nat} {t : TypeId} {τ : TyC} (h : BoxC w c g t n τ) (hs : τ.str m) : ∃ old, Blk w g t old ∧ old.size = m ∧ c g = n := by
  obtain ⟨h1, u, h2, h3⟩ := h
  obtain ⟨cs, rfl, h4, _⟩ := hs u w c h2
  exact ⟨_, h3, h4, h1⟩
theorem BoxC.load {g n m : Nat} {t ty : TypeId} {τ : TyC} (h : BoxC w c g t n τ) (hA : Agg P ty m) (hs : τ.str m) : ∃ u, (loadVar ty ⟨g, 0, none⟩).run P w = .ok u w ∧ τ.sat u w c := by
  obtain ⟨h1, u, h2, h3⟩ := h
  obtain ⟨cs, rfl, h4, _⟩ := hs u w c h2
  subst h4
  exact ⟨_, Agg.load hA h3, h2⟩
theorem Step.store (n : Nat) (S : List Nat) {ty : TypeId} {x y : Operand} {ad : Addr} (hS : S = [n]) (hw : Region.wanted o (yielded ops a.tmps) = true) (hd : o.dst = none) (hCB : [n].all (CB.contains ·) = true) (ho : o.op = .store ty x y) (hx : a.eval x = .pointer (some ad)) (hy : a.eval y = v)
    (h : ∃ w', (storeVar ty ad v).run P w = .ok () w' ∧ Ext [n] w c w' c ∧ All (Fs.filter (aff [n] i none)) (bup b i) f w' c) : Step P ops Q CB Fs V b f w c a i o := by
  obtain ⟨w', h1, h2, h3⟩ := h
  have hu : upF none undef f = f := by funext d; simp [upF]
  refine .run [n] none hw hd hCB (wp_skp (ex_store ho hx hy h1) ⟨undef, c, by rw [hd], h2, fun d e => (by cases e), ?_⟩)
  rw [hu]
  exact h3
end
theorem RF.new_none {p n s : Nat} {t : TypeId} {z : Array Value} {τ : TyC} {b : BB} {w : World} {c : Colr} : (RF.new p n t s z τ).P b (fun _ => none) w c := fun g hg => by cases hg
theorem RF.own_none {p : Nat} {τ : TyO} {b : BB} {w : World} {c : Colr} : (RF.own p τ).P b (fun _ => none) w c := fun g hg => by cases hg
end Go.Col
namespace Go.Col
open Go.RowKit Go.Mem
theorem All.at {b : BB} {f : FF} {w : World} {c : Colr} : ∀ {Fs : List RF}, All Fs b f w c → ∀ (k : Nat) {F : RF}, Fs[k]? = some F → F.P b f w c
  | F :: Fs, h, 0, F', hk => by
    simp at hk; subst hk; exact h.1
  | F :: Fs, h, k + 1, F', hk => All.at (Fs := Fs) h.2 k (by simpa using hk)
  | [], _, k, F', hk => by simp at hk
/-- The types of slots, from a list. -/
def tyvC (L : List (Nat × TyC)) (d : Nat) : TyC := (L.lookup d).getD TyC.any
section
variable {P : Program} {ops : Array Oper} {Q : Exit → Act → World → Prop} {CB : List Nat} {Fs : List RF} {V : Nat → TyC} {b : BB} {f : FF} {w : World} {c : Colr} {a : Act} {i : Nat} {o : Oper} {v : Value}
theorem Step.allocz (p n : Nat) (s : Nat) (z : Array Value) (τ : TyC) {ty : TypeId} {u : Value} {cs : Array Value} (hw : Region.wanted o (yielded ops a.tmps) = true) (hd : o.dst = some p) (hS : [n].all (CB.contains ·) = true) (hF : Fs.filter (aff [n] i (some p)) = [RF.new p n ty s z τ]) (hg : GI w c) (ho : o.op = .alloc ty) (hz : (zeroValue ty).run P w = .ok u w) (hcs : u.cells = cs) (hu : τ.sat u w c) (hi : s = i) (hn : ([n].contains 0 || [n].contains 1) = false) (hb : cs.toList.all (fun v => !NB v) = true) (hV : V p = TyC.ptr) :
    Step P ops Q CB Fs V b f w c a i o := by
  refine .run [n] (some p) hw hd hS (wp_val (ex_alloc ho hz) ⟨_, setC c w.heap.size n, rfl, ?_, fun d e => ?_, ?_⟩)
  · rw [hcs]; exact Ext.alloc hg hn hb
  · injection e with e; subst e; rw [hV]; exact ⟨_, rfl⟩
  · rw [hF, hcs]; exact ⟨new_box hcs hu hg hi hn hb, trivial⟩
/-- A contract of a function that is handed plain values: what it returns, and only new memory. -/
def CT0 (P : Program) (f : Nat) (vs : Array Value) (w : World) (τ : TyC) : Prop := Calls P f vs w fun e w' => ∃ v, e = .returned v ∧ τ.sat v w' (fun _ => 0) ∧ New w w'
/-- What a value is does not ask for colours. -/
def TyC.plain (τ : TyC) : Prop := ∀ v w c c', τ.sat v w c → τ.sat v w c'
theorem CT0.cv {fn : Nat} {vs : Array Value} {τ : TyC} (h : CT0 P fn vs w τ) (hp : τ.plain) : CV P fn vs w c τ := CV.of_new (R := fun v w' => τ.sat v w' (fun _ => 0)) h (fun v w' c' hv => hp v w' _ c' hv)
theorem CT0.of_CT {fn : Nat} {vs : Array Value} {τ : Ty} {σ : TyC} (h : CT P fn vs w τ) (hs : ∀ v w', τ.sat v w' → σ.sat v w' (fun _ => 0)) : CT0 P fn vs w σ := h.mono fun e w' ⟨v, h1, h2, h3⟩ => ⟨v, h1, hs v w' h2, h3⟩
theorem plain_tup1 {τ : TyC} {u : Value} (h : τ.plain) : (τ.tup1 u).plain := fun v w c c' ⟨x, h1, h2⟩ => ⟨x, h1, h x w c c' h2⟩
theorem plain_eq (u : Value) : (TyC.eq u).plain := fun v w c c' h => h
variable {fn : Func} {p q r : Tmp}
theorem res_t (h : fn.results = #[.tmp p]) (tmps : Array Value) {v : Value} (hp : tmps.getD p undef = v) : (results fn tmps).run P w = .ok v w := by
  have hp' : tmps[p]?.getD undef = v := by simpa using hp
  simp [results, h, hp']
theorem res_cc {g g2 : Nat} {ty ty2 : TypeId} (h : fn.results = #[.cell p ty, .cell q ty2]) (tmps : Array Value) {v v2 : Value} (hp : tmps.getD p undef = .pointer (some ⟨g, 0, none⟩)) (hl : (loadVar ty ⟨g, 0, none⟩).run P w = .ok v w)
    (hq : tmps.getD q undef = .pointer (some ⟨g2, 0, none⟩)) (hl2 : (loadVar ty2 ⟨g2, 0, none⟩).run P w = .ok v2 w) : (results fn tmps).run P w = .ok (.tuple #[v, v2]) w := by
  have hp' : tmps[p]?.getD undef = .pointer (some ⟨g, 0, none⟩) := by simpa using hp
  have hq' : tmps[q]?.getD undef = .pointer (some ⟨g2, 0, none⟩) := by simpa using hq
  simp [results, h, hp', hq', asAddr, hl, hl2]
end
/-- The first part ends in an assertion. -/
theorem wp_join {P : Program} {x y : Code} {Q : Exit → Act → World → Prop} {a : Act} {w : World} (M : Act → World → Prop) (h1 : x.wp P (Exit.then M Q) a w) (h2 : ∀ a w, M a w → y.wp P Q a w) : (Code.seq x y).wp P Q a w := by
  refine wp_seq (wp_mono h1 (fun e a' w' h => ?_))
  cases e with
  | normal => exact h2 a' w' h
  | _ => exact h
theorem run_rem_i {P : Program} {w : World} (x y : Int) (t : TypeId) (h : y ≠ 0) : (binOp .rem t (.int .i64 x) (.int .i64 y)).run P w = .ok (.int .i64 (x.tmod y)) w := by
  simp [binOp, Op.intDiv, h, go_sem]
theorem run_quo_i {P : Program} {w : World} (x y : Int) (t : TypeId) (h : y ≠ 0 ∧ y ≠ -1) (hx : -9223372036854775808 ≤ x ∧ x ≤ 9223372036854775807) : (binOp .quo t (.int .i64 x) (.int .i64 y)).run P w = .ok (.int .i64 (x.tdiv y)) w := by
  have hr : IntKind.i64.wrap (x.tdiv y) = x.tdiv y := by
    refine IntWalk.i64_in _ ?_
    have h1 := Int.natAbs_tdiv_le_natAbs x y
    by_cases hm : x = -9223372036854775808
    · subst hm
      by_cases hy1 : y = 1
      · subst hy1; decide
      · have h2 : ((-9223372036854775808 : Int).tdiv y).natAbs ≤ 4611686018427387904 := by
          rw [Int.natAbs_tdiv]
          have h3 : 2 ≤ y.natAbs := by omega
          exact Nat.div_le_of_le_mul (by omega)
        omega
    · omega
  simp [binOp, Op.intDiv, h.1, hr, go_sem]
end Go.Col

namespace Go.Col
set_option linter.unusedVariables false
open Go.RowKit Go.Mem

/-- A pointer to cells that are, in a row, a struct of a type; they lie in a plain block. -/
def refC (sz : Nat) (τ : TyC) : TyC := ⟨fun v w c => ∃ (ad : Addr) (cs : Array Value), v = .pointer (some ad) ∧ (0 < sz → c ad.block = 0) ∧ cs.size = sz ∧ τ.sat (.agg cs) w c ∧ ∀ j u, cs[j]? = some u → w.cell? (ad.add j) = some u,
  fun ⟨ad, cs, h1, h2, h3, h4, h5⟩ g e => ⟨ad, cs, h1, fun hs => by
      have hj := h5 0 cs[0] (Array.getElem?_eq_getElem (by omega))
      have hlt := World.block_lt_of_cell? _ _ hj
      rw [block_add] at hlt
      rw [e.col _ hlt]; exact h2 hs, h3, τ.stab h4 g e, fun j u hu => by
    have hsz : 0 < sz := by
      have := (Array.getElem?_eq_some_iff.1 hu).1
      omega
    have hc := h5 j u hu
    refine e.chg.cell hc ?_
    rw [block_add, h2 hsz, e.z]
    simp⟩⟩
/-- A slice of structs. -/
def seqC (sz : Nat) (L : List TyC) : TyC := ⟨fun v w c => ∃ A cp, v = .slice A L.length cp ∧ L.length ≤ cp ∧ ∀ k τ, L[k]? = some τ → ∃ ad, A = some ad ∧ (refC sz τ).sat (.pointer (some (ad.add (k * sz)))) w c,
  fun ⟨A, cp, h1, h2, h3⟩ g e => ⟨A, cp, h1, h2, fun k τ hk => by
    obtain ⟨ad, q1, q2⟩ := h3 k τ hk
    exact ⟨ad, q1, (refC sz τ).stab q2 g e⟩⟩⟩
/-- Cells that are structs in a row. -/
def catK (sz : Nat) (L : List TyC) : CTyC := ⟨fun cs w c => ∀ k τ, L[k]? = some τ → ∃ u : Array Value, u.size = sz ∧ τ.sat (.agg u) w c ∧ ∀ j x, u[j]? = some x → cs[k * sz + j]? = some x,
  fun h g e k τ hk => by
    obtain ⟨u, h1, h2, h3⟩ := h k τ hk
    exact ⟨u, h1, τ.stab h2 g e, h3⟩⟩
section
variable {P : Program} {w : World} {c : Colr} {v : Value} {sz : Nat} {L : List TyC} {τ : TyC} {g : Nat} {t e : TypeId}
theorem seq_of_row (h : (Fact.row g t (catK sz L)).P w c) {n : Nat} (hn : n = L.length) : (seqC sz L).sat (.slice (some ⟨g, 0, none⟩) n n) w c := by
  obtain ⟨h1, cs, h2, h3⟩ := h
  subst hn
  refine ⟨_, _, rfl, Nat.le_refl _, fun k τ hk => ⟨_, rfl, ?_⟩⟩
  obtain ⟨u, q1, q2, q3⟩ := h2 k τ hk
  refine ⟨_, u, rfl, fun _ => ?_, q1, q2, fun j x hx => ?_⟩
  · rw [block_add]; exact h1
  · rw [add_add', Addr.add_lit, Nat.zero_add]
    exact h3.cell _ (q3 j x hx)
theorem seq_index {k : Nat} {kd : IntKind} (ht : P.underlying t = some (.slice e)) (hz : (P.info? e).map (·.size) = some sz) (h : (seqC sz L).sat v w c) (hk : L[k]? = some τ) : ∃ ad, (Instr.indexAt t v (.int kd (k : Nat))).run P w = .ok ad w ∧ (refC sz τ).sat ad w c := by
  obtain ⟨A, cp, rfl, h2, h3⟩ := h
  obtain ⟨ad, rfl, q⟩ := h3 k τ hk
  refine ⟨_, ?_, q⟩
  have hi : k < L.length := (List.getElem?_eq_some_iff.1 hk).1
  have : (k : Int) < (L.length : Int) := by omega
  cases hq : P.info? e with
  | none => rw [hq] at hz; cases hz
  | some d =>
    rw [hq] at hz
    injection hz with hz
    simp [Instr.indexAt, asIntOf, run_underlying ht, this, hi, sizeOf, typeInfo, hq, hz, Result.andThen, go_sem]
theorem ref_load {ty : TypeId} (hA : Agg P ty sz) (h : (refC sz τ).sat v w c) : ∃ ad u, v = .pointer (some ad) ∧ (loadVar ty ad).run P w = .ok u w ∧ τ.sat u w c := by
  obtain ⟨ad, cs, rfl, h2, h3, h4, h5⟩ := h
  refine ⟨ad, _, rfl, load_cells (n := sz) hA cs.toList (by simpa using h3) (fun j u hu => h5 j u (by simpa using hu)), h4⟩
end
theorem rd_index {P : Program} {w : World} {A : Option Addr} {n cp k : Nat} {xs : List Value} {t e : TypeId} {kd : IntKind} (ht : P.underlying t = some (.slice e)) (hz : (P.info? e).map (·.size) = some 1) (h : Rd w A n xs) (hk : k < n) : ∃ ad, A = some ad ∧ (Instr.indexAt t (.slice A n cp) (.int kd (k : Nat))).run P w = .ok (.pointer (some (ad.add k))) w := by
  obtain ⟨ad, u, rfl, hu, hc⟩ := h.at_ hk
  refine ⟨ad, rfl, ?_⟩
  have : (k : Int) < (n : Int) := by omega
  cases hq : P.info? e with
  | none => rw [hq] at hz; cases hz
  | some d =>
    rw [hq] at hz
    injection hz with hz
    simp [Instr.indexAt, asIntOf, run_underlying ht, this, hk, sizeOf, typeInfo, hq, hz, Result.andThen, go_sem]
/-- A literal: a row of its own of just that many structs. -/
def litC (sz : Nat) (t : TypeId) (L : List TyC) : TyC := ⟨fun v w c => ∃ g cs, v = .slice (some ⟨g, 0, none⟩) L.length L.length ∧ c g = 0 ∧ Blk w g t cs ∧ cs.size = L.length * sz ∧ (catK sz L).sat cs w c,
  fun ⟨g, cs, h1, h2, h3, h4, h5⟩ gi e => by
    obtain ⟨q1, q2⟩ := blk_ext h3 h2 e e.z
    exact ⟨g, cs, h1, q2, q1, h4, (catK sz L).stab h5 gi e⟩⟩
section
variable {P : Program} {ops : Array Oper} {Q : Exit → Act → World → Prop} {CB : List Nat} {Fs : List RF} {V : Nat → TyC} {b : BB} {f : FF} {w : World} {c : Colr} {a : Act} {i : Nat} {o : Oper} {v v' : Value} {sz : Nat} {L : List TyC} {t e : TypeId} {τ : TyC}
theorem lit_seq (h : (litC sz t L).sat v w c) : (seqC sz L).sat v w c := by
  obtain ⟨g, cs, rfl, h2, h3, h4, h5⟩ := h
  exact seq_of_row (t := t) ⟨h2, cs, h5, h3⟩ rfl
theorem map_getD {α : Type} {d : α} {f : α → TyC} {xs : List α} {k : Nat} (h : k < xs.length) : (xs.map f)[k]? = some (f (xs.getD k d)) := by
  simp [List.getElem?_map, List.getElem?_eq_getElem h, List.getD]
/-- A literal is laid. -/
theorem Step.litv (p : Nat) {n : Nat} {ty : TypeId} {ps : Array (Nat × Operand)} {vs : Array (Nat × Value)} {cs : Array Value} (hw : Region.wanted o (yielded ops a.tmps) = true) (hd : o.dst = some p) (hF : Fs.filter (aff [] i (some p)) = []) (hg : GI w c) (ho : o.op = .buildSlice ty n ps) (hp : ps.map (fun x => (x.1, a.eval x.2)) = vs)
    (hr : (Instr.buildSlice ty n vs).run P w = .ok (.slice (some ⟨w.heap.size, 0, none⟩) n n) (w.alloc (.cells cs t))) (hn : L.length = n) (hcs : cs.size = L.length * sz) (hk : (catK sz L).sat cs w c) (hV : V p = litC sz t L) : Step P ops Q CB Fs V b f w c a i o := by
  subst hn
  refine .run [] (some p) hw hd rfl (wp_val (ex_lit ho hp hr) ⟨_, _, rfl, Ext.allocP hg, fun d e => ?_, by rw [hF]; trivial⟩)
  injection e with e; subst e; rw [hV]
  exact ⟨_, cs, rfl, by simp [ext0], Blk.new _ _ _, hcs, (catK sz L).stab hk hg (Ext.allocP hg)⟩
end
end Go.Col

namespace Go.Mem
set_option linter.unusedVariables false
open Go.RowKit
section
variable {P : Program} {o : Oper} {a : Act} {w w' : World} {v : Value}
end
end Go.Mem
namespace Go.Col
set_option linter.unusedVariables false
open Go.RowKit Go.Mem

/-- What a frame holds. -/
def Ev (n : Nat) (a : Act) (m : Nat → Option Value) : Prop := a.tmps.size = n ∧ a.defers = [] ∧ ∀ t v, m t = some v → t < n ∧ a.eval (.tmp t) = v
theorem Ev.at {n : Nat} {a : Act} {m : Nat → Option Value} (h : Ev n a m) (t : Nat) {v : Value} (ht : m t = some v) : a.eval (.tmp t) = v := (h.2.2 t v ht).2
def dep (dt : List (List Nat)) (i j : Nat) : Bool := (dt.getD i []).contains j
def chkT (l : List Oper) (dt : List (List Nat)) : Bool := (List.range l.length).all fun i => match nthL l i with
  | none => true
  | some o => (dt.getD i []).all fun j => o.after.any fun e => Region.binds .any e && e.on == j
def dstOf (l : List Oper) (j : Nat) : Option Nat := match nthL l j with | some o => o.dst | none => none
def chkE (l : List Oper) (D : List Nat) : Bool := D.all fun d => l.any fun o => o.dst == some d
/-- What a step knows. -/
structure Kx (dt : List (List Nat)) (w0 : World) (c0 : Colr) (CB : List Nat) (Fs : List RF) (i : Nat) (b : BB) (f : FF) (w : World) (c : Colr) : Prop where
  gi : GI w c
  ext : Ext CB w0 c0 w c
  fac : All Fs b f w c
  self : b i = false
  has : ∀ j k, b j = true → dep dt j k = true → b k = true
  done : ∀ j, dep dt i j = true → b j = true
section
variable {P : Program} {l : List Oper} {dt : List (List Nat)} {Q : Exit → Act → World → Prop} {n : Nat} {a : Act} {m : Nat → Option Value} {D CB : List Nat} {Fs : List RF} {V : Nat → TyC} {w0 : World} {c0 : Colr}
theorem Kx.nyet {i : Nat} {b : BB} {f : FF} {w : World} {c : Colr} (K : Kx dt w0 c0 CB Fs i b f w c) (j : Nat) (h : dep dt j i = true) : b j = false := by
  cases hb : b j with
  | false => rfl
  | true =>
    have := K.has j i hb h
    rw [K.self] at this
    cases this
def OpStep (P : Program) (l : List Oper) (dt : List (List Nat)) (Q : Exit → Act → World → Prop) (n : Nat) (a : Act) (m : Nat → Option Value) (D CB : List Nat) (Fs : List RF) (V : Nat → TyC) (w0 : World) (c0 : Colr) (i : Nat) : Prop :=
  ∀ (b : BB) (f : FF) (w : World) (c : Colr) (x : Act) (o : Oper), J l.toArray w0 c0 CB Fs V b f w c → (∀ d, D.contains d = false → f d = none) → Fr a x f → Ev n a m → nthL l i = some o → Kx dt w0 c0 CB Fs i b f w c → Step P l.toArray Q CB Fs V b f w c x i o
def AllS (S : Nat → Prop) : Nat → Nat → Prop
  | _, 0 => True
  | k, r + 1 => S k ∧ AllS S (k + 1) r
theorem AllS.at {S : Nat → Prop} : ∀ {r k : Nat}, AllS S k r → ∀ i, k ≤ i → i < k + r → S i
  | 0, k, _, i, h1, h2 => by omega
  | r + 1, k, h, i, h1, h2 => by
    by_cases hi : i = k
    · subst hi; exact h.1
    · exact AllS.at h.2 i (by omega) (by omega)
theorem chkT_at (h : chkT l dt = true) {i j : Nat} {o : Oper} (ho : nthL l i = some o) (hd : dep dt i j = true) : ∃ e ∈ o.after, Region.binds .any e = true ∧ e.on = j := by
  have hi : i < l.length := by rw [nthL_eq] at ho; exact (List.getElem?_eq_some_iff.1 ho).1
  have h1 := List.all_eq_true.1 h i (by simpa using hi)
  rw [ho] at h1
  have h2 := List.all_eq_true.1 h1 j (by simpa [dep] using hd)
  obtain ⟨k, hk, h3⟩ := Array.any_eq_true.1 h2
  rw [Bool.and_eq_true] at h3
  exact ⟨o.after[k], Array.getElem_mem hk, h3.1, by simpa using h3.2⟩
/-- A region, by terms. -/
theorem region_st {id : Nat} {dr : Bool} (dt : List (List Nat)) (D CB : List Nat) (V : Nat → TyC) (hE : Ev n a m) (hg : GI w0 c0)
    (hF : All Fs (fun _ => false) (fun _ => none) w0 c0) (hS : ∀ Q, AllS (OpStep P l dt Q n a m D CB Fs V w0 c0) 0 l.length)
    (hdone : ∀ (b : BB) (f : FF) (w : World) (c : Colr) (x : Act), GI w c → Ext CB w0 c0 w c → All Fs b f w c → (∀ i, i < l.length → b i = true) → (∀ d, D.contains d = true → ∃ v, f d = some v ∧ (V d).sat v w c) → (∀ d, D.contains d = false → f d = none) → Fr a x f → Q .normal x w) (hm : dr = true → P.follows .mixedOrders = true := by intro _; kernel_rfl) (hchk : chk l.toArray D = true := by kernel_rfl) (hT : chkT l dt = true := by kernel_rfl) (hD : chkE l D = true := by kernel_rfl) (hL : decide (dt.length ≤ l.length) = true := by rfl) (hCB : (CB.contains 0 || CB.contains 1) = false := by rfl) :
    (Code.region id l.toArray dr).wp P Q a w0 := by
  refine region_tz hm D hchk CB Fs V hCB hg hF ?_ ?_
  · intro b f w c x i o hi hJ hout hF' ho hbi ha
    have ho' : nthL l i = some o := by rw [nthL_eq]; simpa using ho
    have hi' : i < l.length := by simpa using hi
    refine AllS.at (hS Q) i (by omega) (by omega) b f w c x o hJ (fun d hd => hout d (by simpa using hd)) hF' hE ho' ⟨hJ.gi, hJ.ext, hJ.fac, hbi, fun j k hj hd => ?_, fun j hd => ?_⟩
    · cases hoj : nthL l j with
      | none =>
        exfalso
        have hlen : j < l.length := by
          refine Decidable.byContradiction fun hn => ?_
          have h0 : dt.length ≤ l.length := by simpa using hL
          unfold dep at hd
          rw [List.getD_eq_getElem?_getD, List.getElem?_eq_none (by omega)] at hd
          simp at hd
        rw [nthL_eq, List.getElem?_eq_getElem hlen] at hoj
        cases hoj
      | some oj =>
        obtain ⟨e, he, hb, rfl⟩ := chkT_at hT hoj hd
        rw [nthL_eq] at hoj
        exact hJ.cl j oj (by simpa using hoj) hj e he hb
    · obtain ⟨e, he, hb, rfl⟩ := chkT_at hT ho' hd
      exact ha e he hb
  · intro b f w c x hJ hb hout hF'
    refine hdone b f w c x hJ.gi hJ.ext hJ.fac (fun i hi => hb i (by simpa using hi)) (fun d hd => ?_) (fun d hd => hout d (by simpa using hd)) hF'
    have h1 := List.all_eq_true.1 hD d (by simpa using hd)
    obtain ⟨o, ho, h2⟩ := List.any_eq_true.1 h1
    obtain ⟨i, hi, rfl⟩ := List.getElem_of_mem ho
    have h3 : l[i].dst = some d := by simpa using h2
    have h4 := (hJ.set i l[i] d (by simp [hi]) h3).1 (hb i (by simpa using hi))
    cases hf : f d with
    | none => exact absurd hf h4
    | some v => exact ⟨v, rfl, hJ.typ d v hf⟩

/-! ### operands -/
inductive Ar where
  | s (t j : Nat)
  | o (t : Nat) (v : Value)
  | p (t : Nat) (v : Value) (j : Nat)
  | k (v : Value)
def Ar.opd : Ar → Operand
  | .s t _ => .tmp t
  | .o t _ => .tmp t
  | .p t _ _ => .tmp t
  | .k v => .const v
def Ar.W : Ar → Value → Value
  | .s _ _, v => v
  | .o _ u, _ => u
  | .p _ u _, _ => u
  | .k u, _ => u
def Ar.T (V : Nat → TyC) (w : World) (c : Colr) : Ar → Value → Prop
  | .s t _, v => (V t).sat v w c
  | .o _ _, _ => True
  | .p _ _ _, _ => True
  | .k _, _ => True
def Ar.ok (n : Nat) (l : List Oper) (dt : List (List Nat)) (m : Nat → Option Value) (D : List Nat) (i : Nat) : Ar → Prop
  | .s t j => dep dt i j = true ∧ decide (t < n) = true ∧ dstOf l j = some t
  | .o t v => m t = some v ∧ D.contains t = false
  | .p t v j => m t = some v ∧ dep dt j i = true ∧ dstOf l j = some t
  | .k _ => True
/-- An operand with the check that it is at hand. -/
structure XA (n : Nat) (l : List Oper) (dt : List (List Nat)) (m : Nat → Option Value) (D : List Nat) (i : Nat) where
  r : Ar
  ok : r.ok n l dt m D i
abbrev rS {n : Nat} {l : List Oper} {dt : List (List Nat)} {m : Nat → Option Value} {D : List Nat} {i : Nat} (t j : Nat) (h : dep dt i j = true ∧ decide (t < n) = true ∧ dstOf l j = some t := by exact ⟨rfl, rfl, rfl⟩) : XA n l dt m D i := ⟨.s t j, h⟩
abbrev rO {n : Nat} {l : List Oper} {dt : List (List Nat)} {m : Nat → Option Value} {D : List Nat} {i : Nat} (t : Nat) {v : Value} (h : m t = some v ∧ D.contains t = false := by exact ⟨rfl, rfl⟩) : XA n l dt m D i := ⟨.o t v, h⟩
abbrev rP {n : Nat} {l : List Oper} {dt : List (List Nat)} {m : Nat → Option Value} {D : List Nat} {i : Nat} (t j : Nat) {v : Value} (h : m t = some v ∧ dep dt j i = true ∧ dstOf l j = some t := by exact ⟨rfl, rfl, rfl⟩) : XA n l dt m D i := ⟨.p t v j, h⟩
abbrev rK {n : Nat} {l : List Oper} {dt : List (List Nat)} {m : Nat → Option Value} {D : List Nat} {i : Nat} (v : Value) : XA n l dt m D i := ⟨.k v, trivial⟩
variable {i : Nat}
theorem XA.ev (r : XA n l dt m D i) {b : BB} {f : FF} {w : World} {c : Colr} {x : Act} (hJ : J l.toArray w0 c0 CB Fs V b f w c) (hout : ∀ d, D.contains d = false → f d = none) (hF : Fr a x f) (hE : Ev n a m) (K : Kx dt w0 c0 CB Fs i b f w c) : ∃ v, x.eval r.r.opd = r.r.W v ∧ r.r.T V w c v := by
  obtain ⟨r, hr⟩ := r
  cases r with
  | s t j =>
    obtain ⟨h1, h2⟩ := hr
    have h2' := h2.2
    unfold dstOf at h2'
    split at h2'
    · rename_i oj hoj
      rw [nthL_eq] at hoj
      have h3 := (hJ.set j oj t (by simpa using hoj) h2').1 (K.done j h1)
      cases hf : f t with
      | none => exact absurd hf h3
      | some v =>
        have h4 := hJ.typ t v hf
        exact ⟨v, hF.in (by rw [hE.1]; exact of_decide_eq_true h2.1) hf, h4⟩
    · cases h2'
  | o t v =>
    obtain ⟨h1, h2⟩ := hr
    obtain ⟨h3, h4⟩ := hE.2.2 t v h1
    exact ⟨v, hF.out (by rw [hE.1]; exact h3) (hout t h2) h4, trivial⟩
  | p t v j =>
    obtain ⟨h1, h2, h5⟩ := hr
    obtain ⟨h3, h4⟩ := hE.2.2 t v h1
    refine ⟨v, hF.out (by rw [hE.1]; exact h3) ?_ h4, trivial⟩
    unfold dstOf at h5
    split at h5
    · rename_i oj hoj
      rw [nthL_eq] at hoj
      cases hf : f t with
      | none => rfl
      | some u =>
        have := (hJ.set j oj t (by simpa using hoj) h5).2 (by rw [hf]; simp)
        rw [K.nyet j h2] at this
        cases this
    · cases h5
  | k v => exact ⟨v, rfl, trivial⟩

/-- The guard, if there is one, lets the operation run. -/
def Gd (l : List Oper) (n : Nat) (dt : List (List Nat)) (V : Nat → TyC) (i : Nat) (g : Option (Nat × Bool)) : Prop := match g with
  | none => True
  | some (j, q) => dep dt i j = true ∧ ∃ d, (decide (d < n) = true ∧ dstOf l j = some d) ∧ V d = TyC.eq (.bool q)
def Gn (l : List Oper) (n : Nat) (dt : List (List Nat)) (V : Nat → TyC) (i : Nat) (g : Option (Nat × Bool)) : Prop := match g with
  | none => False
  | some (j, q) => dep dt i j = true ∧ ∃ d, (decide (d < n) = true ∧ dstOf l j = some d) ∧ (V d = TyC.eq (.bool !q) ∨ V d = TyC.eq undef)
section
variable {b : BB} {f : FF} {w : World} {c : Colr} {x : Act} {o : Oper}
theorem guard_slot {j d : Nat} (hJ : J l.toArray w0 c0 CB Fs V b f w c) (hF : Fr a x f) (hE : Ev n a m) (hj : b j = true) (hd : decide (d < n) = true ∧ dstOf l j = some d) : ∃ oj v, l.toArray[j]? = some oj ∧ oj.dst = some d ∧ x.tmps[d]? = some v ∧ (V d).sat v w c := by
  have h2 := hd.2
  unfold dstOf at h2
  split at h2
  · rename_i oj hoj
    rw [nthL_eq] at hoj
    have h3 := (hJ.set j oj d (by simpa using hoj) h2).1 hj
    cases hf : f d with
    | none => exact absurd hf h3
    | some v =>
      have hlt : d < a.tmps.size := by rw [hE.1]; exact of_decide_eq_true hd.1
      have he : x.eval (.tmp d) = v := hF.in hlt hf
      refine ⟨oj, v, by simpa using hoj, h2, ?_, hJ.typ d v hf⟩
      have hlx : d < x.tmps.size := by rw [hF.size]; exact hlt
      have : x.tmps.getD d undef = v := he
      simp only [Array.getD, hlx, dif_pos] at this
      rw [Array.getElem?_eq_getElem hlx]
      exact congrArg some this
  · cases h2
theorem Gd.wanted (hg : Gd l n dt V i o.guard) (hJ : J l.toArray w0 c0 CB Fs V b f w c) (hF : Fr a x f) (hE : Ev n a m) (K : Kx dt w0 c0 CB Fs i b f w c) : Region.wanted o (yielded l.toArray x.tmps) = true := by
  unfold Gd at hg
  split at hg
  · rename_i h; simp [Region.wanted, h]
  · rename_i j q h
    obtain ⟨h1, d, h2, h3⟩ := hg
    obtain ⟨oj, v, q1, q2, q3, q4⟩ := guard_slot hJ hF hE (K.done j h1) h2
    rw [h3] at q4
    obtain rfl : v = .bool q := q4
    simp only [List.getElem?_toArray] at q1
    simp [Region.wanted, h, yielded, q1, q2, q3]
theorem Gn.not (hg : Gn l n dt V i o.guard) (hJ : J l.toArray w0 c0 CB Fs V b f w c) (hF : Fr a x f) (hE : Ev n a m) (K : Kx dt w0 c0 CB Fs i b f w c) : Region.wanted o (yielded l.toArray x.tmps) = false := by
  unfold Gn at hg
  split at hg
  · exact hg.elim
  · rename_i j q h
    obtain ⟨h1, d, h2, h3⟩ := hg
    obtain ⟨oj, v, q1, q2, q3, q4⟩ := guard_slot hJ hF hE (K.done j h1) h2
    simp only [List.getElem?_toArray] at q1
    rcases h3 with h3 | h3
    · rw [h3] at q4
      obtain rfl : v = .bool !q := q4
      simp [Region.wanted, h, yielded, q1, q2, q3]
    · rw [h3] at q4
      obtain rfl : v = undef := q4
      simp [Region.wanted, h, yielded, q1, q2, q3, undef]
end
theorem sMv (d : Nat) {o : Oper} (r : XA n l dt m D i) (hi : nthL l i = some o := by rfl) (hop : o.op = .move r.r.opd ∨ o.op = .assign r.r.opd := by first | exact .inl rfl | exact .inr rfl) (hd : o.dst = some d := by rfl) (hA : Fs.filter (aff [] i (some d)) = [] := by rfl) (hT : ∀ w c v, r.r.T V w c v → (V d).sat (r.r.W v) w c := by first | exact fun _ _ _ h => h | exact fun _ _ _ _ => rfl) (hg : Gd l n dt V i o.guard := by first | exact trivial | exact ⟨rfl, _, ⟨rfl, rfl⟩, rfl⟩) : OpStep P l dt Q n a m D CB Fs V w0 c0 i := by
  intro b f w c x o' hJ hout hF hE ho K
  obtain rfl : o = o' := Option.some.inj (hi.symm.trans ho)
  obtain ⟨v, ev, sv⟩ := r.ev hJ hout hF hE K
  exact .pure d (hg.wanted hJ hF hE K) hd (by rw [hA]; trivial) hJ.gi (ex_move hop ev) (hT w c v sv)
theorem sNo (d : Nat) {o : Oper} (hV : V d = TyC.eq undef := by rfl) (hi : nthL l i = some o := by rfl) (hd : o.dst = some d := by rfl) (hA : Fs.filter (aff [] i (some d)) = [] := by rfl) (hg : Gn l n dt V i o.guard := by first | exact ⟨rfl, _, ⟨rfl, rfl⟩, .inl rfl⟩ | exact ⟨rfl, _, ⟨rfl, rfl⟩, .inr rfl⟩) : OpStep P l dt Q n a m D CB Fs V w0 c0 i := by
  intro b f w c x o' hJ hout hF hE ho K
  obtain rfl : o = o' := Option.some.inj (hi.symm.trans ho)
  exact .non d (hg.not hJ hF hE K) hd (by rw [hA]; trivial) (by rw [hV]; rfl)
theorem sLd (d : Nat) {o : Oper} (r0 : XA n l dt m D i) {ty : TypeId} (L : ∀ {b : BB} {f : FF} {w : World} {c : Colr} {v : Value}, Kx dt w0 c0 CB Fs i b f w c → r0.r.T V w c v → ∃ ad u, r0.r.W v = .pointer (some ad) ∧ (loadVar ty ad).run P w = .ok u w ∧ (V d).sat u w c) (hi : nthL l i = some o := by rfl) (hop : o.op = .load ty r0.r.opd := by rfl) (hd : o.dst = some d := by rfl) (hA : Fs.filter (aff [] i (some d)) = [] := by rfl) (hg : Gd l n dt V i o.guard := by first | exact trivial | exact ⟨rfl, _, ⟨rfl, rfl⟩, rfl⟩) : OpStep P l dt Q n a m D CB Fs V w0 c0 i := by
  intro b f w c x o' hJ hout hF hE ho K
  obtain rfl : o = o' := Option.some.inj (hi.symm.trans ho)
  obtain ⟨v0, ev0, sv0⟩ := r0.ev hJ hout hF hE K
  obtain ⟨ad, u, h1, h2, h3⟩ := L K sv0
  exact .pure d (hg.wanted hJ hF hE K) hd (by rw [hA]; trivial) hJ.gi (ex_load hop (ev0.trans h1) h2) h3
theorem sFa (d : Nat) {o : Oper} (r0 : XA n l dt m D i) {ty : TypeId} {k : Nat} {u : Value} (L : ∀ {w : World} {v : Value}, (Instr.fieldAt ty (r0.r.W v) k).run P w = .ok u w) (hV : V d = TyC.eq u := by rfl) (hT : ∀ w c v, r0.r.T V w c v → True := by intros; trivial) (hi : nthL l i = some o := by rfl) (hop : o.op = .fieldAddr ty r0.r.opd k := by rfl) (hd : o.dst = some d := by rfl) (hA : Fs.filter (aff [] i (some d)) = [] := by rfl) (hg : Gd l n dt V i o.guard := by first | exact trivial | exact ⟨rfl, _, ⟨rfl, rfl⟩, rfl⟩) : OpStep P l dt Q n a m D CB Fs V w0 c0 i := by
  intro b f w c x o' hJ hout hF hE ho K
  obtain rfl : o = o' := Option.some.inj (hi.symm.trans ho)
  obtain ⟨v0, ev0, sv0⟩ := r0.ev hJ hout hF hE K
  exact .pure d (hg.wanted hJ hF hE K) hd (by rw [hA]; trivial) hJ.gi (ex_field hop ev0 L) (by rw [hV]; rfl)
theorem sEx (d : Nat) {o : Oper} (r0 : XA n l dt m D i) {k : Nat} (L : ∀ {w : World} {c : Colr} {v : Value}, r0.r.T V w c v → ∃ vs u, r0.r.W v = .tuple vs ∧ vs[k]? = some u ∧ (V d).sat u w c) (hi : nthL l i = some o := by rfl) (hop : o.op = .extract r0.r.opd k := by rfl) (hd : o.dst = some d := by rfl) (hA : Fs.filter (aff [] i (some d)) = [] := by rfl) (hg : Gd l n dt V i o.guard := by first | exact trivial | exact ⟨rfl, _, ⟨rfl, rfl⟩, rfl⟩) : OpStep P l dt Q n a m D CB Fs V w0 c0 i := by
  intro b f w c x o' hJ hout hF hE ho K
  obtain rfl : o = o' := Option.some.inj (hi.symm.trans ho)
  obtain ⟨v0, ev0, sv0⟩ := r0.ev hJ hout hF hE K
  obtain ⟨vs, u, h1, h2, h3⟩ := L sv0
  exact .pure d (hg.wanted hJ hF hE K) hd (by rw [hA]; trivial) hJ.gi (ex_extract hop (ev0.trans h1) h2) h3
theorem sUv (d : Nat) {o : Oper} (r0 : XA n l dt m D i) {op : UnOp} {ty : TypeId} {u z : Value} (hz : ∀ {w : World} {c : Colr} {v : Value}, r0.r.T V w c v → r0.r.W v = z) (L : ∀ {w : World}, (Op.unary op z).run P w = .ok u w) (hV : V d = TyC.eq u := by rfl) (hi : nthL l i = some o := by rfl) (hop : o.op = .unOp op ty r0.r.opd := by rfl) (hd : o.dst = some d := by rfl) (hA : Fs.filter (aff [] i (some d)) = [] := by rfl) (hg : Gd l n dt V i o.guard := by first | exact trivial | exact ⟨rfl, _, ⟨rfl, rfl⟩, rfl⟩) : OpStep P l dt Q n a m D CB Fs V w0 c0 i := by
  intro b f w c x o' hJ hout hF hE ho K
  obtain rfl : o = o' := Option.some.inj (hi.symm.trans ho)
  obtain ⟨v0, ev0, sv0⟩ := r0.ev hJ hout hF hE K
  exact .pure d (hg.wanted hJ hF hE K) hd (by rw [hA]; trivial) hJ.gi (ex_un hop (ev0.trans (hz sv0)) L) (by rw [hV]; rfl)
theorem sBin (d : Nat) {o : Oper} (r0 : XA n l dt m D i) (r1 : XA n l dt m D i) {op : BinOp} {ty ty2 : TypeId} {u z z' : Value} (hz : ∀ {w : World} {c : Colr} {v v' : Value}, r0.r.T V w c v → r1.r.T V w c v' → r0.r.W v = z ∧ r1.r.W v' = z') (G : ∀ {w : World}, (eqGuard op ty r0.r.opd r1.r.opd z z').run P w = .ok () w) (L : ∀ {w : World}, (binOp op ty z z').run P w = .ok u w) (hV : V d = TyC.eq u := by rfl) (hi : nthL l i = some o := by rfl) (hop : o.op = .binOp op ty r0.r.opd r1.r.opd ty2 := by rfl) (hd : o.dst = some d := by rfl) (hA : Fs.filter (aff [] i (some d)) = [] := by rfl) (hg : Gd l n dt V i o.guard := by first | exact trivial | exact ⟨rfl, _, ⟨rfl, rfl⟩, rfl⟩) : OpStep P l dt Q n a m D CB Fs V w0 c0 i := by
  intro b f w c x o' hJ hout hF hE ho K
  obtain rfl : o = o' := Option.some.inj (hi.symm.trans ho)
  obtain ⟨v0, ev0, sv0⟩ := r0.ev hJ hout hF hE K
  obtain ⟨v1, ev1, sv1⟩ := r1.ev hJ hout hF hE K
  exact .pure d (hg.wanted hJ hF hE K) hd (by rw [hA]; trivial) hJ.gi (ex_bin hop (ev0.trans (hz sv0 sv1).1) (ev1.trans (hz sv0 sv1).2) G L) (by rw [hV]; rfl)
theorem sIx (d : Nat) {o : Oper} (r0 : XA n l dt m D i) (r1 : XA n l dt m D i) {ty : TypeId} (L : ∀ {b : BB} {f : FF} {w : World} {c : Colr} {v v' : Value}, Kx dt w0 c0 CB Fs i b f w c → r0.r.T V w c v → r1.r.T V w c v' → ∃ u, (Instr.indexAt ty (r0.r.W v) (r1.r.W v')).run P w = .ok u w ∧ (V d).sat u w c) (hi : nthL l i = some o := by rfl) (hop : o.op = .indexAddr ty r0.r.opd r1.r.opd := by rfl) (hd : o.dst = some d := by rfl) (hA : Fs.filter (aff [] i (some d)) = [] := by rfl) (hg : Gd l n dt V i o.guard := by first | exact trivial | exact ⟨rfl, _, ⟨rfl, rfl⟩, rfl⟩) : OpStep P l dt Q n a m D CB Fs V w0 c0 i := by
  intro b f w c x o' hJ hout hF hE ho K
  obtain rfl : o = o' := Option.some.inj (hi.symm.trans ho)
  obtain ⟨v0, ev0, sv0⟩ := r0.ev hJ hout hF hE K
  obtain ⟨v1, ev1, sv1⟩ := r1.ev hJ hout hF hE K
  obtain ⟨u, h1, h2⟩ := L K sv0 sv1
  exact .pure d (hg.wanted hJ hF hE K) hd (by rw [hA]; trivial) hJ.gi (ex_index hop ev0 ev1 h1) h2
theorem sC0 (d : Nat) {o : Oper} {fn : Nat} {tys : Array TypeId} {fd : Func}  (L : ∀ {b : BB} {f : FF} {w : World} {c : Colr}, Kx dt w0 c0 CB Fs i b f w c → CV P fn #[] w c (V d)) (hfn : P.funcs[fn]? = some fd) (hi : nthL l i = some o := by rfl) (hop : o.op = .call { callee := .value (.func fn), args := #[], argTypes := tys } := by rfl) (hd : o.dst = some d := by rfl) (hA : Fs.filter (aff [] i (some d)) = [] := by rfl) (hnb : (fd.name == "runtime.NumGoroutine" || fd.body.isNone) = false := by rfl) (hg : Gd l n dt V i o.guard := by first | exact trivial | exact ⟨rfl, _, ⟨rfl, rfl⟩, rfl⟩) : OpStep P l dt Q n a m D CB Fs V w0 c0 i := by
  intro b f w c x o' hJ hout hF hE ho K
  obtain rfl : o = o' := Option.some.inj (hi.symm.trans ho)
  exact .call d (hg.wanted hJ hF hE K) hd hA hJ.gi hop (vs := #[]) (by simp []) (enter_of hfn hnb _) (L K)
theorem sC1 (d : Nat) {o : Oper} {fn : Nat} {tys : Array TypeId} {fd : Func} (r0 : XA n l dt m D i) (L : ∀ {b : BB} {f : FF} {w : World} {c : Colr} {v0 : Value}, Kx dt w0 c0 CB Fs i b f w c → r0.r.T V w c v0 → CV P fn #[r0.r.W v0] w c (V d)) (hfn : P.funcs[fn]? = some fd) (hi : nthL l i = some o := by rfl) (hop : o.op = .call { callee := .value (.func fn), args := #[r0.r.opd], argTypes := tys } := by rfl) (hd : o.dst = some d := by rfl) (hA : Fs.filter (aff [] i (some d)) = [] := by rfl) (hnb : (fd.name == "runtime.NumGoroutine" || fd.body.isNone) = false := by rfl) (hg : Gd l n dt V i o.guard := by first | exact trivial | exact ⟨rfl, _, ⟨rfl, rfl⟩, rfl⟩) : OpStep P l dt Q n a m D CB Fs V w0 c0 i := by
  intro b f w c x o' hJ hout hF hE ho K
  obtain rfl : o = o' := Option.some.inj (hi.symm.trans ho)
  obtain ⟨v0, ev0, sv0⟩ := r0.ev hJ hout hF hE K
  exact .call d (hg.wanted hJ hF hE K) hd hA hJ.gi hop (vs := #[r0.r.W v0]) (by simp [ev0]) (enter_of hfn hnb _) (L K sv0)
theorem sC2 (d : Nat) {o : Oper} {fn : Nat} {tys : Array TypeId} {fd : Func} (r0 : XA n l dt m D i) (r1 : XA n l dt m D i) (L : ∀ {b : BB} {f : FF} {w : World} {c : Colr} {v0 v1 : Value}, Kx dt w0 c0 CB Fs i b f w c → r0.r.T V w c v0 → r1.r.T V w c v1 → CV P fn #[r0.r.W v0, r1.r.W v1] w c (V d)) (hfn : P.funcs[fn]? = some fd) (hi : nthL l i = some o := by rfl) (hop : o.op = .call { callee := .value (.func fn), args := #[r0.r.opd, r1.r.opd], argTypes := tys } := by rfl) (hd : o.dst = some d := by rfl) (hA : Fs.filter (aff [] i (some d)) = [] := by rfl) (hnb : (fd.name == "runtime.NumGoroutine" || fd.body.isNone) = false := by rfl) (hg : Gd l n dt V i o.guard := by first | exact trivial | exact ⟨rfl, _, ⟨rfl, rfl⟩, rfl⟩) : OpStep P l dt Q n a m D CB Fs V w0 c0 i := by
  intro b f w c x o' hJ hout hF hE ho K
  obtain rfl : o = o' := Option.some.inj (hi.symm.trans ho)
  obtain ⟨v0, ev0, sv0⟩ := r0.ev hJ hout hF hE K
  obtain ⟨v1, ev1, sv1⟩ := r1.ev hJ hout hF hE K
  exact .call d (hg.wanted hJ hF hE K) hd hA hJ.gi hop (vs := #[r0.r.W v0, r1.r.W v1]) (by simp [ev0, ev1]) (enter_of hfn hnb _) (L K sv0 sv1)
theorem sB0 (d : Nat) {o : Oper} {ty : TypeId}  (L : ∀ {b : BB} {f : FF} {w : World} {c : Colr}, Kx dt w0 c0 CB Fs i b f w c → ∃ u, (Instr.build ty #[]).run P w = .ok u w ∧ (V d).sat u w c) (hi : nthL l i = some o := by rfl) (hop : o.op = .build ty #[] := by rfl) (hd : o.dst = some d := by rfl) (hA : Fs.filter (aff [] i (some d)) = [] := by rfl) (hg : Gd l n dt V i o.guard := by first | exact trivial | exact ⟨rfl, _, ⟨rfl, rfl⟩, rfl⟩) : OpStep P l dt Q n a m D CB Fs V w0 c0 i := by
  intro b f w c x o' hJ hout hF hE ho K
  obtain rfl : o = o' := Option.some.inj (hi.symm.trans ho)
  obtain ⟨u, h1, h2⟩ := L K
  exact .pure d (hg.wanted hJ hF hE K) hd (by rw [hA]; trivial) hJ.gi (ex_build hop (by simp []) h1) h2
theorem sB2 (d : Nat) {o : Oper} {ty : TypeId} (r0 : XA n l dt m D i) (r1 : XA n l dt m D i) (L : ∀ {b : BB} {f : FF} {w : World} {c : Colr} {v0 v1 : Value}, Kx dt w0 c0 CB Fs i b f w c → r0.r.T V w c v0 → r1.r.T V w c v1 → ∃ u, (Instr.build ty #[(0, r0.r.W v0), (1, r1.r.W v1)]).run P w = .ok u w ∧ (V d).sat u w c) (hi : nthL l i = some o := by rfl) (hop : o.op = .build ty #[(0, r0.r.opd), (1, r1.r.opd)] := by rfl) (hd : o.dst = some d := by rfl) (hA : Fs.filter (aff [] i (some d)) = [] := by rfl) (hg : Gd l n dt V i o.guard := by first | exact trivial | exact ⟨rfl, _, ⟨rfl, rfl⟩, rfl⟩) : OpStep P l dt Q n a m D CB Fs V w0 c0 i := by
  intro b f w c x o' hJ hout hF hE ho K
  obtain rfl : o = o' := Option.some.inj (hi.symm.trans ho)
  obtain ⟨v0, ev0, sv0⟩ := r0.ev hJ hout hF hE K
  obtain ⟨v1, ev1, sv1⟩ := r1.ev hJ hout hF hE K
  obtain ⟨u, h1, h2⟩ := L K sv0 sv1
  exact .pure d (hg.wanted hJ hF hE K) hd (by rw [hA]; trivial) hJ.gi (ex_build hop (by simp [ev0, ev1]) h1) h2
theorem sL2 (d : Nat) {o : Oper} {ty t : TypeId} {sz : Nat} {L : List TyC} (r0 : XA n l dt m D i) (r1 : XA n l dt m D i) (H : ∀ {b : BB} {f : FF} {w : World} {c : Colr} {v0 v1 : Value}, Kx dt w0 c0 CB Fs i b f w c → r0.r.T V w c v0 → r1.r.T V w c v1 → ∃ cs, (Instr.buildSlice ty 2 #[(0, r0.r.W v0), (1, r1.r.W v1)]).run P w = .ok (.slice (some ⟨w.heap.size, 0, none⟩) 2 2) (w.alloc (.cells cs t)) ∧ cs.size = L.length * sz ∧ (catK sz L).sat cs w c) (hn : L.length = 2 := by rfl) (hV : V d = litC sz t L := by rfl) (hi : nthL l i = some o := by rfl) (hop : o.op = .buildSlice ty 2 #[(0, r0.r.opd), (1, r1.r.opd)] := by rfl) (hd : o.dst = some d := by rfl) (hA : Fs.filter (aff [] i (some d)) = [] := by rfl) (hg : Gd l n dt V i o.guard := by first | exact trivial | exact ⟨rfl, _, ⟨rfl, rfl⟩, rfl⟩) : OpStep P l dt Q n a m D CB Fs V w0 c0 i := by
  intro b f w c x o' hJ hout hF hE ho K
  obtain rfl : o = o' := Option.some.inj (hi.symm.trans ho)
  obtain ⟨v0, ev0, sv0⟩ := r0.ev hJ hout hF hE K
  obtain ⟨v1, ev1, sv1⟩ := r1.ev hJ hout hF hE K
  obtain ⟨cs, h1, h2, h3⟩ := H K sv0 sv1
  exact .litv d (L := L) (hg.wanted hJ hF hE K) hd hA hJ.gi hop (by simp [ev0, ev1]) h1 hn h2 h3 hV
/-! ### boxes -/
theorem sBox (p nc : Nat) {o : Oper} {sp : Nat} {z : Array Value} {τ : TyC} {ty : TypeId} (r0 : XA n l dt m D i) (H : ∀ {b : BB} {f : FF} {w : World} {c : Colr} {v : Value}, Kx dt w0 c0 CB Fs i b f w c → r0.r.T V w c v → ∃ cs, (r0.r.W v).cells = cs ∧ τ.sat (r0.r.W v) w c ∧ cs.toList.all (fun v => !NB v) = true)
    (hi : nthL l i = some o := by rfl) (hop : o.op = .box ty r0.r.opd := by rfl) (hd : o.dst = some p := by rfl) (hF_ : Fs.filter (aff [nc] i (some p)) = [RF.new p nc ty sp z τ] := by rfl) (hCB : [nc].all (CB.contains ·) = true := by rfl) (hs : sp = i := by rfl) (hn : ([nc].contains 0 || [nc].contains 1) = false := by rfl) (hV : V p = TyC.ptr := by rfl) (hg : Gd l n dt V i o.guard := by first | exact trivial | exact ⟨rfl, _, ⟨rfl, rfl⟩, rfl⟩) : OpStep P l dt Q n a m D CB Fs V w0 c0 i := by
  intro b f w c x o' hJ hout hF hE ho K
  obtain rfl : o = o' := Option.some.inj (hi.symm.trans ho)
  obtain ⟨v0, ev0, sv0⟩ := r0.ev hJ hout hF hE K
  obtain ⟨cs, h1, h2, h3⟩ := H K sv0
  exact .box p nc sp z cs τ (hg.wanted hJ hF hE K) hd hCB hF_ hJ.gi hop ev0 h1 h2 hs hn h3 hV
theorem sAlz (p nc : Nat) {o : Oper} {sp : Nat} {z : Array Value} {τ : TyC} {ty : TypeId} {u : Value} (hz : ∀ {w : World}, (zeroValue ty).run P w = .ok u w) (hu : ∀ {w : World} {c : Colr}, τ.sat u w c)
    (hi : nthL l i = some o := by rfl) (hop : o.op = .alloc ty := by rfl) (hd : o.dst = some p := by rfl) (hF_ : Fs.filter (aff [nc] i (some p)) = [RF.new p nc ty sp z τ] := by rfl) (hCB : [nc].all (CB.contains ·) = true := by rfl) (hs : sp = i := by rfl) (hn : ([nc].contains 0 || [nc].contains 1) = false := by rfl) (hb : u.cells.toList.all (fun v => !NB v) = true := by rfl) (hV : V p = TyC.ptr := by rfl) (hg : Gd l n dt V i o.guard := by first | exact trivial | exact ⟨rfl, _, ⟨rfl, rfl⟩, rfl⟩) : OpStep P l dt Q n a m D CB Fs V w0 c0 i := by
  intro b f w c x o' hJ hout hF hE ho K
  obtain rfl : o = o' := Option.some.inj (hi.symm.trans ho)
  exact .allocz p nc sp z τ (hg.wanted hJ hF hE K) hd hCB hF_ hJ.gi hop hz rfl hu hs hn hb hV
theorem sAl (p nc : Nat) {o : Oper} {sp : Nat} {z : Array Value} {τ : TyC} {ty : TypeId} {u : Value} (hz : ∀ {w : World}, (zeroValue ty).run P w = .ok u w) (hc : u.cells = z := by rfl)
    (hi : nthL l i = some o := by rfl) (hop : o.op = .alloc ty := by rfl) (hd : o.dst = some p := by rfl) (hF_ : Fs.filter (aff [nc] i (some p)) = [RF.new p nc ty sp z τ] := by rfl) (hCB : [nc].all (CB.contains ·) = true := by rfl) (hs : dep dt sp i = true := by rfl) (hsi : (sp == i) = false := by rfl) (hn : ([nc].contains 0 || [nc].contains 1) = false := by rfl) (hb : z.toList.all (fun v => !NB v) = true := by rfl) (hV : V p = TyC.ptr := by rfl) (hg : Gd l n dt V i o.guard := by first | exact trivial | exact ⟨rfl, _, ⟨rfl, rfl⟩, rfl⟩) : OpStep P l dt Q n a m D CB Fs V w0 c0 i := by
  intro b f w c x o' hJ hout hF hE ho K
  obtain rfl : o = o' := Option.some.inj (hi.symm.trans ho)
  exact .alloc p nc sp z τ (hg.wanted hJ hF hE K) hd hCB hF_ hJ.gi hop hz hc (K.nyet sp hs) hsi hn hb hV
/-- A store that fills a box of the region. -/
theorem sStn (p nc j k : Nat) {o : Oper} {mm : Nat} {z : Array Value} {τ : TyC} {ty t : TypeId} (r1 : XA n l dt m D i) (hA : Agg P ty mm) (hs : τ.str mm) (H : ∀ {b : BB} {f : FF} {w : World} {c : Colr} {v : Value}, Kx dt w0 c0 CB Fs i b f w c → r1.r.T V w c v → τ.sat (r1.r.W v) w c := by exact fun _ h => h) (hp : dep dt i j = true ∧ decide (p < n) = true ∧ dstOf l j = some p := by exact ⟨rfl, rfl, rfl⟩) (hk : Fs[k]? = some (RF.new p nc t i z τ) := by rfl)
    (hi : nthL l i = some o := by rfl) (hop : o.op = .store ty (.tmp p) r1.r.opd := by rfl) (hd : o.dst = none := by rfl) (hz : z.size = mm := by rfl) (hF_ : Fs.filter (aff [nc] i none) = [RF.new p nc t i z τ] := by rfl) (hCB : [nc].all (CB.contains ·) = true := by rfl) (hn : ([nc].contains 0 || [nc].contains 1) = false := by rfl) (hV : V p = TyC.ptr := by rfl) (hg : Gd l n dt V i o.guard := by first | exact trivial | exact ⟨rfl, _, ⟨rfl, rfl⟩, rfl⟩) : OpStep P l dt Q n a m D CB Fs V w0 c0 i := by
  intro b f w c x o' hJ hout hF hE ho K
  obtain rfl : o = o' := Option.some.inj (hi.symm.trans ho)
  obtain ⟨v1, ev1, sv1⟩ := r1.ev hJ hout hF hE K
  obtain ⟨h1, h2, h2'⟩ := hp
  have h3' := h2'
  unfold dstOf at h3'
  split at h3'
  · rename_i oj hoj
    rw [nthL_eq] at hoj
    have h3 := (hJ.set j oj p (by simpa using hoj) h3').1 (K.done j h1)
    cases hf : f p with
    | none => exact absurd hf h3
    | some v =>
      have h4 := hJ.typ p v hf
      rw [hV] at h4
      obtain ⟨g, rfl⟩ := h4
      have he : x.eval (.tmp p) = .pointer (some ⟨g, 0, none⟩) := hF.in (by rw [hE.1]; exact of_decide_eq_true h2) hf
      obtain ⟨hcg, hbk⟩ := ((All.at K.fac k hk) g (by simp [hf, adr])).2 K.self
      obtain ⟨w2, q1, q2, q3⟩ := store_tyc (P := P) hA hs hbk hz (H K sv1) hJ.gi hcg hn
      refine .store nc [nc] rfl (hg.wanted hJ hF hE K) hd hCB hop he ev1 ⟨w2, q1, q2, ?_⟩
      rw [hF_]
      refine ⟨fun g' hg' => ?_, trivial⟩
      obtain rfl : g = g' := by simpa [hf, adr] using hg'
      exact ⟨fun _ => q3, fun hbb => by rw [bup_at] at hbb; cases hbb⟩
  · cases h3'
theorem st_now {g t n i : Nat} {τ : TyC} {F0 : RF} {b : BB} {f : FF} {w : World} {c : Colr} (h : BoxC w c g t n τ) : (RF.st i (Fact.box g t n τ) F0).P (bup b i) f w c := ⟨fun _ => h, fun hbb => (by rw [bup_at] at hbb; cases hbb)⟩
/-- A store into a box that was there. -/
theorem sSto (nc : Nat) {o : Oper} {g mm : Nat} {τ : TyC} {ty t : TypeId} {F : RF} (r0 r1 : XA n l dt m D i) (hA : Agg P ty mm) (hs : τ.str mm) (O : ∀ {b : BB} {f : FF} {w : World} {c : Colr}, Kx dt w0 c0 CB Fs i b f w c → ∃ old, Blk w g t old ∧ old.size = mm ∧ c g = nc) (H : ∀ {b : BB} {f : FF} {w : World} {c : Colr} {v : Value}, Kx dt w0 c0 CB Fs i b f w c → r1.r.T V w c v → τ.sat (r1.r.W v) w c)
    
    (hi : nthL l i = some o := by rfl) (hop : o.op = .store ty r0.r.opd r1.r.opd := by rfl) (hd : o.dst = none := by rfl) (ha : ∀ v, r0.r.W v = .pointer (some ⟨g, 0, none⟩) := by exact fun _ => rfl) (hF_ : Fs.filter (aff [nc] i none) = [F] := by rfl) (R : ∀ {b : BB} {f : FF} {w w' : World} {c : Colr}, Kx dt w0 c0 CB Fs i b f w c → BoxC w' c g t nc τ → F.P (bup b i) f w' c := by exact fun _ h => st_now h) (hCB : [nc].all (CB.contains ·) = true := by rfl) (hn : ([nc].contains 0 || [nc].contains 1) = false := by rfl) (hg : Gd l n dt V i o.guard := by first | exact trivial | exact ⟨rfl, _, ⟨rfl, rfl⟩, rfl⟩) : OpStep P l dt Q n a m D CB Fs V w0 c0 i := by
  intro b f w c x o' hJ hout hF hE ho K
  obtain rfl : o = o' := Option.some.inj (hi.symm.trans ho)
  obtain ⟨v0, ev0, sv0⟩ := r0.ev hJ hout hF hE K
  obtain ⟨v1, ev1, sv1⟩ := r1.ev hJ hout hF hE K
  obtain ⟨old, q1, q2, q3⟩ := O K
  obtain ⟨w2, p1, p2, p3⟩ := store_tyc (P := P) hA hs q1 q2 (H K sv1) hJ.gi q3 hn
  refine .store nc [nc] rfl (hg.wanted hJ hF hE K) hd hCB hop (ev0.trans (ha v0)) ev1 ⟨w2, p1, p2, ?_⟩
  rw [hF_]
  exact ⟨R K p3, trivial⟩
theorem bxs {τ : TyC} {k : Nat} {u : Value} {w : World} {c : Colr} (hs : τ.str k) (h : τ.sat u w c) : ∃ cs, u.cells = cs ∧ τ.sat u w c ∧ cs.toList.all (fun v => !NB v) = true := by
  obtain ⟨cs, rfl, _, _, h4⟩ := hs u w c h
  exact ⟨cs, rfl, h, h4⟩
theorem ldb {P : Program} {ty : TypeId} {ad : Addr} {w : World} {p : Value → Prop} (h : ∃ u, (loadVar ty ad).run P w = .ok u w ∧ p u) : ∃ ad' u, Value.pointer (some ad) = .pointer (some ad') ∧ (loadVar ty ad').run P w = .ok u w ∧ p u := by
  obtain ⟨u, h1, h2⟩ := h
  exact ⟨ad, u, rfl, h1, h2⟩
/-- The fact on a box of the region that is filled. -/
theorem nbox {p nc t sp : Nat} {z : Array Value} {τ : TyC} {b : BB} {f : FF} {w : World} {c : Colr} {g : Nat} (h : (RF.new p nc t sp z τ).P b f w c) (hf : f p = some (.pointer (some ⟨g, 0, none⟩))) (hb : b sp = true) : BoxC w c g t nc τ := (h g (by simp [hf, adr])).1 hb
/-! ### extracts -/
theorem ex10 {τ : TyC} {u v : Value} {w : World} {c : Colr} (h : (τ.tup1 u).sat v w c) : ∃ vs x, v = .tuple vs ∧ vs[0]? = some x ∧ τ.sat x w c := by
  obtain ⟨x, rfl, h⟩ := h; exact ⟨_, x, rfl, rfl, h⟩
theorem ex11 {τ : TyC} {u v : Value} {w : World} {c : Colr} (h : (τ.tup1 u).sat v w c) : ∃ vs x, v = .tuple vs ∧ vs[1]? = some x ∧ (TyC.eq u).sat x w c := by
  obtain ⟨x, rfl, h⟩ := h; exact ⟨_, _, rfl, rfl, rfl⟩
theorem ex20 {τ σ : TyC} {u v : Value} {w : World} {c : Colr} (h : (τ.tup2 σ u).sat v w c) : ∃ vs x, v = .tuple vs ∧ vs[0]? = some x ∧ τ.sat x w c := by
  obtain ⟨x, y, rfl, h, h'⟩ := h; exact ⟨_, _, rfl, rfl, h⟩
theorem ex21 {τ σ : TyC} {u v : Value} {w : World} {c : Colr} (h : (τ.tup2 σ u).sat v w c) : ∃ vs x, v = .tuple vs ∧ vs[1]? = some x ∧ σ.sat x w c := by
  obtain ⟨x, y, rfl, h, h'⟩ := h; exact ⟨_, _, rfl, rfl, h'⟩
theorem ex22 {τ σ : TyC} {u v : Value} {w : World} {c : Colr} (h : (τ.tup2 σ u).sat v w c) : ∃ vs x, v = .tuple vs ∧ vs[2]? = some x ∧ (TyC.eq u).sat x w c := by
  obtain ⟨x, y, rfl, h, h'⟩ := h; exact ⟨_, _, rfl, rfl, rfl⟩
theorem exp0 {τ σ : TyC} {v : Value} {w : World} {c : Colr} (h : (τ.pair σ).sat v w c) : ∃ vs x, v = .tuple vs ∧ vs[0]? = some x ∧ τ.sat x w c := by
  obtain ⟨x, y, rfl, h, h'⟩ := h; exact ⟨_, _, rfl, rfl, h⟩
theorem exp1 {τ σ : TyC} {v : Value} {w : World} {c : Colr} (h : (τ.pair σ).sat v w c) : ∃ vs x, v = .tuple vs ∧ vs[1]? = some x ∧ σ.sat x w c := by
  obtain ⟨x, y, rfl, h, h'⟩ := h; exact ⟨_, _, rfl, rfl, h'⟩
theorem exe {vs : Array Value} {k : Nat} {x v : Value} {w : World} {c : Colr} (hk : vs[k]? = some x) (h : (TyC.eq (.tuple vs)).sat v w c) : ∃ vs' x', v = .tuple vs' ∧ vs'[k]? = some x' ∧ (TyC.eq x).sat x' w c := ⟨vs, x, h, hk, rfl⟩
/-! ### behind a region -/
def nthR : List RF → Nat → RF
  | [], _ => .s Fact.tru
  | F :: _, 0 => F
  | _ :: L, k + 1 => nthR L k
def pickR : List Nat → List RF → List RF
  | [], _ => []
  | k :: ks, L => .s (nthR L k).fin :: pickR ks L
theorem All.nth {b : BB} {f : FF} {w : World} {c : Colr} : ∀ {L : List RF} (k : Nat), All L b f w c → (nthR L k).P b f w c
  | [], _, _ => trivial
  | _ :: _, 0, h => h.1
  | _ :: L, k + 1, h => All.nth k h.2
theorem nth_ops {N : Nat} : ∀ {L : List RF} (k : Nat), (L.all fun F => F.ops.all fun i => decide (i < N)) = true → ∀ i, (nthR L k).ops.contains i = true → i < N
  | [], _, _, i, h => by simp [nthR, RF.ops] at h
  | F :: L, 0, hL, i, h => by
    rw [List.all_cons, Bool.and_eq_true] at hL
    have := List.all_eq_true.1 hL.1 i (by simpa [nthR] using h)
    simpa using this
  | F :: L, k + 1, hL, i, h => by
    rw [List.all_cons, Bool.and_eq_true] at hL
    exact nth_ops k hL.2 i h
theorem All.pick {N : Nat} {b b' : BB} {f f' : FF} {w : World} {c : Colr} {L : List RF} (h : All L b f w c) (hb : ∀ i, i < N → b i = true) (hN : (L.all fun F => F.ops.all fun i => decide (i < N)) = true) : ∀ ks : List Nat, All (pickR ks L) b' f' w c
  | [] => trivial
  | k :: ks => ⟨RF.to_fin _ (All.nth k h) (fun i hi => hb i (nth_ops k hN i hi)), All.pick h hb hN ks⟩
theorem All.pk {N : Nat} {b : BB} {f : FF} {w : World} {c : Colr} {L : List RF} (h : All L b f w c) (hb : ∀ i, i < N → b i = true) (hN : (L.all fun F => F.ops.all fun i => decide (i < N)) = true) (ks : List Nat) : All (pickR ks L) (fun _ => false) (fun _ => none) w c := h.pick hb hN ks
theorem All.cb {g t n : Nat} {τ : TyC} {L : List RF} {b : BB} {f : FF} {w : World} {c : Colr} (h : BoxC w c g t n τ) (hL : All L b f w c) : All (.s (Fact.box g t n τ) :: L) b f w c := ⟨h, hL⟩
theorem All.cv {v : Value} {τ : TyC} {L : List RF} {b : BB} {f : FF} {w : World} {c : Colr} (h : τ.sat v w c) (hL : All L b f w c) : All (.s (Fact.val τ v) :: L) b f w c := ⟨h, hL⟩
def AllK (f : FF) (n : Nat) : List (Nat × Value) → Prop
  | [] => True
  | p :: L => (f p.1 = some p.2 ∧ p.1 < n) ∧ AllK f n L
theorem kn {f : FF} {n : Nat} : AllK f n [] := trivial
theorem ck {f : FF} {n t : Nat} {v : Value} {L : List (Nat × Value)} (h : f t = some v) (hK : AllK f n L) (ht : decide (t < n) = true := by rfl) : AllK f n ((t, v) :: L) := ⟨⟨h, of_decide_eq_true ht⟩, hK⟩
theorem kv {f : FF} {V : Nat → TyC} {d : Nat} {u : Value} {w : World} {c : Colr} (h : ∃ v, f d = some v ∧ (V d).sat v w c) (hV : V d = TyC.eq u) : f d = some u := by
  obtain ⟨v, h1, h2⟩ := h
  rw [hV] at h2
  rw [h1, (show v = u from h2)]
theorem kp {f : FF} {V : Nat → TyC} {d : Nat} {w : World} {c : Colr} (h : ∃ v, f d = some v ∧ (V d).sat v w c) (hV : V d = TyC.ptr) : ∃ g, f d = some (.pointer (some ⟨g, 0, none⟩)) := by
  obtain ⟨v, h1, h2⟩ := h
  rw [hV] at h2
  obtain ⟨g, rfl⟩ := h2
  exact ⟨g, h1⟩
def upm (KL : List (Nat × Value)) (D : List Nat) (m : Nat → Option Value) (t : Nat) : Option Value := match KL.lookup t with
  | some v => some v
  | none => if D.contains t then none else m t
theorem AllK.look {f : FF} {n : Nat} : ∀ {L : List (Nat × Value)}, AllK f n L → ∀ {t : Nat} {v : Value}, L.lookup t = some v → f t = some v ∧ t < n
  | (t', v') :: L, h, t, v, hl => by
    rw [List.lookup_cons] at hl
    split at hl
    · rename_i he
      have : t = t' := by simpa using he
      subst this
      injection hl with hl
      subst hl
      exact h.1
    · exact AllK.look h.2 hl
  | [], _, t, v, hl => by simp at hl
theorem Ev.up {n : Nat} {a x : Act} {m : Nat → Option Value} {D : List Nat} {f : FF} {KL : List (Nat × Value)} (hE : Ev n a m) (hF : Fr a x f) (hout : ∀ d, D.contains d = false → f d = none) (hK : AllK f n KL) : Ev n x (upm KL D m) := by
  refine ⟨hF.size.trans hE.1, hF.defers.trans hE.2.1, fun t v h => ?_⟩
  unfold upm at h
  split at h
  · rename_i u hu
    injection h with h
    subst h
    obtain ⟨h1, h2⟩ := AllK.look hK hu
    exact ⟨h2, hF.in (by rw [hE.1]; exact h2) h1⟩
  · split at h
    · cases h
    · rename_i hd
      obtain ⟨h1, h2⟩ := hE.2.2 t v h
      exact ⟨h1, hF.out (by rw [hE.1]; exact h1) (hout t (by simpa using hd)) h2⟩
def mof (KL : List (Nat × Value)) (t : Nat) : Option Value := KL.lookup t
def subm (m : Nat → Option Value) : List (Nat × Value) → Prop
  | [] => True
  | p :: L => m p.1 = some p.2 ∧ subm m L
theorem subm.look {m : Nat → Option Value} : ∀ {L : List (Nat × Value)}, subm m L → ∀ {t : Nat} {v : Value}, L.lookup t = some v → m t = some v
  | (t', v') :: L, h, t, v, hl => by
    rw [List.lookup_cons] at hl
    split at hl
    · rename_i he
      have : t = t' := by simpa using he
      subst this
      injection hl with hl
      subst hl
      exact h.1
    · exact subm.look h.2 hl
  | [], _, t, v, hl => by simp at hl
/-- Some of the slots. -/
theorem Ev.sub {n : Nat} {a : Act} {m : Nat → Option Value} (hE : Ev n a m) (KL : List (Nat × Value)) (h : subm m KL) : Ev n a (mof KL) := ⟨hE.1, hE.2.1, fun t v ht => hE.2.2 t v (h.look ht)⟩
/-- One slot's value, said otherwise. -/
theorem Ev.re {n : Nat} {a : Act} {m : Nat → Option Value} (hE : Ev n a m) (t : Nat) {v v' : Value} (ht : m t = some v) (e : v = v') : Ev n a (fun k => if k == t then some v' else m k) := ⟨hE.1, hE.2.1, fun k u hk => by
  by_cases h : k = t
  · subst h
    simp at hk
    subst hk e
    exact hE.2.2 k v ht
  · have : (k == t) = false := by simpa using h
    simp [this] at hk
    exact hE.2.2 k u hk⟩
def setR : List RF → Nat → RF → List RF
  | [], _, _ => []
  | _ :: L, 0, G => G :: L
  | F :: L, k + 1, G => F :: setR L k G
theorem All.put {G : Fact} {b : BB} {f : FF} {w : World} {c : Colr} : ∀ {L : List RF} (k : Nat), All L b f w c → G.P w c → All (setR L k (.s G)) b f w c
  | [], _, _, _ => trivial
  | _ :: _, 0, h, hG => ⟨hG, h.2⟩
  | _ :: L, k + 1, h, hG => ⟨h.1, All.put k h.2 hG⟩
theorem enter_st {f : Nat} {fn : Func} {cd : Code} {args : Array Value} {w : World} {R : Ending → World → Prop} {n : Nat} (hf : P.funcs[f]? = some fn) (hb : fn.body = some cd) (hn : fn.ntmps = n) (KL : List (Nat × Value)) (hK : KL.all (fun p => decide (p.1 < args.size)) = true) (hA : subm (fun t => args[t]?) KL) (hs : args.size ≤ n)
    (h : ∀ a : Act, Ev n a (mof KL) → cd.wp P (bodyPost P fn R) a w) : Calls P f args w R := by
  refine enter_wp hf hb hn ?_
  intro a ha
  refine h a ⟨enter_size ha (by omega), enter_defers ha, fun t v ht => ?_⟩
  have h1 := subm.look hA ht
  have h2 : t < args.size := (Array.getElem?_eq_some_iff.1 h1).1
  exact ⟨by omega, enter_ev ha h1⟩

abbrev b0 : BB := fun _ => false
abbrev f0 : FF := fun _ => none
def stg : List RF → Nat → Nat → Fact → List RF
  | [], _, _, _ => []
  | F :: L, 0, i, G => .st i G F :: L
  | F :: L, k + 1, i, G => F :: stg L k i G
theorem All.stg {w : World} {c : Colr} : ∀ {L : List RF} (k i : Nat) (G : Fact), All L b0 f0 w c → All (stg L k i G) b0 f0 w c
  | [], _, _, _, _ => trivial
  | _ :: _, 0, _, _, h => ⟨⟨fun hb => (by cases hb), fun _ => h.1⟩, h.2⟩
  | _ :: L, k + 1, i, G, h => ⟨h.1, All.stg k i G h.2⟩
theorem All.cn {L : List RF} {w : World} {c : Colr} (p n : Nat) (t : TypeId) (s : Nat) (z : Array Value) (τ : TyC) (h : All L b0 f0 w c) : All (.new p n t s z τ :: L) b0 f0 w c := ⟨RF.new_none, h⟩
theorem All.box {L : List RF} {b : BB} {f : FF} {w : World} {c : Colr} {g t n : Nat} {τ : TyC} (h : All L b f w c) (k : Nat) (hk : nthR L k = .s (Fact.box g t n τ)) : BoxC w c g t n τ := by
  have := All.nth k h
  rw [hk] at this
  exact this
theorem All.val {L : List RF} {b : BB} {f : FF} {w : World} {c : Colr} {τ : TyC} {v : Value} (h : All L b f w c) (k : Nat) (hk : nthR L k = .s (Fact.val τ v)) : τ.sat v w c := by
  have := All.nth k h
  rw [hk] at this
  exact this
theorem All.sb0 {L : List RF} {b : BB} {f : FF} {w : World} {c : Colr} {g t n i : Nat} {τ : TyC} {F1 : Fact} (h : All L b f w c) (k : Nat) (hk : nthR L k = .st i F1 (.s (Fact.box g t n τ))) (hb : b i = false) : BoxC w c g t n τ := by
  have := All.nth k h
  rw [hk] at this
  exact this.2 hb
theorem All.nb {L : List RF} {b : BB} {f : FF} {w : World} {c : Colr} {g t n p sp : Nat} {z : Array Value} {τ : TyC} (h : All L b f w c) (k : Nat) (hk : nthR L k = .new p n t sp z τ) (hf : f p = some (.pointer (some ⟨g, 0, none⟩))) (hb : b sp = true) : BoxC w c g t n τ := by
  have := All.nth k h
  rw [hk] at this
  exact nbox this hf hb

theorem sPkt (d : Nat) {o : Oper} (r0 r1 : XA n l dt m D i) {z : Operand} (hz : ∀ {w : World} {c : Colr} {v : Value}, r0.r.T V w c v → r0.r.W v = .bool true := by first | exact fun h => h | exact fun _ => rfl) (hi : nthL l i = some o := by rfl) (hop : o.op = .pick r0.r.opd r1.r.opd z := by rfl) (hd : o.dst = some d := by rfl) (hA : Fs.filter (aff [] i (some d)) = [] := by rfl) (hT : ∀ w c v, r1.r.T V w c v → (V d).sat (r1.r.W v) w c := by first | exact fun _ _ _ h => h | exact fun _ _ _ _ => rfl) (hg : Gd l n dt V i o.guard := by first | exact trivial | exact ⟨rfl, _, ⟨rfl, rfl⟩, rfl⟩) : OpStep P l dt Q n a m D CB Fs V w0 c0 i := by
  intro b f w c x o' hJ hout hF hE ho K
  obtain rfl : o = o' := Option.some.inj (hi.symm.trans ho)
  obtain ⟨v0, ev0, sv0⟩ := r0.ev hJ hout hF hE K
  obtain ⟨v1, ev1, sv1⟩ := r1.ev hJ hout hF hE K
  exact .pure d (hg.wanted hJ hF hE K) hd (by rw [hA]; trivial) hJ.gi (ex_pick (b := true) hop (ev0.trans (hz sv0)) ev1) (hT w c v1 sv1)
theorem sPkf (d : Nat) {o : Oper} (r0 r1 : XA n l dt m D i) {z : Operand} (hz : ∀ {w : World} {c : Colr} {v : Value}, r0.r.T V w c v → r0.r.W v = .bool false := by first | exact fun h => h | exact fun _ => rfl) (hi : nthL l i = some o := by rfl) (hop : o.op = .pick r0.r.opd z r1.r.opd := by rfl) (hd : o.dst = some d := by rfl) (hA : Fs.filter (aff [] i (some d)) = [] := by rfl) (hT : ∀ w c v, r1.r.T V w c v → (V d).sat (r1.r.W v) w c := by first | exact fun _ _ _ h => h | exact fun _ _ _ _ => rfl) (hg : Gd l n dt V i o.guard := by first | exact trivial | exact ⟨rfl, _, ⟨rfl, rfl⟩, rfl⟩) : OpStep P l dt Q n a m D CB Fs V w0 c0 i := by
  intro b f w c x o' hJ hout hF hE ho K
  obtain rfl : o = o' := Option.some.inj (hi.symm.trans ho)
  obtain ⟨v0, ev0, sv0⟩ := r0.ev hJ hout hF hE K
  obtain ⟨v1, ev1, sv1⟩ := r1.ev hJ hout hF hE K
  exact .pure d (hg.wanted hJ hF hE K) hd (by rw [hA]; trivial) hJ.gi (ex_pick (b := false) hop (ev0.trans (hz sv0)) ev1) (hT w c v1 sv1)
theorem sSlen (d : Nat) {o : Oper} {t e : TypeId} {A : Option Addr} {k cp : Nat} (r0 : XA n l dt m D i) (ht : P.underlying t = some (.slice e)) (hz : ∀ {b : BB} {f : FF} {w : World} {c : Colr} {v : Value}, Kx dt w0 c0 CB Fs i b f w c → r0.r.T V w c v → r0.r.W v = .slice A k cp) (hi : nthL l i = some o := by rfl) (hop : o.op = .call { callee := .builtin .len, args := #[r0.r.opd], argTypes := #[t] } := by rfl) (hd : o.dst = some d := by rfl) (hA : Fs.filter (aff [] i (some d)) = [] := by rfl) (hV : V d = TyC.eq (.int .i64 k) := by rfl) (hg : Gd l n dt V i o.guard := by first | exact trivial | exact ⟨rfl, _, ⟨rfl, rfl⟩, rfl⟩) : OpStep P l dt Q n a m D CB Fs V w0 c0 i := by
  intro b f w c x o' hJ hout hF hE ho K
  obtain rfl : o = o' := Option.some.inj (hi.symm.trans ho)
  obtain ⟨v0, ev0, sv0⟩ := r0.ev hJ hout hF hE K
  exact .pure d (hg.wanted hJ hF hE K) hd (by rw [hA]; trivial) hJ.gi (ex_len hop ht (ev0.trans (hz K sv0))) (by rw [hV]; rfl)
theorem run_not {P : Program} {w : World} (b : Bool) : (Op.unary .not (.bool b)).run P w = .ok (.bool (!b)) w := by
  simp [Op.unary, go_sem]
/-- The load of a box; of a field of a box whose address the region has made. -/
theorem sLb (d : Nat) {o : Oper} {g t nc mm : Nat} {τ : TyC} {ty : TypeId} (r0 : XA n l dt m D i) (k : Nat) (hA : Agg P ty mm) (hs : τ.str mm) (hi : nthL l i = some o := by rfl) (hop : o.op = .load ty r0.r.opd := by rfl) (hd : o.dst = some d := by rfl) (hk : nthR Fs k = .s (Fact.box g t nc τ) := by rfl) (ha : ∀ v, r0.r.W v = .pointer (some ⟨g, 0, none⟩) := by exact fun _ => rfl) (hA' : Fs.filter (aff [] i (some d)) = [] := by rfl) (hV : V d = τ := by rfl) (hg : Gd l n dt V i o.guard := by first | exact trivial | exact ⟨rfl, _, ⟨rfl, rfl⟩, rfl⟩) : OpStep P l dt Q n a m D CB Fs V w0 c0 i := by
  intro b f w c x o' hJ hout hF hE ho K
  obtain rfl : o = o' := Option.some.inj (hi.symm.trans ho)
  obtain ⟨v0, ev0, sv0⟩ := r0.ev hJ hout hF hE K
  obtain ⟨u, h1, h2⟩ := BoxC.load (K.fac.box k hk) hA hs
  exact .pure d (hg.wanted hJ hF hE K) hd (by rw [hA']; trivial) hJ.gi (ex_load hop (ev0.trans (ha v0)) h1) (by rw [hV]; exact h2)
theorem sLf (d : Nat) {o : Oper} {ad : Addr} {ty : TypeId} (r0 : XA n l dt m D i) (L : ∀ {b : BB} {f : FF} {w : World} {c : Colr}, Kx dt w0 c0 CB Fs i b f w c → ∃ u, (loadVar ty ad).run P w = .ok u w ∧ (V d).sat u w c) (hi : nthL l i = some o := by rfl) (hop : o.op = .load ty r0.r.opd := by rfl) (hd : o.dst = some d := by rfl) (hz : ∀ w c v, r0.r.T V w c v → r0.r.W v = .pointer (some ad) := by first | exact fun _ _ _ h => h | exact fun _ _ _ _ => rfl) (hA' : Fs.filter (aff [] i (some d)) = [] := by rfl) (hg : Gd l n dt V i o.guard := by first | exact trivial | exact ⟨rfl, _, ⟨rfl, rfl⟩, rfl⟩) : OpStep P l dt Q n a m D CB Fs V w0 c0 i := by
  intro b f w c x o' hJ hout hF hE ho K
  obtain rfl : o = o' := Option.some.inj (hi.symm.trans ho)
  obtain ⟨v0, ev0, sv0⟩ := r0.ev hJ hout hF hE K
  obtain ⟨u, h1, h2⟩ := L K
  exact .pure d (hg.wanted hJ hF hE K) hd (by rw [hA']; trivial) hJ.gi (ex_load hop (ev0.trans (hz w c v0 sv0)) h1) h2

abbrev iE (x : Int) : TyC := TyC.eq (.int .i64 x)
abbrev bE (x : Bool) : TyC := TyC.eq (.bool x)
abbrev uE : TyC := TyC.eq undef
abbrev PT : TyC := TyC.ptr
abbrev pE (g k : Nat) : TyC := TyC.eq (.pointer (some ⟨g, k, none⟩))
end
end Go.Col

namespace Go.Dig
set_option linter.unusedVariables false

/-- The value of digits in base B, the least significant one first. -/
def val (B : Nat) : List Nat → Nat
  | [] => 0
  | d :: l => d + B * val B l
@[simp] theorem val_nil (B : Nat) : val B [] = 0 := rfl
theorem val_cons (B d : Nat) (l : List Nat) : val B (d :: l) = d + B * val B l := rfl
theorem val_append (B : Nat) (a b : List Nat) : val B (a ++ b) = val B a + B ^ a.length * val B b := by
  induction a with
  | nil => simp
  | cons x a ih =>
    rw [List.cons_append, val_cons, ih, val_cons, List.length_cons, Nat.pow_succ, Nat.mul_add, ← Nat.mul_assoc, Nat.mul_comm (B ^ a.length) B]
    omega
theorem val_snoc (B : Nat) (a : List Nat) (d : Nat) : val B (a ++ [d]) = val B a + B ^ a.length * d := by
  rw [val_append, val_cons, val_nil, Nat.mul_zero, Nat.add_zero]
theorem val_take {B : Nat} {l : List Nat} {k d : Nat} (h : l[k]? = some d) : val B (l.take (k + 1)) = val B (l.take k) + B ^ k * d := by
  have hk := (List.getElem?_eq_some_iff.1 h).1
  rw [List.take_add_one, h, Option.toList_some, val_snoc, List.length_take, Nat.min_eq_left (by omega)]
theorem val_drop {B : Nat} {l : List Nat} {k d : Nat} (h : l[k]? = some d) : val B (l.drop k) = d + B * val B (l.drop (k + 1)) := by
  obtain ⟨hk, rfl⟩ := List.getElem?_eq_some_iff.1 h
  rw [List.drop_eq_getElem_cons hk, val_cons]
theorem val_split (B : Nat) (l : List Nat) (k : Nat) (hk : k ≤ l.length) : val B l = val B (l.take k) + B ^ k * val B (l.drop k) := by
  have := val_append B (l.take k) (l.drop k)
  rw [List.take_append_drop, List.length_take, Nat.min_eq_left hk] at this
  exact this
/-- Every digit is less than the base. -/
def Digs (B : Nat) (l : List Nat) : Prop := ∀ d ∈ l, d < B
theorem Digs.nil (B : Nat) : Digs B [] := fun d h => by simp at h
theorem Digs.cons {B d : Nat} {l : List Nat} (h : d < B) (hl : Digs B l) : Digs B (d :: l) := fun x hx => by
  rcases List.mem_cons.1 hx with rfl | hx
  · exact h
  · exact hl x hx
theorem Digs.snoc {B d : Nat} {l : List Nat} (hl : Digs B l) (h : d < B) : Digs B (l ++ [d]) := fun x hx => by
  rcases List.mem_append.1 hx with hx | hx
  · exact hl x hx
  · simp at hx; omega
theorem Digs.app {B : Nat} {a b : List Nat} (ha : Digs B a) (hb : Digs B b) : Digs B (a ++ b) := fun x hx => (List.mem_append.1 hx).elim (ha x) (hb x)
theorem Digs.take {B : Nat} {l : List Nat} (h : Digs B l) (k : Nat) : Digs B (l.take k) := fun x hx => h x (List.mem_of_mem_take hx)
theorem Digs.drop {B : Nat} {l : List Nat} (h : Digs B l) (k : Nat) : Digs B (l.drop k) := fun x hx => h x (List.mem_of_mem_drop hx)
theorem Digs.at_ {B : Nat} {l : List Nat} (h : Digs B l) {k d : Nat} (hd : l[k]? = some d) : d < B := h d (List.mem_of_getElem? hd)
theorem Digs.set_ {B : Nat} {l : List Nat} (h : Digs B l) {k d : Nat} (hd : d < B) : Digs B (l.set k d) := fun x hx => by
  rcases List.mem_or_eq_of_mem_set hx with h1 | h1
  · exact h x h1
  · omega
theorem Digs.zeros {B : Nat} (hB : 1 ≤ B) (n : Nat) : Digs B (List.replicate n 0) := fun x hx => by
  have := (List.mem_replicate.1 hx).2; omega
theorem val_zeros (B n : Nat) : val B (List.replicate n 0) = 0 := by
  induction n with
  | zero => rfl
  | succ n ih => rw [List.replicate_succ, val_cons, ih]; simp
theorem val_lt {B : Nat} {l : List Nat} (h : Digs B l) : val B l < B ^ l.length := by
  induction l with
  | nil => simp
  | cons x l ih =>
    have h1 := ih (fun d hd => h d (by simp [hd]))
    have h2 := h x (by simp)
    rw [val_cons, List.length_cons, Nat.pow_succ]
    have h3 : B * (val B l + 1) ≤ B * B ^ l.length := Nat.mul_le_mul_left _ h1
    rw [Nat.mul_add, Nat.mul_comm B (B ^ l.length)] at h3
    omega
/-- No zero at the end. -/
def Trim (l : List Nat) : Prop := l.getLast? ≠ some 0
theorem Trim.nil : Trim [] := by simp [Trim]
theorem Trim.snoc {l : List Nat} {d : Nat} (h : d ≠ 0) : Trim (l ++ [d]) := by simp [Trim, h]
theorem Trim.drop {l : List Nat} (h : Trim l) (k : Nat) : Trim (l.drop k) := by
  unfold Trim at *
  rw [List.getLast?_drop]
  split
  · simp
  · exact h
/-- The list without the zeros at its end. -/
def trim : List Nat → List Nat
  | [] => []
  | d :: l => match trim l with
    | [] => if d = 0 then [] else [d]
    | x :: t => d :: x :: t
theorem trim_cons (d : Nat) (l : List Nat) : trim (d :: l) = if d = 0 ∧ trim l = [] then [] else d :: trim l := by
  rw [trim]
  split
  · rename_i h
    by_cases hd : d = 0 <;> simp [h, hd]
  · rename_i h
    simp [h]
theorem trim_snoc_zero (l : List Nat) : trim (l ++ [0]) = trim l := by
  induction l with
  | nil => rfl
  | cons x l ih => rw [List.cons_append, trim_cons, trim_cons, ih]
theorem trim_snoc_pos (l : List Nat) {d : Nat} (h : d ≠ 0) : trim (l ++ [d]) = l ++ [d] := by
  induction l with
  | nil => simp [trim, h]
  | cons x l ih => rw [List.cons_append, trim_cons, ih]; simp
theorem trim_Trim (l : List Nat) : Trim (trim l) := by
  induction l with
  | nil => exact Trim.nil
  | cons x l ih =>
    rw [trim_cons]
    split
    · exact Trim.nil
    · rename_i h
      unfold Trim at *
      cases hl : trim l with
      | nil => rw [hl] at h; simp at h ⊢; exact h
      | cons y t => rw [hl] at ih; simpa using ih
theorem val_trim (B : Nat) (l : List Nat) : val B (trim l) = val B l := by
  induction l with
  | nil => rfl
  | cons x l ih =>
    rw [trim_cons, val_cons]
    split
    · rename_i h
      rw [h.2] at ih
      rw [← ih, h.1]; simp
    · rw [val_cons, ih]
theorem trim_digs {B : Nat} {l : List Nat} (h : Digs B l) : Digs B (trim l) := by
  induction l with
  | nil => exact Digs.nil B
  | cons x l ih =>
    rw [trim_cons]
    split
    · exact Digs.nil B
    · exact Digs.cons (h x (by simp)) (ih (fun d hd => h d (by simp [hd])))
theorem trim_take (l : List Nat) : trim l = l.take (trim l).length := by
  induction l with
  | nil => rfl
  | cons x l ih =>
    rw [trim_cons]
    split
    · simp
    · rw [List.length_cons, List.take_succ_cons, ← ih]
theorem trim_len (l : List Nat) : (trim l).length ≤ l.length := by
  have := congrArg List.length (trim_take l)
  rw [List.length_take] at this
  omega
/-- One step of trimming, by the last digit of the first k. -/
theorem trim_step {l : List Nat} {k d : Nat} (h : l[k]? = some d) (hd : d = 0) : trim (l.take (k + 1)) = trim (l.take k) := by
  rw [List.take_add_one, h, Option.toList_some, hd, trim_snoc_zero]
theorem trim_stop {l : List Nat} {k d : Nat} (h : l[k]? = some d) (hd : d ≠ 0) : trim (l.take (k + 1)) = l.take (k + 1) := by
  rw [List.take_add_one, h, Option.toList_some, trim_snoc_pos _ hd]

/-- l is THE list of digits of n. -/
structure Num (B : Nat) (l : List Nat) (n : Nat) : Prop where
  digs : Digs B l
  trim : Trim l
  val : val B l = n
theorem Num.zero (B : Nat) : Num B [] 0 := ⟨Digs.nil B, Trim.nil, rfl⟩
theorem Num.of_trim {B : Nat} {l : List Nat} (h : Digs B l) : Num B (Dig.trim l) (Dig.val B l) := ⟨trim_digs h, trim_Trim l, val_trim B l⟩
theorem val_pos {B : Nat} {l : List Nat} (hB : 1 ≤ B) (h : Trim l) (hn : l ≠ []) : B ^ (l.length - 1) ≤ val B l := by
  rcases List.eq_nil_or_concat l with rfl | ⟨a, d, rfl⟩
  · exact absurd rfl hn
  · rw [List.concat_eq_append] at h ⊢
    have hd : d ≠ 0 := fun e => h (by simp [e])
    rw [val_snoc, List.length_append, List.length_singleton, Nat.add_sub_cancel]
    exact Nat.le_trans (Nat.le_mul_of_pos_right _ (by omega)) (Nat.le_add_left _ _)
theorem Num.nil_iff {B : Nat} {l : List Nat} {n : Nat} (hB : 1 ≤ B) (h : Num B l n) : l = [] ↔ n = 0 := by
  constructor
  · intro e; subst e; exact h.val.symm
  · intro e
    rcases Decidable.em (l = []) with h1 | h1
    · exact h1
    · have h2 := val_pos hB h.trim h1
      have h3 : 0 < B ^ (l.length - 1) := Nat.pow_pos hB
      rw [h.val] at h2; omega
theorem Num.len_lt {B : Nat} (hB : 2 ≤ B) {a b : List Nat} {m n : Nat} (ha : Num B a m) (hb : Num B b n) (h : a.length < b.length) : m < n := by
  have h1 := val_lt ha.digs
  have h2 := val_pos (B := B) (by omega) hb.trim (fun e => by simp [e] at h)
  rw [ha.val] at h1
  rw [hb.val] at h2
  exact Nat.lt_of_lt_of_le h1 (Nat.le_trans (Nat.pow_le_pow_right (by omega) (by omega)) h2)
/-- A number below B^k has at most k digits, and the other way round. -/
theorem Num.len_le {B : Nat} (hB : 2 ≤ B) {a : List Nat} {m k : Nat} (ha : Num B a m) (h : m < B ^ k) : a.length ≤ k := by
  rcases Decidable.em (a = []) with h1 | h1
  · simp [h1]
  · have h2 := val_pos (B := B) (by omega) ha.trim h1
    rw [ha.val] at h2
    rcases Nat.lt_or_ge k a.length with h3 | h3
    · have := Nat.pow_le_pow_right (n := B) (by omega) (show k ≤ a.length - 1 by omega)
      omega
    · exact h3
theorem Num.lt {B : Nat} {a : List Nat} {m k : Nat} (hB : 1 ≤ B) (ha : Num B a m) (h : a.length ≤ k) : m < B ^ k := by
  have := val_lt ha.digs
  rw [ha.val] at this
  exact Nat.lt_of_lt_of_le this (Nat.pow_le_pow_right hB h)
/-- The first difference from the top decides. -/
theorem val_lt_of {B : Nat} {a b : List Nat} (ha : Digs B a) (hl : a.length = b.length) {k x y : Nat} (hx : a[k]? = some x) (hy : b[k]? = some y) (hd : a.drop (k + 1) = b.drop (k + 1)) (h : x < y) : val B a < val B b := by
  have hk := (List.getElem?_eq_some_iff.1 hx).1
  rw [val_split B a (k + 1) (by omega), val_split B b (k + 1) (by omega), hd, val_take hx, val_take hy]
  have h1 := val_lt (ha.take k)
  rw [List.length_take, Nat.min_eq_left (by omega)] at h1
  have h2 : B ^ k * (x + 1) ≤ B ^ k * y := Nat.mul_le_mul_left _ h
  rw [Nat.mul_add] at h2
  omega
theorem drop_step {a b : List Nat} {k x : Nat} (hx : a[k]? = some x) (hy : b[k]? = some x) (hd : a.drop (k + 1) = b.drop (k + 1)) : a.drop k = b.drop k := by
  obtain ⟨h1, e1⟩ := List.getElem?_eq_some_iff.1 hx
  obtain ⟨h2, e2⟩ := List.getElem?_eq_some_iff.1 hy
  rw [List.drop_eq_getElem_cons h1, List.drop_eq_getElem_cons h2, e1, e2, hd]
theorem Num.uniq {B : Nat} (hB : 2 ≤ B) : ∀ {a b : List Nat} {n : Nat}, Num B a n → Num B b n → a = b := by
  intro a b n ha hb
  have hl : a.length = b.length := by
    rcases Nat.lt_trichotomy a.length b.length with h | h | h
    · have := Num.len_lt hB ha hb h; omega
    · exact h
    · have := Num.len_lt hB hb ha h; omega
  have hv : Dig.val B a = Dig.val B b := by rw [ha.val, hb.val]
  have key : ∀ k, k ≤ a.length → a.drop (a.length - k) = b.drop (a.length - k) := by
    intro k
    induction k with
    | zero => intro _; rw [Nat.sub_zero, List.drop_of_length_le (Nat.le_refl _), List.drop_of_length_le (by omega)]
    | succ k ih =>
      intro hk
      have h1 := ih (by omega)
      rw [show a.length - k = a.length - (k + 1) + 1 by omega] at h1
      have hx := List.getElem?_eq_getElem (l := a) (i := a.length - (k + 1)) (by omega)
      have hy := List.getElem?_eq_getElem (l := b) (i := a.length - (k + 1)) (by omega)
      rcases Nat.lt_trichotomy (a[a.length - (k + 1)]'(by omega)) (b[a.length - (k + 1)]'(by omega)) with h | h | h
      · have := val_lt_of ha.digs hl hx hy h1 h; omega
      · rw [← h] at hy; exact drop_step hx hy h1
      · have := val_lt_of hb.digs hl.symm hy hx h1.symm h; omega
  have := key a.length (Nat.le_refl _)
  simpa using this

/-- The cells of numbers. -/
def nv (k : IntKind) (l : List Nat) : List Value := l.map (fun n : Nat => Value.int k n)
@[simp] theorem nv_length (k : IntKind) (l : List Nat) : (nv k l).length = l.length := by simp [nv]
theorem nv_append (k : IntKind) (a b : List Nat) : nv k (a ++ b) = nv k a ++ nv k b := by simp [nv]
theorem nv_at {k : IntKind} {l : List Nat} {i : Nat} {u : Value} (h : (nv k l)[i]? = some u) : ∃ z, l[i]? = some z ∧ u = .int k (z : Nat) := by
  simp only [nv, List.getElem?_map, Option.map_eq_some_iff] at h
  obtain ⟨c, h1, h2⟩ := h
  exact ⟨c, h1, h2.symm⟩
theorem nv_one {k : IntKind} (l : List Nat) : ∀ u ∈ nv k l, u.oneCell' = true := by
  intro u hu
  obtain ⟨_, _, rfl⟩ := List.mem_map.1 hu
  rfl
theorem nv_take (k : IntKind) (l : List Nat) (i : Nat) : (nv k l).take i = nv k (l.take i) := by simp [nv, List.map_take]
theorem nv_drop (k : IntKind) (l : List Nat) (i : Nat) : (nv k l).drop i = nv k (l.drop i) := by simp [nv, List.map_drop]
theorem nv_set (k : IntKind) (l : List Nat) (i d : Nat) : (nv k l).set i (.int k (d : Nat)) = nv k (l.set i d) := by simp [nv, List.map_set]
end Go.Dig
