/- The parts Mem, MemIn, PureHash, Base, Hash, Hash2, Hash3, Pure, PureRead, Reader, Reader2, RowV, Wr, MemSet, MemMk, RegInv, MemRes, Typed, TypedOps, TyW, TyOps2, TyOps3 of the proof, in one text. -/
import Derived.WalkKit
import Derived.WalkSpells
import Derived.WalkLawsBesides
import Derived.Maps.AppendAt
import Derived.Deep.AppendLies
import Derived.Deep.Draws
import Derived.Lib.Hide
import Derived.RangeFuncNested
import Derived.RangeFuncBound
import Derived.RangeFuncCalls
import Derived.RangeFuncLeaves
import Derived.Shelf.Abstract
import Derived.Shelf.RegionOpen
import Derived.OwnWalkIn
import Derived.TacticsInMore
import Derived.LoopNIn
import Derived.LoopIn
import Derived.Lib.ConvBytes
import Derived.PlainAid
import Derived.Test.YtbocpkjajocpiaaGreatDoorProg
import Derived.Deep.QuietTactic
import Derived.BigQuiet
import Derived.Deep.Upon
import Derived.Orders
import Derived.IntWalk
import Derived.LoopN
set_option linter.unusedSimpArgs false
set_option linter.unusedVariables false

namespace Go.Mem
set_option linter.unusedVariables false
open Go.RowKit

/-- What a call changes at most: the blocks of S, and new ones. -/
structure Chg (S : Nat → Prop) (w w' : World) : Prop where
  os : w'.os = w.os
  tape : w'.tape = w.tape
  output : w'.output = w.output
  size : w.heap.size ≤ w'.heap.size
  block : ∀ k, k < w.heap.size → ¬ S k → w'.heap[k]? = w.heap[k]?

/-- Nothing that was there has changed. -/
abbrev New (w w' : World) : Prop := Chg (fun _ => False) w w'

section
variable {S T : Nat → Prop} {w w' w'' : World}
theorem Chg.refl (S : Nat → Prop) (w : World) : Chg S w w := ⟨rfl, rfl, rfl, Nat.le_refl _, fun _ _ _ => rfl⟩
theorem Chg.trans (h : Chg S w w') (h' : Chg T w' w'') (hs : ∀ k, k < w.heap.size → T k → S k) : Chg S w w'' :=
  ⟨h'.os.trans h.os, h'.tape.trans h.tape, h'.output.trans h.output, Nat.le_trans h.size h'.size,
    fun k hk hn => (h'.block k (Nat.lt_of_lt_of_le hk h.size) (fun ht => hn (hs k hk ht))).trans (h.block k hk hn)⟩
theorem Chg.new (h : Chg S w w') (h' : New w' w'') : Chg S w w'' := h.trans h' (fun _ _ hf => hf.elim)
theorem Chg.mono (h : Chg S w w') (hs : ∀ k, k < w.heap.size → S k → T k) : Chg T w w' :=
  ⟨h.os, h.tape, h.output, h.size, fun k hk hn => h.block k hk (fun hS => hn (hs k hk hS))⟩
theorem Chg.drew (h : Chg S w w') : Chg S w w'.drew := ⟨h.os, h.tape, h.output, h.size, h.block⟩
theorem Chg.drewN (h : Chg S w w') (n : Nat) : Chg S w (w'.drewN n) := ⟨h.os, h.tape, h.output, h.size, h.block⟩
theorem Chg.alloc (h : Chg S w w') (o : Obj) : Chg S w (w'.alloc o) :=
  ⟨h.os, h.tape, h.output, Nat.le_trans h.size (by simp), fun k hk hn => (Below.heap_alloc w' o k (Nat.lt_of_lt_of_le hk h.size)).trans (h.block k hk hn)⟩
theorem Chg.setCell (h : Chg S w w') {p : Addr} (hp : p.block < w.heap.size → S p.block) (u : Value) : Chg S w (w'.setCell p u) :=
  ⟨h.os, h.tape, h.output, Nat.le_trans h.size (by simp [World.setCell]), fun k hk hn => (Below.heap_setCell w' p u k (fun e => hn (by subst e; exact hp hk))).trans (h.block k hk hn)⟩
theorem Chg.grown (h : Chg S w w') {row : Option Nat} (hg : w'.grownBy w'' row) (hr : ∀ k, row = some k → k < w.heap.size → S k) : Chg S w w'' :=
  ⟨hg.os.trans h.os, hg.tape.trans h.tape, hg.output.trans h.output, Nat.le_trans h.size hg.size,
    fun k hk hn => (hg.block k (Nat.lt_of_lt_of_le hk h.size) (fun e => hn (hr k e.symm hk))).trans (h.block k hk hn)⟩
theorem Chg.below (h : Chg S w w') {B : Nat} (hs : ∀ k, S k → B ≤ k) (hB : B ≤ w.heap.size) : Below B w w' :=
  ⟨h.os, h.tape, h.output, h.size, fun k hk => h.block k (by omega) (fun hS => by have := hs k hS; omega)⟩
theorem New.below (h : New w w') : Below w.heap.size w w' := Chg.below h (fun _ hf => hf.elim) (Nat.le_refl _)
theorem New.of_below (h : Below w.heap.size w w') : New w w' := ⟨h.os, h.tape, h.output, h.size, fun k hk _ => h.block k hk⟩
theorem Chg.cell (h : Chg S w w') {p : Addr} {u : Value} (hc : w.cell? p = some u) (hn : ¬ S p.block) : w'.cell? p = some u :=
  (World.cell?_of_block (h.block p.block (World.block_lt_of_cell? w p hc) hn)).trans hc
theorem Chg.heap (h : Chg S w w') {g : Nat} {o : Obj} (hc : w.heap[g]? = some o) (hn : ¬ S g) : w'.heap[g]? = some o :=
  (h.block g (Array.getElem?_eq_some_iff.1 hc).1 hn).trans hc
/-- What the call leaves of its own: all that has changed lies at N or behind it. -/
theorem Chg.own (h : Chg S w w') (hs : ∀ k, k < w.heap.size → ¬ S k) : New w w' := h.mono (fun k hk hS => hs k hk hS)
end

/-- The block that a slice's address lies in. -/
def blk (A : Option Addr) : Option Nat := A.map (·.block)

/-- A slice whose n one-cell elements are xs. -/
def Rd (w : World) (A : Option Addr) (n : Nat) (xs : List Value) : Prop :=
  xs.length = n ∧ (0 < n → ∃ ad, A = some ad ∧ ∀ j u, xs[j]? = some u → w.cell? (ad.add j) = some u)

theorem block_add (a : Addr) (n : Nat) : (a.add n).block = a.block := by unfold Addr.add; split <;> rfl
theorem add_add' (a : Addr) (i j : Nat) : (a.add i).add j = a.add (i + j) := by
  unfold Addr.add
  by_cases hi : i = 0 <;> by_cases hj : j = 0 <;> simp [hi, hj, Nat.add_assoc]

section
variable {S : Nat → Prop} {w w' : World} {A : Option Addr} {n : Nat} {xs : List Value}
theorem Rd.nil (w : World) (A : Option Addr) : Rd w A 0 [] := ⟨rfl, fun h => absurd h (by omega)⟩
theorem Rd.len (h : Rd w A n xs) : xs.length = n := h.1
theorem Rd.at_ {k : Nat} (h : Rd w A n xs) (hk : k < n) : ∃ ad u, A = some ad ∧ xs[k]? = some u ∧ w.cell? (ad.add k) = some u := by
  obtain ⟨ad, e, hc⟩ := h.2 (by omega)
  have hl : k < xs.length := by have := h.1; omega
  exact ⟨ad, xs[k], e, List.getElem?_eq_getElem hl, hc k _ (List.getElem?_eq_getElem hl)⟩
theorem Rd.chg (h : Rd w A n xs) (hc : Chg S w w') (hs : ∀ k, blk A = some k → k < w.heap.size → ¬ S k) : Rd w' A n xs :=
  ⟨h.1, fun hn => by
    obtain ⟨ad, rfl, hcell⟩ := h.2 hn
    refine ⟨ad, rfl, fun j u hu => ?_⟩
    have h1 := hcell j u hu
    have hlt := World.block_lt_of_cell? w _ h1
    rw [block_add] at hlt
    exact hc.cell h1 (by rw [block_add]; exact hs ad.block rfl hlt)⟩
theorem Rd.new (h : Rd w A n xs) (hc : New w w') : Rd w' A n xs := h.chg hc (fun _ _ _ hf => hf)
theorem Rd.of_own {base : Nat} {e : TypeId} {c : Nat} (h : w.ownsRow base e 1 (.slice A n c) n xs) : Rd w A n xs := by
  refine ⟨by simpa using h.1, fun hn => ?_⟩
  obtain ⟨g, cap, hv, _, hlt⟩ := h.form hn
  have hA : A = some ⟨g, 0, none⟩ := by injection hv
  subst hA
  exact ⟨_, rfl, h.cells (g := g) rfl⟩
theorem Rd.take (h : Rd w A n xs) {k : Nat} (hk : k ≤ n) : Rd w A k (xs.take k) :=
  ⟨by rw [List.length_take, h.1]; omega, fun hn => by
    obtain ⟨ad, rfl, hc⟩ := h.2 (by omega)
    refine ⟨ad, rfl, fun j u hu => hc j u ?_⟩
    rw [List.getElem?_take] at hu
    split at hu
    · exact hu
    · cases hu⟩
theorem Rd.drop (h : Rd w A n xs) {k : Nat} (hk : k ≤ n) : Rd w (A.map (·.add k)) (n - k) (xs.drop k) :=
  ⟨by rw [List.length_drop, h.1], fun hn => by
    obtain ⟨ad, rfl, hc⟩ := h.2 (by omega)
    refine ⟨ad.add k, rfl, fun j u hu => ?_⟩
    rw [add_add']
    exact hc _ u (by rw [← hu, List.getElem?_drop])⟩
theorem Rd.cut (h : Rd w A n xs) {k cap : Nat} (hk : k ≤ n) (hc : n ≤ cap) : Rd w (if cap = k then A else A.map (·.add k)) (n - k) (xs.drop k) := by
  by_cases e : cap = k
  · have hn : n - k = 0 := by omega
    rw [if_pos e, hn]
    have : xs.drop k = [] := List.drop_eq_nil_of_le (by rw [h.1]; omega)
    rw [this]; exact Rd.nil w A
  · rw [if_neg e]; exact h.drop hk
end

/-- The slice type t has the one-cell element type e, with zero value z and that many bytes. -/
def Elem (P : Program) (t e : TypeId) (z : Value) (bytes : Nat) : Prop :=
  P.underlying t = some (.slice e) ∧ (∃ i, P.info? e = some i ∧ i.zero = some z ∧ i.size = 1 ∧ i.bytes = bytes) ∧ z.cells.size = 1

theorem Elem.mk' {P : Program} {t e : TypeId} {z : Value} {bytes : Nat} (h : P.underlying t = some (.slice e))
    (hi : (P.info? e).map (fun i => (i.zero, i.size, i.bytes)) = some (some z, 1, bytes)) (hz : z.cells.size = 1) : Elem P t e z bytes :=
  ⟨h, info_parts hi, hz⟩

theorem ownBlock_slice (A : Option Addr) (n c : Nat) : (Value.slice A n c).ownBlock = blk A := by cases A <;> rfl

section
variable {P : Program} {w : World} {base : Nat} {t e : TypeId} {z : Value} {bytes : Nat}

theorem own_slice {v : Value} {n : Nat} {xs : List Value} (h : w.ownsRow base e 1 v n xs) : ∃ A c, v = .slice A n c := by
  rcases h.2 with ⟨rfl, rfl⟩ | ⟨g, cap, cur, rfl, _⟩
  · exact ⟨_, _, rfl⟩
  · exact ⟨_, _, rfl⟩

theorem own_blk_le {A : Option Addr} {n c : Nat} {xs : List Value} (h : w.ownsRow base e 1 (.slice A n c) n xs) {k : Nat} (hk : blk A = some k) : base ≤ k ∧ k < w.heap.size :=
  h.lt k (by rw [ownBlock_slice]; exact hk)

theorem own_cap {A : Option Addr} {n c : Nat} {xs : List Value} (h : w.ownsRow base e 1 (.slice A n c) n xs) : n ≤ c ∧ c ≤ maxLen := by
  rcases h.2 with ⟨hv, rfl⟩ | ⟨g, cap, cur, hv, _, _, h1, h2, _⟩
  · injection hv with _ _ hc; subst hc; exact ⟨Nat.le_refl _, Nat.zero_le _⟩
  · injection hv with _ _ hc; subst hc; exact ⟨h1, h2⟩

theorem own_chg {w' : World} {S : Nat → Prop} {A : Option Addr} {n c : Nat} {xs : List Value} (h : w.ownsRow base e 1 (.slice A n c) n xs) (hc : Chg S w w') (hs : ∀ k, blk A = some k → ¬ S k) : w'.ownsRow base e 1 (.slice A n c) n xs := by
  refine ⟨h.1, ?_⟩
  rcases h.2 with h0 | ⟨g, cap, cur, hv, hb, hg, r⟩
  · exact .inl h0
  · refine .inr ⟨g, cap, cur, hv, hb, ?_, r⟩
    have hA : A = some ⟨g, 0, none⟩ := by injection hv
    exact hc.heap hg (hs g (by rw [hA]; rfl))

/-- append, whatever the source: nil, empty or not. -/
theorem run_app (hE : Elem P t e z bytes) (ty : TypeId) {A0 : Option Addr} {n c0 : Nat} {xs : List Value} (hown : w.ownsRow base e 1 (.slice A0 n c0) n xs)
    {A : Option Addr} {m c : Nat} {news : List Value} (hr : Rd w A m news) (h1 : ∀ u ∈ news, u.oneCell' = true)
    (h63 : n + m ≤ maxLen) (hbytes : (n + m) * bytes ≤ 140737488355328) (hbase : base ≤ w.heap.size) :
    ∃ A' c' w', (Builtin.append_ #[t, t] ty #[.slice A0 n c0, .slice A m c]).run P w = .ok (.slice A' (n + m) c') w' ∧
      w'.ownsRow base e 1 (.slice A' (n + m) c') (n + m) (xs ++ news) ∧ w.grownBy w' (blk A0) ∧ (blk A' = blk A0 ∨ blk A' = some w.heap.size) := by
  obtain ⟨ht, ⟨i, hi, hz, hsize, hby⟩, hzs⟩ := hE
  rcases A with _ | ad
  · have hm : m = 0 := by
      rcases Nat.eq_zero_or_pos m with h0 | h0
      · exact h0
      · obtain ⟨ad, h, _⟩ := hr.2 h0
        cases h
    subst hm
    have hn : news = [] := List.eq_nil_of_length_eq_zero hr.1
    subst hn
    refine ⟨A0, c0, w, ?_, by simpa using hown, World.grownBy.refl w _, .inl rfl⟩
    have hcap := (own_cap hown).1
    rcases hown.2 with ⟨hv, rfl⟩ | ⟨g, cap, cur, hv, _, _, hnc, _⟩
    · injection hv with h1 _ h3
      subst h1 h3
      simp [Builtin.append_, run_underlying ht, sizeOf, typeInfo, hi, Builtin.lenOf, Builtin.firstCells]
    · injection hv with h1 _ h3
      subst h1 h3
      simp [Builtin.append_, run_underlying ht, sizeOf, typeInfo, hi, Builtin.lenOf, Builtin.firstCells, hnc, storeCells]
  · have hcells : ∀ j u, news[j]? = some u → w.cell? (ad.add j) = some u := by
      intro j u hu
      rcases Nat.eq_zero_or_pos m with h0 | h0
      · subst h0
        have hn : news = [] := List.eq_nil_of_length_eq_zero hr.1
        subst hn
        simp at hu
      · obtain ⟨ad', h, hc⟩ := hr.2 h0
        injection h with h
        subst h
        exact hc j u hu
    obtain ⟨v', w', hrun, h2, h3, _, h5⟩ := run_append_own_at (P := P) w base t ty e i z 1 bytes ht hi hz hsize hby hzs (by omega) _ n xs hown ad m c news (by simpa using hr.1) hcells h1 h63 hbytes hbase
    obtain ⟨A', c', rfl⟩ := own_slice h2
    rw [ownBlock_slice] at h3 h5
    rw [ownBlock_slice] at h5
    exact ⟨A', c', w', hrun, h2, h3, h5⟩

theorem wpList_app (hE : Elem P t e z bytes) {ops : Array Oper} {rest : List Oper} {o : Oper} {a : Act} {Q : Exit → Act → World → Prop} (hgd : o.guard = none) (s x : Operand)
    (ho : o.op = .call { callee := .builtin .append, args := #[s, x], argTypes := #[t, t] })
    {A0 : Option Addr} {n c0 : Nat} {xs : List Value} (hs : a.eval s = .slice A0 n c0) (hown : w.ownsRow base e 1 (.slice A0 n c0) n xs)
    {A : Option Addr} {m c : Nat} {news : List Value} (hx : a.eval x = .slice A m c) (hr : Rd w A m news) (h1 : ∀ u ∈ news, u.oneCell' = true)
    (h63 : n + m ≤ maxLen) (hbytes : (n + m) * bytes ≤ 140737488355328) (hbase : base ≤ w.heap.size)
    (h : ∀ A' c' w', w'.ownsRow base e 1 (.slice A' (n + m) c') (n + m) (xs ++ news) → w.grownBy w' (blk A0) → (blk A' = blk A0 ∨ blk A' = some w.heap.size) → wpList P ops Q rest (a.put o.dst (.slice A' (n + m) c')) w') :
    wpList P ops Q (o :: rest) a w := by
  refine wpList_plain hgd fun K hK => ?_
  obtain ⟨A', c', w', hrun, h2, h3, h4⟩ := run_app (P := P) hE o.type hown hr h1 h63 hbytes hbase
  unfold Oper.wp execOp
  simp only [ho, resolve, invoke, builtin, Sem.run_bind, Sem.run_pure, Result.andThen_ok, List.map_toArray, List.map_cons, List.map_nil, hs, hx]
  rw [hrun]
  exact hK _ _ (h A' c' w' h2 h3 h4)
end

/-- The address of x[k:]. -/
def cutA (A : Option Addr) (c k : Nat) : Option Addr := if c = k then A else A.map (·.add k)
theorem blk_cutA (A : Option Addr) (c k : Nat) : blk (cutA A c k) = blk A := by
  unfold cutA blk
  split
  · rfl
  · cases A <;> simp [block_add]
theorem Rd.cutA {w : World} {A : Option Addr} {n : Nat} {xs : List Value} (h : Rd w A n xs) {k cap : Nat} (hk : k ≤ n) (hc : n ≤ cap) : Rd w (cutA A cap k) (n - k) (xs.drop k) := h.cut hk hc
theorem run_cut {P : Program} {t e : TypeId} {z : Value} {bytes : Nat} (hE : Elem P t e z bytes) (kl : IntKind) (A : Option Addr) (n c k : Nat) (i : Int) (hi : i = (k : Int)) (hk : k ≤ n) (W : World) :
    (Instr.slice t (.slice A n c) (some (.int kl i)) none none).run P W = .ok (.slice (cutA A c k) (n - k) (c - k)) W := by
  obtain ⟨ht, ⟨info, hi1, hi2, hi3, hi4⟩, _⟩ := hE
  have hel : P.elem t = e := by simp [Program.elem, ht]
  subst hi
  have := run_slice_l (P := P) W t A n c (by rw [hel]; exact ht) kl (k : Int) (by omega) (by omega)
  rw [this, hel]
  simp [sizeOf, typeInfo, hi1, hi3, sliced, cutA]
theorem run_upto {P : Program} {t e : TypeId} {z : Value} {bytes : Nat} (hE : Elem P t e z bytes) (kl : IntKind) (A : Option Addr) (n c k : Nat) (i : Int) (hi : i = (k : Int)) (hk : k ≤ c) (W : World) :
    (Instr.slice t (.slice A n c) none (some (.int kl i)) none).run P W = .ok (.slice A k c) W := by
  obtain ⟨ht, ⟨info, hi1, hi2, hi3, hi4⟩, _⟩ := hE
  have hel : P.elem t = e := by simp [Program.elem, ht]
  subst hi
  have := run_slice_h (P := P) W t A n c (by rw [hel]; exact ht) kl (k : Int) (by omega) (by omega)
  rw [this, hel]
  have e1 : A.map (fun x : Addr => x.add 0) = A := by cases A <;> simp [Addr.add]
  simp [sizeOf, typeInfo, hi1, hi3, sliced, e1]

/-- A block just laid, read as a slice. -/
theorem Rd.lit {w : World} (cs : List Value) {e : TypeId} {n : Nat} (hn : cs.length = n) : Rd (w.alloc (.cells cs.toArray e)) (some ⟨w.heap.size, 0, none⟩) n cs := by
  refine ⟨hn, fun _ => ⟨_, rfl, fun j u hu => ?_⟩⟩
  rw [Addr.add_lit, Nat.zero_add]
  exact (cell_of_row _ w.heap.size j _ e (0, 0) (heap_alloc_new w _)).trans (by simpa using hu)

/-- A block of one cell, just laid, read as a slice of one element. -/
theorem Rd.one {w : World} {v : Value} {e : TypeId} : Rd (w.alloc (.cells #[v] e)) (some ⟨w.heap.size, 0, none⟩) 1 [v] := by
  refine ⟨rfl, fun _ => ⟨_, rfl, fun j u hu => ?_⟩⟩
  match j, hu with
  | 0, hu =>
    simp at hu; subst hu
    show (w.alloc (.cells #[v] e)).cell? ((⟨w.heap.size, 0, none⟩ : Addr).add 0) = some v
    rw [Addr.add_lit]
    exact cell_of_row _ w.heap.size 0 _ e (0, 0) (heap_alloc_new w _)

/-! ### a block that is known whole -/
def Blk (w : World) (g : Nat) (t : TypeId) (cs : Array Value) : Prop := w.heap[g]? = some (.cells cs t (0, 0))
section
variable {w w' : World} {g : Nat} {t : TypeId} {cs : Array Value} {S : Nat → Prop}
theorem Blk.lt (h : Blk w g t cs) : g < w.heap.size := (Array.getElem?_eq_some_iff.1 h).1
theorem Blk.cell (h : Blk w g t cs) (i : Nat) {u : Value} (hu : cs[i]? = some u) : w.cell? ⟨g, i, none⟩ = some u := (cell_of_row w g i cs t (0, 0) h).trans hu
theorem Blk.frozen (h : Blk w g t cs) (i : Nat) : w.frozen? ⟨g, i, none⟩ = false := by
  unfold Blk at h
  simp [World.frozen?, h]
theorem Blk.new (w : World) (t : TypeId) (cs : Array Value) : Blk (w.alloc (.cells cs t)) w.heap.size t cs := heap_alloc_new w _
theorem Blk.drew (h : Blk w g t cs) : Blk w.drew g t cs := h
theorem Blk.drewN (h : Blk w g t cs) (n : Nat) : Blk (w.drewN n) g t cs := h
theorem Blk.alloc (h : Blk w g t cs) (o : Obj) : Blk (w.alloc o) g t cs := (Below.heap_alloc w o g h.lt).trans h
theorem Blk.set_ (h : Blk w g t cs) (i : Nat) (u : Value) : Blk (w.setCell ⟨g, i, none⟩ u) g t (cs.setIfInBounds i u) := by
  unfold Blk at h ⊢
  simp [World.setCell, Array.getElem?_modify, h]
theorem Blk.far (h : Blk w g t cs) {p : Addr} (hp : g ≠ p.block) (u : Value) : Blk (w.setCell p u) g t cs := (Below.heap_setCell w p u g hp).trans h
theorem Blk.chg (h : Blk w g t cs) (hc : Chg S w w') (hg : ¬ S g) : Blk w' g t cs := Chg.heap hc h hg
theorem Blk.grown {row : Option Nat} (h : Blk w g t cs) (hb : w.grownBy w' row) (hg : row ≠ some g) : Blk w' g t cs := (hb.block g h.lt (fun e => hg e.symm)).trans h
theorem Blk.ne_own {base : Nat} {e : TypeId} {A : Option Addr} {n c : Nat} {xs : List Value} (h : Blk w g t cs) (ho : w.ownsRow base e 1 (.slice A n c) n xs) (hne : t ≠ e) : blk A ≠ some g := by
  intro hA
  rcases ho.2 with ⟨hv, _⟩ | ⟨g', cap, cur, hv, _, hh, _⟩
  · injection hv with h1; subst h1; cases hA
  · injection hv with h1
    subst h1
    have : g' = g := by simpa [blk] using hA
    subst this
    unfold Blk at h
    rw [h] at hh
    injection hh with hh
    injection hh with _ ht
    exact hne ht
end

/-! ### bytes -/
/-- The cell of a byte. -/
def By (c : UInt8) : Value := .int .u8 (c.toNat : Int)
def bs (l : List UInt8) : List Value := l.map By
@[simp] theorem bs_length (l : List UInt8) : (bs l).length = l.length := by simp [bs]
@[simp] theorem bs_nil : bs [] = [] := rfl
theorem bs_append (a b : List UInt8) : bs (a ++ b) = bs a ++ bs b := by simp [bs]
theorem bs_one : ∀ (l : List UInt8), ∀ u ∈ bs l, u.oneCell' = true := by
  intro l u hu
  obtain ⟨_, _, rfl⟩ := List.mem_map.1 hu
  rfl
theorem bs_take (l : List UInt8) (k : Nat) : (bs l).take k = bs (l.take k) := by simp [bs, List.map_take]
theorem bs_drop (l : List UInt8) (k : Nat) : (bs l).drop k = bs (l.drop k) := by simp [bs, List.map_drop]
theorem bs_at {l : List UInt8} {k : Nat} {u : Value} (h : (bs l)[k]? = some u) : ∃ c, l[k]? = some c ∧ u = .int .u8 (c.toNat : Int) := by
  simp only [bs, List.getElem?_map, Option.map_eq_some_iff] at h
  obtain ⟨c, h1, h2⟩ := h
  exact ⟨c, h1, h2.symm⟩
/-- The cells of ints. -/
def is (l : List Int) : List Value := l.map (Value.int .i64)

theorem is_at {l : List Int} {k : Nat} {u : Value} (h : (is l)[k]? = some u) : ∃ z, l[k]? = some z ∧ u = .int .i64 z := by
  simp only [is, List.getElem?_map, Option.map_eq_some_iff] at h
  obtain ⟨c, h1, h2⟩ := h
  exact ⟨c, h1, h2.symm⟩
@[simp] theorem is_length (l : List Int) : (is l).length = l.length := by simp [is]
theorem is_append (a b : List Int) : is (a ++ b) = is a ++ is b := by simp [is]
/-! ### min, max, string(b) -/
theorem run_min2 {P : Program} (x y m : Int) (h : (x ≤ y ∧ m = x) ∨ (y ≤ x ∧ m = y)) (ts : Array TypeId) (t : TypeId) (W : World) :
    (Builtin.min_ ts t #[.int .i64 x, .int .i64 y]).run P W = .ok (.int .i64 m) W := by
  simp [go_sem]
  split <;> omega
theorem run_max2 {P : Program} (x y m : Int) (h : (x ≤ y ∧ m = y) ∨ (y ≤ x ∧ m = x)) (ts : Array TypeId) (t : TypeId) (W : World) :
    (Builtin.max_ ts t #[.int .i64 x, .int .i64 y]).run P W = .ok (.int .i64 m) W := by
  simp [go_sem]
  split <;> omega
theorem run_tostr {P : Program} {src dst e : TypeId} (hs : P.underlying src = some (.slice e)) (he : P.underlying e = some (.int .u8)) (hd : P.underlying dst = some .string)
    {W : World} {A : Option Addr} {n c : Nat} {l : List UInt8} (hr : Rd W A n (bs l)) : (convert src dst (.slice A n c)).run P W = .ok (.string ⟨l.toArray⟩) W := by
  have hl : l.length = n := by have := hr.len; rwa [bs_length] at this
  subst hl
  cases A with
  | none =>
    have h0 : l = [] := by
      rcases Nat.eq_zero_or_pos l.length with h | h
      · exact List.eq_nil_of_length_eq_zero h
      · obtain ⟨ad, h, _⟩ := hr.2 h; cases h
    subst h0
    rw [run_convert_bytes_nil W src e hs he _ _ dst hd]
    rfl
  | some a =>
    refine run_convert_bytes_back W src dst e a c l hs he hd (fun j hj => ?_)
    obtain ⟨ad, h, hc⟩ := hr.2 (by omega)
    injection h with h
    subst h
    exact hc j _ (by simp [bs, By, hj])

/-! ### a slice of byte slices -/
/-- The values vs are slices of bytes that read as ls. -/
def Lists (W : World) (vs : List Value) (ls : List (List UInt8)) : Prop :=
  vs.length = ls.length ∧ ∀ (i : Nat) (v : Value) (l : List UInt8), vs[i]? = some v → ls[i]? = some l → ∃ A n c, v = .slice A n c ∧ n ≤ c ∧ c ≤ maxLen ∧ Rd W A n (bs l) ∧ ∀ k, blk A = some k → k < W.heap.size
theorem Lists.new {W W' : World} {vs : List Value} {ls : List (List UInt8)} (h : Lists W vs ls) (hn : New W W') : Lists W' vs ls :=
  ⟨h.1, fun i v l hv hl => by
    obtain ⟨A, n, c, h1, h2, h3, h4, h5⟩ := h.2 i v l hv hl
    exact ⟨A, n, c, h1, h2, h3, h4.new hn, fun k hk => Nat.lt_of_lt_of_le (h5 k hk) hn.size⟩⟩
theorem Lists.chg {S : Nat → Prop} {W W' : World} {vs : List Value} {ls : List (List UInt8)} (h : Lists W vs ls) (hn : Chg S W W') (hs : ∀ v ∈ vs, ∀ A n c, v = .slice A n c → ∀ k, blk A = some k → ¬ S k) : Lists W' vs ls :=
  ⟨h.1, fun i v l hv hl => by
    obtain ⟨A, n, c, h1, h2, h3, h4, h5⟩ := h.2 i v l hv hl
    exact ⟨A, n, c, h1, h2, h3, h4.chg hn (fun k hk _ => hs v (List.mem_of_getElem? hv) A n c h1 k hk), fun k hk => Nat.lt_of_lt_of_le (h5 k hk) hn.size⟩⟩
theorem Lists.nil (W : World) : Lists W [] [] := ⟨rfl, fun i v l hv _ => by simp at hv⟩
theorem Lists.snoc {W : World} {vs : List Value} {ls : List (List UInt8)} (h : Lists W vs ls) {A : Option Addr} {n c : Nat} {l : List UInt8} (hnc : n ≤ c) (hc : c ≤ maxLen) (hr : Rd W A n (bs l)) (hb : ∀ k, blk A = some k → k < W.heap.size) :
    Lists W (vs ++ [.slice A n c]) (ls ++ [l]) := by
  refine ⟨by simp [h.1], fun i v x hv hx => ?_⟩
  rw [List.getElem?_append] at hv hx
  rw [← h.1] at hx
  split at hv
  · rename_i hi
    rw [if_pos hi] at hx
    exact h.2 i v x hv hx
  · rename_i hi
    rw [if_neg hi] at hx
    have hi0 : i - vs.length = 0 := by
      have := (List.getElem?_eq_some_iff.1 hv).1
      simp at this
      omega
    rw [hi0] at hv hx
    simp at hv hx
    subst hv hx
    exact ⟨A, n, c, rfl, hnc, hc, hr, hb⟩
theorem Lists.take {W : World} {vs : List Value} {ls : List (List UInt8)} (h : Lists W vs ls) (k : Nat) : Lists W (vs.take k) (ls.take k) :=
  ⟨by simp [h.1], fun i v l hv hl => by
    rw [List.getElem?_take] at hv hl
    split at hv
    · rename_i hi
      rw [if_pos hi] at hl
      exact h.2 i v l hv hl
    · cases hv⟩

/-- The values vs are slices of bytes of the call's own (from block base on, of the element type e) that read as ls. -/
def OLists (W : World) (base : Nat) (e : TypeId) (vs : List Value) (ls : List (List UInt8)) : Prop :=
  vs.length = ls.length ∧ ∀ (i : Nat) (v : Value) (l : List UInt8), vs[i]? = some v → ls[i]? = some l → ∃ A n c, v = .slice A n c ∧ W.ownsRow base e 1 (.slice A n c) n (bs l)
theorem OLists.nil (W : World) (base : Nat) (e : TypeId) : OLists W base e [] [] := ⟨rfl, fun i v l hv _ => by simp at hv⟩
theorem OLists.new {W W' : World} {base : Nat} {e : TypeId} {vs : List Value} {ls : List (List UInt8)} (h : OLists W base e vs ls) (hn : New W W') : OLists W' base e vs ls :=
  ⟨h.1, fun i v l hv hl => by
    obtain ⟨A, n, c, h1, h2⟩ := h.2 i v l hv hl
    exact ⟨A, n, c, h1, own_chg h2 hn (fun _ _ h => h)⟩⟩
/-- A change of rows of other element types (and of new blocks) leaves them. -/
theorem OLists.chg {S : Nat → Prop} {W W' : World} {base : Nat} {e : TypeId} {vs : List Value} {ls : List (List UInt8)} (h : OLists W base e vs ls) (hn : Chg S W W') (hs : ∀ k cs, W.heap[k]? = some (.cells cs e (0, 0)) → ¬ S k) : OLists W' base e vs ls :=
  ⟨h.1, fun i v l hv hl => by
    obtain ⟨A, n, c, h1, h2⟩ := h.2 i v l hv hl
    refine ⟨A, n, c, h1, own_chg h2 hn (fun k hk => ?_)⟩
    rcases h2.2 with ⟨hv, _⟩ | ⟨g, cap, cur, hv, _, hh, _⟩
    · injection hv with hv; subst hv; cases hk
    · injection hv with hv
      subst hv
      have : g = k := by simpa [blk] using hk
      subst this
      exact hs g cur hh⟩
theorem OLists.snoc {W : World} {base : Nat} {e : TypeId} {vs : List Value} {ls : List (List UInt8)} (h : OLists W base e vs ls) {A : Option Addr} {n c : Nat} {l : List UInt8} (ho : W.ownsRow base e 1 (.slice A n c) n (bs l)) :
    OLists W base e (vs ++ [.slice A n c]) (ls ++ [l]) := by
  refine ⟨by simp [h.1], fun i v x hv hx => ?_⟩
  rw [List.getElem?_append] at hv hx
  rw [← h.1] at hx
  split at hv
  · rename_i hi
    rw [if_pos hi] at hx
    exact h.2 i v x hv hx
  · rename_i hi
    rw [if_neg hi] at hx
    have hi0 : i - vs.length = 0 := by
      have := (List.getElem?_eq_some_iff.1 hv).1
      simp at this
      omega
    rw [hi0] at hv hx
    simp at hv hx
    subst hv hx
    exact ⟨A, n, c, rfl, ho⟩
end Go.Mem

namespace Go.Mem
open Go.RowKit Go.Shelf

theorem wpListIn_app {F : Fence} {d : Nat} {P : Program} {w : World} {base : Nat} {t e : TypeId} {z : Value} {bytes : Nat} (hE : Elem P t e z bytes) {ops : Array Oper} {rest : List Oper} {o : Oper} {a : Act} {Q : Exit → Act → World → Prop} (hgd : o.guard = none) (s x : Operand)
    (ho : o.op = .call { callee := .builtin .append, args := #[s, x], argTypes := #[t, t] })
    {A0 : Option Addr} {n c0 : Nat} {xs : List Value} (hs : a.eval s = .slice A0 n c0) (hown : w.ownsRow base e 1 (.slice A0 n c0) n xs)
    {A : Option Addr} {m c : Nat} {news : List Value} (hx : a.eval x = .slice A m c) (hr : Rd w A m news) (h1 : ∀ u ∈ news, u.oneCell' = true)
    (h63 : n + m ≤ maxLen) (hbytes : (n + m) * bytes ≤ 140737488355328) (hbase : base ≤ w.heap.size)
    (h : ∀ A' c' w', w'.ownsRow base e 1 (.slice A' (n + m) c') (n + m) (xs ++ news) → w.grownBy w' (blk A0) → (blk A' = blk A0 ∨ blk A' = some w.heap.size) → wpListIn F d P ops Q rest (a.put o.dst (.slice A' (n + m) c')) w') :
    wpListIn F d P ops Q (o :: rest) a w := by
  refine wpListIn_plain hgd fun K hK => ?_
  obtain ⟨A', c', w', hrun, h2, h3, h4⟩ := run_app (P := P) hE o.type hown hr h1 h63 hbytes hbase
  unfold Oper.wpIn
  refine ⟨?_, ?_⟩
  · simp [Oper.about, ho, resolve, Target.leads, Sem.run_pure]
  · rw [Oper.semAt_plain F _ _ (by rw [ho]; intro c hc'; cases hc')]
    simp only [execOp, ho, resolve, invoke, builtin, Sem.run_bind, Sem.run_pure, Result.andThen_ok, List.map_toArray, List.map_cons, List.map_nil, hs, hx]
    rw [hrun]
    exact hK _ _ (h A' c' w' h2 h3 h4)

theorem blk_kept {W W' : World} {row : Option Nat} {g : Nat} {t : TypeId} {cs : Array Value} (hs : Blk W g t cs) (hg : W.grownBy W' row) (hr : ∀ r, row = some r → ∃ o : Obj, W.heap[r]? = some o ∧ o.isCells = false) : Blk W' g t cs :=
  hs.grown hg (fun e => by
    obtain ⟨o, ho, hc⟩ := hr g e
    unfold Blk at hs
    rw [hs] at ho
    cases ho
    simp [Obj.isCells] at hc)
theorem own_blk (g : Nat) (t : TypeId) {β : Type} (cs : β → Array Value) : Own (fun (x : β) W => Blk W g t (cs x)) := fun _ _ _ _ hs hg hr => blk_kept hs hg hr
theorem row_kept {W W' : World} {row : Option Nat} {base n c : Nat} {e : TypeId} {A : Option Addr} {xs : List Value} (hs : W.ownsRow base e 1 (.slice A n c) n xs) (hg : W.grownBy W' row) (hr : ∀ r, row = some r → ∃ o : Obj, W.heap[r]? = some o ∧ o.isCells = false) : W'.ownsRow base e 1 (.slice A n c) n xs := by
  refine ⟨hs.1, ?_⟩
  rcases hs.2 with h0 | ⟨g, cap, cur, hv, hb, hh, r⟩
  · exact .inl h0
  · refine .inr ⟨g, cap, cur, hv, hb, ?_, r⟩
    refine (hg.block g (Array.getElem?_eq_some_iff.1 hh).1 (fun e => ?_)).trans hh
    obtain ⟨o, ho, hc⟩ := hr g e.symm
    rw [hh] at ho
    cases ho
    simp [Obj.isCells] at hc
theorem conv_new (w : World) (e : TypeId) (s : ByteArray) : New w (Lib.bytesWorld w e s) :=
  ⟨rfl, rfl, rfl, by rw [Lib.bytesWorld_size]; omega, fun k hk _ => Lib.bytesWorld_at_old w e s k hk⟩
theorem conv_rd (w : World) (e : TypeId) (s : ByteArray) : Rd (Lib.bytesWorld w e s) (some ⟨w.heap.size, 0, none⟩) s.size (bs s.data.toList) := by
  refine ⟨by simp, fun _ => ⟨_, rfl, fun j u hu => ?_⟩⟩
  obtain ⟨c, hc, rfl⟩ := bs_at hu
  rw [Addr.add_lit, Nat.zero_add]
  have hj : j < s.size := by have := (List.getElem?_eq_some_iff.1 hc).1; simpa using this
  rw [Lib.bytesWorld_cell w e s j hj, List.getD_eq_getElem?_getD, hc]
  rfl

/-- The blocks of K are as they were. -/
def Keep (K : Nat → Prop) (W W' : World) : Prop := ∀ k, K k → W'.heap[k]? = W.heap[k]?
theorem Keep.refl (K : Nat → Prop) (W : World) : Keep K W W := fun _ _ => rfl
theorem Keep.trans {K : Nat → Prop} {A B C : World} (h : Keep K A B) (h' : Keep K B C) : Keep K A C := fun k hk => (h' k hk).trans (h k hk)
theorem Keep.cell {K : Nat → Prop} {W W' : World} (h : Keep K W W') {p : Addr} (hp : K p.block) : W'.cell? p = W.cell? p := World.cell?_of_block (h p.block hp)
theorem Keep.rd {K : Nat → Prop} {W W' : World} (h : Keep K W W') {A : Option Addr} {n : Nat} {xs : List Value} (hr : Rd W A n xs) (hA : ∀ k, blk A = some k → K k) : Rd W' A n xs :=
  ⟨hr.1, fun hn => by
    obtain ⟨ad, rfl, hc⟩ := hr.2 hn
    refine ⟨ad, rfl, fun j u hu => ?_⟩
    rw [h.cell (by rw [block_add]; exact hA _ rfl)]
    exact hc j u hu⟩
theorem Keep.of_chg {K S : Nat → Prop} {W W' : World} (h : Chg S W W') (hk : ∀ k, K k → k < W.heap.size ∧ ¬ S k) : Keep K W W' := fun k hK => h.block k (hk k hK).1 (hk k hK).2
/-- What only changes cells keeps everything else. -/
theorem KeepsOthers.of_grown {W W' : World} {row : Option Nat} {g : Nat} {t : TypeId} {cs : Array Value} {fz : Nat × Nat} (hg : W.grownBy W' row) (hrow : row = some g) (hb : W.heap[g]? = some (.cells cs t fz)) : KeepsOthers W W' :=
  ⟨hg.size, fun k o hk ho => (hg.block k (Array.getElem?_eq_some_iff.1 hk).1 (fun e => by
    rw [hrow] at e
    cases e
    rw [hb] at hk
    cases hk
    simp [Obj.isCells] at ho)).trans hk⟩
theorem KeepsOthers.of_app {W W' : World} {base n c : Nat} {e : TypeId} {A : Option Addr} {xs : List Value} (hs : W.ownsRow base e 1 (.slice A n c) n xs) (hg : W.grownBy W' (blk A)) : KeepsOthers W W' := by
  rcases hs.2 with ⟨hv, _⟩ | ⟨g, cap, cur, hv, hb, hh, r⟩
  · injection hv with hv
    subst hv
    exact ⟨hg.size, fun k o hk _ => (hg.block k (Array.getElem?_eq_some_iff.1 hk).1 (by simp [blk])).trans hk⟩
  · injection hv with hv
    subst hv
    exact KeepsOthers.of_grown hg rfl hh
end Go.Mem

namespace Go.Pure
open Go.RowKit

/-- A word: the bytes in little-endian order. -/
def word (l : List UInt8) : Nat := l.foldr (fun c a => a * 256 + c.toNat) 0
theorem word_nil : word [] = 0 := rfl
theorem word_cons (c : UInt8) (l : List UInt8) : word (c :: l) = word l * 256 + c.toNat := rfl
theorem word_lt (l : List UInt8) : word l < 256 ^ l.length := by
  induction l with
  | nil => simp [word_nil]
  | cons c l ih =>
    rw [word_cons, List.length_cons, Nat.pow_succ]
    have := c.toNat_lt
    omega
theorem word_lt7 {l : List UInt8} (h : l.length ≤ 7) : word l < 72057594037927936 :=
  Nat.lt_of_lt_of_le (word_lt l) (Nat.le_trans (Nat.pow_le_pow_right (by omega) h) (by decide))
theorem word_step {b : List UInt8} {p m : Nat} {c : UInt8} (h : b[p]? = some c) : word ((b.drop p).take (m + 1)) = word ((b.drop (p + 1)).take m) * 256 + c.toNat := by
  obtain ⟨hp, rfl⟩ := List.getElem?_eq_some_iff.1 h
  rw [List.drop_eq_getElem_cons hp, List.take_succ_cons, word_cons]
/-- The i-th word of bytes, and how many there are. -/
def wd (b : List UInt8) (i : Nat) : Nat := word ((b.drop (8 * i)).take 8)
def nw (b : List UInt8) : Nat := (b.length + 7) / 8
def wds (b : List UInt8) : List Nat := (List.range (nw b)).map (wd b)
theorem wds_length (b : List UInt8) : (wds b).length = nw b := by simp [wds]
def wdsTo (b : List UInt8) (k : Nat) : List Nat := (List.range k).map (wd b)
theorem wdsTo_succ (b : List UInt8) (k : Nat) : wdsTo b (k + 1) = wdsTo b k ++ [wd b k] := by simp [wdsTo, List.range_succ]
theorem wdsTo_length (b : List UInt8) (k : Nat) : (wdsTo b k).length = k := by simp [wdsTo]

theorem shl_or (w c : Nat) (hw : w < 72057594037927936) (hc : c < 256) : bits .or .u64 ((w : Int) * 256) (c : Int) = ((w * 256 + c : Nat) : Int) := by
  have e : (w : Int) * 256 = ((w * 256 : Nat) : Int) := by omega
  rw [e, u64_or_nat _ _ (by omega) (by omega)]
  have := Nat.shiftLeft_add_eq_or_of_lt (show c < 2 ^ 8 by omega) w
  rw [Nat.shiftLeft_eq] at this
  rw [show w * 256 = w * 2 ^ 8 by rfl, ← this]

theorem grp_val {b : List UInt8} {p m : Nat} {x : UInt8} (hx : b[p]? = some x) (hm : m ≤ 7) :
    bits .or .u64 ((word ((b.drop (p + 1)).take m) : Int) * 256) (IntKind.u64.wrap (x.toNat : Int)) = ((word ((b.drop p).take (m + 1)) : Nat) : Int) := by
  have hx2 := x.toNat_lt
  have h7 := word_lt7 (l := (b.drop (p + 1)).take m) (by simp; omega)
  have e : IntKind.u64.wrap (x.toNat : Int) = (x.toNat : Int) := by rw [IntKind.wrap_u64]; omega
  rw [e, shl_or _ _ h7 (by omega), word_step hx]
theorem wd_of_cnt {b : List UInt8} {k cnt len : Nat} (hl : b.length = len) (h : cnt = 8 ∨ 8 * k + cnt = len) (h8 : cnt ≤ 8) : word ((b.drop (8 * k)).take cnt) = wd b k := by
  unfold wd
  rcases h with rfl | h
  · rfl
  · rw [List.take_of_length_le (by simp; omega), List.take_of_length_le (by simp; omega)]

/-- One mixing step, in the walk's own spelling. -/
def mixI (a b : Int) : Int :=
  bits .xor .u64 (IntKind.u64.wrap (bits .xor .u64 a b * 11400714819323198485)) (IntKind.u64.wrap (bits .xor .u64 a b * 11400714819323198485) / 4294967296)
/-- The state behind some words. -/
def absorb (s : Int) (l : List Int) : Int := l.foldl mixI s
theorem absorb_snoc (s : Int) (l : List Int) (x : Int) : absorb s (l ++ [x]) = mixI (absorb s l) x := by simp [absorb]
/-- The state behind the first k of some ints. -/
def absTo (s : Int) (l : List Int) (k : Nat) : Int := absorb s ((l.take k).map IntKind.u64.wrap)
theorem absTo_succ {s : Int} {l : List Int} {k : Nat} {z : Int} (h : l[k]? = some z) : absTo s l (k + 1) = mixI (absTo s l k) (IntKind.u64.wrap z) := by
  unfold absTo; rw [List.take_add_one, h, List.map_append]; exact absorb_snoc _ _ _
theorem absTo_all (s : Int) (l : List Int) : absTo s l l.length = absorb s (l.map IntKind.u64.wrap) := by
  unfold absTo; rw [List.take_length]
/-- The hash of a label and words. -/
def sumI (label : List UInt8) (l : List Int) : Int :=
  mixI (absorb (mixI (mixI (absorb 0 ((wds label).map (fun n : Nat => (n : Int)))) label.length) l.length) (l.map IntKind.u64.wrap)) 0
/-- The hash of a label and bytes. -/
def bytesI (label b : List UInt8) : Int := sumI label ((wds b).map (fun n : Nat => wrap64 (n : Int)) ++ [(b.length : Int)])

end Go.Pure

namespace Go.Proofs.YtbocpkjajocpiaaGreatDoor
open Go.RowKit Go.Mem

theorem elemBytes : Elem Tryz.prog 81 5 (.int .u8 0) 1 := Elem.mk' Tryz.underlying81 (by kernel_rfl) rfl
theorem elemInts : Elem Tryz.prog 23 3 (.int .i64 0) 8 := Elem.mk' Tryz.underlying23 (by kernel_rfl) rfl

theorem ret_int {k : IntKind} {a b : Int} (h : a = b) : Ending.returned (.int k a) = .returned (.int k b) := by rw [h]

end Go.Proofs.YtbocpkjajocpiaaGreatDoor

namespace Go.Proofs.YtbocpkjajocpiaaGreatDoor
open Go.RowKit Go.Shelf Go.Mem Go.Pure
attribute [local go_sem] Oper.semAt_some

set_option maxHeartbeats 400000 in
theorem mix_any (a b : Int) (w : World) :
    Calls Tryz.prog 144 #[.int .u64 a, .int .u64 b] w fun e w' => e = .returned (.int .u64 (mixI a b)) ∧ w = w' := by
  go_enter Tryz.func144, Tryz.ntmps144
  go_wp2
  go_ret
  exact ⟨rfl, rfl⟩

set_option maxRecDepth 100000 in
set_option maxHeartbeats 2000000 in
/-- hash.groups's closure, for every loop body that keeps the bytes and the closure's box. -/
theorem groups1_in (n : Nat) (hn : 1 ≤ n) (l Bs : Nat) (A : Option Addr) (len cap : Nat) (b : List UInt8) (hlen : len ≤ 1000000000) (J Jx : List Nat → World → Prop)
    (hY : ∀ pre x W, J pre W → pre.length < nw b → YieldAt Fence.wide (n - 1) Tryz.prog l #[.int .u64 (x : Nat)] W fun e W' =>
      (e = .returned (.bool true) ∧ J (pre ++ [x]) W' ∧ Keep (fun k => k = Bs ∨ blk A = some k) W W') ∨ (e = .returned (.bool false) ∧ Jx (pre ++ [x]) W'))
    (W : World) (hBs : W.cell? ⟨Bs, 0, none⟩ = some (.slice A len cap)) (hr : Rd W A len (bs b)) (h0 : J [] W) :
    CallsIn Fence.wide n Tryz.prog 143 #[.func (.yield l) #[] #[], .pointer (some ⟨Bs, 0, none⟩)] W fun e W' => (∃ v, e = .returned v) ∧
      ((∃ ys, ys = wds b ∧ J ys W') ∨ (∃ pre, (∃ k, k ≤ nw b ∧ pre = wdsTo b k) ∧ Jx pre W')) := by
  have hbl : b.length = len := by simpa using hr.len
  have HBL := Lib.hid hbl
  clear hbl
  refine callsIn_of_wp Tryz.func143 rfl trivial ?_ rfl
  simp only [Tryz.ntmps143, List.size_toArray, List.length_cons, List.length_nil, Nat.reduceAdd, Nat.reduceSub, Array.replicate_succ, Array.replicate_zero, List.push_toArray, List.append_toArray, List.nil_append, List.cons_append]
  gi_wp2
  gi_loopw [3] (fun i wr => ∃ k : Nat, 8 * k ≤ len + 7 ∧ i = .int .i64 (8 * (k : Int)) ∧ J (wdsTo b k) wr ∧ Keep (fun k => k = Bs ∨ blk A = some k) W wr)
    (fun i _ => len + 8 - (intOf i).toNat)
  case atStart => exact ⟨0, by omega, rfl, h0, Keep.refl _ _⟩
  case round =>
    obtain ⟨k, hk, rfl, hJ, hK⟩ := hrel
    have hBs' : wr.cell? ⟨Bs, 0, none⟩ = some (.slice A len cap) := (hK.cell (p := ⟨Bs, 0, none⟩) (.inl rfl)).trans hBs
    by_cases hlt : 8 * k < len
    · have HJ := Lib.hid hJ
      have HK := Lib.hid hK
      have HR := Lib.hid hr
      have HY := Lib.hid hY
      clear hJ hK hr hY
      obtain ⟨cnt, hc1, hc8, hcl, hc9⟩ : ∃ cnt : Nat, 1 ≤ cnt ∧ cnt ≤ 8 ∧ 8 * k + cnt ≤ len ∧ (cnt = 8 ∨ 8 * k + cnt = len) := by
        rcases Nat.lt_or_ge (8 * k + 8) len with h | h
        · exact ⟨8, by omega, by omega, by omega, .inl rfl⟩
        · exact ⟨len - 8 * k, by omega, by omega, by omega, .inr (by omega)⟩
      have HC9 := Lib.hid hc9
      clear hc9
      by_cases h8 : 8 * k + 8 ≤ len
      all_goals
        gi_wp2
        gi_loop [4, 5] (fun v i => ∃ j : Nat, j ≤ cnt ∧ i = .int .i64 (8 * (k : Int) + (j : Int) - 1) ∧ v = .int .u64 (word ((b.drop (8 * k + j)).take (cnt - j))))
          (fun _ i => (intOf i - 8 * (k : Int) + 1).toNat)
        case atStart =>
          refine ⟨cnt, Nat.le_refl _, ?_, by simp [word]⟩
          have := HC9.out
          first | (rw [show (8 * (k : Int) + 8 - 1) = 8 * (k : Int) + (cnt : Int) - 1 by omega]) | (rw [show ((len : Int) - 1) = 8 * (k : Int) + (cnt : Int) - 1 by omega])
        case round =>
          obtain ⟨j, hj, rfl, rfl⟩ := hrel
          rcases Nat.eq_zero_or_pos j with h0' | h0'
          · subst h0'
            have hkw : (wdsTo b k).length < nw b := by rw [wdsTo_length]; unfold nw; rw [HBL.out]; omega
            obtain ⟨fn, tmps, assign, body, hy, hR⟩ := HY.out _ (word ((b.drop (8 * k)).take cnt)) wr HJ.out hkw
            have HRR := Lib.hid hR
            clear hR
            gi_wp2
            refine HRR.out.mono ?_
            rintro e W3 (⟨rfl, hJ3, hk3⟩ | ⟨rfl, hJx3⟩)
            · gi_wp2
              go_roundw
              case rel => exact ⟨k + 1, by omega, by go_num, by rw [wdsTo_succ, ← wd_of_cnt HBL.out HC9.out hc8]; exact hJ3, HK.out.trans hk3⟩
              case measure => simp [intOf]; omega
            · gi_wp2
              refine bodyPost_ret (results_none rfl _ _ _) rfl ?_
              exact ⟨⟨_, rfl⟩, .inr ⟨_, ⟨k + 1, by unfold nw; rw [HBL.out]; omega, by rw [wdsTo_succ, ← wd_of_cnt HBL.out HC9.out hc8]⟩, hJx3⟩⟩
          · obtain ⟨j, rfl⟩ : ∃ j', j = j' + 1 := ⟨j - 1, by omega⟩
            obtain ⟨ad, u, rfl, hu, hcu⟩ := (HK.out.rd HR.out (fun k hk => .inr hk)).at_ (k := 8 * k + j) (by omega)
            obtain ⟨x, hx, rfl⟩ := bs_at hu
            have hw7 := word_lt7 (l := (b.drop (8 * k + (j + 1))).take (cnt - (j + 1))) (by simp; omega)
            have hst := Lib.hid (grp_val (m := cnt - (j + 1)) hx (by omega))
            clear hu hx
            gi_wp2
            go_round
            case rel => exact ⟨j, by omega, by go_num, by have := hst.out; rw [show 8 * k + (j + 1) = 8 * k + j + 1 from rfl, this, show cnt - (j + 1) + 1 = cnt - j by omega]⟩
            case measure => simp [intOf]; omega
    · have hk' : k = nw b := by unfold nw; rw [HBL.out]; omega
      gi_wp2
      go_end0
      subst hk'
      exact ⟨⟨_, rfl⟩, .inl ⟨_, rfl, hJ⟩⟩

end Go.Proofs.YtbocpkjajocpiaaGreatDoor

namespace Go.Proofs.YtbocpkjajocpiaaGreatDoor
open Go.RowKit Go.Shelf Go.Mem Go.Pure
attribute [local go_sem] Oper.semAt_some

set_option maxHeartbeats 400000 in
theorem groups_any (A : Option Addr) (len cap : Nat) (w : World) :
    Calls Tryz.prog 116 #[.slice A len cap] w fun e w' => ∃ Bs, e = .returned (.func (.func 143) #[] #[.pointer (some ⟨Bs, 0, none⟩)]) ∧ Blk w' Bs 81 #[.slice A len cap] ∧ New w w' ∧ w.heap.size ≤ Bs := by
  go_enter Tryz.func116, Tryz.ntmps116
  go_wp2
  go_ret
  exact ⟨w.heap.size, rfl, Blk.new _ _ _, (Chg.refl _ w).alloc _, Nat.le_refl _⟩

theorem groups_stops (n : Nat) (hn : 1 ≤ n) (Bs : Nat) (A : Option Addr) (len cap : Nat) (b : List UInt8) (hlen : len ≤ 1000000000) (w : World) (hBs : w.cell? ⟨Bs, 0, none⟩ = some (.slice A len cap)) (hr : Rd w A len (bs b)) :
    SeqStopsK Fence.wide n Tryz.prog 143 #[.pointer (some ⟨Bs, 0, none⟩)] (fun x : Nat => #[Value.int .u64 x]) (Keep (fun k => k = Bs ∨ blk A = some k)) (fun ys => ys = wds b) (fun _ => True) (nw b) w := fun l J Jx W hW _ _ hY h0 => by
  have hnew := New.of_below hW
  refine (groups1_in n hn l Bs A len cap b hlen J Jx hY W (hnew.cell hBs (fun h => h)) (hr.new hnew) h0).mono ?_
  rintro e W' ⟨he, ⟨ys, rfl, hj⟩ | ⟨pre, _, hj⟩⟩
  · exact ⟨he, .inl ⟨_, rfl, hj⟩⟩
  · exact ⟨he, .inr ⟨_, trivial, hj⟩⟩

set_option maxRecDepth 100000 in
set_option maxHeartbeats 2000000 in
theorem sum_any (s : ByteArray) (hs : s.size ≤ 1000000) (A : Option Addr) (n c : Nat) (l : List Int) (w : World) (hr : Rd w A n (is l)) (hn : n ≤ 1000000000) :
    Calls Tryz.prog 117 #[.string s, .slice A n c] w fun e w' => e = .returned (.int .u64 (sumI s.data.toList l)) ∧ New w w' := by
  refine (callsIn_wide (n := 10)).1 ?_
  refine callsIn_of_wp_marks Tryz.func117 rfl trivial ?_ rfl
  simp only [Tryz.ntmps117, List.size_toArray, List.length_cons, List.length_nil, Nat.reduceAdd, Nat.reduceSub, Array.replicate_succ, Array.replicate_zero, List.push_toArray, List.append_toArray, List.nil_append, List.cons_append]
  have hcv := fun W => Lib.run_convert_string_bytes (P := Tryz.prog) W 9 81 5 s Tryz.underlying9 Tryz.underlying81 Tryz.underlying5
  gi_wp2_with (refine ⟨trivial, ?_⟩; gi_at_call 116; refine (callsIn_wide.2 (groups_any _ _ _ _)).mono ?_; rintro e w' ⟨Bs, rfl, hBs, hnew, hle⟩)
  obtain ⟨w0, hw0⟩ : ∃ w0, w.alloc (.cells #[.int .u64 0] 22) = w0 := ⟨_, rfl⟩
  have hb0 : Blk w0 w.heap.size 22 #[.int .u64 0] := by rw [← hw0]; exact Blk.new _ _ _
  have hn0 : New w w0 := by rw [← hw0]; exact (Chg.refl _ w).alloc _
  have hz0 : w0.heap.size = w.heap.size + 1 := by rw [← hw0]; simp
  rw [hw0] at hBs hnew hle ⊢
  clear hw0
  rw [Lib.bytesWorld_size, hz0] at hle
  have hrb : Rd w' (some ⟨w.heap.size + 1, 0, none⟩) s.size (bs s.data.toList) := by
    have := conv_rd w0 5 s
    rw [hz0] at this
    exact this.new hnew
  have hn1 : New w w' := (hn0.new (conv_new w0 _ s)).new hnew
  have hb1 : Blk w' w.heap.size 22 #[.int .u64 0] := (hb0.chg (conv_new w0 _ s) (fun h => h)).chg hnew (fun h => h)
  have hbs := hBs.cell 0 rfl
  have hbl := hBs.lt
  clear hnew hcv hn0 hb0
  refine wpIn_rangeFunc_ownF rfl (by omega) (gf := 143) (lb := #[.pointer (some ⟨Bs, 0, none⟩)]) rfl trivial (enters_of Tryz.func143 (by kernel_rfl) rfl)
    (groups_stops 9 (by omega) Bs _ _ _ s.data.toList (by omega) w' hbs hrb) (fun h h' => Keep.trans h h') ?kb (Below.refl _ _) (fun _ => rfl)
    (fun pre W => Blk W w.heap.size 22 #[.int .u64 (absorb 0 (pre.map (fun n : Nat => (n : Int))))] ∧ Below w.heap.size w W)
    (fun _ _ _ => False)
    (OwnFrom.and (Own.from (own_blk w.heap.size 22 (fun pre : List Nat => #[.int .u64 (absorb 0 (pre.map (fun n : Nat => (n : Int))))])) _) (ownFrom_below (Nat.le_refl _) (by omega)))
    (fun _ _ _ _ _ hs _ _ => hs)
    ⟨hb1, New.below hn1⟩ ?a1 ?assign ?body ?done ?stop
  case assign =>
    intro l x W K hK
    gi_wp2
    exact hK
  case kb =>
    intro W l' o o' hl' ho _ _ k hk
    refine World.putObj_heap_other ?_
    rcases hk with rfl | hk
    · omega
    · simp [blk] at hk; omega
  case body =>
    rintro l' pre x W ⟨hb, hB⟩ _
    have hcs := hb.cell 0 rfl
    have hfs := hb.frozen 0
    gi_wp2_with (refine ⟨trivial, ?_⟩; gi_at_call 144; refine (CallsIn.inRound l' (callsIn_wide.2 (mix_any _ _ _))).mono ?_; rintro e w2 ⟨rfl, rfl⟩)
    refine ⟨KeepsOthers.setCell _ _ _, ?_, ?_, hB.setCell (p := ⟨w.heap.size, 0, none⟩) (Nat.le_refl _) _⟩
    · intro k hk
      refine Below.heap_setCell W ⟨w.heap.size, 0, none⟩ _ k ?_
      rcases hk with rfl | hk
      · simp; omega
      · simp [blk] at hk; simp; omega
    · have := hb.set_ 0 (.int .u64 (mixI (absorb 0 (pre.map (fun n : Nat => (n : Int)))) x))
      rw [List.map_append, List.map_cons, List.map_nil, absorb_snoc]
      exact this
  case stop =>
    rintro D c pre W _ _ h _
    exact h.elim
  case done =>
    rintro D ys W hD rfl ⟨hb, hB⟩ hK
    have hcs := hb.cell 0 rfl
    have hfs := hb.frozen 0
    have hrw : Rd W A n (is l) := hr.new (New.of_below hB)
    have hDn : w.heap.size < D := by omega
    have HB := Lib.hid hb
    have HBB := Lib.hid hB
    have HK := Lib.hid hK
    clear hb hB hK
    gi_wp2_with (refine ⟨trivial, ?_⟩; gi_at_call 144; refine (callsIn_wide.2 (mix_any _ _ _)).mono ?_; rintro e w2 ⟨rfl, rfl⟩)
    have hll : l.length = n := by have := hr.len; rwa [is_length] at this
    have HLL := Lib.hid hll
    clear hll
    gi_loopw [28] (fun i wr => ∃ k : Nat, k ≤ n ∧ i = .int .i64 k ∧ Blk wr w.heap.size 22 #[.int .u64 (absTo (mixI (mixI (absorb 0 ((wds s.data.toList).map (fun n : Nat => (n : Int)))) s.size) n) l k)] ∧ Below w.heap.size w wr ∧ wr.heap[D]? = some (.deferred (some [])))
      (fun i _ => n - (intOf i).toNat)
    case atStart =>
      refine ⟨0, Nat.zero_le _, rfl, ?_, ?_, ?_⟩
      · exact (HB.out.set_ 0 _).set_ 0 _
      · exact (HBB.out.setCell (p := ⟨w.heap.size, 0, none⟩) (Nat.le_refl _) _).setCell (p := ⟨w.heap.size, 0, none⟩) (Nat.le_refl _) _
      · exact (KeepsOthers.setCell _ _ _).same D _ ((KeepsOthers.setCell _ _ _).same D _ HK.out rfl) rfl
    case round =>
      obtain ⟨k, hk, rfl, hb, hB, hKd⟩ := hrel
      have hcs := hb.cell 0 rfl
      have hfs := hb.frozen 0
      have HB := Lib.hid hb
      have HBB := Lib.hid hB
      have HK := Lib.hid hKd
      clear hb hB hKd
      by_cases hlt : k < n
      · obtain ⟨ad, u, rfl, hu, hcu⟩ := (hr.new (New.of_below HBB.out)).at_ hlt
        obtain ⟨z, hz, rfl⟩ := is_at hu
        have HZ := Lib.hid hz
        clear hu hz hr hrw
        gi_wp2_with (refine ⟨trivial, ?_⟩; gi_at_call 144; refine (callsIn_wide.2 (mix_any _ _ _)).mono ?_; rintro e w2 ⟨rfl, rfl⟩)
        go_roundw
        case rel =>
          refine ⟨k + 1, by omega, by go_num, ?_, HBB.out.setCell (p := ⟨w.heap.size, 0, none⟩) (Nat.le_refl _) _, (KeepsOthers.setCell _ _ _).same D _ HK.out rfl⟩
          rw [absTo_succ HZ.out]
          exact HB.out.set_ 0 _
        case measure => simp [intOf]; omega
      · obtain rfl : n = k := by omega
        gi_wp2_with (refine ⟨trivial, ?_⟩; gi_at_call 144; refine (callsIn_wide.2 (mix_any _ _ _)).mono ?_; rintro e w2 ⟨rfl, rfl⟩)
        refine ⟨by simp, .inl ⟨_, _, rfl, run_takeDeferred HK.out, ?_⟩⟩
        refine ⟨_, results_tmp rfl _ _ _, ?_, New.of_below (HBB.out.trans (belowK_b (w := w) (Nat.le_refl _) _ D _ _ (by omega) HK.out rfl rfl))⟩
        refine ret_int ?_
        have := HLL.out
        subst this
        rw [absTo_all]
        unfold sumI
        rw [Array.length_toList]
        rfl

end Go.Proofs.YtbocpkjajocpiaaGreatDoor

namespace Go.Proofs.YtbocpkjajocpiaaGreatDoor
open Go.RowKit Go.Shelf Go.Mem Go.Pure
attribute [local go_sem] Oper.semAt_some

/-- What the words of the bytes, as ints, are. -/
def iw (pre : List Nat) : List Int := pre.map (fun n : Nat => wrap64 (n : Int))
theorem iw_snoc (pre : List Nat) (x : Nat) : iw (pre ++ [x]) = iw pre ++ [wrap64 (x : Int)] := by simp [iw]
set_option maxRecDepth 100000 in
set_option maxHeartbeats 2000000 in
theorem hbytes_any (s : ByteArray) (hs : s.size ≤ 1000000) (A : Option Addr) (n c : Nat) (l : List UInt8) (w : World) (hr : Rd w A n (bs l)) (hn : n ≤ 1000000000) (hA : ∀ k, blk A = some k → k < w.heap.size) :
    Calls Tryz.prog 70 #[.string s, .slice A n c] w fun e w' => e = .returned (.int .u64 (bytesI s.data.toList l)) ∧ New w w' := by
  have hll : l.length = n := by have := hr.len; rwa [bs_length] at this
  have HLL := Lib.hid hll
  clear hll
  obtain ⟨i0, hi, hz0, hz1, hz2⟩ := elemInts.2.1
  refine (callsIn_wide (n := 10)).1 ?_
  refine callsIn_of_wp_marks Tryz.func70 rfl trivial ?_ rfl
  simp only [Tryz.ntmps70, List.size_toArray, List.length_cons, List.length_nil, Nat.reduceAdd, Nat.reduceSub, Array.replicate_succ, Array.replicate_zero, List.push_toArray, List.append_toArray, List.nil_append, List.cons_append]
  gi_wp2_with (first | (gi_at_make; refine wpListIn_make_own _ rfl _ _ 23 rfl w.heap.size 3 i0 (.int .i64 0) 1 Tryz.underlying23 hi hz0 hz1 _ _ _ (n / 8 + 2) rfl rfl (by omega) (by rw [hz2]; omega) (by simp only [maxLen]; omega) (Nat.le_refl _) ?_; intro w1 hown1 hg1) | (refine ⟨trivial, ?_⟩; gi_at_call 116; refine (callsIn_wide.2 (groups_any _ _ _ _)).mono ?_; rintro e w' ⟨Bs, rfl, hBs, hnew, hle⟩))
  obtain ⟨g, hgz⟩ : ∃ g, w1.heap.size = g := ⟨_, rfl⟩
  rw [World.size_alloc, hgz] at hle
  have hwg : w.heap.size ≤ g := by rw [← hgz]; exact hg1.size
  have hn1 : New w w' := (((Chg.refl _ w).grown hg1 (fun k hk => by cases hk)).alloc _).new hnew
  have hb1 : Blk w' g 23 #[.slice (some ⟨w.heap.size, 0, none⟩) 0 (n / 8 + 2)] := by
    have := Blk.new w1 23 #[.slice (some ⟨w.heap.size, 0, none⟩) 0 (n / 8 + 2)]
    rw [hgz] at this
    exact this.chg hnew (fun h => h)
  have ho1 : w'.ownsRow w.heap.size 3 1 (.slice (some ⟨w.heap.size, 0, none⟩) 0 (n / 8 + 2)) 0 [] := own_chg (hown1.alloc _) hnew (fun _ _ h => h)
  have hbs := hBs.cell 0 rfl
  have hbl := hBs.lt
  rw [hgz]
  clear hnew hown1 hg1 hgz
  have hr' := hr.new hn1
  refine wpIn_rangeFunc_ownF rfl (by omega) (gf := 143) (lb := #[.pointer (some ⟨Bs, 0, none⟩)]) rfl trivial (enters_of Tryz.func143 (by kernel_rfl) rfl)
    (groups_stops 9 (by omega) Bs A n c l (by omega) w' hbs hr') (fun h h' => Keep.trans h h') ?kb (Below.refl _ _) (fun _ => rfl)
    (fun pre W => ∃ A1 c1, Blk W g 23 #[.slice A1 pre.length c1] ∧ W.ownsRow w.heap.size 3 1 (.slice A1 pre.length c1) pre.length (is (iw pre)) ∧ Blk W Bs 81 #[.slice A n c] ∧ Below w.heap.size w W)
    (fun _ _ _ => False)
    ?hI (fun _ _ _ _ _ hs _ _ => hs) ⟨_, _, hb1, ho1, hBs, New.below hn1⟩ ?a1 ?assign ?body ?done ?stop
  case assign =>
    intro l' x W K hK
    gi_wp2
    exact hK
  case kb =>
    intro W l' o o' hl' ho _ _ k hk
    refine World.putObj_heap_other ?_
    rcases hk with rfl | hk
    · omega
    · have := hA k hk; omega
  case hI =>
    rintro pre W W' row ⟨A1, c1, h1, h2, h3, h4⟩ hg hr
    exact ⟨A1, c1, blk_kept h1 hg (fun r e => (hr r e).2), row_kept h2 hg (fun r e => (hr r e).2), blk_kept h3 hg (fun r e => (hr r e).2), h4.grown hg h4.size (fun k e => by have := (hr k e).1; omega)⟩
  case body =>
    rintro l' pre x W ⟨A1, c1, hb, ho, hB3, hB⟩ hlen
    have hnw : nw l ≤ 125000001 := by unfold nw; rw [HLL.out]; omega
    have hcs := hb.cell 0 rfl
    have hfs := hb.frozen 0
    have hgl := hb.lt
    obtain ⟨N, hN⟩ : ∃ N, pre.length = N := ⟨_, rfl⟩
    have HN := Lib.hid hN
    rw [hN] at hb ho hcs hlen
    have HB := Lib.hid hb
    have HO := Lib.hid ho
    have HB3 := Lib.hid hB3
    have HBB := Lib.hid hB
    clear hb ho hB3 hB hN
    gi_wp2_with (gi_at_builtin; refine wpListIn_app elemInts rfl _ _ rfl rfl (HO.out.alloc _) rfl Rd.one (by simp [Value.oneCell']) (by simp only [maxLen]; omega) (by omega) (by have := HBB.out.size; simp; omega) ?_; intro A' c' w2 hown2 hg2 hat2; have hb2 := (HB.out.alloc _).grown hg2 (HB.out.ne_own HO.out (by decide)); have hcc2 := hb2.cell 0 rfl; have hff2 := hb2.frozen 0; have HB2 := Lib.hid hb2; have HO2 := Lib.hid hown2; clear hb2 hown2)
    have hchg : Chg (fun k => k = g ∨ blk A1 = some k) W (w2.setCell ⟨g, 0, none⟩ (.slice A' (N + 1) c')) :=
      ((((Chg.refl _ W).alloc _).grown hg2 (fun k hk _ => .inr hk)).setCell (fun _ => .inl rfl) _)
    have hne := HB2.out.ne_own HO2.out (by decide)
    refine ⟨(KeepsOthers.alloc _ _).trans ((KeepsOthers.of_app (HO.out.alloc _) hg2).trans (KeepsOthers.setCell _ _ _)), Keep.of_chg hchg ?_, A', c', ?_, ?_, ?_, ?_⟩
    · rintro k (rfl | hk)
      · exact ⟨HB3.out.lt, fun h => by
          rcases h with h | h
          · omega
          · exact HB3.out.ne_own HO.out (by decide) h⟩
      · have h1 := hA k hk
        have h2 := HBB.out.size
        exact ⟨by omega, fun h => by
          rcases h with h | h
          · omega
          · have := own_blk_le HO.out h; omega⟩
    · rw [List.length_append, HN.out]
      exact HB2.out.set_ 0 _
    · rw [List.length_append, HN.out, iw_snoc, is_append]
      change World.ownsRow _ _ _ _ (.slice A' (N + 1) c') (N + 1) (is (iw pre) ++ [Value.int .i64 (wrap64 (x : Int))])
      exact own_chg (S := fun k => k = g) HO2.out ((Chg.refl (fun k => k = g) w2).setCell (p := ⟨g, 0, none⟩) (fun _ => rfl) _) (fun k hk e => hne (by rw [hk, e]))
    · exact HB3.out.chg hchg (fun h => by
        rcases h with h | h
        · omega
        · exact HB3.out.ne_own HO.out (by decide) h)
    · exact HBB.out.trans (hchg.below (fun k h => by
        rcases h with h | h
        · omega
        · exact (own_blk_le HO.out h).1) HBB.out.size)
  case stop =>
    rintro D c pre W _ _ h _
    exact h.elim
  case done =>
    rintro D ys W hD rfl ⟨A1, c1, hb, ho, hB3, hB⟩ hK
    have hnw : nw l ≤ 125000001 := by unfold nw; rw [HLL.out]; omega
    have hcs := hb.cell 0 rfl
    have hfs := hb.frozen 0
    have hgl := hb.lt
    have hN := wds_length l
    obtain ⟨N, hN2⟩ : ∃ N, nw l = N := ⟨_, rfl⟩
    rw [hN2] at hN hnw
    rw [hN] at hb ho hcs
    have HN := Lib.hid hN
    have HB := Lib.hid hb
    have HO := Lib.hid ho
    have HBB := Lib.hid hB
    have HK := Lib.hid hK
    clear hb ho hB3 hB hN hN2 hK
    gi_wp2_with (first | (gi_at_builtin; refine wpListIn_app elemInts rfl _ _ rfl rfl (HO.out.alloc _) rfl Rd.one (by simp [Value.oneCell']) (by simp only [maxLen]; omega) (by omega) (by have := HBB.out.size; simp; omega) ?_; intro A' c' w2 hown2 hg2 hat2; have hb2 := (HB.out.alloc _).grown hg2 (HB.out.ne_own HO.out (by decide)); have hcc2 := hb2.cell 0 rfl; have hff2 := hb2.frozen 0; have HB2 := Lib.hid hb2; have HO2 := Lib.hid hown2; clear hb2 hown2))
    have hchg : Chg (fun k => k = g ∨ blk A1 = some k) W (w2.setCell ⟨g, 0, none⟩ (.slice A' (N + 1) c')) :=
      ((((Chg.refl _ W).alloc _).grown hg2 (fun k hk _ => .inr hk)).setCell (fun _ => .inl rfl) _)
    have hne := HB2.out.ne_own HO2.out (by decide)
    have ho3 : (w2.setCell ⟨g, 0, none⟩ (.slice A' (N + 1) c')).ownsRow w.heap.size 3 1 (.slice A' (N + 1) c') (N + 1) (is (iw (wds l) ++ [(n : Int)])) := by
      rw [is_append]
      exact own_chg (S := fun k => k = g) HO2.out ((Chg.refl (fun k => k = g) w2).setCell (p := ⟨g, 0, none⟩) (fun _ => rfl) _) (fun k hk e => hne (by rw [hk, e]))
    have hB3 : Below w.heap.size w (w2.setCell ⟨g, 0, none⟩ (.slice A' (N + 1) c')) := HBB.out.trans (hchg.below (fun k h => by
      rcases h with h | h
      · omega
      · exact (own_blk_le HO.out h).1) HBB.out.size)
    have hK3 : (w2.setCell ⟨g, 0, none⟩ (.slice A' (N + 1) c')).heap[D]? = some (.deferred (some [])) :=
      ((KeepsOthers.alloc _ _).trans ((KeepsOthers.of_app (HO.out.alloc _) hg2).trans (KeepsOthers.setCell _ _ _))).same D _ HK.out rfl
    refine ⟨trivial, (callsIn_wide.2 (sum_any s hs A' (N + 1) c' (iw (wds l) ++ [(n : Int)]) _ (Rd.of_own ho3) (by omega))).mono ?_⟩
    rintro e w3 ⟨rfl, hn3⟩
    have hK4 := hn3.heap hK3 (fun h => h)
    have HB3 := Lib.hid hB3
    have HK4 := Lib.hid hK4
    clear hB3 hK3 hK4 hchg ho3
    gi_wp2
    refine ⟨by simp, .inl ⟨_, _, rfl, run_takeDeferred HK4.out, ?_⟩⟩
    refine ⟨_, results_tmp rfl _ _ _, ?_, New.of_below ((HB3.out.trans (New.below hn3 |>.mono HB3.out.size)).trans (belowK_b (w := w) (Nat.le_refl _) _ D _ _ (by have := HBB.out.size; omega) HK4.out rfl rfl))⟩
    refine ret_int ?_
    unfold bytesI
    rw [HLL.out]
    rfl

end Go.Proofs.YtbocpkjajocpiaaGreatDoor

namespace Go.Pure

/-- The varint of a number. -/
def uvar (n : Nat) : List UInt8 := if h : n < 128 then [UInt8.ofNat n] else UInt8.ofNat (128 + n % 128) :: uvar (n / 128)
termination_by n
decreasing_by omega
theorem uvar_lt {n : Nat} (h : n < 128) : uvar n = [UInt8.ofNat n] := by rw [uvar, dif_pos h]
theorem uvar_ge {n : Nat} (h : 128 ≤ n) : uvar n = UInt8.ofNat (128 + n % 128) :: uvar (n / 128) := by rw [uvar, dif_neg (by omega)]

theorem uvar_pos (n : Nat) : 1 ≤ (uvar n).length := by
  rw [uvar]; split <;> simp
theorem uvar_len_pow (k : Nat) : ∀ n, n < 128 ^ (k + 1) → (uvar n).length ≤ k + 1 := by
  induction k with
  | zero => intro n h; rw [uvar_lt (by simpa using h)]; simp
  | succ k ih =>
    intro n h
    by_cases hn : n < 128
    · rw [uvar_lt hn]; simp
    · rw [uvar_ge (by omega), List.length_cons]
      have := ih (n / 128) (by rw [Nat.div_lt_iff_lt_mul (by omega)]; rw [Nat.pow_succ] at h; exact h)
      omega
theorem uvar_len {n : Nat} (h : n < 18446744073709551616) : (uvar n).length ≤ 10 := uvar_len_pow 9 n (Nat.lt_trans h (by decide))

theorem or128 : ∀ x : Fin 256, (x.val ||| 128) = 128 + x.val % 128 := by decide +kernel
theorem or_byte (m : Nat) : bits .or .u8 ((m : Int) % 256) 128 = ((UInt8.ofNat (128 + m % 128)).toNat : Int) := by
  have h : ((m : Int) % 256) = ((m % 256 : Nat) : Int) := by omega
  rw [h]
  have := u8_or_nat (m % 256) 128 (by omega) (by omega)
  rw [show ((128 : Nat) : Int) = 128 from rfl] at this
  rw [this]
  have h2 := or128 ⟨m % 256, by omega⟩
  simp only at h2
  rw [h2]
  simp
  omega
theorem ofNat_byte {m : Nat} (h : m < 128) : (m : Int) = ((UInt8.ofNat m).toNat : Int) := by simp; omega
end Go.Pure

namespace Go.Pure

/-- Reading a varint: i bytes have been read, with the value acc; an error (3: more, 2: form), or the value and the rest. -/
def scanU : Nat → Nat → List UInt8 → Except Int (Nat × List UInt8)
  | _, _, [] => .error 3
  | i, acc, c :: t =>
    if (i = 9 ∧ 1 < c.toNat) ∨ (0 < i ∧ c.toNat = 0) then .error 2
    else if c.toNat < 128 then .ok (acc + c.toNat * 128 ^ i, t)
    else scanU (i + 1) (acc + (c.toNat % 128) * 128 ^ i) t
def getU (l : List UInt8) : Except Int (Nat × List UInt8) := scanU 0 0 l

/-- Uint of a reader with the bytes l and the error e: the value, the bytes and the error behind it. -/
def uintR (l : List UInt8) (e : Int) : Nat × List UInt8 × Int :=
  if e = 0 then match getU l with
    | .ok (n, t) => (n, t, 0)
    | .error x => (0, l, x)
  else (0, l, e)

theorem scanU_nil (i acc : Nat) : scanU i acc [] = .error 3 := rfl
theorem scanU_bad {i acc : Nat} {c : UInt8} {t : List UInt8} (h : (i = 9 ∧ 1 < c.toNat) ∨ (0 < i ∧ c.toNat = 0)) : scanU i acc (c :: t) = .error 2 := by
  rw [scanU, if_pos h]
theorem scanU_end {i acc : Nat} {c : UInt8} {t : List UInt8} (h : ¬ ((i = 9 ∧ 1 < c.toNat) ∨ (0 < i ∧ c.toNat = 0))) (hc : c.toNat < 128) : scanU i acc (c :: t) = .ok (acc + c.toNat * 128 ^ i, t) := by
  rw [scanU, if_neg h, if_pos hc]
theorem scanU_on {i acc : Nat} {c : UInt8} {t : List UInt8} (h : ¬ ((i = 9 ∧ 1 < c.toNat) ∨ (0 < i ∧ c.toNat = 0))) (hc : ¬ c.toNat < 128) : scanU i acc (c :: t) = scanU (i + 1) (acc + (c.toNat % 128) * 128 ^ i) t := by
  rw [scanU, if_neg h, if_neg hc]
theorem pow7 (k : Nat) : 2 ^ (7 * k) = 128 ^ k := by rw [Nat.pow_mul]
theorem uint_val {k acc x : Nat} (hk : k ≤ 9) (hacc : acc < 128 ^ k) (hx : x < 256) (h9 : k = 9 → x ≤ 1) :
    bits .or .u64 (acc : Int) (IntKind.u64.wrap (IntKind.u64.wrap (bits .and .u8 (x : Int) 127) * 2 ^ (7 * k))) = ((acc + x % 128 * 128 ^ k : Nat) : Int) := by
  have h1 : bits .and .u8 (x : Int) 127 = ((x % 128 : Nat) : Int) := by
    have := u8_and_nat x 127 hx (by omega)
    rw [show ((127 : Nat) : Int) = 127 from rfl] at this
    rw [this, show (127 : Nat) = 2 ^ 7 - 1 from rfl, Nat.and_two_pow_sub_one_eq_mod]
  have hp : x % 128 * 128 ^ k < 18446744073709551616 := by
    rcases Nat.lt_or_ge k 9 with h | h
    · have h2 : 128 ^ k ≤ 128 ^ 8 := Nat.pow_le_pow_right (by omega) (by omega)
      have h3 : x % 128 * 128 ^ k ≤ 127 * 128 ^ 8 := Nat.mul_le_mul (by omega) h2
      have h4 : 127 * 128 ^ 8 < 18446744073709551616 := by decide
      exact Nat.lt_of_le_of_lt h3 h4
    · obtain rfl : k = 9 := by omega
      have := h9 rfl
      have h4 : x % 128 * 128 ^ 9 ≤ 1 * 128 ^ 9 := Nat.mul_le_mul (by omega) (Nat.le_refl _)
      have h5 : 1 * 128 ^ 9 < 18446744073709551616 := by decide
      exact Nat.lt_of_le_of_lt h4 h5
  have ha : acc < 18446744073709551616 := by
    have h2 : 128 ^ k ≤ 128 ^ 9 := Nat.pow_le_pow_right (by omega) hk
    have h5 : 128 ^ 9 < 18446744073709551616 := by decide
    exact Nat.lt_of_lt_of_le hacc (Nat.le_trans h2 (Nat.le_of_lt h5))
  rw [h1]
  have e1 : IntKind.u64.wrap ((x % 128 : Nat) : Int) = ((x % 128 : Nat) : Int) := by rw [IntKind.wrap_u64]; omega
  have e2 : ((x % 128 : Nat) : Int) * 2 ^ (7 * k) = ((x % 128 * 128 ^ k : Nat) : Int) := by
    rw [← pow7 k]; simp
  have e3 : IntKind.u64.wrap ((x % 128 * 128 ^ k : Nat) : Int) = ((x % 128 * 128 ^ k : Nat) : Int) := by rw [IntKind.wrap_u64]; omega
  rw [e1, e2, e3, u64_or_nat _ _ ha hp]
  have := Nat.shiftLeft_add_eq_or_of_lt (show acc < 2 ^ (7 * k) by rw [pow7]; exact hacc) (x % 128)
  rw [Nat.shiftLeft_eq, pow7] at this
  rw [Nat.or_comm, ← this, Nat.add_comm]
theorem uint_lt {k acc x : Nat} (hacc : acc < 128 ^ k) : acc + x % 128 * 128 ^ k < 128 ^ (k + 1) := by
  have : x % 128 * 128 ^ k ≤ 127 * 128 ^ k := Nat.mul_le_mul (by omega) (Nat.le_refl _)
  rw [Nat.pow_succ]
  omega

theorem uintR_err {l : List UInt8} {x : Int} (h : getU l = .error x) : uintR l 0 = (0, l, x) := by unfold uintR; rw [if_pos rfl, h]
theorem uintR_ok {l t : List UInt8} {n : Nat} (h : getU l = .ok (n, t)) : uintR l 0 = (n, t, 0) := by unfold uintR; rw [if_pos rfl, h]
theorem uintR_bad {l : List UInt8} {e : Int} (h : e ≠ 0) : uintR l e = (0, l, e) := by unfold uintR; rw [if_neg h]
theorem drop_cons {l : List UInt8} {k : Nat} {x : UInt8} (h : l[k]? = some x) : l.drop k = x :: l.drop (k + 1) := by
  obtain ⟨hk, rfl⟩ := List.getElem?_eq_some_iff.1 h
  exact List.drop_eq_getElem_cons hk
/-- A length that the bytes allow. -/
def lengthR (l : List UInt8) (e : Int) : Nat × List UInt8 × Int :=
  if (uintR l e).2.2 = 0 then
    if (uintR l e).2.1.length < (uintR l e).1 then (0, (uintR l e).2.1, 3) else ((uintR l e).1, (uintR l e).2.1, 0)
  else (0, (uintR l e).2.1, (uintR l e).2.2)
theorem lengthR_big {l t : List UInt8} {e : Int} {m : Nat} (h : uintR l e = (m, t, 0)) (hm : t.length < m) : lengthR l e = (0, t, 3) := by
  unfold lengthR; rw [h]; simp [hm]
theorem lengthR_ok {l t : List UInt8} {e : Int} {m : Nat} (h : uintR l e = (m, t, 0)) (hm : ¬ t.length < m) : lengthR l e = (m, t, 0) := by
  unfold lengthR; rw [h]; simp [hm]
theorem lengthR_err {l t : List UInt8} {e x : Int} {m : Nat} (h : uintR l e = (m, t, x)) (hx : x ≠ 0) : lengthR l e = (0, t, x) := by
  unfold lengthR; rw [h]; simp [hx]
/-- Raw of a reader. -/
def rawR (l : List UInt8) (e : Int) : List UInt8 × List UInt8 × Int :=
  ((lengthR l e).2.1.take (lengthR l e).1, (lengthR l e).2.1.drop (lengthR l e).1, (lengthR l e).2.2)
def endR (l : List UInt8) (e : Int) : Int := if e = 0 then (if l = [] then 0 else 2) else e

theorem scanU_lt : ∀ (l : List UInt8) (i acc : Nat), i ≤ 9 → acc < 128 ^ i → ∀ n t, scanU i acc l = .ok (n, t) → n < 18446744073709551616 := by
  intro l
  induction l with
  | nil => intro i acc _ _ n t h; cases h
  | cons c l ih =>
    intro i acc hi hacc n t h
    by_cases hb : (i = 9 ∧ 1 < c.toNat) ∨ (0 < i ∧ c.toNat = 0)
    · rw [scanU_bad hb] at h; cases h
    · by_cases hc : c.toNat < 128
      · rw [scanU_end hb hc] at h
        injection h with h
        injection h with h1 h2
        subst h1
        have hx := c.toNat_lt
        have := uint_val (x := c.toNat) hi hacc hx (fun h => by omega)
        have h2 := bits_hi_u64 .or (acc : Int) (IntKind.u64.wrap (IntKind.u64.wrap (bits .and .u8 (c.toNat : Int) 127) * 2 ^ (7 * i)))
        rw [this, Nat.mod_eq_of_lt hc] at h2
        omega
      · rw [scanU_on hb hc] at h
        exact ih (i + 1) _ (by omega) (uint_lt hacc) n t h
theorem uintR_lt (l : List UInt8) (e : Int) : (uintR l e).1 < 18446744073709551616 := by
  unfold uintR
  split
  · cases h : getU l with
    | error x => simp
    | ok p =>
      obtain ⟨n, t⟩ := p
      exact scanU_lt l 0 0 (by omega) (by simp) n t h
  · simp
theorem scanU_rest : ∀ (l : List UInt8) (i acc n : Nat) (t : List UInt8), scanU i acc l = .ok (n, t) → t.length ≤ l.length := by
  intro l
  induction l with
  | nil => intro i acc n t h; cases h
  | cons c l ih =>
    intro i acc n t h
    by_cases hb : (i = 9 ∧ 1 < c.toNat) ∨ (0 < i ∧ c.toNat = 0)
    · rw [scanU_bad hb] at h; cases h
    · by_cases hc : c.toNat < 128
      · rw [scanU_end hb hc] at h
        injection h with h
        injection h with _ h2
        subst h2
        simp
      · rw [scanU_on hb hc] at h
        have := ih _ _ _ _ h
        simp; omega
theorem uintR_rest (l : List UInt8) (e : Int) : (uintR l e).2.1.length ≤ l.length := by
  unfold uintR
  split
  · cases h : getU l with
    | error x => simp
    | ok p => obtain ⟨n, t⟩ := p; exact scanU_rest l 0 0 n t h
  · simp
theorem lengthR_rest (l : List UInt8) (e : Int) : (lengthR l e).2.1.length ≤ l.length := by
  have := uintR_rest l e
  unfold lengthR
  split
  · split <;> simpa using this
  · simpa using this
theorem lengthR_le (l : List UInt8) (e : Int) : (lengthR l e).1 ≤ (lengthR l e).2.1.length := by
  unfold lengthR
  split
  · split
    · simp
    · rename_i h; simp at h ⊢; omega
  · simp
end Go.Pure

namespace Go.Proofs.YtbocpkjajocpiaaGreatDoor
open Go.RowKit Go.Mem Go.Pure

/-- Block g is a Reader with the bytes l (in the block bo) and the error e. -/
def RdrAt (w : World) (g : Nat) (bo : Option Nat) (l : List UInt8) (e : Int) : Prop :=
  ∃ A n c, Blk w g 158 #[.slice A n c, .int .i64 e] ∧ Rd w A n (bs l) ∧ n ≤ c ∧ c ≤ maxLen ∧ blk A = bo ∧ bo ≠ some g ∧ ∀ k, bo = some k → k < w.heap.size

set_option maxHeartbeats 1000000 in
set_option maxRecDepth 100000 in
theorem rFail_any (g : Nat) (bo : Option Nat) (l : List UInt8) (e0 x : Int) (w : World) (hw : RdrAt w g bo l e0) :
    Calls Tryz.prog 142 #[.pointer (some ⟨g, 0, none⟩), .int .i64 x] w fun e w' => e = .returned (.tuple #[]) ∧
      RdrAt w' g bo l (if e0 = 0 then x else e0) ∧ Chg (fun k => k = g) w w' := by
  obtain ⟨A, n, c, hb, hr, hnc, hcm, hbo, hne, hbk⟩ := hw
  have HBK := Lib.hid hbk
  clear hbk
  have hc0 := hb.cell 0 rfl
  have hc1 := hb.cell 1 rfl
  have hf1 := hb.frozen 1
  have HB := Lib.hid hb
  have HBO := Lib.hid hbo
  clear hb hbo
  by_cases h : e0 = 0
  · subst h
    go_enter Tryz.func142, Tryz.ntmps142
    go_wp2
    go_end0
    have hchg : Chg (fun k => k = g) w (w.setCell ⟨g, 1, none⟩ (.int .i64 x)) := (Chg.refl (fun k => k = g) w).setCell (p := ⟨g, 1, none⟩) (fun _ => rfl) _
    have hbk' : ∀ k, bo = some k → k < (w.setCell ⟨g, 1, none⟩ (.int .i64 x)).heap.size := fun k hk => Nat.lt_of_lt_of_le (HBK.out k hk) hchg.size
    exact ⟨rfl, ⟨A, n, c, HB.out.set_ 1 _, hr.chg hchg (fun k hk _ e => hne (by rw [← HBO.out, hk, e])), hnc, hcm, HBO.out, hne, hbk'⟩, hchg⟩
  · have h' : (e0 == 0) = false := by simpa using h
    have H := Lib.hid h
    clear h
    go_enter Tryz.func142, Tryz.ntmps142
    go_wp2
    go_end0
    have hbk' := HBK.out
    exact ⟨rfl, ⟨A, n, c, HB.out, hr, hnc, hcm, HBO.out, hne, hbk'⟩, Chg.refl _ w⟩

set_option maxHeartbeats 1000000 in
set_option maxRecDepth 100000 in
theorem rUint_any (g : Nat) (bo : Option Nat) (l : List UInt8) (e0 : Int) (w : World) (hw : RdrAt w g bo l e0) :
    Calls Tryz.prog 141 #[.pointer (some ⟨g, 0, none⟩)] w fun e w' => e = .returned (.int .u64 (uintR l e0).1) ∧
      RdrAt w' g bo (uintR l e0).2.1 (uintR l e0).2.2 ∧ Chg (fun k => k = g) w w' := by
  have HW := Lib.hid hw
  obtain ⟨A, n, c, hb, hr, hnc, hcm, hbo, hne, hbk⟩ := hw
  have hcm' : c ≤ 9223372036854775807 := hcm
  have HBK := Lib.hid hbk
  clear hbk
  have hc0 := hb.cell 0 rfl
  have hc1 := hb.cell 1 rfl
  have hf0 := hb.frozen 0
  have hln : l.length = n := by have := hr.len; rwa [bs_length] at this
  have HLN := Lib.hid hln
  have HB := Lib.hid hb
  have HBO := Lib.hid hbo
  have HR := Lib.hid hr
  clear hb hbo hr hln
  by_cases h : e0 = 0
  · subst h
    go_enter Tryz.func141, Tryz.ntmps141
    go_wp2
    go_loop [3, 4] (fun v i => ∃ k acc : Nat, k ≤ 9 ∧ k ≤ n ∧ i = .int .i64 k ∧ v = .int .u64 acc ∧ acc < 128 ^ k ∧ scanU k acc (l.drop k) = getU l) (fun _ i => 10 - (intOf i).toNat)
    case atStart => exact ⟨0, 0, by omega, by omega, rfl, rfl, by simp, by simp [getU]⟩
    case round =>
      obtain ⟨k, acc, hk9, hkn, rfl, rfl, hacc, hsc⟩ := hrel
      have HSC := Lib.hid hsc
      have HACC := Lib.hid hacc
      clear hsc hacc
      by_cases hlt : k < n
      · obtain ⟨ad, u, rfl, hu, hcu⟩ := HR.out.at_ hlt
        obtain ⟨x, hx, rfl⟩ := bs_at hu
        have HX := Lib.hid hx
        clear hx hu
        have hx2 := x.toNat_lt
        have hcut := fun W => run_cut elemBytes .i64 (some ad) n c (k + 1) ((k : Int) + 1) (by omega) (by omega) W
        by_cases hbad : (k = 9 ∧ 1 < x.toNat) ∨ (0 < k ∧ x.toNat = 0)
        · have hg : getU l = .error 2 := by rw [← HSC.out, drop_cons HX.out, scanU_bad hbad]
          have HG := Lib.hid (uintR_err hg)
          clear hg
          by_cases hk : k = 9
          · have h9 : (((k : Int)) == 9) = true := by rw [hk]; rfl
            have HK := Lib.hid hk
            have hk0 : 0 < k := by omega
            by_cases h1 : 1 < x.toNat
            · have h1' : decide (1 < (x.toNat : Int)) = true := by simp; omega
              clear hbad hcut hk
              go_wp2_with fail
              refine (rFail_any g bo l 0 2 w HW.out).mono ?_
              rintro e w1 ⟨rfl, hw1, hc1⟩
              go_wp2
              go_ret
              rw [HG.out]
              exact ⟨rfl, hw1, hc1⟩
            · have h1' : decide (1 < (x.toNat : Int)) = false := by simp; omega
              have h0' : ((x.toNat : Int) == 0) = true := by
                rcases hbad with h | h
                · omega
                · simp [h.2]
              clear hbad hcut hk
              go_wp2_with fail
              refine (rFail_any g bo l 0 2 w HW.out).mono ?_
              rintro e w1 ⟨rfl, hw1, hc1⟩
              go_wp2
              go_ret
              rw [HG.out]
              exact ⟨rfl, hw1, hc1⟩
          · have h9 : (((k : Int)) == 9) = false := by simp; omega
            have hk0 : 0 < k := by omega
            have h0' : ((x.toNat : Int) == 0) = true := by
              rcases hbad with h | h
              · omega
              · simp [h.2]
            clear hbad hcut hk
            go_wp2_with fail
            refine (rFail_any g bo l 0 2 w HW.out).mono ?_
            rintro e w1 ⟨rfl, hw1, hc1⟩
            go_wp2
            go_ret
            rw [HG.out]
            exact ⟨rfl, hw1, hc1⟩
        · have HBAD := Lib.hid hbad
          clear hbad
          have hval := Lib.hid (uint_val (x := x.toNat) hk9 HACC.out hx2 (fun h => by have := HBAD.out; omega))
          by_cases hend : x.toNat < 128
          · have hg : getU l = .ok (acc + x.toNat * 128 ^ k, l.drop (k + 1)) := by rw [← HSC.out, drop_cons HX.out, scanU_end HBAD.out hend]
            have HG := Lib.hid (uintR_ok hg)
            clear hg
            have fin : ∀ v : Int, v = bits .or .u64 (acc : Int) (IntKind.u64.wrap (IntKind.u64.wrap (bits .and .u8 (x.toNat : Int) 127) * 2 ^ (7 * k))) →
                Ending.returned (.int .u64 v) = .returned (.int .u64 (uintR l 0).1) ∧ RdrAt (w.setCell ⟨g, 0, none⟩ (.slice (cutA (some ad) c (k + 1)) (n - (k + 1)) (c - (k + 1)))) g bo (uintR l 0).2.1 (uintR l 0).2.2 ∧ Chg (fun k => k = g) w (w.setCell ⟨g, 0, none⟩ (.slice (cutA (some ad) c (k + 1)) (n - (k + 1)) (c - (k + 1)))) := by
              intro v hv
              have hchg : Chg (fun k => k = g) w (w.setCell ⟨g, 0, none⟩ (.slice (cutA (some ad) c (k + 1)) (n - (k + 1)) (c - (k + 1)))) := (Chg.refl (fun k => k = g) w).setCell (p := ⟨g, 0, none⟩) (fun _ => rfl) _
              rw [HG.out]
              refine ⟨ret_int (by rw [hv, hval.out, Nat.mod_eq_of_lt hend]), ⟨_, _, _, HB.out.set_ 0 _, ?_, by omega, Nat.le_trans (Nat.sub_le _ _) hcm, ?_, hne, fun k hk => Nat.lt_of_lt_of_le (HBK.out k hk) hchg.size⟩, hchg⟩
              · have := (HR.out.cutA (k := k + 1) (cap := c) (by omega) hnc).chg hchg (fun j hj _ e => hne (by rw [← HBO.out, ← blk_cutA _ c (k + 1), hj, e]))
                rwa [bs_drop] at this
              · rw [blk_cutA]; exact HBO.out
            have FIN := Lib.hid fin
            clear fin
            by_cases hk : k = 9
            · have h9 : (((k : Int)) == 9) = true := by rw [hk]; rfl
              have h1' : decide (1 < (x.toNat : Int)) = false := by have := HBAD.out; simp; omega
              have h0' : ((x.toNat : Int) == 0) = false := by have := HBAD.out; simp; omega
              have hk0 : 0 < k := by omega
              clear hk
              go_wp2_with fail
              go_ret
              exact FIN.out _ rfl
            · have h9 : (((k : Int)) == 9) = false := by simp; omega
              by_cases hk0 : 0 < k
              · have h0' : ((x.toNat : Int) == 0) = false := by have := HBAD.out; simp; omega
                go_wp2_with fail
                go_ret
                exact FIN.out _ rfl
              · go_wp2_with fail
                go_ret
                exact FIN.out _ rfl
          · have h9 : (((k : Int)) == 9) = false := by have := HBAD.out; simp; omega
            have h9' : k + 1 ≤ 9 := by have := HBAD.out; omega
            have h0 : ((x.toNat : Int) == 0) = false := by simp; omega
            have HG : Hid (scanU (k + 1) (acc + (x.toNat % 128) * 128 ^ k) (l.drop (k + 1)) = getU l) := by
              show _ = _
              rw [← HSC.out, drop_cons HX.out, scanU_on HBAD.out hend]
            clear hcut
            by_cases hk0 : 0 < k
            all_goals
              go_wp2_with fail
              go_round
              case rel => exact ⟨k + 1, _, h9', by omega, by go_num, by rw [hval.out], uint_lt HACC.out, HG.out⟩
              case measure => simp [intOf]; omega
      · have hk : k = n := by omega
        subst hk
        have hg : getU l = .error 3 := by rw [← HSC.out, List.drop_of_length_le (by rw [HLN.out]; omega), scanU_nil]
        have HG := Lib.hid (uintR_err hg)
        clear hg
        go_wp2_with fail
        refine (rFail_any g bo l 0 3 w HW.out).mono ?_
        rintro e w1 ⟨rfl, hw1, hc1⟩
        go_wp2
        go_ret
        rw [HG.out]
        exact ⟨rfl, hw1, hc1⟩
  · have HG := Lib.hid (uintR_bad (l := l) h)
    have h' : (e0 != 0) = true := by simpa using h
    clear h
    go_enter Tryz.func141, Tryz.ntmps141
    go_wp2
    go_ret
    rw [HG.out]
    exact ⟨rfl, HW.out, Chg.refl _ w⟩

end Go.Proofs.YtbocpkjajocpiaaGreatDoor

namespace Go.Proofs.YtbocpkjajocpiaaGreatDoor
open Go.RowKit Go.Mem Go.Pure

theorem RdrAt.chg {w w' : World} {g : Nat} {bo : Option Nat} {l : List UInt8} {e : Int} {S : Nat → Prop} (h : RdrAt w g bo l e) (hc : Chg S w w') (hg : ¬ S g) (hb : ∀ k, bo = some k → ¬ S k) : RdrAt w' g bo l e := by
  obtain ⟨A, n, c, h1, h2, h3, h4, h5, h6, h7⟩ := h
  exact ⟨A, n, c, h1.chg hc hg, h2.chg hc (fun k hk _ => hb k (by rw [← h5, hk])), h3, h4, h5, h6, fun k hk => Nat.lt_of_lt_of_le (h7 k hk) hc.size⟩
theorem RdrAt.blt {w : World} {g : Nat} {bo : Option Nat} {l : List UInt8} {e : Int} (h : RdrAt w g bo l e) {k : Nat} (hk : bo = some k) : k < w.heap.size := by
  obtain ⟨_, _, _, _, _, _, _, _, _, h7⟩ := h
  exact h7 k hk
theorem RdrAt.lt {w : World} {g : Nat} {bo : Option Nat} {l : List UInt8} {e : Int} (h : RdrAt w g bo l e) : g < w.heap.size := by
  obtain ⟨_, _, _, h1, _⟩ := h
  exact h1.lt
theorem RdrAt.len {w : World} {g : Nat} {bo : Option Nat} {l : List UInt8} {e : Int} (h : RdrAt w g bo l e) : l.length ≤ maxLen := by
  obtain ⟨A, n, c, h1, h2, h3, h4, h5, h6, h7⟩ := h
  have := h2.len
  rw [bs_length] at this
  omega

set_option maxHeartbeats 1000000 in
set_option maxRecDepth 100000 in
theorem read_any (A : Option Addr) (n c : Nat) (l : List UInt8) (w : World) (hr : Rd w A n (bs l)) (hn : n ≤ 1000000000) :
    Calls Tryz.prog 66 #[.slice A n c] w fun e w' => ∃ g bo, e = .returned (.pointer (some ⟨g, 0, none⟩)) ∧ RdrAt w' g bo l 0 ∧ New w w' ∧ w.heap.size ≤ g ∧ (∀ k, bo = some k → w.heap.size ≤ k) := by
  have HR := Lib.hid hr
  clear hr
  go_enter Tryz.func66, Tryz.ntmps66
  go_wp2_with (at_builtin; refine wpList_app elemBytes rfl _ _ rfl rfl (World.ownsRow_made w _ 0 (Nat.le_refl _) (Nat.zero_le _) rfl) rfl (HR.out.new ((Chg.refl _ w).alloc _)) (bs_one _) (by simp only [maxLen]; omega) (by omega) (by simp) ?_; intro A' c' w2 hown2 hg2 hat2; have HO2 := Lib.hid hown2; clear hown2)
  go_ret
  have hn2 : New w w2 := ((Chg.refl _ w).alloc _).grown hg2 (fun k hk hlt => by simp [blk] at hk; omega)
  have hrd : Rd w2 A' n (bs l) := by have := Rd.of_own HO2.out; simpa using this
  have hcap := own_cap HO2.out
  refine ⟨w2.heap.size, blk A', rfl, ⟨A', n, c', Blk.new _ _ _, hrd.new ((Chg.refl _ w2).alloc _), by omega, hcap.2, rfl, fun h => ?_, fun k hk => by have := (own_blk_le HO2.out hk).2; simp; omega⟩, hn2.alloc _, hn2.size, fun k hk => (own_blk_le HO2.out hk).1⟩
  have := (own_blk_le HO2.out h).2
  omega

set_option maxHeartbeats 1000000 in
set_option maxRecDepth 100000 in
theorem rLength_any (g : Nat) (bo : Option Nat) (l : List UInt8) (e0 : Int) (w : World) (hw : RdrAt w g bo l e0) :
    Calls Tryz.prog 115 #[.pointer (some ⟨g, 0, none⟩)] w fun e w' => e = .returned (.int .i64 (lengthR l e0).1) ∧
      RdrAt w' g bo (lengthR l e0).2.1 (lengthR l e0).2.2 ∧ Chg (fun k => k = g) w w' := by
  have hu := uintR_lt l e0
  have HU := Lib.hid hu
  clear hu
  generalize hq : uintR l e0 = q at *
  obtain ⟨m, t, x⟩ := q
  have HQ := Lib.hid hq
  clear hq
  go_enter Tryz.func115, Tryz.ntmps115
  go_wp2_with fail
  refine (rUint_any g bo l e0 w hw).mono ?_
  rw [HQ.out]
  rintro e w1 ⟨rfl, hw1, hc1⟩
  have HW1 := Lib.hid hw1
  have HC1 := Lib.hid hc1
  obtain ⟨A, n, c, hb, hr, hnc, hcm, hbo, hne, hbk⟩ := hw1
  clear hbk
  have hcm' : c ≤ 9223372036854775807 := hcm
  have hln : t.length = n := by have := hr.len; rwa [bs_length] at this
  have HLN := Lib.hid hln
  have hcc0 := hb.cell 0 rfl
  have hcc1 := hb.cell 1 rfl
  clear hb hr hbo hln hc1
  by_cases hx : x = 0
  · subst hx
    by_cases hlt : n < m
    · have HG := Lib.hid (lengthR_big HQ.out (by rw [HLN.out]; exact hlt))
      have hlt' : decide ((n : Int) < (m : Int)) = true := by simp; omega
      go_wp2_with fail
      refine (rFail_any g bo t 0 3 w1 HW1.out).mono ?_
      rintro e w2 ⟨rfl, hw2, hc2⟩
      have HW2 := Lib.hid hw2
      obtain ⟨A2, n2, c2, hb2, _, _, _, _, _, _⟩ := hw2
      have hcd := hb2.cell 1 rfl
      simp only [if_true] at hcd
      clear hb2
      go_wp2
      go_ret
      rw [HG.out]
      exact ⟨rfl, HW2.out, HC1.out.trans hc2 (fun _ _ h => h)⟩
    · have HG := Lib.hid (lengthR_ok HQ.out (by rw [HLN.out]; exact hlt))
      have hlt' : decide ((n : Int) < (m : Int)) = false := by simp; omega
      go_wp2_with fail
      go_ret
      rw [HG.out]
      exact ⟨rfl, HW1.out, HC1.out⟩
  · have hx1 : (x == 0) = false := by simpa using hx
    have hx2 : (x != 0) = true := by simpa using hx
    have HG := Lib.hid (lengthR_err HQ.out hx)
    clear hx
    go_wp2_with fail
    go_ret
    rw [HG.out]
    exact ⟨rfl, HW1.out, HC1.out⟩

set_option maxHeartbeats 1000000 in
set_option maxRecDepth 100000 in
theorem rTake_any (g : Nat) (bo : Option Nat) (l : List UInt8) (e0 : Int) (m : Nat) (w : World) (hm : m ≤ l.length) (hw : RdrAt w g bo l e0) :
    Calls Tryz.prog 114 #[.pointer (some ⟨g, 0, none⟩), .int .i64 m] w fun e w' => ∃ A c, e = .returned (.slice A m c) ∧ blk A = bo ∧ Rd w' A m (bs (l.take m)) ∧
      RdrAt w' g bo (l.drop m) e0 ∧ Chg (fun k => k = g) w w' := by
  obtain ⟨A, n, c, hb, hr, hnc, hcm, hbo, hne, hbk⟩ := hw
  have HBK := Lib.hid hbk
  clear hbk
  have hcm' : c ≤ 9223372036854775807 := hcm
  have hln : l.length = n := by have := hr.len; rwa [bs_length] at this
  have hmn : m ≤ n := by omega
  have HLN := Lib.hid hln
  have hcc0 := hb.cell 0 rfl
  have hff0 := hb.frozen 0
  have HB := Lib.hid hb
  have HR := Lib.hid hr
  have HBO := Lib.hid hbo
  have hcut := fun W => run_cut elemBytes .i64 A n c m (m : Int) rfl (by omega) W
  have hupto := fun W => run_upto elemBytes .i64 A n c m (m : Int) rfl (by omega) W
  clear hb hr hbo hln hm
  go_enter Tryz.func114, Tryz.ntmps114
  go_wp2
  go_ret
  have hchg : Chg (fun k => k = g) w (w.setCell ⟨g, 0, none⟩ (.slice (cutA A c m) (n - m) (c - m))) := (Chg.refl (fun k => k = g) w).setCell (p := ⟨g, 0, none⟩) (fun _ => rfl) _
  refine ⟨A, c, rfl, HBO.out, ?_, ⟨_, _, _, HB.out.set_ 0 _, ?_, by omega, Nat.le_trans (Nat.sub_le _ _) hcm, ?_, hne, fun k hk => Nat.lt_of_lt_of_le (HBK.out k hk) hchg.size⟩, hchg⟩
  · have := (HR.out.take (k := m) hmn).chg hchg (fun j hj _ e => hne (by rw [← HBO.out, hj, e]))
    rwa [bs_take] at this
  · have := (HR.out.cutA (k := m) (cap := c) hmn hnc).chg hchg (fun j hj _ e => hne (by rw [← HBO.out, ← blk_cutA _ c m, hj, e]))
    rwa [bs_drop] at this
  · rw [blk_cutA]; exact HBO.out


set_option maxHeartbeats 1000000 in
set_option maxRecDepth 100000 in
theorem rText_any (g : Nat) (bo : Option Nat) (l : List UInt8) (e0 : Int) (w : World) (hw : RdrAt w g bo l e0) (hl : l.length ≤ 1000000000) :
    Calls Tryz.prog 68 #[.pointer (some ⟨g, 0, none⟩)] w fun e w' => e = .returned (.string ⟨(rawR l e0).1.toArray⟩) ∧
      RdrAt w' g bo (rawR l e0).2.1 (rawR l e0).2.2 ∧ Chg (fun k => k = g) w w' := by
  have hle := lengthR_le l e0
  have hre := lengthR_rest l e0
  go_enter Tryz.func68, Tryz.ntmps68
  go_wp2_with fail
  refine (rLength_any g bo l e0 _ hw).mono ?_
  rintro e w1 ⟨rfl, hw2, hc2⟩
  have H1 := Lib.hid (And.intro hw2 hc2)
  clear hw2 hc2
  have hml : (lengthR l e0).2.1.length ≤ maxLen := H1.out.1.len
  generalize hq : lengthR l e0 = q at *
  obtain ⟨m, t, x⟩ := q
  have HQ := Lib.hid hq
  clear hq
  simp only at hle hre hml H1 ⊢
  have hml' : m ≤ 9223372036854775807 := by simp only [maxLen] at hml; omega
  go_wp2_with fail
  obtain ⟨hw2, hn1⟩ := H1.out
  refine (rTake_any g bo t x m w1 hle hw2).mono ?_
  rintro e w2 ⟨A, c, rfl, hA, hr, hw3, hc3⟩
  have H2 := Lib.hid (And.intro hw3 (hn1.trans hc3 (fun _ _ h => h)))
  have hst := run_tostr (P := Tryz.prog) (c := c) Tryz.underlying81 Tryz.underlying5 Tryz.underlying9 hr
  clear hw2 hn1 hr hw3 hc3 H1 hA
  go_wp2
  go_ret
  unfold rawR
  rw [HQ.out]
  exact ⟨rfl, H2.out.1, H2.out.2⟩


set_option maxHeartbeats 1000000 in
set_option maxRecDepth 100000 in
theorem rEnd_any (g : Nat) (bo : Option Nat) (l : List UInt8) (e0 : Int) (w : World) (hw : RdrAt w g bo l e0) :
    Calls Tryz.prog 69 #[.pointer (some ⟨g, 0, none⟩)] w fun e w' => e = .returned (.int .i64 (endR l e0)) ∧ w = w' := by
  obtain ⟨A, n, c, hb, hr, hnc, hcm, hbo, hne, hbk⟩ := hw
  clear hbk
  have hln : l.length = n := by have := hr.len; rwa [bs_length] at this
  have hcc0 := hb.cell 0 rfl
  have hcc1 := hb.cell 1 rfl
  have HLN := Lib.hid hln
  clear hb hr hbo hln
  by_cases hx : e0 = 0
  · subst hx
    by_cases h0 : n = 0
    · subst h0
      have : l = [] := List.eq_nil_of_length_eq_zero HLN.out
      subst this
      go_enter Tryz.func69, Tryz.ntmps69
      go_wp2
      go_ret
      exact ⟨rfl, rfl⟩
    · have hl : l ≠ [] := fun h => h0 (by rw [← HLN.out, h]; rfl)
      have HL := Lib.hid hl
      have h0' : 0 < n := by omega
      clear hl h0
      go_enter Tryz.func69, Tryz.ntmps69
      go_wp2
      go_ret
      exact ⟨by simp [endR, HL.out], rfl⟩
  · have hx2 : (e0 != 0) = true := by simpa using hx
    have HX := Lib.hid hx
    clear hx
    go_enter Tryz.func69, Tryz.ntmps69
    go_wp2
    go_ret
    exact ⟨by simp [endR, HX.out], rfl⟩

end Go.Proofs.YtbocpkjajocpiaaGreatDoor

namespace Go.Mem
set_option linter.unusedVariables false
open Go.RowKit

theorem setCells_row (g : Nat) (t : TypeId) (x : Nat × Nat) : ∀ (vs pre olds post : List Value) (w : World), olds.length = vs.length → w.heap[g]? = some (.cells (pre ++ olds ++ post).toArray t x) → (w.setCells g pre.length vs).heap[g]? = some (.cells (pre ++ vs ++ post).toArray t x)
  | [], pre, olds, post, w, hl, h => by
    obtain rfl : olds = [] := List.eq_nil_of_length_eq_zero (by simpa using hl)
    exact h
  | v :: r, pre, [], post, w, hl, h => by simp at hl
  | v :: r, pre, o :: os, post, w, hl, h => by
    have h1 : (w.setCell ⟨g, pre.length, none⟩ v).heap[g]? = some (.cells ((pre ++ [v]) ++ os ++ post).toArray t x) := by
      simp [World.setCell, Array.getElem?_modify, h]
    have := setCells_row g t x r (pre ++ [v]) os post _ (by simpa using hl) h1
    simp only [World.setCells]
    rw [List.length_append, List.length_singleton] at this
    rw [this]
    simp
theorem setCells_chg (g : Nat) : ∀ (vs : List Value) (o : Nat) (w : World), Chg (fun k => k = g) w (w.setCells g o vs)
  | [], _, w => Chg.refl _ w
  | v :: r, o, w => ((Chg.refl (fun k => k = g) w).setCell (p := ⟨g, o, none⟩) (fun _ => rfl) v).trans (setCells_chg g r (o + 1) _) (fun _ _ h => h)

/-- The block of a slice. -/
def blkV : Value → Option Nat
  | .slice A _ _ => blk A
  | _ => none
/-- A slice that owns its row: its elements are xs; the row's cells are of the kind C. -/
def RowV (w : World) (t : TypeId) (C : Value → Prop) (v : Value) (xs : List Value) : Prop :=
  (v = .slice none 0 0 ∧ xs = []) ∨ ∃ g cp rest, v = .slice (some ⟨g, 0, none⟩) xs.length cp ∧ cp ≤ maxLen ∧ cp = xs.length + rest.length ∧ Blk w g t (xs ++ rest).toArray ∧ ∀ u ∈ xs ++ rest, C u
section
variable {P : Program} {w w' : World} {t e : TypeId} {C : Value → Prop} {v : Value} {xs : List Value}
theorem RowV.nil (w : World) (t : TypeId) (C : Value → Prop) : RowV w t C (.slice none 0 0) [] := .inl ⟨rfl, rfl⟩
theorem RowV.shape (h : RowV w t C v xs) : ∃ A c, v = .slice A xs.length c ∧ xs.length ≤ c ∧ c ≤ maxLen := by
  rcases h with ⟨rfl, rfl⟩ | ⟨g, cp, rest, rfl, h1, h2, _⟩
  · exact ⟨none, 0, rfl, Nat.le_refl _, Nat.zero_le _⟩
  · exact ⟨_, _, rfl, by omega, h1⟩
theorem RowV.rd {A : Option Addr} {n c : Nat} (h : RowV w t C (.slice A n c) xs) : Rd w A n xs := by
  rcases h with ⟨hv, rfl⟩ | ⟨g, cp, rest, hv, h1, h2, h3, _⟩
  · injection hv with _ hn _; subst hn; exact Rd.nil w A
  · injection hv with hA hn hc
    subst hA hn hc
    refine ⟨rfl, fun _ => ⟨_, rfl, fun j u hu => ?_⟩⟩
    rw [Addr.add_lit, Nat.zero_add]
    refine h3.cell j ?_
    have hj : j < xs.length := (List.getElem?_eq_some_iff.1 hu).1
    simpa [List.getElem?_append_left hj] using hu
theorem RowV.lt (h : RowV w t C v xs) {k : Nat} (hk : blkV v = some k) : k < w.heap.size := by
  rcases h with ⟨rfl, rfl⟩ | ⟨g, cp, rest, rfl, h1, h2, h3, _⟩
  · cases hk
  · obtain rfl : g = k := by simpa [blkV, blk] using hk
    exact h3.lt
theorem RowV.chg {S : Nat → Prop} (h : RowV w t C v xs) (hc : Chg S w w') (hs : ∀ k, blkV v = some k → ¬ S k) : RowV w' t C v xs := by
  rcases h with h | ⟨g, cp, rest, rfl, h1, h2, h3, h4⟩
  · exact .inl h
  · exact .inr ⟨g, cp, rest, rfl, h1, h2, h3.chg hc (hs g rfl), h4⟩
theorem RowV.new (h : RowV w t C v xs) (hc : New w w') : RowV w' t C v xs := h.chg hc (fun _ _ hf => hf)
/-- The row's block holds only cells of the kind. -/
theorem RowV.kind (h : RowV w t C v xs) {k : Nat} (hk : blkV v = some k) : ∃ cs : List Value, Blk w k t cs.toArray ∧ ∀ u ∈ cs, C u := by
  rcases h with ⟨rfl, rfl⟩ | ⟨g, cp, rest, rfl, h1, h2, h3, h4⟩
  · cases hk
  · obtain rfl : g = k := by simpa [blkV, blk] using hk
    exact ⟨_, h3, h4⟩
theorem RowV.ne {t' : TypeId} {cs : Array Value} {g : Nat} (h : RowV w t C v xs) (hb : Blk w g t' cs) (hne : t' ≠ t) : blkV v ≠ some g := fun hk => by
  obtain ⟨cs', h1, _⟩ := h.kind hk
  unfold Blk at hb h1
  rw [hb] at h1
  injection h1 with h1
  injection h1 with h1 h2
  exact hne h2
theorem RowV.all (h : RowV w t C v xs) : ∀ u ∈ xs, C u := by
  rcases h with ⟨rfl, rfl⟩ | ⟨g, cp, rest, rfl, h1, h2, h3, h4⟩
  · simp
  · exact fun u hu => h4 u (by simp [hu])
/-- The source of an append: a slice that reads. -/
theorem src_rd {tx e' : TypeId} (hk : P.underlying tx = some (.slice e')) {A : Option Addr} {m c : Nat} {news : List Value} (hr : Rd w A m news) (h1 : ∀ u ∈ news, u.oneCell' = true) : Src P 1 tx (.slice A m c) m news w := by
  cases A with
  | none =>
    have hm : m = 0 := by
      rcases Nat.eq_zero_or_pos m with h0 | h0
      · exact h0
      · obtain ⟨ad, h, _⟩ := hr.2 h0; cases h
    subst hm
    obtain rfl : news = [] := List.eq_nil_of_length_eq_zero hr.1
    exact Src.ofNil w hk c
  | some ad =>
    refine Src.ofSlice w hk ad m c news (by rw [hr.1]; omega) (fun j u hu => ?_) h1
    have hj := (List.getElem?_eq_some_iff.1 hu).1
    obtain ⟨ad', h, hc⟩ := hr.2 (by have := hr.1; omega)
    injection h with h
    subst h
    exact hc j u hu
theorem src_str {tx : TypeId} (hk : P.underlying tx = some .string) (s : ByteArray) : Src P 1 tx (.string s) s.data.toList.length (bs s.data.toList) w := by
  have := Src.ofString (P := P) w hk s
  have e : byteCells s = bs s.data.toList := rfl
  rw [e] at this
  have e2 : s.data.toList.length = s.size := by rw [Array.length_toList]; rfl
  rw [e2]
  exact this
theorem zero_cells1 {z : Value} (hz : z.cells = #[z]) (k : Nat) : (Builtin.zeroCells z.cells k).toList = List.replicate k z := by
  rw [hz]
  apply List.ext_getElem
  · simp [Builtin.zeroCells]
  · intro i h1 h2
    simp [Builtin.zeroCells]
    rw [Nat.mod_one]
    rfl
/-- append to a slice that owns its row. -/
theorem RowV.app {z : Value} {bytes : Nat} (hE : Elem P t e z bytes) (hzc : z.cells = #[z]) (hCz : C z) (tx ty : TypeId) (h : RowV w e C v xs) {x : Value} {m : Nat} {news : List Value} (hs : Src P 1 tx x m news w) (hC : ∀ u ∈ news, C u)
    (h63 : xs.length + m ≤ 4611686018427387904) (hbytes : (xs.length + m) * bytes ≤ 140737488355328) :
    ∃ v' w', (Builtin.append_ #[t, tx] ty #[v, x]).run P w = .ok v' w' ∧ RowV w' e C v' (xs ++ news) ∧ w.grownBy w' (blkV v) ∧ (blkV v' = blkV v ∨ blkV v' = some w.heap.size ∧ New w w') := by
  obtain ⟨ht, ⟨i, hi, hz, hsize, hby⟩, hzs⟩ := hE
  have hnl : news.length = m := by have := hs.newsLen; omega
  have hs' : Src P i.size tx x m news w := by rw [hsize]; exact hs
  by_cases h0 : m = 0
  · subst h0
    obtain rfl : news = [] := List.eq_nil_of_length_eq_zero hnl
    obtain ⟨A, c, rfl, h1, h2⟩ := h.shape
    exact ⟨_, w, run_append_nothing w t tx ty e i ht hi A xs.length c h1 x hs', by simpa using h, World.grownBy.refl w _, .inl rfl⟩
  · -- a new row
    have grow : ∀ (A : Option Addr) (cp : Nat), v = .slice A xs.length cp → cp < xs.length + m → (Builtin.firstCells i.size xs.length (.slice A xs.length cp)).run P w.drew = .ok xs.toArray w.drew →
        ∃ v' w', (Builtin.append_ #[t, tx] ty #[v, x]).run P w = .ok v' w' ∧ RowV w' e C v' (xs ++ news) ∧ w.grownBy w' (blkV v) ∧ (blkV v' = blkV v ∨ blkV v' = some w.heap.size ∧ New w w') := by
      intro A cp hv hlt hf
      subst hv
      have hge := grownCap_ge w (xs.length + m) cp e
      have hrun := run_append_grow_src (P := P) w t tx ty e i z ht hi hz A xs.length cp xs hf x m news hs' hlt (by omega) (by rw [hby]; exact growslice_fits (by omega) hbytes)
      refine ⟨_, _, hrun, .inr ⟨w.heap.size, _, List.replicate (grownCap w (xs.length + m) cp e - (xs.length + m)) z, ?_, grownCap_le_maxLen w (xs.length + m) cp e (by unfold maxLen; omega), ?_, ?_, ?_⟩, ⟨rfl, rfl, rfl, by simp, fun k hk _ => heap_alloc_old w.drew _ hk⟩, .inr ⟨rfl, ((Chg.refl _ w).drew).alloc _⟩⟩
      · rw [List.length_append, hnl]
      · rw [List.length_append, hnl, List.length_replicate]; omega
      · have e1 : (xs ++ news ++ List.replicate (grownCap w (xs.length + m) cp e - (xs.length + m)) z).toArray = (xs ++ news).toArray ++ Builtin.zeroCells z.cells (grownCap w (xs.length + m) cp e - (xs.length + m)) := by
          apply Array.ext'
          rw [Array.toList_append, zero_cells1 hzc]
        rw [e1]
        exact Blk.new w.drew e _
      · intro u hu
        simp only [List.mem_append, List.mem_replicate] at hu
        rcases hu with (hu | hu) | ⟨_, rfl⟩
        · exact h.all u hu
        · exact hC u hu
        · exact hCz
    rcases h with ⟨rfl, rfl⟩ | ⟨g, cp, rest, rfl, h1, h2, h3, h4⟩
    · exact grow none 0 rfl (by simp; omega) (by simp [Builtin.firstCells])
    · by_cases hroom : xs.length + m ≤ cp
      · -- in place
        have hcell : ∀ j, j < news.length → (w.cell? ⟨g, 0 + xs.length * i.size + j, none⟩).isSome = true := by
          intro j hj
          have hlt : xs.length * i.size + j < (xs ++ rest).length := by rw [List.length_append, hsize]; omega
          rw [Nat.zero_add, h3.cell (xs.length * i.size + j) (u := (xs ++ rest)[xs.length * i.size + j]) (by simp)]
          rfl
        have hrun := run_append_room_src (P := P) w t tx ty e i ht hi g 0 xs.length cp x m news hs' hroom hcell (fun j hj => h3.frozen _)
        obtain ⟨r1, r2, hr, hr1⟩ : ∃ r1 r2, rest = r1 ++ r2 ∧ r1.length = news.length := ⟨rest.take news.length, rest.drop news.length, (List.take_append_drop _ _).symm, by rw [List.length_take]; omega⟩
        subst hr
        have hrow := setCells_row g e (0, 0) news xs r1 r2 w hr1 (by simpa [Blk, List.append_assoc] using h3)
        have hoff : 0 + xs.length * i.size = xs.length := by rw [hsize]; omega
        rw [hoff] at hrun
        refine ⟨_, _, hrun, .inr ⟨g, cp, r2, by rw [List.length_append, hnl], h1, ?_, hrow, fun u hu => ?_⟩, ?_, .inl rfl⟩
        · simp only [List.length_append] at h2 ⊢; omega
        · simp only [List.mem_append] at hu
          rcases hu with (hu | hu) | hu
          · exact h4 u (by simp [hu])
          · exact hC u hu
          · exact h4 u (by simp [hu])
        · have hc := setCells_chg g news xs.length w
          exact ⟨hc.os, hc.tape, hc.output, hc.size, fun k hk hne => hc.block k hk (fun e => hne (by rw [e]; rfl))⟩
      · refine grow _ cp rfl (by omega) ?_
        have hl : xs.length = xs.length * i.size := by rw [hsize]; omega
        exact run_firstCells_some (P := P) w.drew i.size xs.length ⟨g, 0, none⟩ xs.length cp xs hl (fun j u hu => by
          rw [Addr.add_lit, Nat.zero_add]
          have hj := (List.getElem?_eq_some_iff.1 hu).1
          exact h3.drew.cell j (by simpa [List.getElem?_append_left hj] using hu))
theorem wpList_appV {z : Value} {bytes : Nat} (hE : Elem P t e z bytes) (hzc : z.cells = #[z]) (hCz : C z) {tx : TypeId} {ops : Array Oper} {rest : List Oper} {o : Oper} {a : Act} {Q : Exit → Act → World → Prop} (hgd : o.guard = none) (s y : Operand)
    (ho : o.op = .call { callee := .builtin .append, args := #[s, y], argTypes := #[t, tx] }) (hsv : a.eval s = v) (h : RowV w e C v xs) {x : Value} {m : Nat} {news : List Value} (hy : a.eval y = x) (hs : Src P 1 tx x m news w) (hC : ∀ u ∈ news, C u)
    (h63 : xs.length + m ≤ 4611686018427387904) (hbytes : (xs.length + m) * bytes ≤ 140737488355328)
    (hk : ∀ A' c' n' w', n' = (xs ++ news).length → RowV w' e C (.slice A' n' c') (xs ++ news) → w.grownBy w' (blkV v) → (blk A' = blkV v ∨ blk A' = some w.heap.size ∧ New w w') → wpList P ops Q rest (a.put o.dst (.slice A' n' c')) w') :
    wpList P ops Q (o :: rest) a w := by
  refine wpList_plain hgd fun K hK => ?_
  obtain ⟨v', w', hrun, h2, h3, h4⟩ := RowV.app (P := P) hE hzc hCz tx o.type h hs hC h63 hbytes
  obtain ⟨A', c', rfl, _⟩ := h2.shape
  unfold Oper.wp execOp
  simp only [ho, resolve, invoke, builtin, Sem.run_bind, Sem.run_pure, Result.andThen_ok, List.map_toArray, List.map_cons, List.map_nil, hsv, hy]
  rw [hrun]
  exact hK _ _ (hk A' c' _ w' rfl h2 h3 h4)
/-- Block k holds cells of the kind alone. -/
def KindB (w : World) (t : TypeId) (C : Value → Prop) (k : Nat) : Prop := ∃ cs : List Value, Blk w k t cs.toArray ∧ ∀ u ∈ cs, C u
theorem KindB.chg {S : Nat → Prop} {k : Nat} (h : KindB w t C k) (hc : Chg S w w') (hs : ¬ S k) : KindB w' t C k := by
  obtain ⟨cs, h1, h2⟩ := h
  exact ⟨cs, h1.chg hc hs, h2⟩
/-- A byte. -/
def IsU8 (u : Value) : Prop := ∃ x : UInt8, u = By x
theorem bs_u8 (l : List UInt8) : ∀ u ∈ bs l, IsU8 u := fun u hu => by
  obtain ⟨x, _, rfl⟩ := List.mem_map.1 hu
  exact ⟨x, rfl⟩
end
end Go.Mem

namespace Go.Proofs.YtbocpkjajocpiaaGreatDoor
set_option linter.unusedVariables false
open Go.RowKit Go.Mem Go.Pure

/-- Block g is a Writer whose bytes are l, in the block bo. -/
def WrV (w : World) (g : Nat) (bo : Option Nat) (l : List UInt8) : Prop :=
  ∃ A n c, Blk w g 92 #[.slice A n c] ∧ RowV w 5 IsU8 (.slice A n c) (bs l) ∧ blk A = bo
/-- The row of old holds bytes alone. -/
def OldB (w : World) (bo : Option Nat) : Prop := ∀ k, bo = some k → KindB w 5 IsU8 k
theorem WrV.old {w : World} {g : Nat} {bo : Option Nat} {l : List UInt8} (h : WrV w g bo l) : OldB w bo := by
  obtain ⟨A, n, c, h1, h2, h3⟩ := h
  exact fun k hk => h2.kind (by rw [← hk, ← h3]; rfl)
theorem WrV.blt {w : World} {g : Nat} {bo : Option Nat} {l : List UInt8} (h : WrV w g bo l) : (∀ k, bo = some k → k < w.heap.size) ∧ bo ≠ some g := by
  obtain ⟨A, n, c, h1, h2, h3⟩ := h
  refine ⟨fun k hk => h2.lt (by rw [← hk, ← h3]; rfl), fun e => h2.ne h1 (by decide) (by rw [← e, ← h3]; rfl)⟩
theorem WrV.len {w : World} {A : Option Addr} {n c : Nat} {l : List UInt8} (h : RowV w 5 IsU8 (.slice A n c) (bs l)) : n = l.length := by
  obtain ⟨A', c', hv, _⟩ := h.shape
  injection hv with _ hn _
  rw [hn, bs_length]

/-- What an append to a Writer's bytes, stored back, leaves. -/
theorem wrv_step {w wr wx w1 : World} {g M c' : Nat} {bo bo' : Option Nat} {A A' : Option Addr} {l' : List UInt8} {v : Value} (hchg : Chg (fun k => k = g ∨ bo = some k) w wr) (hx : New wr wx)
    (hat : bo' = bo ∨ ∃ k, bo' = some k ∧ w.heap.size ≤ k) (hbo : blk A = bo') (hold : OldB wr bo) (hgb : ∀ k, bo = some k → k < w.heap.size) (hgg : bo ≠ some g) (hg1 : wx.grownBy w1 (blk A)) (hat1 : blk A' = blk A ∨ blk A' = some wx.heap.size ∧ New wx w1)
    (hb1 : Blk w1 g 92 #[v]) (hown1 : RowV w1 5 IsU8 (.slice A' M c') (bs l')) :
    WrV (w1.setCell ⟨g, 0, none⟩ (.slice A' M c')) g (blk A') l' ∧ Chg (fun k => k = g ∨ bo = some k) w (w1.setCell ⟨g, 0, none⟩ (.slice A' M c')) ∧ (blk A' = bo ∨ ∃ k, blk A' = some k ∧ w.heap.size ≤ k) ∧ OldB (w1.setCell ⟨g, 0, none⟩ (.slice A' M c')) bo := by
  have hne : blk A' ≠ some g := hown1.ne hb1 (by decide)
  have hc1 : Chg (fun k => k = g ∨ bo = some k) w w1 := (hchg.new hx).grown hg1 (fun k hk hlt => by
    rw [hbo] at hk
    rcases hat with rfl | ⟨k', rfl, hk'⟩
    · exact .inr hk
    · cases hk; omega)
  have hset : Chg (fun k => k = g) w1 (w1.setCell ⟨g, 0, none⟩ (.slice A' M c')) := (Chg.refl (fun k => k = g) w1).setCell (p := ⟨g, 0, none⟩) (fun _ => rfl) _
  refine ⟨⟨A', M, c', ?_, ?_, rfl⟩, hc1.setCell (fun _ => .inl rfl) _, ?_, ?_⟩
  · exact hb1.set_ 0 _
  · exact hown1.chg (S := fun k => k = g) ((Chg.refl (fun k => k = g) w1).setCell (p := ⟨g, 0, none⟩) (fun _ => rfl) _) (fun k hk e => hne (by subst e; exact hk))
  · rcases hat1 with e | ⟨e, _⟩
    · rw [e, hbo]; exact hat
    · exact .inr ⟨_, e, Nat.le_trans hchg.size hx.size⟩
  · intro k hk
    have hkg : k ≠ g := fun e => hgg (by rw [hk, e])
    refine KindB.chg ?_ hset hkg
    rcases hat1 with e | ⟨e, hn⟩
    · by_cases hA : blk A = some k
      · exact hown1.kind (by rw [← hA, ← e]; rfl)
      · exact ((hold k hk).chg hx (fun h => h)).chg ((Chg.refl (fun j => blk A = some j) wx).grown hg1 (fun j hj _ => hj)) hA
    · exact ((hold k hk).chg hx (fun h => h)).chg hn (fun h => h)

set_option maxHeartbeats 1000000 in
set_option maxRecDepth 100000 in
theorem wvUint_any (g : Nat) (bo : Option Nat) (l : List UInt8) (n : Nat) (w : World) (hn : n < 18446744073709551616) (hw : WrV w g bo l) (hl : l.length ≤ 1000000000) :
    Calls Tryz.prog 113 #[.pointer (some ⟨g, 0, none⟩), .int .u64 n] w fun e w' => e = .returned (.tuple #[]) ∧
      ∃ bo', WrV w' g bo' (l ++ uvar n) ∧ Chg (fun k => k = g ∨ bo = some k) w w' ∧ (bo' = bo ∨ ∃ k, bo' = some k ∧ w.heap.size ≤ k) ∧ OldB w' bo := by
  have hu := uvar_len hn
  have HN := Lib.hid hn
  clear hn
  have HGB := Lib.hid hw.blt
  go_enter Tryz.func113, Tryz.ntmps113
  go_wp2
  go_loopw [1] (fun i wr => ∃ m : Nat, m ≤ n ∧ i = .int .u64 m ∧ ∃ (d : List UInt8) (bo' : Option Nat), uvar n = d ++ uvar m ∧ WrV wr g bo' (l ++ d) ∧ Chg (fun k => k = g ∨ bo = some k) w wr ∧ (bo' = bo ∨ ∃ k, bo' = some k ∧ w.heap.size ≤ k) ∧ OldB wr bo) (fun i _ => (intOf i).toNat)
  case atStart => exact ⟨n, Nat.le_refl _, rfl, [], bo, rfl, by simpa using hw, Chg.refl _ w, .inl rfl, hw.old⟩
  case round =>
    obtain ⟨m, hm, rfl, d, bo', hd, ⟨A, N, c, hb, hown, hbo⟩, hchg, hat, hold⟩ := hrel
    have hdl : d.length + 1 ≤ 10 := by
      have := uvar_pos m
      rw [hd, List.length_append] at hu
      omega
    have hNl : N = l.length + d.length := by have := WrV.len hown; simpa using this
    have hN2 : N + 1 ≤ 1000000010 := by omega
    have hN3 : (bs (l ++ d)).length + 1 ≤ 1000000010 := by rw [bs_length, List.length_append]; omega
    have HN2 := Lib.hid hNl
    have HD := Lib.hid hd
    clear hNl
    have HBO := Lib.hid hbo
    clear hd hbo
    by_cases hlt : 128 ≤ m
    · have hc0 := hb.cell 0 rfl
      have hf0 := hb.frozen 0
      have HB := Lib.hid hb
      have HO := Lib.hid hown
      have HNE := Lib.hid (hown.ne hb (by decide))
      clear hb hown
      go_wp2_with (at_builtin; refine wpList_appV elemBytes rfl ⟨0, rfl⟩ rfl _ _ rfl rfl (HO.out.new ((Chg.refl _ wr).alloc _)) rfl (src_rd Tryz.underlying81 Rd.one (by simp [Value.oneCell'])) (fun u hu => by obtain rfl := List.mem_singleton.1 hu; exact ⟨UInt8.ofNat (128 + m % 128), by rw [or_byte]; rfl⟩) (by omega) (by omega) ?_; intro A' c' N' w1 hN' hown1 hg1 hat1; have hb1 := (HB.out.alloc _).grown hg1 HNE.out; have hc1 := hb1.cell 0 rfl; have hf1 := hb1.frozen 0; have HB1 := Lib.hid hb1; have HO1 := Lib.hid hown1; clear hb1 hown1 hN')
      obtain ⟨hw2, hc2, ha2, ho2⟩ := wrv_step (l' := l ++ (d ++ [UInt8.ofNat (128 + m % 128)])) hchg ((Chg.refl _ wr).alloc _) hat HBO.out hold HGB.out.1 HGB.out.2 hg1 hat1 HB1.out (by have := HO1.out; rw [or_byte] at this; simpa [bs_append, bs, By] using this)
      go_roundw
      case rel => exact ⟨m / 128, by omega, by go_num, d ++ [UInt8.ofNat (128 + m % 128)], _, by rw [HD.out, uvar_ge hlt]; simp, hw2, hc2, ha2, ho2⟩
      case measure => simp [intOf]; omega
    · have hc0 := hb.cell 0 rfl
      have hf0 := hb.frozen 0
      have HB := Lib.hid hb
      have HO := Lib.hid hown
      have HNE := Lib.hid (hown.ne hb (by decide))
      clear hb hown
      go_wp2_with (at_builtin; refine wpList_appV elemBytes rfl ⟨0, rfl⟩ rfl _ _ rfl rfl (HO.out.new ((Chg.refl _ wr).alloc _)) rfl (src_rd Tryz.underlying81 Rd.one (by simp [Value.oneCell'])) (fun u hu => by obtain rfl := List.mem_singleton.1 hu; exact ⟨UInt8.ofNat m, by rw [ofNat_byte (show m < 128 by omega)]; rfl⟩) (by omega) (by omega) ?_; intro A' c' N' w1 hN' hown1 hg1 hat1; have hb1 := (HB.out.alloc _).grown hg1 HNE.out; have hc1 := hb1.cell 0 rfl; have hf1 := hb1.frozen 0; have HB1 := Lib.hid hb1; have HO1 := Lib.hid hown1; clear hb1 hown1 hN')
      obtain ⟨hw2, hc2, ha2, ho2⟩ := wrv_step (l' := l ++ (d ++ [UInt8.ofNat m])) hchg ((Chg.refl _ wr).alloc _) hat HBO.out hold HGB.out.1 HGB.out.2 hg1 hat1 HB1.out (by have := HO1.out; rw [ofNat_byte (show m < 128 by omega)] at this; rw [bs_append, bs_append, ← List.append_assoc, ← bs_append]; exact this)
      go_end0
      exact ⟨rfl, _, by rw [HD.out, uvar_lt (by omega)]; exact hw2, hc2, ha2, ho2⟩

set_option maxHeartbeats 1000000 in
set_option maxRecDepth 100000 in
theorem wvText_any (g : Nat) (bo : Option Nat) (l : List UInt8) (s : ByteArray) (w : World) (hs : s.size ≤ 1000000) (hw : WrV w g bo l) (hl : l.length ≤ 900000000) :
    Calls Tryz.prog 65 #[.pointer (some ⟨g, 0, none⟩), .string s] w fun e w' => e = .returned (.tuple #[]) ∧
      ∃ bo', WrV w' g bo' (l ++ (uvar s.size ++ s.data.toList)) ∧ Chg (fun k => k = g ∨ bo = some k) w w' ∧ (bo' = bo ∨ ∃ k, bo' = some k ∧ w.heap.size ≤ k) ∧ OldB w' bo := by
  obtain ⟨n, hn⟩ : ∃ n, s.size = n := ⟨_, rfl⟩
  have hsl : s.data.toList.length = n := by rw [Array.length_toList]; exact hn
  have hn2 : n ≤ 1000000 := by omega
  have HSL := Lib.hid hsl
  have HGB := Lib.hid hw.blt
  have HN := Lib.hid hn
  clear hs hsl
  go_enter Tryz.func65, Tryz.ntmps65
  rw [hn]
  go_wp2_with fail
  refine (wvUint_any g bo l n w (by omega) hw (by omega)).mono ?_
  rintro e w1 ⟨rfl, bo1, hw1, hc1, ha1, ho1⟩
  have hu := uvar_len (n := n) (by omega)
  obtain ⟨A1, N, c1, hb1, hown1, hbo1⟩ := hw1
  have hN : N ≤ 900000010 := by have := WrV.len hown1; simp at this; omega
  have HBO := Lib.hid hbo1
  have HNE := Lib.hid (hown1.ne hb1 (by decide))
  have HB := Lib.hid hb1
  have HO := Lib.hid hown1
  have hN3 : (bs (l ++ uvar n)).length ≤ 900000010 := by rw [bs_length, List.length_append]; omega
  have hcc := hb1.cell 0 rfl
  have hff := hb1.frozen 0
  clear hbo1 hb1 hown1 hn
  go_wp2_with (at_builtin; refine wpList_appV elemBytes rfl ⟨0, rfl⟩ rfl _ _ rfl rfl HO.out rfl (src_str Tryz.underlying9 s) (bs_u8 _) (by rw [HSL.out]; omega) (by rw [HSL.out]; omega) ?_; intro A' c' N' w2 hN' hown2 hg2 hat2; have hb2 := HB.out.grown hg2 HNE.out; have hcc2 := hb2.cell 0 rfl; have hff2 := hb2.frozen 0; have HB2 := Lib.hid hb2; have HO2 := Lib.hid hown2; clear hb2 hown2 hN')
  obtain ⟨hw3, hc3, ha3, ho3⟩ := wrv_step (l' := l ++ (uvar n ++ s.data.toList)) hc1 (Chg.refl _ w1) ha1 HBO.out ho1 HGB.out.1 HGB.out.2 hg2 hat2 HB2.out (by have := HO2.out; rw [← List.append_assoc, bs_append]; exact this)
  go_end0
  exact ⟨rfl, _, hw3, hc3, ha3, ho3⟩

set_option maxHeartbeats 1000000 in
set_option maxRecDepth 100000 in
theorem wvDone_any (g : Nat) (bo : Option Nat) (l : List UInt8) (w : World) (hw : WrV w g bo l) (hl : l.length ≤ 1000000000) :
    Calls Tryz.prog 67 #[.pointer (some ⟨g, 0, none⟩)] w fun e w' => ∃ A c, e = .returned (.slice A l.length c) ∧
      w'.ownsRow w.heap.size 5 1 (.slice A l.length c) l.length (bs l) ∧ New w w' := by
  obtain ⟨A, N, c, hb, hown, hbo⟩ := hw
  have hN : l.length = N := by have := WrV.len hown; omega
  have HN := Lib.hid hN
  have hN2 : N ≤ 1000000000 := by omega
  have hcc := hb.cell 0 rfl
  have hff := hb.frozen 0
  have hgl := hb.lt
  have hrd : Rd w A N (bs l) := hown.rd
  clear hN hbo hown hb
  have HR := Lib.hid hrd
  clear hrd
  go_enter Tryz.func67, Tryz.ntmps67
  go_wp2_with (at_builtin; refine wpList_app elemBytes rfl _ _ rfl rfl (World.ownsRow_made w _ 0 (Nat.le_refl _) (Nat.zero_le _) rfl) rfl (HR.out.new ((Chg.refl _ w).alloc _)) (bs_one _) (by simp only [maxLen]; omega) (by omega) (by simp) ?_; intro A' c' w2 hown2 hg2 hat2)
  go_ret
  rw [HN.out]
  refine ⟨A', c', by simp, by simpa using hown2, ?_⟩
  exact ((Chg.refl _ w).alloc _).grown hg2 (fun k hk hlt => by simp [blk] at hk; omega)

end Go.Proofs.YtbocpkjajocpiaaGreatDoor

namespace Go.Mem
set_option linter.unusedVariables false
open Go.RowKit

theorem own_form {w : World} {base : Nat} {e : TypeId} {A : Option Addr} {n c : Nat} {xs : List Value} (h : w.ownsRow base e 1 (.slice A n c) n xs) (hn : 0 < n) : ∃ g, A = some ⟨g, 0, none⟩ ∧ base ≤ g ∧ g < w.heap.size ∧ ∀ i, w.frozen? ⟨g, i, none⟩ = false := by
  rcases h.2 with ⟨_, rfl⟩ | ⟨g, cap, cur, hv, hb, hg, _⟩
  · omega
  · injection hv with hA
    exact ⟨g, hA, hb, (Array.getElem?_eq_some_iff.1 hg).1, fun i => by simp [World.frozen?, hg]⟩
theorem own_cell {w : World} {base : Nat} {e : TypeId} {g n c : Nat} {xs : List Value} (h : w.ownsRow base e 1 (.slice (some ⟨g, 0, none⟩) n c) n xs) {i : Nat} {u : Value} (hu : xs[i]? = some u) : w.cell? ⟨g, i, none⟩ = some u := by
  have hr := Rd.of_own h
  have hi : i < n := by have := (List.getElem?_eq_some_iff.1 hu).1; have := hr.1; omega
  obtain ⟨ad, hA, hc⟩ := hr.2 (by omega)
  injection hA with hA
  subst hA
  have := hc i u hu
  rwa [Addr.add_lit, Nat.zero_add] at this
theorem own_set {w : World} {base : Nat} {e : TypeId} {g n c : Nat} {xs : List Value} (h : w.ownsRow base e 1 (.slice (some ⟨g, 0, none⟩) n c) n xs) (i : Nat) (u : Value) (hi : i < n) : (w.setCell ⟨g, i, none⟩ u).ownsRow base e 1 (.slice (some ⟨g, 0, none⟩) n c) n (xs.set i u) := by
  refine ⟨by simpa using h.1, ?_⟩
  rcases h.2 with ⟨hv, _⟩ | ⟨g', cap, cur, hv, hb, hg, h1, h2, h3, h4⟩
  · injection hv with hA; cases hA
  · injection hv with hA hn hc
    injection hA with hA
    injection hA with hA
    subst hA hc
    refine .inr ⟨g, c, cur.setIfInBounds i u, rfl, hb, ?_, h1, h2, by simpa using h3, ?_⟩
    · simp [World.setCell, Array.getElem?_modify, hg]
    · rw [Array.toList_setIfInBounds, List.take_set, h4]
end Go.Mem

namespace Go.Mem
set_option linter.unusedVariables false
open Go.RowKit
theorem wpList_mk {P : Program} {w : World} {t e : TypeId} {z : Value} {bytes : Nat} (hE : Elem P t e z bytes) (hz : z.cells = #[z]) {ops : Array Oper} {rest : List Oper} {o : Oper} {a : Act} {Q : Exit → Act → World → Prop} (hgd : o.guard = none) (l c : Operand)
    (ho : o.op = Op.makeSlice t l c) {kl kc : IntKind} {L C : Int} {n : Nat} (hl : a.eval l = .int kl L) (hc : a.eval c = .int kc C) (hL : L = (n : Int)) (hC : C = (n : Int)) (b2 : bytes * n ≤ 281474976710656) (b3 : n ≤ maxLen)
    (h : ∀ w', w'.ownsRow w.heap.size e 1 (.slice (some ⟨w.heap.size, 0, none⟩) n n) n (List.replicate n z) → New w w' → w'.heap.size = w.heap.size + 1 → wpList P ops Q rest (a.put o.dst (.slice (some ⟨w.heap.size, 0, none⟩) n n)) w') :
    wpList P ops Q (o :: rest) a w := by
  obtain ⟨ht, ⟨i, hi, hz0, hz1, hz2⟩, hzs⟩ := hE
  refine wpList_plain hgd fun K hK => ?_
  subst hL hC
  have h63' : (n : Int) ≤ 9223372036854775807 := by
    have h := b3
    simp [maxLen] at h
    omega
  have hb' : (i.bytes : Int) * (n : Int) ≤ 281474976710656 := by
    rw [hz2]
    have h : ((bytes * n : Nat) : Int) ≤ 281474976710656 := by omega
    rwa [Int.natCast_mul] at h
  have hr := run_make (P := P) w t e i z ht hi hz0 kl kc n n (by omega) (Int.le_refl _) hb' h63'
  simp only [Int.toNat_natCast, hz1, Nat.mul_one] at hr
  have ho1 := World.ownsRow_lit (e := e) (size := 1) w (madeCells z.cells n) n (Nat.le_refl _) b3 (by rw [size_madeCells, Nat.mul_one])
  rw [hz, toList_madeCells_one] at ho1
  rw [hz] at hr
  unfold Oper.wp
  simp [execOp, ho, hl, hc, hr, Result.andThen]
  exact hK _ _ (h _ ho1 ((Chg.refl _ w).alloc _) (by simp))
end Go.Mem

namespace Go.Mem
set_option linter.unusedVariables false
open Go.RowKit

/-- Temporaries, some of them written anew. -/
def upd (T : Array Value) (f : Nat → Option Value) : Array Value := T.mapIdx fun i x => (f i).getD x
def upF (dst : Option Tmp) (v : Value) (f : Nat → Option Value) : Nat → Option Value := fun i => if dst = some i then some v else f i
theorem upd_none (T : Array Value) : upd T (fun _ => none) = T := by
  unfold upd
  apply Array.ext
  · simp
  · intro i h1 h2; simp
theorem upd_put (T : Array Value) (f : Nat → Option Value) (dst : Option Tmp) (v : Value) (ds : List Deferred) : (Act.mk (upd T f) ds).put dst v = Act.mk (upd T (upF dst v f)) ds := by
  cases dst with
  | none =>
    show Act.mk (upd T f) ds = _
    congr 1
  | some d =>
    show Act.mk ((upd T f).setIfInBounds d v) ds = _
    congr 1
    unfold upd
    apply Array.ext
    · simp
    · intro i h1 h2
      have hi : i < T.size := by simpa using h2
      rw [Array.getElem_setIfInBounds (by simpa using hi), Array.getElem_mapIdx, Array.getElem_mapIdx]
      unfold upF
      by_cases h : d = i
      · simp [h]
      · simp [h]
theorem upd_eval (T : Array Value) (f : Nat → Option Value) (ds : List Deferred) (t : Tmp) (h : t < T.size) : (Act.mk (upd T f) ds).eval (.tmp t) = (f t).getD (T.getD t undef) := by
  show (upd T f).getD t undef = _
  unfold upd
  simp [Array.getD, h]

theorem ready_mem {md : Region.Mode} {ops : Array Oper} {listed : Array Bool} {i : Nat} (h : i ∈ Region.ready md ops listed) : i < ops.size ∧ listed.getD i true = false ∧ ∃ o, ops[i]? = some o ∧ ∀ e ∈ o.after, Region.binds md e = true → listed.getD e.on false = true := by
  unfold Region.ready at h
  rw [List.mem_filter] at h
  obtain ⟨h1, h2⟩ := h
  have h1 : i < ops.size := by simpa using h1
  rw [Bool.and_eq_true] at h2
  obtain ⟨h2, h3⟩ := h2
  refine ⟨h1, ?_, ops[i], by simp [h1], ?_⟩
  · cases hx : listed.getD i true with
    | false => rfl
    | true => rw [hx] at h2; cases h2
  rw [Array.getElem?_eq_getElem h1] at h3
  simp only [Option.map_some, Option.getD_some] at h3
  intro e he hb
  have := (Array.all_eq_true_iff_forall_mem.1 h3) e he
  simpa [hb] using this
theorem ready_none {md : Region.Mode} {ops : Array Oper} {listed : Array Bool} (h : Region.ready md ops listed = []) {i : Nat} {o : Oper} (ho : ops[i]? = some o) (ha : ∀ e ∈ o.after, Region.binds md e = true → listed.getD e.on false = true) : listed.getD i true = true := by
  cases hl : listed.getD i true with
  | true => rfl
  | false =>
    exfalso
    have hi : i < ops.size := (Array.getElem?_eq_some_iff.1 ho).1
    have hm : i ∈ Region.ready md ops listed := by
      unfold Region.ready
      rw [List.mem_filter]
      refine ⟨by simpa using hi, ?_⟩
      rw [hl, ho]
      simp only [Bool.not_false, Bool.true_and, Option.map_some, Option.getD_some]
      rw [Array.all_eq_true_iff_forall_mem]
      intro e he
      cases hb : Region.binds md e with
      | false => simp
      | true => simpa using ha e he hb
    rw [h] at hm
    cases hm

section
variable {P : Program} {ops : Array Oper} {Q : Exit → Act → World → Prop} {md : Region.Mode} {T : Array Value} {ds : List Deferred}
/-- How many operations are left. -/
def left (listed : Array Bool) : Nat := listed.toList.countP (!·)
theorem left_set {listed : Array Bool} {i : Nat} (hi : listed.getD i true = false) : left (listed.setIfInBounds i true) + 1 ≤ left listed := by
  have hlt : i < listed.size := by
    rcases Nat.lt_or_ge i listed.size with h | h
    · exact h
    · simp [Array.getD, Nat.not_lt.2 h] at hi
  have hx : listed[i] = false := by simpa [Array.getD, hlt] using hi
  unfold left
  rw [Array.toList_setIfInBounds]
  have hl : i < listed.toList.length := by simpa using hlt
  have hx' : listed.toList[i] = false := by simpa using hx
  generalize listed.toList = L at *
  clear hi hx hlt
  induction L generalizing i with
  | nil => simp at hl
  | cons x L ih =>
    cases i with
    | zero => simp at hx'; subst hx'; simp
    | succ i =>
      have := ih (i := i) (by simpa using hl) (by simpa using hx')
      rw [List.set_cons_succ, List.countP_cons, List.countP_cons]
      omega

end
end Go.Mem

namespace Go.Mem
set_option linter.unusedVariables false
open Go.RowKit
section
variable {P : Program} {fn : Func} {p q r : Tmp} {ty ty2 ty3 : TypeId} {w : World} {g g2 g3 : Nat} {t t2 t3 : TypeId} {cs cs2 cs3 : Array Value} {d d2 : TypeDesc}
/-- The type ty is a struct or an array of that many cells. -/
def Agg (P : Program) (ty : TypeId) (n : Nat) : Prop := ∃ d, P.underlying ty = some d ∧ (match d with | .struct _ | .array _ _ => true | _ => false) = true ∧ (P.info? ty).map (·.size) = some n
theorem Agg.load (h : Agg P ty cs.size) (hb : Blk w g t cs) : (loadVar ty ⟨g, 0, none⟩).run P w = .ok (.agg cs) w := by
  obtain ⟨d, hu, hd, hi⟩ := h
  exact run_loadVar_row w g t ty cs (0, 0) d hb hu (by cases d <;> first | rfl | (simp at hd)) hi
/-- The type ty is no struct and no array. -/
def Flat (P : Program) (ty : TypeId) : Prop := ∃ d, P.underlying ty = some d ∧ (match d with | .struct _ | .array _ _ => true | _ => false) = false
theorem Flat.load {v : Value} (h : Flat P ty) (hb : Blk w g t #[v]) : (loadVar ty ⟨g, 0, none⟩).run P w = .ok v w := by
  obtain ⟨d, hu, hd⟩ := h
  have hc := hb.cell 0 (u := v) rfl
  cases d <;> simp_all [loadVar, isAgg, run_underlying hu]
theorem res_c (h : fn.results = #[.cell p ty]) (tmps : Array Value) (hp : tmps.getD p undef = .pointer (some ⟨g, 0, none⟩)) {v : Value} (hl : (loadVar ty ⟨g, 0, none⟩).run P w = .ok v w) :
    (results fn tmps).run P w = .ok v w := by
  have hp' : tmps[p]?.getD undef = .pointer (some ⟨g, 0, none⟩) := by simpa using hp
  simp [results, h, hp', asAddr, hl]
theorem res_ct (h : fn.results = #[.cell p ty, .tmp q]) (tmps : Array Value) (hp : tmps.getD p undef = .pointer (some ⟨g, 0, none⟩)) {v u : Value} (hl : (loadVar ty ⟨g, 0, none⟩).run P w = .ok v w) (hq : tmps.getD q undef = u) :
    (results fn tmps).run P w = .ok (.tuple #[v, u]) w := by
  have hp' : tmps[p]?.getD undef = .pointer (some ⟨g, 0, none⟩) := by simpa using hp
  have hq' : tmps[q]?.getD undef = u := by simpa using hq
  simp [results, h, hp', hq', asAddr, hl]
theorem res_cct (h : fn.results = #[.cell p ty, .cell q ty2, .tmp r]) (tmps : Array Value) (hp : tmps.getD p undef = .pointer (some ⟨g, 0, none⟩)) {v v2 u : Value} (hl : (loadVar ty ⟨g, 0, none⟩).run P w = .ok v w)
    (hq : tmps.getD q undef = .pointer (some ⟨g2, 0, none⟩)) (hl2 : (loadVar ty2 ⟨g2, 0, none⟩).run P w = .ok v2 w) (hr : tmps.getD r undef = u) :
    (results fn tmps).run P w = .ok (.tuple #[v, v2, u]) w := by
  have hp' : tmps[p]?.getD undef = .pointer (some ⟨g, 0, none⟩) := by simpa using hp
  have hq' : tmps[q]?.getD undef = .pointer (some ⟨g2, 0, none⟩) := by simpa using hq
  have hr' : tmps[r]?.getD undef = u := by simpa using hr
  simp [results, h, hp', hq', hr', asAddr, hl, hl2]
end

section
variable {w w' : World} {A : Option Addr} {n g : Nat} {t : TypeId} {cs : Array Value} {xs : List Value}
/-- A slice does not lie in a block that holds none of its values. -/
theorem Rd.apart (h : Rd w A n xs) (hb : Blk w g t cs) (hne : ∀ u ∈ xs, u ∉ cs.toList) (hn : 0 < n) : blk A ≠ some g := by
  obtain ⟨ad, u, rfl, hu, hc⟩ := h.at_ hn
  intro e
  have e : ad.block = g := by simpa [blk] using e
  have hm := List.mem_of_getElem? hu
  unfold World.cell? at hc
  rw [block_add, e] at hc
  unfold Blk at hb
  rw [hb] at hc
  simp only at hc
  split at hc
  · cases hc
  · exact hne u hm (by have := Array.mem_of_getElem? hc; simpa using this)
theorem Rd.store (h : Rd w A n xs) (hb : Blk w g t cs) (hne : ∀ u ∈ xs, u ∉ cs.toList) (hc : Chg (fun k => k = g) w w') : Rd w' A n xs := by
  rcases Nat.eq_zero_or_pos n with h0 | h0
  · subst h0; exact ⟨h.1, fun h => absurd h (by omega)⟩
  · exact h.chg hc (fun k hk _ e => h.apart hb hne h0 (by rw [hk, e]))
/-- No number among the values. -/
def NoInt (l : List Value) : Prop := ∀ k z, Value.int k z ∉ l
theorem Blk.set2 {x y : Value} (h : Blk w g t #[x, y]) (a b : Value) : Blk ((w.setCell ⟨g, 0, none⟩ a).setCell ⟨g, 1, none⟩ b) g t #[a, b] := (h.set_ 0 a).set_ 1 b
theorem Blk.set1 {x : Value} (h : Blk w g t #[x]) (a : Value) : Blk (w.setCell ⟨g, 0, none⟩ a) g t #[a] := h.set_ 0 a
theorem far1 {p : Addr} {v : Value} (h : w.cell? p = some v) (hne : p.block ≠ g) (x : Value) : (w.setCell ⟨g, 0, none⟩ x).cell? p = some v :=
  (World.cell?_of_block (Below.heap_setCell w ⟨g, 0, none⟩ x p.block hne)).trans h
theorem far2 {p : Addr} {v : Value} (h : w.cell? p = some v) (hne : p.block ≠ g) (x y : Value) : ((w.setCell ⟨g, 0, none⟩ x).setCell ⟨g, 1, none⟩ y).cell? p = some v :=
  (World.cell?_of_block (Below.heap_setCell _ ⟨g, 1, none⟩ y p.block hne)).trans (far1 h hne x)
theorem Chg.at1 (w : World) (g : Nat) (a : Value) : Chg (fun k => k = g) w (w.setCell ⟨g, 0, none⟩ a) := (Chg.refl (fun k => k = g) w).setCell (p := ⟨g, 0, none⟩) (fun _ => rfl) _
theorem Chg.at2 (w : World) (g : Nat) (a b : Value) : Chg (fun k => k = g) w ((w.setCell ⟨g, 0, none⟩ a).setCell ⟨g, 1, none⟩ b) := ((Chg.refl (fun k => k = g) w).setCell (p := ⟨g, 0, none⟩) (fun _ => rfl) _).setCell (p := ⟨g, 1, none⟩) (fun _ => rfl) _
/-- A change of a block that is the call's own. -/
theorem Chg.owned {S : Nat → Prop} {w0 : World} (h : New w0 w) (hc : Chg S w w') (hs : ∀ k, S k → w0.heap.size ≤ k) : New w0 w' := h.trans hc (fun k hk hS => by have := hs k hS; omega)
end

/-! ### a call in a world in which blocks have just been laid -/
section
variable {P : Program} {f : Nat} {args : Array Value} {w : World} {c1 c2 c3 c4 c5 : Array Value} {t1 t2 t3 t4 t5 : TypeId} {K : Ending → World → Prop}
theorem Calls.new1 (h : ∀ W, Blk W w.heap.size t1 c1 → New w W → W.heap.size = w.heap.size + 1 → Calls P f args W K) : Calls P f args (w.alloc (.cells c1 t1)) K :=
  h _ (Blk.new _ _ _) ((Chg.refl _ w).alloc _) (by simp)
theorem Calls.new2 (h : ∀ W, Blk W w.heap.size t1 c1 → Blk W (w.heap.size + 1) t2 c2 → New w W → W.heap.size = w.heap.size + 2 → Calls P f args W K) : Calls P f args ((w.alloc (.cells c1 t1)).alloc (.cells c2 t2)) K :=
  Calls.new1 fun W hb hn hz => h W ((Blk.new w t1 c1).chg hn (fun h => h)) (by rw [World.size_alloc] at hb; exact hb) (((Chg.refl _ w).alloc _).new hn) (by rw [hz]; simp)
theorem Calls.new3 (h : ∀ W, Blk W w.heap.size t1 c1 → Blk W (w.heap.size + 1) t2 c2 → Blk W (w.heap.size + 1 + 1) t3 c3 → New w W → W.heap.size = w.heap.size + 3 → Calls P f args W K) : Calls P f args (((w.alloc (.cells c1 t1)).alloc (.cells c2 t2)).alloc (.cells c3 t3)) K :=
  Calls.new2 fun W hb hb' hn hz => h W ((Blk.new w t1 c1).chg hn (fun h => h)) (by rw [World.size_alloc] at hb; exact hb) (by rw [World.size_alloc] at hb'; exact hb') (((Chg.refl _ w).alloc _).new hn) (by rw [hz]; simp)
theorem Calls.new4 (h : ∀ W, Blk W w.heap.size t1 c1 → Blk W (w.heap.size + 1) t2 c2 → Blk W (w.heap.size + 1 + 1) t3 c3 → Blk W (w.heap.size + 1 + 1 + 1) t4 c4 → New w W → W.heap.size = w.heap.size + 4 → Calls P f args W K) : Calls P f args ((((w.alloc (.cells c1 t1)).alloc (.cells c2 t2)).alloc (.cells c3 t3)).alloc (.cells c4 t4)) K :=
  Calls.new3 fun W hb hb' hb'' hn hz => h W ((Blk.new w t1 c1).chg hn (fun h => h)) (by rw [World.size_alloc] at hb; exact hb) (by rw [World.size_alloc] at hb'; exact hb') (by rw [World.size_alloc] at hb''; exact hb'') (((Chg.refl _ w).alloc _).new hn) (by rw [hz]; simp)
/-- A walk in such a world. -/
theorem Code.new1 {c : Code} {Q : Exit → Act → World → Prop} {a : Act} (h : ∀ W, Blk W w.heap.size t1 c1 → New w W → W.heap.size = w.heap.size + 1 → Code.wp P c Q a W) : Code.wp P c Q a (w.alloc (.cells c1 t1)) :=
  h _ (Blk.new _ _ _) ((Chg.refl _ w).alloc _) (by simp)
theorem Code.new2 {c : Code} {Q : Exit → Act → World → Prop} {a : Act} (h : ∀ W, Blk W w.heap.size t1 c1 → Blk W (w.heap.size + 1) t2 c2 → New w W → W.heap.size = w.heap.size + 2 → Code.wp P c Q a W) : Code.wp P c Q a ((w.alloc (.cells c1 t1)).alloc (.cells c2 t2)) :=
  Code.new1 fun W hb hn hz => h W ((Blk.new w t1 c1).chg hn (fun h => h)) (by rw [World.size_alloc] at hb; exact hb) (((Chg.refl _ w).alloc _).new hn) (by rw [hz]; simp)
theorem Code.new3 {c : Code} {Q : Exit → Act → World → Prop} {a : Act} (h : ∀ W, Blk W w.heap.size t1 c1 → Blk W (w.heap.size + 1) t2 c2 → Blk W (w.heap.size + 1 + 1) t3 c3 → New w W → W.heap.size = w.heap.size + 3 → Code.wp P c Q a W) : Code.wp P c Q a (((w.alloc (.cells c1 t1)).alloc (.cells c2 t2)).alloc (.cells c3 t3)) :=
  Code.new2 fun W hb hb' hn hz => h W ((Blk.new w t1 c1).chg hn (fun h => h)) (by rw [World.size_alloc] at hb; exact hb) (by rw [World.size_alloc] at hb'; exact hb') (((Chg.refl _ w).alloc _).new hn) (by rw [hz]; simp)
theorem Code.new4 {c : Code} {Q : Exit → Act → World → Prop} {a : Act} (h : ∀ W, Blk W w.heap.size t1 c1 → Blk W (w.heap.size + 1) t2 c2 → Blk W (w.heap.size + 1 + 1) t3 c3 → Blk W (w.heap.size + 1 + 1 + 1) t4 c4 → New w W → W.heap.size = w.heap.size + 4 → Code.wp P c Q a W) : Code.wp P c Q a ((((w.alloc (.cells c1 t1)).alloc (.cells c2 t2)).alloc (.cells c3 t3)).alloc (.cells c4 t4)) :=
  Code.new3 fun W hb hb' hb'' hn hz => h W ((Blk.new w t1 c1).chg hn (fun h => h)) (by rw [World.size_alloc] at hb; exact hb) (by rw [World.size_alloc] at hb'; exact hb') (by rw [World.size_alloc] at hb''; exact hb'') (((Chg.refl _ w).alloc _).new hn) (by rw [hz]; simp)
end
end Go.Mem

namespace Go.Mem
set_option linter.unusedVariables false
open Go.RowKit

/-! ### the invariant law, for regions that draw and for regions in order, guards and all -/
section
variable {P : Program} {ops : Array Oper} {Q : Exit → Act → World → Prop} {md : Region.Mode} {T : Array Value} {ds : List Deferred}
/-- What one operation has to do for an invariant. -/
def OpOk (P : Program) (ops : Array Oper) (Q : Exit → Act → World → Prop) (T : Array Value) (ds : List Deferred) (I : (Nat → Bool) → (Nat → Option Value) → World → Prop) (b : Nat → Bool) (f : Nat → Option Value) (w : World) (i : Nat) (o : Oper) : Prop :=
  (Region.wanted o (yielded ops (upd T f)) = true ∧ o.wp P ⟨upd T f, ds⟩ w (fun a' w' => ∃ v, a' = (Act.mk (upd T f) ds).put o.dst v ∧ I (fun k => if k = i then true else b k) (upF o.dst v f) w') Q) ∨
  (Region.wanted o (yielded ops (upd T f)) = false ∧ I (fun k => if k = i then true else b k) (upF o.dst undef f) w)

theorem wpAny_inv2 (I : (Nat → Bool) → (Nat → Option Value) → World → Prop)
    (hord : ∀ (i : Nat) (o : Oper), ops[i]? = some o → ∀ e ∈ o.after, Region.binds md e = true → e.on < i)
    (hdone : ∀ b f w, I b f w → (∀ i, i < ops.size → b i = true) → Q .normal ⟨upd T f, ds⟩ w)
    (hstep : ∀ (b : Nat → Bool) (f : Nat → Option Value) (w : World) (i : Nat) (o : Oper), I b f w → ops[i]? = some o → b i = false → (∀ e ∈ o.after, Region.binds md e = true → b e.on = true) → OpOk P ops Q T ds I b f w i o) :
    ∀ (fuel : Nat) (listed : Array Bool) (f : Nat → Option Value) (w : World), listed.size = ops.size → left listed ≤ fuel → I (fun i => listed.getD i false) f w → wpAny P md ops Q fuel listed ⟨upd T f, ds⟩ w := by
  have hall : ∀ listed : Array Bool, listed.size = ops.size → Region.ready md ops listed = [] → ∀ i, i < ops.size → listed.getD i false = true := by
    intro listed hs hr i
    induction i using Nat.strongRecOn with
    | ind i ih =>
      intro hi
      have ho : ops[i]? = some ops[i] := Array.getElem?_eq_getElem hi
      have := ready_none hr ho (fun e he hbe => ih e.on (hord i _ ho e he hbe) (Nat.lt_trans (hord i _ ho e he hbe) hi))
      simpa [Array.getD, hs, hi] using this
  intro fuel
  induction fuel with
  | zero =>
    intro listed f w hs hl hJ
    have hr : Region.ready md ops listed = [] := by
      cases h : Region.ready md ops listed with
      | nil => rfl
      | cons i t =>
        have hm : i ∈ Region.ready md ops listed := by rw [h]; simp
        have := left_set (ready_mem hm).2.1
        omega
    exact ⟨hr, hdone _ _ _ hJ (hall listed hs hr)⟩
  | succ fuel ih =>
    intro listed f w hs hl hJ
    refine ⟨fun hr => hdone _ _ _ hJ (hall listed hs hr), fun i hi => ?_⟩
    obtain ⟨h1, h2, o, ho, ha⟩ := ready_mem hi
    have hb : listed.getD i false = false := by
      simpa [Array.getD, hs, h1] using h2
    have e : (fun k => (listed.setIfInBounds i true).getD k false) = (fun k => if k = i then true else listed.getD k false) := by
      funext k
      by_cases hk : k = i
      · subst hk; simp [Array.getD, hs, h1]
      · rw [if_neg hk]
        simp only [Array.getD_eq_getD_getElem?, Array.getElem?_setIfInBounds]
        rw [if_neg (fun e => hk e.symm)]
    unfold wpOp
    rw [ho]
    simp only
    rcases hstep _ f w i o hJ ho hb ha with ⟨hg, hw⟩ | ⟨hg, hw⟩
    · rw [if_pos hg]
      refine Or.inl (Oper.wp_mono ?_ hw)
      rintro a' w' ⟨v, rfl, hJ'⟩
      rw [upd_put]
      refine ih _ _ _ (by simpa using hs) (by have := left_set h2; omega) ?_
      rw [e]
      exact hJ'
    · rw [if_neg (by rw [hg]; simp)]
      rw [upd_put]
      refine ih _ _ _ (by simpa using hs) (by have := left_set h2; omega) ?_
      rw [e]
      exact hw

theorem wpOps_inv (I : (Nat → Bool) → (Nat → Option Value) → World → Prop)
    (hord : ∀ (i : Nat) (o : Oper), ops[i]? = some o → ∀ e ∈ o.after, Region.binds .any e = true → e.on < i)
    (hdone : ∀ b f w, I b f w → (∀ i, i < ops.size → b i = true) → Q .normal ⟨upd T f, ds⟩ w)
    (hstep : ∀ (b : Nat → Bool) (f : Nat → Option Value) (w : World) (i : Nat) (o : Oper), I b f w → ops[i]? = some o → b i = false → (∀ e ∈ o.after, Region.binds .any e = true → b e.on = true) → OpOk P ops Q T ds I b f w i o) :
    ∀ (m k : Nat) (f : Nat → Option Value) (w : World), k + m = ops.size → I (fun i => decide (i < k)) f w → wpOps P ops Q (List.range' k m) ⟨upd T f, ds⟩ w := by
  intro m
  induction m with
  | zero =>
    intro k f w hk hI
    exact hdone _ _ _ hI (fun i hi => by simp; omega)
  | succ m ih =>
    intro k f w hk hI
    have hlt : k < ops.size := by omega
    have ho : ops[k]? = some ops[k] := Array.getElem?_eq_getElem hlt
    rw [List.range'_succ]
    unfold wpOps
    rw [ho]
    simp only
    have e : (fun i => decide (i < k + 1)) = (fun i => if i = k then true else decide (i < k)) := by
      funext i
      by_cases h : i = k
      · subst h; simp
      · rw [if_neg h]
        by_cases h2 : i < k
        · have : i < k + 1 := by omega
          simp [h2, this]
        · have : ¬ i < k + 1 := by omega
          simp [h2, this]
    rcases hstep _ f w k _ hI ho (by simp) (fun e he hbe => by have := hord k _ ho e he hbe; simpa using this) with ⟨hg, hw⟩ | ⟨hg, hw⟩
    · rw [if_pos hg]
      refine Or.inl (Oper.wp_mono ?_ hw)
      rintro a' w' ⟨v, rfl, hJ'⟩
      rw [upd_put]
      refine ih _ _ _ (by omega) ?_
      rw [e]
      exact hJ'
    · rw [if_neg (by rw [hg]; simp)]
      rw [upd_put]
      refine ih _ _ _ (by omega) ?_
      rw [e]
      exact hw

theorem region_inv2 {id : Nat} {dr : Bool} {w : World} (hm : dr = true → P.follows .mixedOrders = true) (I : (Nat → Bool) → (Nat → Option Value) → World → Prop)
    (hord : ∀ (i : Nat) (o : Oper), ops[i]? = some o → ∀ e ∈ o.after, Region.binds .any e = true → e.on < i)
    (h0 : I (fun _ => false) (fun _ => none) w ∧ I (fun _ => false) (fun _ => none) w.drew)
    (hdone : ∀ b f w, I b f w → (∀ i, i < ops.size → b i = true) → Q .normal ⟨upd T f, ds⟩ w)
    (hstep : ∀ (b : Nat → Bool) (f : Nat → Option Value) (w : World) (i : Nat) (o : Oper), I b f w → ops[i]? = some o → b i = false → (∀ e ∈ o.after, Region.binds .any e = true → b e.on = true) → OpOk P ops Q T ds I b f w i o) :
    (Code.region id ops dr).wp P Q ⟨T, ds⟩ w := by
  cases dr with
  | true =>
    refine wp_region_any (hm rfl) ?_
    have h := wpAny_inv2 (P := P) (Q := Q) (md := .any) (T := T) (ds := ds) I hord hdone hstep ops.size (Array.replicate ops.size false) (fun _ => none) w.drew (by simp) (by unfold left; simp [List.countP_replicate]) (by
      have e : (fun i => (Array.replicate ops.size false).getD i false) = (fun _ => false) := by
        funext i
        simp only [Array.getD_eq_getD_getElem?, Array.getElem?_replicate]
        split <;> rfl
      rw [e]
      exact h0.2)
    rw [upd_none] at h
    exact h
  | false =>
    refine wp_region ?_
    have h := wpOps_inv (P := P) (Q := Q) (T := T) (ds := ds) I hord hdone hstep ops.size 0 (fun _ => none) w (by omega) (by
      have e : (fun i => decide (i < 0)) = (fun _ => false) := by
        funext i; simp
      rw [e]
      exact h0.1)
    rw [upd_none] at h
    rwa [List.range_eq_range']
end

/-- What a value is, in a world; kept by new memory, and by a store into a box whose cells are safe. -/
structure Ty where
  sat : Value → World → Prop
  new : ∀ {v w w'}, sat v w → New w w' → sat v w'
  st : ∀ {v w w' g t cs}, sat v w → Blk w g t cs → NoInt cs.toList → Chg (fun k => k = g) w w' → sat v w'
/-- What the cells of a block are. -/
structure CTy where
  sat : Array Value → World → Prop
  new : ∀ {v w w'}, sat v w → New w w' → sat v w'
  st : ∀ {v w w' g t cs}, sat v w → Blk w g t cs → NoInt cs.toList → Chg (fun k => k = g) w w' → sat v w'
def Ty.any : Ty := ⟨fun _ _ => True, fun _ _ => trivial, fun _ _ _ _ => trivial⟩
/-- That value. -/
def Ty.eq (c : Value) : Ty := ⟨fun v _ => v = c, fun h _ => h, fun h _ _ _ => h⟩
/-- A tuple. -/
def Ty.tup1 (a : Ty) (u : Value) : Ty := ⟨fun v w => ∃ x, v = .tuple #[x, u] ∧ a.sat x w, fun ⟨x, h1, h2⟩ hn => ⟨x, h1, a.new h2 hn⟩, fun ⟨x, h1, h2⟩ h3 h4 h5 => ⟨x, h1, a.st h2 h3 h4 h5⟩⟩
def Ty.tup2 (a b : Ty) (u : Value) : Ty := ⟨fun v w => ∃ x y, v = .tuple #[x, y, u] ∧ a.sat x w ∧ b.sat y w, fun ⟨x, y, h1, h2, h3⟩ hn => ⟨x, y, h1, a.new h2 hn, b.new h3 hn⟩, fun ⟨x, y, h1, h2, h2'⟩ h3 h4 h5 => ⟨x, y, h1, a.st h2 h3 h4 h5, b.st h2' h3 h4 h5⟩⟩
/-- The cells of one value; of two values in a row. -/
def Ty.c1 (a : Ty) : CTy := ⟨fun cs w => ∃ v, a.sat v w ∧ cs = v.cells, fun ⟨v, h1, h2⟩ hn => ⟨v, a.new h1 hn, h2⟩, fun ⟨v, h1, h2⟩ h3 h4 h5 => ⟨v, a.st h1 h3 h4 h5, h2⟩⟩
def Ty.c2 (a b : Ty) : CTy := ⟨fun cs w => ∃ v u, a.sat v w ∧ b.sat u w ∧ cs = v.cells ++ u.cells, fun ⟨v, u, h1, h2, h3⟩ hn => ⟨v, u, a.new h1 hn, b.new h2 hn, h3⟩, fun ⟨v, u, h1, h1', h2⟩ h3 h4 h5 => ⟨v, u, a.st h1 h3 h4 h5, b.st h1' h3 h4 h5, h2⟩⟩
/-- A slice that points to a block, in two words: the value's form. -/
def Ty.ptr : Ty := ⟨fun v _ => ∃ g, v = .pointer (some ⟨g, 0, none⟩), fun h _ => h, fun h _ _ _ => h⟩
/-- A call, by types. -/
def CT (P : Program) (f : Nat) (vs : Array Value) (w : World) (τ : Ty) : Prop := Calls P f vs w fun e w' => ∃ v, e = .returned v ∧ τ.sat v w' ∧ New w w'

/-- The block that an address lies in. -/
def adr : Value → Option Nat
  | .pointer (some a) => some a.block
  | .slice (some a) _ _ => some a.block
  | _ => none
/-- A box: the slot that holds its address (or the block, if it was there ahead of the region), its type, its cells at first, the operation that fills it, what it holds then. -/
structure Bx where
  p : Nat
  old : Option Nat
  t : TypeId
  z : Array Value
  st : Nat
  ct : CTy
def Bx.at (x : Bx) (f : Nat → Option Value) : Option Nat := match x.old with | some g => some g | none => (f x.p).bind adr

section
variable {P : Program} {ops : Array Oper} {Q : Exit → Act → World → Prop} {T : Array Value} {ds : List Deferred}

structure J (ops : Array Oper) (w0 : World) (CB : Nat → Prop) (O : List (Value × Ty)) (B : List Bx) (V : Nat → Ty) (b : Nat → Bool) (f : Nat → Option Value) (w : World) : Prop where
  chg : Chg CB w0 w
  typ : ∀ d v, f d = some v → (V d).sat v w
  otr : ∀ p ∈ O, p.2.sat p.1 w
  box : ∀ x ∈ B, ∀ g, x.at f = some g → g < w.heap.size ∧ (x.old = none → w0.heap.size ≤ g) ∧ ∃ cs, Blk w g x.t cs ∧ (b x.st = false → cs = x.z) ∧ (b x.st = true → x.ct.sat cs w)
  far : B.Pairwise (fun x y => ∀ g, x.at f = some g → y.at f ≠ some g)
  set : ∀ (i : Nat) (o : Oper) d, ops[i]? = some o → o.dst = some d → (b i = true ↔ f d ≠ none)
  out : ∀ d, (∀ (i : Nat) (o : Oper), ops[i]? = some o → o.dst ≠ some d) → f d = none
  cl : ∀ (i : Nat) (o : Oper), ops[i]? = some o → b i = true → ∀ e ∈ o.after, Region.binds .any e = true → b e.on = true

theorem J.typ0 {w0 : World} {CB : Nat → Prop} {O : List (Value × Ty)} {B : List Bx} {V : Nat → Ty} {b : Nat → Bool} {w : World} (h : J ops w0 CB O B V b (fun _ => none) w) : ∀ d v, (fun _ : Nat => (none : Option Value)) d = some v → (V d).sat v w.drew := fun d v h => (by cases h)
theorem J.box0 {w0 : World} {CB : Nat → Prop} {O : List (Value × Ty)} {B : List Bx} {V : Nat → Ty} {w : World} (h : J ops w0 CB O B V (fun _ => false) (fun _ => none) w) : ∀ x ∈ B, ∀ g, x.at (fun _ => none) = some g → g < w.drew.heap.size ∧ (x.old = none → w0.heap.size ≤ g) ∧ ∃ cs, Blk w.drew g x.t cs ∧ ((fun _ : Nat => false) x.st = false → cs = x.z) ∧ ((fun _ : Nat => false) x.st = true → x.ct.sat cs w.drew) := fun x hx g hg => by
  obtain ⟨h1, h2, cs, h3, h4, h5⟩ := h.box x hx g hg
  exact ⟨h1, h2, cs, Blk.drew h3, h4, fun h => (by cases h)⟩
/-- What a step has to show. -/
inductive Step (P : Program) (ops : Array Oper) (Q : Exit → Act → World → Prop) (w0 : World) (CB : Nat → Prop) (B : List Bx) (V : Nat → Ty) (b : Nat → Bool) (f : Nat → Option Value) (w : World) (a : Act) (i : Nat) (o : Oper) : Prop where
  | val (d : Nat) (hw : Region.wanted o (yielded ops a.tmps) = true) (hd : o.dst = some d) (hB : B.all (fun x => !(x.p == d && x.old.isNone)) = true) (hst : B.all (fun x => !(x.st == i)) = true)
      (h : o.wp P a w (fun a' w' => ∃ v, a' = a.put o.dst v ∧ New w w' ∧ (V d).sat v w') Q)
  | mk (x : Bx) (L R : List Bx) (hw : Region.wanted o (yielded ops a.tmps) = true) (hx : B = L ++ x :: R) (hL : L.all (fun y => !(y.p == x.p && y.old.isNone)) = true) (hR : R.all (fun y => !(y.p == x.p && y.old.isNone)) = true) (hold : x.old = none) (hd : o.dst = some x.p) (hst : (L ++ R).all (fun y => !(y.st == i)) = true)
      (h : o.wp P a w (fun a' w' => ∃ v g cs, a' = a.put o.dst v ∧ adr v = some g ∧ w.heap.size ≤ g ∧ g < w'.heap.size ∧ New w w' ∧ (V x.p).sat v w' ∧ Blk w' g x.t cs ∧ (¬ x.st = i → cs = x.z) ∧ (x.st = i → x.ct.sat cs w')) Q)
      (hno : ¬ x.st = i → b x.st = false)
  | skip (d : Nat) (hd : o.dst = some d) (hB : B.all (fun x => !(x.p == d && x.old.isNone)) = true) (hst : B.all (fun x => !(x.st == i)) = true) (hw : Region.wanted o (yielded ops a.tmps) = false) (h : (V d).sat undef w)
  | store (x : Bx) (L R : List Bx) (hw : Region.wanted o (yielded ops a.tmps) = true) (hx : B = L ++ x :: R) (hst : x.st = i) (hoth : (L ++ R).all (fun y => !(y.st == i)) = true) (hd : o.dst = none) (hz : NoInt x.z.toList) (hc : ∀ g, x.old = some g → CB g)
      (h : ∀ g, x.at f = some g → Blk w g x.t x.z → o.wp P a w (fun a' w' => (∃ v, a' = a.put o.dst v) ∧ Chg (fun k => k = g) w w' ∧ ∃ cs, Blk w' g x.t cs ∧ x.ct.sat cs w') Q)
      (hat : ∃ g, x.at f = some g)

theorem Bx.at_up {x : Bx} {d : Nat} {v : Value} {f : Nat → Option Value} (h : ¬ (x.p = d ∧ x.old = none)) : x.at (upF (some d) v f) = x.at f := by
  unfold Bx.at
  cases ho : x.old with
  | some g => rfl
  | none =>
    have hp : ¬ x.p = d := fun e => h ⟨e, ho⟩
    have hp' : ¬ d = x.p := fun e => hp e.symm
    simp [upF, hp']
theorem region_typed {id : Nat} {dr : Bool} {w0 : World} (hm : dr = true → P.follows .mixedOrders = true) (CB : Nat → Prop) (O : List (Value × Ty)) (B : List Bx) (V : Nat → Ty)
    (hord : ∀ (i : Nat) (o : Oper), ops[i]? = some o → ∀ e ∈ o.after, Region.binds .any e = true → e.on < i)
    (hdst : ∀ (i j : Nat) (o o' : Oper) d, ops[i]? = some o → ops[j]? = some o' → o.dst = some d → o'.dst = some d → i = j)
    (hO : ∀ p ∈ O, p.2.sat p.1 w0)
    (hold : ∀ x ∈ B, ∀ g, x.old = some g → Blk w0 g x.t x.z)
    (hfar : B.Pairwise (fun x y => ∀ g, x.old = some g → y.old ≠ some g))
    (hdone : ∀ b f w, J ops w0 CB O B V b f w → (∀ i, i < ops.size → b i = true) → Q .normal ⟨upd T f, ds⟩ w)
    (hstep : ∀ (b : Nat → Bool) (f : Nat → Option Value) (w : World) (i : Nat) (o : Oper), J ops w0 CB O B V b f w → ops[i]? = some o → b i = false → (∀ e ∈ o.after, Region.binds .any e = true → b e.on = true) →
      Step P ops Q w0 CB B V b f w ⟨upd T f, ds⟩ i o) :
    (Code.region id ops dr).wp P Q ⟨T, ds⟩ w0 := by
  have start : J ops w0 CB O B V (fun _ => false) (fun _ => none) w0 := by
    refine ⟨(Chg.refl _ _), fun d v h => (by cases h), hO, fun x hx g hg => ?_, ?_, fun i o d _ _ => by simp, fun _ _ => rfl, fun i o _ h => (by cases h)⟩
    · unfold Bx.at at hg
      cases ho : x.old with
      | none => rw [ho] at hg; simp at hg
      | some g' =>
        rw [ho] at hg
        injection hg with hg
        subst hg
        have hb := hold x hx g' ho
        exact ⟨hb.lt, fun h => (by cases h), x.z, hb, fun _ => rfl, fun h => (by cases h)⟩
    · refine hfar.imp (fun {x y} h g hx hy => ?_)
      unfold Bx.at at hx hy
      cases hox : x.old with
      | none => rw [hox] at hx; simp at hx
      | some g1 =>
        cases hoy : y.old with
        | none => rw [hoy] at hy; simp at hy
        | some g2 =>
          rw [hox] at hx
          rw [hoy] at hy
          injection hx with hx
          injection hy with hy
          exact h g (by rw [hox, hx]) (by rw [hoy, hy])
  refine region_inv2 hm (J ops w0 CB O B V) hord ⟨start, ⟨start.chg.drew, start.typ0, fun p hp => p.2.new (start.otr p hp) (Chg.refl _ _).drew, start.box0, start.far, start.set, start.out, start.cl⟩⟩ hdone ?_
  · intro b f w i o hJ ho hbi ha
    have hs := hstep b f w i o hJ ho hbi ha
    have hcl : ∀ (j : Nat) (o' : Oper), ops[j]? = some o' → (if j = i then true else b j) = true → ∀ e ∈ o'.after, Region.binds .any e = true → (if e.on = i then true else b e.on) = true := by
      intro j o' ho' hb e he hbe
      split
      · rfl
      · by_cases hj : j = i
        · subst hj
          rw [ho] at ho'
          injection ho' with ho'
          subst ho'
          exact ha e he hbe
        · rw [if_neg hj] at hb
          exact hJ.cl j o' ho' hb e he hbe
    cases hs with
    | val d hw hd hB hst h =>
      refine .inl ⟨hw, ?_⟩
      refine Oper.wp_mono ?_ h
      rintro a' w' ⟨v, rfl, hn, hv⟩
      refine ⟨v, rfl, ?_⟩
      have hB' : ∀ x ∈ B, ¬ (x.p = d ∧ x.old = none) := fun x hx hh => by
        have := List.all_eq_true.1 hB x hx
        simp [hh.1, hh.2] at this
      have hst' : ∀ x ∈ B, ¬ x.st = i := fun x hx hh => by
        have := List.all_eq_true.1 hst x hx
        simp [hh] at this
      rw [hd]
      refine ⟨hJ.chg.new hn, fun d' v' h' => ?_, fun p hp => p.2.new (hJ.otr p hp) hn, fun x hx g hg' => ?_, ?_, fun j o' d' ho' hd' => ?_, fun d' hd' => ?_, hcl⟩
      · simp only [upF] at h'
        split at h'
        · rename_i e
          injection e with e
          subst e
          injection h' with h'
          subst h'
          exact hv
        · exact (V d').new (hJ.typ d' v' h') hn
      · rw [Bx.at_up (hB' x hx)] at hg'
        obtain ⟨h1, h2, cs, h3, h4, h5⟩ := hJ.box x hx g hg'
        rw [if_neg (hst' x hx)]
        exact ⟨Nat.lt_of_lt_of_le h1 hn.size, h2, cs, h3.chg hn (fun h => h), h4, fun h => x.ct.new (h5 h) hn⟩
      · refine List.Pairwise.imp_of_mem ?_ hJ.far
        intro x y hx hy h g hg1 hg2
        rw [Bx.at_up (hB' x hx)] at hg1
        rw [Bx.at_up (hB' y hy)] at hg2
        exact h g hg1 hg2
      · simp only [upF]
        by_cases hj : j = i
        · subst hj
          rw [ho] at ho'
          injection ho' with ho'
          subst ho'
          rw [hd] at hd'
          simp [hd']
        · have hne : ¬ (some d = some d') := fun e => hj (hdst j i o' o d ho' ho (by rw [hd', e]) hd)
          rw [if_neg hj, if_neg hne]
          exact hJ.set j o' d' ho' hd'
      · have hne : ¬ (some d = some d') := fun e => hd' i o ho (by rw [hd, e])
        simp only [upF]
        rw [if_neg hne]
        exact hJ.out d' hd'
    | skip d hd hB hst hw hv =>
      refine .inr ⟨hw, ?_⟩
      obtain ⟨v, hvv⟩ : ∃ v, undef = v := ⟨_, rfl⟩
      rw [hvv] at hv ⊢
      have hn : New w w := Chg.refl _ _
      have hB' : ∀ x ∈ B, ¬ (x.p = d ∧ x.old = none) := fun x hx hh => by
        have := List.all_eq_true.1 hB x hx
        simp [hh.1, hh.2] at this
      have hst' : ∀ x ∈ B, ¬ x.st = i := fun x hx hh => by
        have := List.all_eq_true.1 hst x hx
        simp [hh] at this
      rw [hd]
      refine ⟨hJ.chg.new hn, fun d' v' h' => ?_, fun p hp => p.2.new (hJ.otr p hp) hn, fun x hx g hg' => ?_, ?_, fun j o' d' ho' hd' => ?_, fun d' hd' => ?_, hcl⟩
      · simp only [upF] at h'
        split at h'
        · rename_i e
          injection e with e
          subst e
          injection h' with h'
          subst h'
          exact hv
        · exact (V d').new (hJ.typ d' v' h') hn
      · rw [Bx.at_up (hB' x hx)] at hg'
        obtain ⟨h1, h2, cs, h3, h4, h5⟩ := hJ.box x hx g hg'
        rw [if_neg (hst' x hx)]
        exact ⟨Nat.lt_of_lt_of_le h1 hn.size, h2, cs, h3.chg hn (fun h => h), h4, fun h => x.ct.new (h5 h) hn⟩
      · refine List.Pairwise.imp_of_mem ?_ hJ.far
        intro x y hx hy h g hg1 hg2
        rw [Bx.at_up (hB' x hx)] at hg1
        rw [Bx.at_up (hB' y hy)] at hg2
        exact h g hg1 hg2
      · simp only [upF]
        by_cases hj : j = i
        · subst hj
          rw [ho] at ho'
          injection ho' with ho'
          subst ho'
          rw [hd] at hd'
          simp [hd']
        · have hne : ¬ (some d = some d') := fun e => hj (hdst j i o' o d ho' ho (by rw [hd', e]) hd)
          rw [if_neg hj, if_neg hne]
          exact hJ.set j o' d' ho' hd'
      · have hne : ¬ (some d = some d') := fun e => hd' i o ho (by rw [hd, e])
        simp only [upF]
        rw [if_neg hne]
        exact hJ.out d' hd'
    | mk x L R hw hx hL hR hox hd hst h hno =>
      refine .inl ⟨hw, ?_⟩
      refine Oper.wp_mono ?_ h
      rintro a' w' ⟨v, g, cs, rfl, hav, hg1, hg2, hn, hv, hb, hz, hct⟩
      refine ⟨v, rfl, ?_⟩
      have hfd : f x.p = none := by
        cases hf : f x.p with
        | none => rfl
        | some u =>
          have := (hJ.set i o x.p ho hd).2 (by rw [hf]; simp)
          rw [hbi] at this
          cases this
      have hothers : ∀ y ∈ L ++ R, ¬ (y.p = x.p ∧ y.old = none) ∧ ¬ y.st = i := by
        intro y hy
        have h1 : ¬ y.st = i := fun hh => by
          have := List.all_eq_true.1 hst y hy
          simp [hh] at this
        refine ⟨fun hh => ?_, h1⟩
        rcases List.mem_append.1 hy with hy | hy
        · have := List.all_eq_true.1 hL y hy
          simp [hh.1, hh.2] at this
        · have := List.all_eq_true.1 hR y hy
          simp [hh.1, hh.2] at this
      have hxat : x.at (upF (some x.p) v f) = some g := by
        unfold Bx.at
        rw [hox]
        simp [upF, hav]
      rw [hd]
      refine ⟨hJ.chg.new hn, fun d' v' h' => ?_, fun p hp => p.2.new (hJ.otr p hp) hn, fun y hy g' hg' => ?_, ?_, fun j o' d' ho' hd' => ?_, fun d' hd' => ?_, hcl⟩
      · simp only [upF] at h'
        split at h'
        · rename_i e
          injection e with e
          subst e
          injection h' with h'
          subst h'
          exact hv
        · exact (V d').new (hJ.typ d' v' h') hn
      · rw [hx] at hy
        by_cases hyx : y ∈ L ++ R
        · obtain ⟨q1, q2⟩ := hothers y hyx
          rw [Bx.at_up q1] at hg'
          have hyB : y ∈ B := by
            rw [hx]
            rcases List.mem_append.1 hyx with h | h <;> simp [h]
          obtain ⟨h1, h2, cs', h3, h4, h5⟩ := hJ.box y hyB g' hg'
          rw [if_neg q2]
          exact ⟨Nat.lt_of_lt_of_le h1 hn.size, h2, cs', h3.chg hn (fun h => h), h4, fun h => y.ct.new (h5 h) hn⟩
        · have hyx' : y = x := by
            rcases List.mem_append.1 hy with h | h
            · exact absurd (List.mem_append_left _ h) hyx
            · rcases List.mem_cons.1 h with h | h
              · exact h
              · exact absurd (List.mem_append_right _ h) hyx
          subst hyx'
          rw [hxat] at hg'
          injection hg' with hg'
          subst hg'
          refine ⟨hg2, fun _ => Nat.le_trans hJ.chg.size hg1, cs, hb, fun hh => ?_, fun hh => ?_⟩
          · by_cases e : y.st = i
            · rw [if_pos e] at hh; cases hh
            · exact hz e
          · by_cases e : y.st = i
            · exact hct e
            · rw [if_neg e, hno e] at hh
              cases hh
      · have hmem : ∀ y ∈ B, ∀ g', y.at f = some g' → g' < w.heap.size := fun y hy g' h' => (hJ.box y hy g' h').1
        have hfar' := hJ.far
        rw [hx] at hfar' ⊢
        have hsame : ∀ y ∈ L ++ R, y.at (upF (some x.p) v f) = y.at f := fun y hy => Bx.at_up (hothers y hy).1
        have hnew : ∀ y ∈ L ++ R, ∀ g', y.at f = some g' → g' ≠ g := fun y hy g' h' e => by
          have hyB : y ∈ B := by
            rw [hx]
            rcases List.mem_append.1 hy with h | h <;> simp [h]
          have := hmem y hyB g' h'
          omega
        rw [List.pairwise_append] at hfar' ⊢
        obtain ⟨f1, f2, f3⟩ := hfar'
        obtain ⟨f4, f5⟩ := List.pairwise_cons.1 f2
        refine ⟨f1.imp_of_mem ?_, List.pairwise_cons.2 ⟨fun y hy g' h1 h2 => ?_, f5.imp_of_mem ?_⟩, fun y hy z' hz' g' h1 h2 => ?_⟩
        · intro a b ha' hb' h g' h1 h2
          rw [hsame a (List.mem_append_left _ ha')] at h1
          rw [hsame b (List.mem_append_left _ hb')] at h2
          exact h g' h1 h2
        · rw [hxat] at h1
          injection h1 with h1
          rw [hsame y (List.mem_append_right _ hy)] at h2
          exact hnew y (List.mem_append_right _ hy) g' h2 h1.symm
        · intro a b ha' hb' h g' h1 h2
          rw [hsame a (List.mem_append_right _ ha')] at h1
          rw [hsame b (List.mem_append_right _ hb')] at h2
          exact h g' h1 h2
        · rw [hsame y (List.mem_append_left _ hy)] at h1
          rcases List.mem_cons.1 hz' with rfl | hz'
          · rw [hxat] at h2
            injection h2 with h2
            exact hnew y (List.mem_append_left _ hy) g' h1 h2.symm
          · rw [hsame z' (List.mem_append_right _ hz')] at h2
            exact f3 y hy z' (List.mem_cons_of_mem _ hz') g' h1 h2
      · simp only [upF]
        by_cases hj : j = i
        · subst hj
          rw [ho] at ho'
          injection ho' with ho'
          subst ho'
          rw [hd] at hd'
          simp [hd']
        · have hne : ¬ (some x.p = some d') := fun e => hj (hdst j i o' o x.p ho' ho (by rw [hd', e]) hd)
          rw [if_neg hj, if_neg hne]
          exact hJ.set j o' d' ho' hd'
      · have hne : ¬ (some x.p = some d') := fun e => hd' i o ho (by rw [hd, e])
        simp only [upF]
        rw [if_neg hne]
        exact hJ.out d' hd'
    | store x L R hw hx hst hoth hd hz hcb h hat =>
      refine .inl ⟨hw, ?_⟩
      obtain ⟨g, hg'⟩ := hat
      have hxB : x ∈ B := by rw [hx]; simp
      obtain ⟨h1, h2, cs0, h3, h4, h5⟩ := hJ.box x hxB g hg'
      have hcs := h4 (by rw [hst]; exact hbi)
      subst hcs
      refine Oper.wp_mono ?_ (h g hg' h3)
      rintro a' w' ⟨⟨v, rfl⟩, hch, cs, hb, hct⟩
      refine ⟨v, rfl, ?_⟩
      rw [hd]
      have hothers : ∀ y ∈ L ++ R, ¬ y.st = i := by
        intro y hy hh
        have := List.all_eq_true.1 hoth y hy
        simp [hh] at this
      have hfar' := hJ.far
      rw [hx, List.pairwise_append] at hfar'
      obtain ⟨f1, f2, f3⟩ := hfar'
      obtain ⟨f4, f5⟩ := List.pairwise_cons.1 f2
      have hne : ∀ y ∈ L ++ R, ∀ g', y.at f = some g' → g' ≠ g := by
        intro y hy g' hy' e
        subst e
        rcases List.mem_append.1 hy with h | h
        · exact f3 y h x (by simp) g' hy' hg'
        · exact f4 y h g' hg' hy'
      refine ⟨hJ.chg.trans hch (fun k hk e => ?_), fun d' v' h' => (V d').st (hJ.typ d' v' h') h3 hz hch, fun p hp => p.2.st (hJ.otr p hp) h3 hz hch, fun y hy g' hgy => ?_, hJ.far, fun j o' d' ho' hd' => ?_, hJ.out, hcl⟩
      · subst e
        cases hox : x.old with
        | some g2 =>
          have : x.at f = some g2 := by unfold Bx.at; rw [hox]
          rw [hg'] at this
          injection this with this
          subst this
          exact hcb _ hox
        | none =>
          have := h2 hox
          omega
      · by_cases hyx : y ∈ L ++ R
        · obtain ⟨q1, q2, cs', q3, q4, q5⟩ := hJ.box y (by rw [hx]; rcases List.mem_append.1 hyx with h | h <;> simp [h]) g' hgy
          rw [if_neg (hothers y hyx)]
          exact ⟨Nat.lt_of_lt_of_le q1 hch.size, q2, cs', q3.chg hch (fun e => hne y hyx g' hgy e), q4, fun h => y.ct.st (q5 h) h3 hz hch⟩
        · have hyx' : y = x := by
            rw [hx] at hy
            rcases List.mem_append.1 hy with h | h
            · exact absurd (List.mem_append_left _ h) hyx
            · rcases List.mem_cons.1 h with h | h
              · exact h
              · exact absurd (List.mem_append_right _ h) hyx
          subst hyx'
          have hgy : y.at f = some g' := hgy
          rw [hg'] at hgy
          injection hgy with hgy
          subst hgy
          rw [if_pos hst]
          exact ⟨Nat.lt_of_lt_of_le h1 hch.size, h2, cs, hb, fun h => (by cases h), fun _ => hct⟩
      · simp only [upF]
        by_cases hj : j = i
        · subst hj
          rw [ho] at ho'
          injection ho' with ho'
          subst ho'
          rw [hd] at hd'
          cases hd'
        · rw [if_neg hj]
          exact hJ.set j o' d' ho' hd'
end
end Go.Mem

namespace Go.Mem
set_option linter.unusedVariables false
open Go.RowKit
section
variable {P : Program} {o : Oper} {a : Act} {w w' : World} {K : Act → World → Prop} {Q : Exit → Act → World → Prop} {v : Value}
theorem wp_val (h : (execOp a.eval o).run P w = .ok (.value v) w') (hk : K (a.put o.dst v) w') : o.wp P a w K Q := by
  unfold Oper.wp
  rw [h]
  exact hk
theorem wp_skp (h : (execOp a.eval o).run P w = .ok .skip w') (hk : K (a.put o.dst undef) w') : o.wp P a w K Q := by
  unfold Oper.wp
  rw [h]
  exact hk
theorem ex_move {x : Operand} (h : o.op = .move x ∨ o.op = .assign x) (hx : a.eval x = v) : (execOp a.eval o).run P w = .ok (.value v) w := by
  rcases h with h | h <;> simp [execOp, h, hx, Sem.run_pure]
theorem ex_load {ty : TypeId} {x : Operand} {ad : Addr} (h : o.op = .load ty x) (hx : a.eval x = .pointer (some ad)) (hl : (loadVar ty ad).run P w = .ok v w) : (execOp a.eval o).run P w = .ok (.value v) w := by
  simp [execOp, h, Instr.loadAt, Instr.sureAddr, hx, hl, Result.andThen]
theorem ex_store {ty : TypeId} {x y : Operand} {ad : Addr} (h : o.op = .store ty x y) (hx : a.eval x = .pointer (some ad)) (hy : a.eval y = v) (hl : (storeVar ty ad v).run P w = .ok () w') : (execOp a.eval o).run P w = .ok .skip w' := by
  simp [execOp, h, Instr.storeAt, Instr.sureAddr, hx, hy, hl, Result.andThen]
theorem ex_alloc {ty : TypeId} {z : Value} (h : o.op = .alloc ty) (hz : (zeroValue ty).run P w = .ok z w) : (execOp a.eval o).run P w = .ok (.value (.pointer (some ⟨w.heap.size, 0, none⟩))) (w.alloc (.cells z.cells ty)) := by
  simp [execOp, h, Instr.alloc, hz, newVar, newRow, Result.andThen]
theorem ex_box {ty : TypeId} {x : Operand} (h : o.op = .box ty x) (hx : a.eval x = v) : (execOp a.eval o).run P w = .ok (.value (.pointer (some ⟨w.heap.size, 0, none⟩))) (w.alloc (.cells v.cells ty)) := by
  simp [execOp, h, Instr.box, hx, newVar, newRow, Result.andThen]
theorem ex_extract {x : Operand} {i : Nat} {vs : Array Value} (h : o.op = .extract x i) (hx : a.eval x = .tuple vs) (hv : vs[i]? = some v) : (execOp a.eval o).run P w = .ok (.value v) w := by
  simp [execOp, h, Instr.extract, hx, hv, Result.andThen]
theorem ex_build {ty : TypeId} {ps : Array (Nat × Operand)} {vs : Array (Nat × Value)} (h : o.op = .build ty ps) (hp : ps.map (fun x => (x.1, a.eval x.2)) = vs) (hr : (Instr.build ty vs).run P w = .ok v w) : (execOp a.eval o).run P w = .ok (.value v) w := by
  simp [execOp, h, hp, hr, Result.andThen]
theorem ex_lit {ty : TypeId} {n : Nat} {ps : Array (Nat × Operand)} {vs : Array (Nat × Value)} (h : o.op = .buildSlice ty n ps) (hp : ps.map (fun x => (x.1, a.eval x.2)) = vs) (hr : (Instr.buildSlice ty n vs).run P w = .ok v w') : (execOp a.eval o).run P w = .ok (.value v) w' := by
  simp [execOp, h, hp, hr, Result.andThen]
theorem ex_field {s : TypeId} {x : Operand} {f : Nat} {p : Value} (h : o.op = .fieldAddr s x f) (hx : a.eval x = p) (hr : (Instr.fieldAt s p f).run P w = .ok v w) : (execOp a.eval o).run P w = .ok (.value v) w := by
  simp [execOp, h, hx, hr, Result.andThen]
theorem ex_index {t : TypeId} {x y : Operand} {p i : Value} (h : o.op = .indexAddr t x y) (hx : a.eval x = p) (hy : a.eval y = i) (hr : (Instr.indexAt t p i).run P w = .ok v w) : (execOp a.eval o).run P w = .ok (.value v) w := by
  simp [execOp, h, hx, hy, hr, Result.andThen]
end
end Go.Mem

namespace Go.Mem
set_option linter.unusedVariables false
open Go.RowKit

/-- A region's operations look as a region's do: edges lead back, no slot is written twice, all slots that are written are listed. -/
def chk (ops : Array Oper) (D : List Nat) : Bool := (List.range ops.size).all fun i => match ops[i]? with
  | none => true
  | some o => o.after.all (fun e => !Region.binds .any e || decide (e.on < i)) && (match o.dst with
    | none => true
    | some d => D.contains d && (List.range i).all fun j => match ops[j]? with | none => true | some o' => !(o'.dst == some d))
section
variable {P : Program} {ops : Array Oper} {D : List Nat} {Q : Exit → Act → World → Prop}
theorem chk_at (h : chk ops D = true) {i : Nat} {o : Oper} (ho : ops[i]? = some o) : o.after.all (fun e => !Region.binds .any e || decide (e.on < i)) = true ∧ (match o.dst with
    | none => true
    | some d => D.contains d && (List.range i).all fun j => match ops[j]? with | none => true | some o' => !(o'.dst == some d)) = true := by
  have hi := (Array.getElem?_eq_some_iff.1 ho).1
  have := List.all_eq_true.1 h i (by simpa using hi)
  rw [ho] at this
  simpa [Bool.and_eq_true] using this
theorem chk_ord (h : chk ops D = true) : ∀ (i : Nat) (o : Oper), ops[i]? = some o → ∀ e ∈ o.after, Region.binds .any e = true → e.on < i := fun i o ho e he hb => by
  have := Array.all_eq_true_iff_forall_mem.1 (chk_at h ho).1 e he
  rw [hb] at this
  simpa using this
theorem chk_in (h : chk ops D = true) (i : Nat) (o : Oper) (d : Nat) (ho : ops[i]? = some o) (hd : o.dst = some d) : d ∈ D := by
  have := (chk_at h ho).2
  rw [hd] at this
  simp only [Bool.and_eq_true] at this
  simpa using this.1
theorem chk_lt (h : chk ops D = true) {i j : Nat} {o o' : Oper} {d : Nat} (ho : ops[i]? = some o) (ho' : ops[j]? = some o') (hd : o.dst = some d) (hd' : o'.dst = some d) (hj : j < i) : False := by
  have := (chk_at h ho).2
  rw [hd] at this
  simp only [Bool.and_eq_true] at this
  have := List.all_eq_true.1 this.2 j (by simpa using hj)
  rw [ho'] at this
  simp [hd'] at this
theorem chk_dst (h : chk ops D = true) : ∀ (i j : Nat) (o o' : Oper) d, ops[i]? = some o → ops[j]? = some o' → o.dst = some d → o'.dst = some d → i = j := fun i j o o' d ho ho' hd hd' => by
  rcases Nat.lt_trichotomy i j with hl | he | hg
  · exact (chk_lt h ho' ho hd' hd hl).elim
  · exact he
  · exact (chk_lt h ho ho' hd hd' hg).elim

/-- c is the frame a with the slots of f written anew. -/
structure Fr (a c : Act) (f : Nat → Option Value) : Prop where
  ev : ∀ t, t < a.tmps.size → c.eval (.tmp t) = (f t).getD (a.eval (.tmp t))
  size : c.tmps.size = a.tmps.size
  defers : c.defers = a.defers
theorem Fr.in {a c : Act} {f : Nat → Option Value} (h : Fr a c f) {t : Nat} {v : Value} (ht : t < a.tmps.size) (hf : f t = some v) : c.eval (.tmp t) = v := by rw [h.ev t ht, hf]; rfl
theorem Fr.out {a c : Act} {f : Nat → Option Value} (h : Fr a c f) {t : Nat} {v : Value} (ht : t < a.tmps.size) (hf : f t = none) (hv : a.eval (.tmp t) = v) : c.eval (.tmp t) = v := by rw [h.ev t ht, hf, hv]; rfl

/-- Operation i is x, writes slot d, is guarded by g, and waits for others. -/
def IsO (ops : Array Oper) (i : Nat) (d : Option Nat) (x : Op) (g : Option (Nat × Bool)) (deps : List Nat) : Prop := ∃ o, ops[i]? = some o ∧ o.op = x ∧ o.dst = d ∧ o.guard = g ∧ ∀ k ∈ deps, ∃ e ∈ o.after, Region.binds .any e = true ∧ e.on = k
theorem IsO.of {i : Nat} {d : Option Nat} {x : Op} {g : Option (Nat × Bool)} {deps : List Nat} (o : Oper) (ho : ops[i]? = some o) (h1 : o.op = x) (h2 : o.dst = d) (h3 : o.guard = g) (h4 : (deps.all fun k => o.after.any fun e => Region.binds .any e && e.on == k) = true) : IsO ops i d x g deps := by
  refine ⟨o, ho, h1, h2, h3, fun k hk => ?_⟩
  have h5 := List.all_eq_true.1 h4 k hk
  obtain ⟨i, hi, h6⟩ := Array.any_eq_true.1 h5
  rw [Bool.and_eq_true] at h6
  exact ⟨o.after[i], Array.getElem_mem hi, h6.1, by simpa using h6.2⟩
def nthL : List Oper → Nat → Option Oper
  | [], _ => none
  | a :: _, 0 => some a
  | _ :: l, n + 1 => nthL l n
theorem nthL_eq : ∀ (l : List Oper) (i : Nat), nthL l i = l[i]?
  | [], i => by simp [nthL]
  | a :: l, 0 => by simp [nthL]
  | a :: l, n + 1 => by simp [nthL, nthL_eq l n]
theorem IsO.mk' {l : List Oper} (hops : ops = l.toArray) (i : Nat) (o : Oper) (ho : nthL l i = some o) (deps : List Nat) (h4 : (deps.all fun k => o.after.any fun e => Region.binds .any e && e.on == k) = true) : IsO ops i o.dst o.op o.guard deps := by
  subst hops
  exact IsO.of o (by rw [← ho, nthL_eq]; simp) rfl rfl rfl h4
theorem IsO.none {i d : Nat} {x : Op} {g : Option (Nat × Bool)} {deps : List Nat} (h : IsO ops i (some d) x g deps) {w0 : World} {CB : Nat → Prop} {O : List (Value × Ty)} {B : List Bx} {V : Nat → Ty} {b : Nat → Bool} {f : Nat → Option Value} {w : World} (hJ : J ops w0 CB O B V b f w) (hb : b i = false) : f d = none := by
  obtain ⟨o, h1, _, h2, _⟩ := h
  cases hf : f d with
  | none => rfl
  | some v =>
    have := (hJ.set i o d h1 h2).2 (by rw [hf]; simp)
    rw [hb] at this
    cases this
theorem IsO.not {i j : Nat} {d : Option Nat} {x : Op} {g : Option (Nat × Bool)} {deps : List Nat} (h : IsO ops i d x g deps) {w0 : World} {CB : Nat → Prop} {O : List (Value × Ty)} {B : List Bx} {V : Nat → Ty} {b : Nat → Bool} {f : Nat → Option Value} {w : World} (hJ : J ops w0 CB O B V b f w) (hj : b j = false) (hd : j ∈ deps) : b i = false := by
  obtain ⟨o, h1, _, h2, _, h5⟩ := h
  cases hb : b i with
  | false => rfl
  | true =>
    obtain ⟨e, he, hbe, rfl⟩ := h5 j hd
    have := hJ.cl i o h1 hb e he hbe
    rw [hj] at this
    cases this
theorem then_ret {n : Act → World → Prop} {a : Act} {w : World} (h : Q .ret a w) : Exit.then n Q .ret a w := h
/-- A box that holds a value of a type. -/
def BX (w : World) (g : Nat) (t : TypeId) (τ : Ty) : Prop := ∃ v, τ.sat v w ∧ Blk w g t v.cells
theorem BX.new {w w' : World} {g : Nat} {t : TypeId} {τ : Ty} (h : BX w g t τ) (hn : New w w') : BX w' g t τ := by
  obtain ⟨v, h1, h2⟩ := h
  exact ⟨v, τ.new h1 hn, h2.chg hn (fun h => h)⟩
theorem BX.lt {w : World} {g : Nat} {t : TypeId} {τ : Ty} (h : BX w g t τ) : g < w.heap.size := by
  obtain ⟨v, h1, h2⟩ := h
  exact h2.lt
/-- Values of the type are structs of n cells. -/
def Ty.str (τ : Ty) (n : Nat) : Prop := ∀ v w, τ.sat v w → ∃ cs : Array Value, v = .agg cs ∧ cs.size = n ∧ cs.all (·.oneCell') = true
theorem BX.load {w : World} {g n : Nat} {t ty : TypeId} {τ : Ty} (h : BX w g t τ) (hs : τ.str n) (hA : Agg P ty n) : ∃ v, (loadVar ty ⟨g, 0, none⟩).run P w = .ok v w ∧ τ.sat v w := by
  obtain ⟨v, h1, h2⟩ := h
  obtain ⟨cs, rfl, h3, _⟩ := hs v w h1
  subst h3
  exact ⟨_, Agg.load hA h2, h1⟩
theorem BX.of {w : World} {g : Nat} {t : TypeId} {τ : Ty} {cs : Array Value} (hb : Blk w g t cs) (hc : τ.c1.sat cs w) : BX w g t τ := by
  obtain ⟨v, h1, rfl⟩ := hc
  exact ⟨v, h1, hb⟩
end
end Go.Mem

namespace Go.Mem
set_option linter.unusedVariables false
open Go.RowKit
section
variable {P : Program} {o : Oper} {a : Act} {w w' : World} {v : Value}
theorem enter_of {f : Nat} {fn : Func} (hf : P.funcs[f]? = some fn) (h : (fn.name == "runtime.NumGoroutine" || fn.body.isNone) = false) (args : Array Value) (w : World) : (callFunc f args).run P w = .ok (.enter f args) w := by
  rw [Bool.or_eq_false_iff] at h
  have h1 : ¬ fn.name = "runtime.NumGoroutine" := by simpa using h.1
  have h2 : ¬ fn.body = none := fun e => by rw [e] at h; cases h.2
  simp [callFunc, hf, h1, h2, go_sem]
theorem eqg_int (op : BinOp) (t : TypeId) (x y : Operand) (k k' : IntKind) (i j : Int) : (eqGuard op t x y (.int k i) (.int k' j)).run P w = .ok () w := by
  unfold eqGuard
  split <;> simp [go_sem]
theorem eqg_str (op : BinOp) (t : TypeId) (x y : Operand) (i j : ByteArray) : (eqGuard op t x y (.string i) (.string j)).run P w = .ok () w := by
  unfold eqGuard
  split <;> simp [go_sem]
theorem ex_bin {op : BinOp} {t u : TypeId} {x y : Operand} {vx vy : Value} (h : o.op = .binOp op t x y u) (hx : a.eval x = vx) (hy : a.eval y = vy) (hg : (eqGuard op t x y vx vy).run P w = .ok () w) (hr : (binOp op t vx vy).run P w = .ok v w) : (execOp a.eval o).run P w = .ok (.value v) w := by
  simp [execOp, h, hx, hy, hg, hr, Result.andThen]
theorem ex_pick {x y z : Operand} {b : Bool} (h : o.op = .pick x y z) (hx : a.eval x = .bool b) (hy : (if b then a.eval y else a.eval z) = v) : (execOp a.eval o).run P w = .ok (.value v) w := by
  cases b <;> simp_all [execOp, asBool, go_sem]
/-- The address of a field. -/
theorem run_field {s : TypeId} {g f off sz : Nat} {fs : Array Field} {fd : Field} (hs : P.underlying s = some (.struct fs)) (hf : fs[f]? = some fd) (ho : fd.offset = off) (hz : (P.info? fd.type).map (·.size) = some sz) (hz0 : (sz == 0) = false) : (Instr.fieldAt s (.pointer (some ⟨g, 0, none⟩)) f).run P w = .ok (.pointer (some ⟨g, off, none⟩)) w := by
  subst ho
  have hz0' : ¬ sz = 0 := by simpa using hz0
  cases hq : P.info? fd.type with
  | none => rw [hq] at hz; cases hz
  | some d =>
    rw [hq] at hz
    injection hz with hz
    simp [Instr.fieldAt, run_underlying hs, hf, Instr.sureAddr, fieldPlace, sizeOf, typeInfo, hq, hz, hz0', Addr.add_lit, Result.andThen, go_sem]
/-- Some cells in a row, as a struct. -/
theorem load_cells {ty : TypeId} {n : Nat} {ad : Addr} (hA : Agg P ty n) (cs : List Value) (hn : cs.length = n) (h : ∀ j u, cs[j]? = some u → w.cell? (ad.add j) = some u) : (loadVar ty ad).run P w = .ok (.agg cs.toArray) w := by
  obtain ⟨d, hu, hd, hi⟩ := hA
  have hl := run_loadCells_list (P := P) (w := w) ad cs h
  rw [hn] at hl
  cases hq : P.info? ty with
  | none => rw [hq] at hi; cases hi
  | some i =>
    rw [hq] at hi
    injection hi with hi
    cases d <;> simp_all [loadVar, isAgg, run_underlying hu, sizeOf, typeInfo, Result.andThen, go_sem]
/-- Cells of a block from one place on. -/
theorem blk_cells {g k : Nat} {t : TypeId} {cs : Array Value} (hb : Blk w g t cs) (ds : List Value) (h : ∀ j u, ds[j]? = some u → cs[k + j]? = some u) : ∀ j u, ds[j]? = some u → w.cell? ((⟨g, k, none⟩ : Addr).add j) = some u := fun j u hu => by
  rw [Addr.add_lit]
  exact hb.cell (k + j) (h j u hu)
theorem run_eql (t : TypeId) (k : IntKind) (x y : Int) : (binOp .eql t (.int k x) (.int k y)).run P w = .ok (.bool (x == y)) w := by
  simp [binOp, go_sem]
theorem run_neq (t : TypeId) (k : IntKind) (x y : Int) : (binOp .neq t (.int k x) (.int k y)).run P w = .ok (.bool (!(x == y))) w := by
  simp [binOp, go_sem]
  rfl
theorem run_lss (t : TypeId) (k : IntKind) (x y : Int) : (binOp .lss t (.int k x) (.int k y)).run P w = .ok (.bool (decide (x < y))) w := by
  simp [binOp, go_sem]
theorem run_leq (t : TypeId) (k : IntKind) (x y : Int) : (binOp .leq t (.int k x) (.int k y)).run P w = .ok (.bool (decide (x ≤ y))) w := by
  simp [binOp, go_sem]
theorem run_gtr (t : TypeId) (k : IntKind) (x y : Int) : (binOp .gtr t (.int k x) (.int k y)).run P w = .ok (.bool (decide (y < x))) w := by
  simp [binOp, go_sem]
theorem run_geq (t : TypeId) (k : IntKind) (x y : Int) : (binOp .geq t (.int k x) (.int k y)).run P w = .ok (.bool (decide (y ≤ x))) w := by
  simp [binOp, go_sem]
theorem run_as {v v' : Value} {e : Sem Value} (h : e.run P w = .ok v w) (hv : v = v') : e.run P w = .ok v' w := hv ▸ h
theorem enter_size {a : Act} {args : Array Value} {n N : Nat} (ha : a = { tmps := args ++ Array.replicate n undef, defers := [] }) (h : args.size + n = N) : a.tmps.size = N := by
  subst ha
  simpa using h
theorem enter_ev {a : Act} {args : Array Value} {n : Nat} (ha : a = { tmps := args ++ Array.replicate n undef, defers := [] }) {i : Nat} {v : Value} (h : args[i]? = some v) : a.eval (.tmp i) = v := by
  subst ha
  show (args ++ Array.replicate n undef).getD i undef = v
  rw [Array.getD_eq_getD_getElem?, Array.getElem?_append_left (Array.getElem?_eq_some_iff.1 h).1, h]
  rfl
theorem enter_defers {a : Act} {args : Array Value} {n : Nat} (ha : a = { tmps := args ++ Array.replicate n undef, defers := [] }) : a.defers = [] := by rw [ha]
theorem enter_wp {f : Nat} {fn : Func} {c : Code} {args : Array Value} {w : World} {R : Ending → World → Prop} {n : Nat} (hf : P.funcs[f]? = some fn) (hb : fn.body = some c) (hn : fn.ntmps = n)
    (h : ∀ a : Act, a = { tmps := args ++ Array.replicate (n - args.size) undef, defers := [] } → c.wp P (bodyPost P fn R) a w) : Calls P f args w R := by
  refine calls_of_wp hf hb ?_
  rw [hn]
  exact h _ rfl
theorem ex_len {x : Operand} {t e : TypeId} {A : Option Addr} {n c : Nat} (h : o.op = .call { callee := .builtin .len, args := #[x], argTypes := #[t] }) (ht : P.underlying t = some (.slice e)) (hx : a.eval x = .slice A n c) : (execOp a.eval o).run P w = .ok (.value (.int .i64 n)) w := by
  simp [execOp, h, resolve, invoke, builtin, hx, Builtin.len_, run_underlying ht, goInt, Result.andThen]
theorem inBlock_exit {Q : Exit → Act → World → Prop} {id : Nat} (h : Q .normal a w) : Exit.inBlock id Q (.exit id) a w := by
  simpa [Exit.inBlock] using h
theorem then_exit {Q : Exit → Act → World → Prop} {n : Act → World → Prop} {id : Nat} (h : Q (.exit id) a w) : Exit.then n Q (.exit id) a w := h
theorem inBlock_ret {Q : Exit → Act → World → Prop} {id : Nat} (h : Q .ret a w) : Exit.inBlock id Q .ret a w := h
theorem run_add' (x y : Int) (t : TypeId) : (binOp .add t (.int .i64 x) (.int .i64 y)).run P w = .ok (.int .i64 (IntKind.i64.wrap (x + y))) w := by
  simp [binOp, go_sem]
theorem run_sub' (x y : Int) (t : TypeId) : (binOp .sub t (.int .i64 x) (.int .i64 y)).run P w = .ok (.int .i64 (IntKind.i64.wrap (x - y))) w := by
  simp [binOp, go_sem]
theorem run_mul' (x y : Int) (t : TypeId) : (binOp .mul t (.int .i64 x) (.int .i64 y)).run P w = .ok (.int .i64 (IntKind.i64.wrap (x * y))) w := by
  simp [binOp, go_sem]
end
end Go.Mem

namespace Go.Mem
set_option linter.unusedVariables false
open Go.RowKit
section
variable {P : Program} {o : Oper} {a : Act} {w w' : World} {v : Value}
/-- A loop by a ghost that falls. -/
theorem loop_ghost {Q : Exit → Act → World → Prop} {c : Code} (I : Nat → Act → World → Prop) (n : Nat) (h0 : I n a w) (round : ∀ n a w, I n a w → c.wp P (Exit.then (fun a' w' => ∃ m, m < n ∧ I m a' w') Q) a w) : (Code.loop c).wp P Q a w := by
  have key : ∀ N n, n < N → ∀ a w, I n a w → Code.rounds P c Q N a w := by
    intro N
    induction N with
    | zero => intro n h; omega
    | succ N ih =>
      intro n hn a w hI
      rw [rounds_succ]
      refine wp_mono (round n a w hI) (fun e a' w' h => ?_)
      cases e with
      | normal =>
        obtain ⟨m, hm, hI'⟩ := h
        exact ih m (by omega) a' w' hI'
      | _ => exact h
  exact wp_loop_rounds (n + 1) (key (n + 1) n (by omega) a w h0)
theorem ex_un {op : UnOp} {t : TypeId} {x : Operand} {vx : Value} (h : o.op = .unOp op t x) (hx : a.eval x = vx) (hr : (Op.unary op vx).run P w = .ok v w) : (execOp a.eval o).run P w = .ok (.value v) w := by
  simp [execOp, h, hx, hr, Result.andThen]
theorem run_negi (x : Int) : (Op.unary .neg (.int .i64 x)).run P w = .ok (.int .i64 (IntKind.i64.wrap (-x))) w := by
  simp [Op.unary, go_sem]
theorem then_normal {Q : Exit → Act → World → Prop} {n : Act → World → Prop} (h : n a w) : Exit.then n Q .normal a w := h
theorem inBlock_normal {Q : Exit → Act → World → Prop} {id : Nat} (h : Q .normal a w) : Exit.inBlock id Q .normal a w := h
end
end Go.Mem
