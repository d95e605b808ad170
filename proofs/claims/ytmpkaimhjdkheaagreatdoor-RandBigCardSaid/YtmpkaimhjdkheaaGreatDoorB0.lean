/- The parts Mem, MemIn, PureHash, Base, Hash, Hash2, RefHash, RandWord, Range, RangeB, RandBelow, RandPick, PureFeist, PureDig of the proof, in one text. -/
import Derived.WalkKit
import Derived.WalkSpells
import Derived.WalkLawsBesides
import Derived.Maps.AppendAt
import Derived.Deep.AppendLies
import Derived.Deep.Draws
import Derived.Lib.Hide
import Derived.RangeFuncNested
import Derived.RangeFuncBound
import Derived.RangeFuncCalls
import Derived.RangeFuncLeaves
import Derived.Shelf.Abstract
import Derived.Shelf.RegionOpen
import Derived.OwnWalkIn
import Derived.TacticsInMore
import Derived.LoopNIn
import Derived.LoopIn
import Derived.Lib.ConvBytes
import Derived.PlainAid
import Derived.Test.YtmpkaimhjdkheaaGreatDoorProg
import Derived.Deep.QuietTactic
import Derived.BigQuiet
set_option linter.unusedSimpArgs false
set_option linter.unusedVariables false

namespace Go.Mem
set_option linter.unusedVariables false
open Go.RowKit

/-- What a call changes at most: the blocks of S, and new ones. -/
structure Chg (S : Nat → Prop) (w w' : World) : Prop where
  os : w'.os = w.os
  tape : w'.tape = w.tape
  output : w'.output = w.output
  size : w.heap.size ≤ w'.heap.size
  block : ∀ k, k < w.heap.size → ¬ S k → w'.heap[k]? = w.heap[k]?

/-- Nothing that was there has changed. -/
abbrev New (w w' : World) : Prop := Chg (fun _ => False) w w'

section
variable {S T : Nat → Prop} {w w' w'' : World}
theorem Chg.refl (S : Nat → Prop) (w : World) : Chg S w w := ⟨rfl, rfl, rfl, Nat.le_refl _, fun _ _ _ => rfl⟩
theorem Chg.trans (h : Chg S w w') (h' : Chg T w' w'') (hs : ∀ k, k < w.heap.size → T k → S k) : Chg S w w'' :=
  ⟨h'.os.trans h.os, h'.tape.trans h.tape, h'.output.trans h.output, Nat.le_trans h.size h'.size,
    fun k hk hn => (h'.block k (Nat.lt_of_lt_of_le hk h.size) (fun ht => hn (hs k hk ht))).trans (h.block k hk hn)⟩
theorem Chg.new (h : Chg S w w') (h' : New w' w'') : Chg S w w'' := h.trans h' (fun _ _ hf => hf.elim)
theorem Chg.mono (h : Chg S w w') (hs : ∀ k, k < w.heap.size → S k → T k) : Chg T w w' :=
  ⟨h.os, h.tape, h.output, h.size, fun k hk hn => h.block k hk (fun hS => hn (hs k hk hS))⟩
theorem Chg.drew (h : Chg S w w') : Chg S w w'.drew := ⟨h.os, h.tape, h.output, h.size, h.block⟩
theorem Chg.drewN (h : Chg S w w') (n : Nat) : Chg S w (w'.drewN n) := ⟨h.os, h.tape, h.output, h.size, h.block⟩
theorem Chg.alloc (h : Chg S w w') (o : Obj) : Chg S w (w'.alloc o) :=
  ⟨h.os, h.tape, h.output, Nat.le_trans h.size (by simp), fun k hk hn => (Below.heap_alloc w' o k (Nat.lt_of_lt_of_le hk h.size)).trans (h.block k hk hn)⟩
theorem Chg.setCell (h : Chg S w w') {p : Addr} (hp : p.block < w.heap.size → S p.block) (u : Value) : Chg S w (w'.setCell p u) :=
  ⟨h.os, h.tape, h.output, Nat.le_trans h.size (by simp [World.setCell]), fun k hk hn => (Below.heap_setCell w' p u k (fun e => hn (by subst e; exact hp hk))).trans (h.block k hk hn)⟩
theorem Chg.grown (h : Chg S w w') {row : Option Nat} (hg : w'.grownBy w'' row) (hr : ∀ k, row = some k → k < w.heap.size → S k) : Chg S w w'' :=
  ⟨hg.os.trans h.os, hg.tape.trans h.tape, hg.output.trans h.output, Nat.le_trans h.size hg.size,
    fun k hk hn => (hg.block k (Nat.lt_of_lt_of_le hk h.size) (fun e => hn (hr k e.symm hk))).trans (h.block k hk hn)⟩
theorem Chg.below (h : Chg S w w') {B : Nat} (hs : ∀ k, S k → B ≤ k) (hB : B ≤ w.heap.size) : Below B w w' :=
  ⟨h.os, h.tape, h.output, h.size, fun k hk => h.block k (by omega) (fun hS => by have := hs k hS; omega)⟩
theorem New.below (h : New w w') : Below w.heap.size w w' := Chg.below h (fun _ hf => hf.elim) (Nat.le_refl _)
theorem New.of_below (h : Below w.heap.size w w') : New w w' := ⟨h.os, h.tape, h.output, h.size, fun k hk _ => h.block k hk⟩
theorem Chg.cell (h : Chg S w w') {p : Addr} {u : Value} (hc : w.cell? p = some u) (hn : ¬ S p.block) : w'.cell? p = some u :=
  (World.cell?_of_block (h.block p.block (World.block_lt_of_cell? w p hc) hn)).trans hc
theorem Chg.heap (h : Chg S w w') {g : Nat} {o : Obj} (hc : w.heap[g]? = some o) (hn : ¬ S g) : w'.heap[g]? = some o :=
  (h.block g (Array.getElem?_eq_some_iff.1 hc).1 hn).trans hc
/-- What the call leaves of its own: all that has changed lies at N or behind it. -/
theorem Chg.own (h : Chg S w w') (hs : ∀ k, k < w.heap.size → ¬ S k) : New w w' := h.mono (fun k hk hS => hs k hk hS)
end

/-- The block that a slice's address lies in. -/
def blk (A : Option Addr) : Option Nat := A.map (·.block)

/-- A slice whose n one-cell elements are xs. -/
def Rd (w : World) (A : Option Addr) (n : Nat) (xs : List Value) : Prop :=
  xs.length = n ∧ (0 < n → ∃ ad, A = some ad ∧ ∀ j u, xs[j]? = some u → w.cell? (ad.add j) = some u)

theorem block_add (a : Addr) (n : Nat) : (a.add n).block = a.block := by unfold Addr.add; split <;> rfl
theorem add_add' (a : Addr) (i j : Nat) : (a.add i).add j = a.add (i + j) := by
  unfold Addr.add
  by_cases hi : i = 0 <;> by_cases hj : j = 0 <;> simp [hi, hj, Nat.add_assoc]

section
variable {S : Nat → Prop} {w w' : World} {A : Option Addr} {n : Nat} {xs : List Value}
theorem Rd.nil (w : World) (A : Option Addr) : Rd w A 0 [] := ⟨rfl, fun h => absurd h (by omega)⟩
theorem Rd.len (h : Rd w A n xs) : xs.length = n := h.1
theorem Rd.at_ {k : Nat} (h : Rd w A n xs) (hk : k < n) : ∃ ad u, A = some ad ∧ xs[k]? = some u ∧ w.cell? (ad.add k) = some u := by
  obtain ⟨ad, e, hc⟩ := h.2 (by omega)
  have hl : k < xs.length := by have := h.1; omega
  exact ⟨ad, xs[k], e, List.getElem?_eq_getElem hl, hc k _ (List.getElem?_eq_getElem hl)⟩
theorem Rd.chg (h : Rd w A n xs) (hc : Chg S w w') (hs : ∀ k, blk A = some k → k < w.heap.size → ¬ S k) : Rd w' A n xs :=
  ⟨h.1, fun hn => by
    obtain ⟨ad, rfl, hcell⟩ := h.2 hn
    refine ⟨ad, rfl, fun j u hu => ?_⟩
    have h1 := hcell j u hu
    have hlt := World.block_lt_of_cell? w _ h1
    rw [block_add] at hlt
    exact hc.cell h1 (by rw [block_add]; exact hs ad.block rfl hlt)⟩
theorem Rd.new (h : Rd w A n xs) (hc : New w w') : Rd w' A n xs := h.chg hc (fun _ _ _ hf => hf)
theorem Rd.of_own {base : Nat} {e : TypeId} {c : Nat} (h : w.ownsRow base e 1 (.slice A n c) n xs) : Rd w A n xs := by
  refine ⟨by simpa using h.1, fun hn => ?_⟩
  obtain ⟨g, cap, hv, _, hlt⟩ := h.form hn
  have hA : A = some ⟨g, 0, none⟩ := by injection hv
  subst hA
  exact ⟨_, rfl, h.cells (g := g) rfl⟩
theorem Rd.take (h : Rd w A n xs) {k : Nat} (hk : k ≤ n) : Rd w A k (xs.take k) :=
  ⟨by rw [List.length_take, h.1]; omega, fun hn => by
    obtain ⟨ad, rfl, hc⟩ := h.2 (by omega)
    refine ⟨ad, rfl, fun j u hu => hc j u ?_⟩
    rw [List.getElem?_take] at hu
    split at hu
    · exact hu
    · cases hu⟩
theorem Rd.drop (h : Rd w A n xs) {k : Nat} (hk : k ≤ n) : Rd w (A.map (·.add k)) (n - k) (xs.drop k) :=
  ⟨by rw [List.length_drop, h.1], fun hn => by
    obtain ⟨ad, rfl, hc⟩ := h.2 (by omega)
    refine ⟨ad.add k, rfl, fun j u hu => ?_⟩
    rw [add_add']
    exact hc _ u (by rw [← hu, List.getElem?_drop])⟩
theorem Rd.cut (h : Rd w A n xs) {k cap : Nat} (hk : k ≤ n) (hc : n ≤ cap) : Rd w (if cap = k then A else A.map (·.add k)) (n - k) (xs.drop k) := by
  by_cases e : cap = k
  · have hn : n - k = 0 := by omega
    rw [if_pos e, hn]
    have : xs.drop k = [] := List.drop_eq_nil_of_le (by rw [h.1]; omega)
    rw [this]; exact Rd.nil w A
  · rw [if_neg e]; exact h.drop hk
end

/-- The slice type t has the one-cell element type e, with zero value z and that many bytes. -/
def Elem (P : Program) (t e : TypeId) (z : Value) (bytes : Nat) : Prop :=
  P.underlying t = some (.slice e) ∧ (∃ i, P.info? e = some i ∧ i.zero = some z ∧ i.size = 1 ∧ i.bytes = bytes) ∧ z.cells.size = 1

theorem Elem.mk' {P : Program} {t e : TypeId} {z : Value} {bytes : Nat} (h : P.underlying t = some (.slice e))
    (hi : (P.info? e).map (fun i => (i.zero, i.size, i.bytes)) = some (some z, 1, bytes)) (hz : z.cells.size = 1) : Elem P t e z bytes :=
  ⟨h, info_parts hi, hz⟩

theorem ownBlock_slice (A : Option Addr) (n c : Nat) : (Value.slice A n c).ownBlock = blk A := by cases A <;> rfl

section
variable {P : Program} {w : World} {base : Nat} {t e : TypeId} {z : Value} {bytes : Nat}

theorem own_slice {v : Value} {n : Nat} {xs : List Value} (h : w.ownsRow base e 1 v n xs) : ∃ A c, v = .slice A n c := by
  rcases h.2 with ⟨rfl, rfl⟩ | ⟨g, cap, cur, rfl, _⟩
  · exact ⟨_, _, rfl⟩
  · exact ⟨_, _, rfl⟩

theorem own_blk_le {A : Option Addr} {n c : Nat} {xs : List Value} (h : w.ownsRow base e 1 (.slice A n c) n xs) {k : Nat} (hk : blk A = some k) : base ≤ k ∧ k < w.heap.size :=
  h.lt k (by rw [ownBlock_slice]; exact hk)

theorem own_cap {A : Option Addr} {n c : Nat} {xs : List Value} (h : w.ownsRow base e 1 (.slice A n c) n xs) : n ≤ c ∧ c ≤ maxLen := by
  rcases h.2 with ⟨hv, rfl⟩ | ⟨g, cap, cur, hv, _, _, h1, h2, _⟩
  · injection hv with _ _ hc; subst hc; exact ⟨Nat.le_refl _, Nat.zero_le _⟩
  · injection hv with _ _ hc; subst hc; exact ⟨h1, h2⟩

theorem own_chg {w' : World} {S : Nat → Prop} {A : Option Addr} {n c : Nat} {xs : List Value} (h : w.ownsRow base e 1 (.slice A n c) n xs) (hc : Chg S w w') (hs : ∀ k, blk A = some k → ¬ S k) : w'.ownsRow base e 1 (.slice A n c) n xs := by
  refine ⟨h.1, ?_⟩
  rcases h.2 with h0 | ⟨g, cap, cur, hv, hb, hg, r⟩
  · exact .inl h0
  · refine .inr ⟨g, cap, cur, hv, hb, ?_, r⟩
    have hA : A = some ⟨g, 0, none⟩ := by injection hv
    exact hc.heap hg (hs g (by rw [hA]; rfl))

/-- append, whatever the source: nil, empty or not. -/
theorem run_app (hE : Elem P t e z bytes) (ty : TypeId) {A0 : Option Addr} {n c0 : Nat} {xs : List Value} (hown : w.ownsRow base e 1 (.slice A0 n c0) n xs)
    {A : Option Addr} {m c : Nat} {news : List Value} (hr : Rd w A m news) (h1 : ∀ u ∈ news, u.oneCell' = true)
    (h63 : n + m ≤ maxLen) (hbytes : (n + m) * bytes ≤ 140737488355328) (hbase : base ≤ w.heap.size) :
    ∃ A' c' w', (Builtin.append_ #[t, t] ty #[.slice A0 n c0, .slice A m c]).run P w = .ok (.slice A' (n + m) c') w' ∧
      w'.ownsRow base e 1 (.slice A' (n + m) c') (n + m) (xs ++ news) ∧ w.grownBy w' (blk A0) ∧ (blk A' = blk A0 ∨ blk A' = some w.heap.size) := by
  obtain ⟨ht, ⟨i, hi, hz, hsize, hby⟩, hzs⟩ := hE
  rcases A with _ | ad
  · have hm : m = 0 := by
      rcases Nat.eq_zero_or_pos m with h0 | h0
      · exact h0
      · obtain ⟨ad, h, _⟩ := hr.2 h0
        cases h
    subst hm
    have hn : news = [] := List.eq_nil_of_length_eq_zero hr.1
    subst hn
    refine ⟨A0, c0, w, ?_, by simpa using hown, World.grownBy.refl w _, .inl rfl⟩
    have hcap := (own_cap hown).1
    rcases hown.2 with ⟨hv, rfl⟩ | ⟨g, cap, cur, hv, _, _, hnc, _⟩
    · injection hv with h1 _ h3
      subst h1 h3
      simp [Builtin.append_, run_underlying ht, sizeOf, typeInfo, hi, Builtin.lenOf, Builtin.firstCells]
    · injection hv with h1 _ h3
      subst h1 h3
      simp [Builtin.append_, run_underlying ht, sizeOf, typeInfo, hi, Builtin.lenOf, Builtin.firstCells, hnc, storeCells]
  · have hcells : ∀ j u, news[j]? = some u → w.cell? (ad.add j) = some u := by
      intro j u hu
      rcases Nat.eq_zero_or_pos m with h0 | h0
      · subst h0
        have hn : news = [] := List.eq_nil_of_length_eq_zero hr.1
        subst hn
        simp at hu
      · obtain ⟨ad', h, hc⟩ := hr.2 h0
        injection h with h
        subst h
        exact hc j u hu
    obtain ⟨v', w', hrun, h2, h3, _, h5⟩ := run_append_own_at (P := P) w base t ty e i z 1 bytes ht hi hz hsize hby hzs (by omega) _ n xs hown ad m c news (by simpa using hr.1) hcells h1 h63 hbytes hbase
    obtain ⟨A', c', rfl⟩ := own_slice h2
    rw [ownBlock_slice] at h3 h5
    rw [ownBlock_slice] at h5
    exact ⟨A', c', w', hrun, h2, h3, h5⟩

theorem wpList_app (hE : Elem P t e z bytes) {ops : Array Oper} {rest : List Oper} {o : Oper} {a : Act} {Q : Exit → Act → World → Prop} (hgd : o.guard = none) (s x : Operand)
    (ho : o.op = .call { callee := .builtin .append, args := #[s, x], argTypes := #[t, t] })
    {A0 : Option Addr} {n c0 : Nat} {xs : List Value} (hs : a.eval s = .slice A0 n c0) (hown : w.ownsRow base e 1 (.slice A0 n c0) n xs)
    {A : Option Addr} {m c : Nat} {news : List Value} (hx : a.eval x = .slice A m c) (hr : Rd w A m news) (h1 : ∀ u ∈ news, u.oneCell' = true)
    (h63 : n + m ≤ maxLen) (hbytes : (n + m) * bytes ≤ 140737488355328) (hbase : base ≤ w.heap.size)
    (h : ∀ A' c' w', w'.ownsRow base e 1 (.slice A' (n + m) c') (n + m) (xs ++ news) → w.grownBy w' (blk A0) → (blk A' = blk A0 ∨ blk A' = some w.heap.size) → wpList P ops Q rest (a.put o.dst (.slice A' (n + m) c')) w') :
    wpList P ops Q (o :: rest) a w := by
  refine wpList_plain hgd fun K hK => ?_
  obtain ⟨A', c', w', hrun, h2, h3, h4⟩ := run_app (P := P) hE o.type hown hr h1 h63 hbytes hbase
  unfold Oper.wp execOp
  simp only [ho, resolve, invoke, builtin, Sem.run_bind, Sem.run_pure, Result.andThen_ok, List.map_toArray, List.map_cons, List.map_nil, hs, hx]
  rw [hrun]
  exact hK _ _ (h A' c' w' h2 h3 h4)
end

/-- The address of x[k:]. -/
def cutA (A : Option Addr) (c k : Nat) : Option Addr := if c = k then A else A.map (·.add k)
theorem blk_cutA (A : Option Addr) (c k : Nat) : blk (cutA A c k) = blk A := by
  unfold cutA blk
  split
  · rfl
  · cases A <;> simp [block_add]
theorem Rd.cutA {w : World} {A : Option Addr} {n : Nat} {xs : List Value} (h : Rd w A n xs) {k cap : Nat} (hk : k ≤ n) (hc : n ≤ cap) : Rd w (cutA A cap k) (n - k) (xs.drop k) := h.cut hk hc
theorem run_cut {P : Program} {t e : TypeId} {z : Value} {bytes : Nat} (hE : Elem P t e z bytes) (kl : IntKind) (A : Option Addr) (n c k : Nat) (i : Int) (hi : i = (k : Int)) (hk : k ≤ n) (W : World) :
    (Instr.slice t (.slice A n c) (some (.int kl i)) none none).run P W = .ok (.slice (cutA A c k) (n - k) (c - k)) W := by
  obtain ⟨ht, ⟨info, hi1, hi2, hi3, hi4⟩, _⟩ := hE
  have hel : P.elem t = e := by simp [Program.elem, ht]
  subst hi
  have := run_slice_l (P := P) W t A n c (by rw [hel]; exact ht) kl (k : Int) (by omega) (by omega)
  rw [this, hel]
  simp [sizeOf, typeInfo, hi1, hi3, sliced, cutA]
theorem run_upto {P : Program} {t e : TypeId} {z : Value} {bytes : Nat} (hE : Elem P t e z bytes) (kl : IntKind) (A : Option Addr) (n c k : Nat) (i : Int) (hi : i = (k : Int)) (hk : k ≤ c) (W : World) :
    (Instr.slice t (.slice A n c) none (some (.int kl i)) none).run P W = .ok (.slice A k c) W := by
  obtain ⟨ht, ⟨info, hi1, hi2, hi3, hi4⟩, _⟩ := hE
  have hel : P.elem t = e := by simp [Program.elem, ht]
  subst hi
  have := run_slice_h (P := P) W t A n c (by rw [hel]; exact ht) kl (k : Int) (by omega) (by omega)
  rw [this, hel]
  have e1 : A.map (fun x : Addr => x.add 0) = A := by cases A <;> simp [Addr.add]
  simp [sizeOf, typeInfo, hi1, hi3, sliced, e1]

/-- A block just laid, read as a slice. -/
theorem Rd.lit {w : World} (cs : List Value) {e : TypeId} {n : Nat} (hn : cs.length = n) : Rd (w.alloc (.cells cs.toArray e)) (some ⟨w.heap.size, 0, none⟩) n cs := by
  refine ⟨hn, fun _ => ⟨_, rfl, fun j u hu => ?_⟩⟩
  rw [Addr.add_lit, Nat.zero_add]
  exact (cell_of_row _ w.heap.size j _ e (0, 0) (heap_alloc_new w _)).trans (by simpa using hu)

/-- A block of one cell, just laid, read as a slice of one element. -/
theorem Rd.one {w : World} {v : Value} {e : TypeId} : Rd (w.alloc (.cells #[v] e)) (some ⟨w.heap.size, 0, none⟩) 1 [v] := by
  refine ⟨rfl, fun _ => ⟨_, rfl, fun j u hu => ?_⟩⟩
  match j, hu with
  | 0, hu =>
    simp at hu; subst hu
    show (w.alloc (.cells #[v] e)).cell? ((⟨w.heap.size, 0, none⟩ : Addr).add 0) = some v
    rw [Addr.add_lit]
    exact cell_of_row _ w.heap.size 0 _ e (0, 0) (heap_alloc_new w _)

/-! ### a block that is known whole -/
def Blk (w : World) (g : Nat) (t : TypeId) (cs : Array Value) : Prop := w.heap[g]? = some (.cells cs t (0, 0))
section
variable {w w' : World} {g : Nat} {t : TypeId} {cs : Array Value} {S : Nat → Prop}
theorem Blk.lt (h : Blk w g t cs) : g < w.heap.size := (Array.getElem?_eq_some_iff.1 h).1
theorem Blk.cell (h : Blk w g t cs) (i : Nat) {u : Value} (hu : cs[i]? = some u) : w.cell? ⟨g, i, none⟩ = some u := (cell_of_row w g i cs t (0, 0) h).trans hu
theorem Blk.frozen (h : Blk w g t cs) (i : Nat) : w.frozen? ⟨g, i, none⟩ = false := by
  unfold Blk at h
  simp [World.frozen?, h]
theorem Blk.new (w : World) (t : TypeId) (cs : Array Value) : Blk (w.alloc (.cells cs t)) w.heap.size t cs := heap_alloc_new w _
theorem Blk.drew (h : Blk w g t cs) : Blk w.drew g t cs := h
theorem Blk.drewN (h : Blk w g t cs) (n : Nat) : Blk (w.drewN n) g t cs := h
theorem Blk.alloc (h : Blk w g t cs) (o : Obj) : Blk (w.alloc o) g t cs := (Below.heap_alloc w o g h.lt).trans h
theorem Blk.set_ (h : Blk w g t cs) (i : Nat) (u : Value) : Blk (w.setCell ⟨g, i, none⟩ u) g t (cs.setIfInBounds i u) := by
  unfold Blk at h ⊢
  simp [World.setCell, Array.getElem?_modify, h]
theorem Blk.far (h : Blk w g t cs) {p : Addr} (hp : g ≠ p.block) (u : Value) : Blk (w.setCell p u) g t cs := (Below.heap_setCell w p u g hp).trans h
theorem Blk.chg (h : Blk w g t cs) (hc : Chg S w w') (hg : ¬ S g) : Blk w' g t cs := Chg.heap hc h hg
theorem Blk.grown {row : Option Nat} (h : Blk w g t cs) (hb : w.grownBy w' row) (hg : row ≠ some g) : Blk w' g t cs := (hb.block g h.lt (fun e => hg e.symm)).trans h
theorem Blk.ne_own {base : Nat} {e : TypeId} {A : Option Addr} {n c : Nat} {xs : List Value} (h : Blk w g t cs) (ho : w.ownsRow base e 1 (.slice A n c) n xs) (hne : t ≠ e) : blk A ≠ some g := by
  intro hA
  rcases ho.2 with ⟨hv, _⟩ | ⟨g', cap, cur, hv, _, hh, _⟩
  · injection hv with h1; subst h1; cases hA
  · injection hv with h1
    subst h1
    have : g' = g := by simpa [blk] using hA
    subst this
    unfold Blk at h
    rw [h] at hh
    injection hh with hh
    injection hh with _ ht
    exact hne ht
end

/-! ### bytes -/
/-- The cell of a byte. -/
def By (c : UInt8) : Value := .int .u8 (c.toNat : Int)
def bs (l : List UInt8) : List Value := l.map By
@[simp] theorem bs_length (l : List UInt8) : (bs l).length = l.length := by simp [bs]
@[simp] theorem bs_nil : bs [] = [] := rfl
theorem bs_at {l : List UInt8} {k : Nat} {u : Value} (h : (bs l)[k]? = some u) : ∃ c, l[k]? = some c ∧ u = .int .u8 (c.toNat : Int) := by
  simp only [bs, List.getElem?_map, Option.map_eq_some_iff] at h
  obtain ⟨c, h1, h2⟩ := h
  exact ⟨c, h1, h2.symm⟩
/-- The cells of ints. -/
def is (l : List Int) : List Value := l.map (Value.int .i64)

theorem is_at {l : List Int} {k : Nat} {u : Value} (h : (is l)[k]? = some u) : ∃ z, l[k]? = some z ∧ u = .int .i64 z := by
  simp only [is, List.getElem?_map, Option.map_eq_some_iff] at h
  obtain ⟨c, h1, h2⟩ := h
  exact ⟨c, h1, h2.symm⟩
@[simp] theorem is_length (l : List Int) : (is l).length = l.length := by simp [is]
/-! ### min, max, string(b) -/
theorem run_min2 {P : Program} (x y m : Int) (h : (x ≤ y ∧ m = x) ∨ (y ≤ x ∧ m = y)) (ts : Array TypeId) (t : TypeId) (W : World) :
    (Builtin.min_ ts t #[.int .i64 x, .int .i64 y]).run P W = .ok (.int .i64 m) W := by
  simp [go_sem]
  split <;> omega
theorem run_max2 {P : Program} (x y m : Int) (h : (x ≤ y ∧ m = y) ∨ (y ≤ x ∧ m = x)) (ts : Array TypeId) (t : TypeId) (W : World) :
    (Builtin.max_ ts t #[.int .i64 x, .int .i64 y]).run P W = .ok (.int .i64 m) W := by
  simp [go_sem]
  split <;> omega
/-! ### a slice of byte slices -/
/-- The values vs are slices of bytes that read as ls. -/
def Lists (W : World) (vs : List Value) (ls : List (List UInt8)) : Prop :=
  vs.length = ls.length ∧ ∀ (i : Nat) (v : Value) (l : List UInt8), vs[i]? = some v → ls[i]? = some l → ∃ A n c, v = .slice A n c ∧ n ≤ c ∧ c ≤ maxLen ∧ Rd W A n (bs l) ∧ ∀ k, blk A = some k → k < W.heap.size
theorem Lists.new {W W' : World} {vs : List Value} {ls : List (List UInt8)} (h : Lists W vs ls) (hn : New W W') : Lists W' vs ls :=
  ⟨h.1, fun i v l hv hl => by
    obtain ⟨A, n, c, h1, h2, h3, h4, h5⟩ := h.2 i v l hv hl
    exact ⟨A, n, c, h1, h2, h3, h4.new hn, fun k hk => Nat.lt_of_lt_of_le (h5 k hk) hn.size⟩⟩
theorem Lists.chg {S : Nat → Prop} {W W' : World} {vs : List Value} {ls : List (List UInt8)} (h : Lists W vs ls) (hn : Chg S W W') (hs : ∀ v ∈ vs, ∀ A n c, v = .slice A n c → ∀ k, blk A = some k → ¬ S k) : Lists W' vs ls :=
  ⟨h.1, fun i v l hv hl => by
    obtain ⟨A, n, c, h1, h2, h3, h4, h5⟩ := h.2 i v l hv hl
    exact ⟨A, n, c, h1, h2, h3, h4.chg hn (fun k hk _ => hs v (List.mem_of_getElem? hv) A n c h1 k hk), fun k hk => Nat.lt_of_lt_of_le (h5 k hk) hn.size⟩⟩
theorem Lists.nil (W : World) : Lists W [] [] := ⟨rfl, fun i v l hv _ => by simp at hv⟩
theorem Lists.snoc {W : World} {vs : List Value} {ls : List (List UInt8)} (h : Lists W vs ls) {A : Option Addr} {n c : Nat} {l : List UInt8} (hnc : n ≤ c) (hc : c ≤ maxLen) (hr : Rd W A n (bs l)) (hb : ∀ k, blk A = some k → k < W.heap.size) :
    Lists W (vs ++ [.slice A n c]) (ls ++ [l]) := by
  refine ⟨by simp [h.1], fun i v x hv hx => ?_⟩
  rw [List.getElem?_append] at hv hx
  rw [← h.1] at hx
  split at hv
  · rename_i hi
    rw [if_pos hi] at hx
    exact h.2 i v x hv hx
  · rename_i hi
    rw [if_neg hi] at hx
    have hi0 : i - vs.length = 0 := by
      have := (List.getElem?_eq_some_iff.1 hv).1
      simp at this
      omega
    rw [hi0] at hv hx
    simp at hv hx
    subst hv hx
    exact ⟨A, n, c, rfl, hnc, hc, hr, hb⟩
theorem Lists.take {W : World} {vs : List Value} {ls : List (List UInt8)} (h : Lists W vs ls) (k : Nat) : Lists W (vs.take k) (ls.take k) :=
  ⟨by simp [h.1], fun i v l hv hl => by
    rw [List.getElem?_take] at hv hl
    split at hv
    · rename_i hi
      rw [if_pos hi] at hl
      exact h.2 i v l hv hl
    · cases hv⟩

/-- The values vs are slices of bytes of the call's own (from block base on, of the element type e) that read as ls. -/
def OLists (W : World) (base : Nat) (e : TypeId) (vs : List Value) (ls : List (List UInt8)) : Prop :=
  vs.length = ls.length ∧ ∀ (i : Nat) (v : Value) (l : List UInt8), vs[i]? = some v → ls[i]? = some l → ∃ A n c, v = .slice A n c ∧ W.ownsRow base e 1 (.slice A n c) n (bs l)
theorem OLists.nil (W : World) (base : Nat) (e : TypeId) : OLists W base e [] [] := ⟨rfl, fun i v l hv _ => by simp at hv⟩
theorem OLists.lists {W : World} {base : Nat} {e : TypeId} {vs : List Value} {ls : List (List UInt8)} (h : OLists W base e vs ls) : Lists W vs ls :=
  ⟨h.1, fun i v l hv hl => by
    obtain ⟨A, n, c, h1, h2⟩ := h.2 i v l hv hl
    exact ⟨A, n, c, h1, (own_cap h2).1, (own_cap h2).2, Rd.of_own h2, fun k hk => (own_blk_le h2 hk).2⟩⟩
theorem OLists.new {W W' : World} {base : Nat} {e : TypeId} {vs : List Value} {ls : List (List UInt8)} (h : OLists W base e vs ls) (hn : New W W') : OLists W' base e vs ls :=
  ⟨h.1, fun i v l hv hl => by
    obtain ⟨A, n, c, h1, h2⟩ := h.2 i v l hv hl
    exact ⟨A, n, c, h1, own_chg h2 hn (fun _ _ h => h)⟩⟩
/-- A change of rows of other element types (and of new blocks) leaves them. -/
theorem OLists.chg {S : Nat → Prop} {W W' : World} {base : Nat} {e : TypeId} {vs : List Value} {ls : List (List UInt8)} (h : OLists W base e vs ls) (hn : Chg S W W') (hs : ∀ k cs, W.heap[k]? = some (.cells cs e (0, 0)) → ¬ S k) : OLists W' base e vs ls :=
  ⟨h.1, fun i v l hv hl => by
    obtain ⟨A, n, c, h1, h2⟩ := h.2 i v l hv hl
    refine ⟨A, n, c, h1, own_chg h2 hn (fun k hk => ?_)⟩
    rcases h2.2 with ⟨hv, _⟩ | ⟨g, cap, cur, hv, _, hh, _⟩
    · injection hv with hv; subst hv; cases hk
    · injection hv with hv
      subst hv
      have : g = k := by simpa [blk] using hk
      subst this
      exact hs g cur hh⟩
theorem OLists.snoc {W : World} {base : Nat} {e : TypeId} {vs : List Value} {ls : List (List UInt8)} (h : OLists W base e vs ls) {A : Option Addr} {n c : Nat} {l : List UInt8} (ho : W.ownsRow base e 1 (.slice A n c) n (bs l)) :
    OLists W base e (vs ++ [.slice A n c]) (ls ++ [l]) := by
  refine ⟨by simp [h.1], fun i v x hv hx => ?_⟩
  rw [List.getElem?_append] at hv hx
  rw [← h.1] at hx
  split at hv
  · rename_i hi
    rw [if_pos hi] at hx
    exact h.2 i v x hv hx
  · rename_i hi
    rw [if_neg hi] at hx
    have hi0 : i - vs.length = 0 := by
      have := (List.getElem?_eq_some_iff.1 hv).1
      simp at this
      omega
    rw [hi0] at hv hx
    simp at hv hx
    subst hv hx
    exact ⟨A, n, c, rfl, ho⟩
end Go.Mem

namespace Go.Mem
open Go.RowKit Go.Shelf

theorem wpListIn_app {F : Fence} {d : Nat} {P : Program} {w : World} {base : Nat} {t e : TypeId} {z : Value} {bytes : Nat} (hE : Elem P t e z bytes) {ops : Array Oper} {rest : List Oper} {o : Oper} {a : Act} {Q : Exit → Act → World → Prop} (hgd : o.guard = none) (s x : Operand)
    (ho : o.op = .call { callee := .builtin .append, args := #[s, x], argTypes := #[t, t] })
    {A0 : Option Addr} {n c0 : Nat} {xs : List Value} (hs : a.eval s = .slice A0 n c0) (hown : w.ownsRow base e 1 (.slice A0 n c0) n xs)
    {A : Option Addr} {m c : Nat} {news : List Value} (hx : a.eval x = .slice A m c) (hr : Rd w A m news) (h1 : ∀ u ∈ news, u.oneCell' = true)
    (h63 : n + m ≤ maxLen) (hbytes : (n + m) * bytes ≤ 140737488355328) (hbase : base ≤ w.heap.size)
    (h : ∀ A' c' w', w'.ownsRow base e 1 (.slice A' (n + m) c') (n + m) (xs ++ news) → w.grownBy w' (blk A0) → (blk A' = blk A0 ∨ blk A' = some w.heap.size) → wpListIn F d P ops Q rest (a.put o.dst (.slice A' (n + m) c')) w') :
    wpListIn F d P ops Q (o :: rest) a w := by
  refine wpListIn_plain hgd fun K hK => ?_
  obtain ⟨A', c', w', hrun, h2, h3, h4⟩ := run_app (P := P) hE o.type hown hr h1 h63 hbytes hbase
  unfold Oper.wpIn
  refine ⟨?_, ?_⟩
  · simp [Oper.about, ho, resolve, Target.leads, Sem.run_pure]
  · rw [Oper.semAt_plain F _ _ (by rw [ho]; intro c hc'; cases hc')]
    simp only [execOp, ho, resolve, invoke, builtin, Sem.run_bind, Sem.run_pure, Result.andThen_ok, List.map_toArray, List.map_cons, List.map_nil, hs, hx]
    rw [hrun]
    exact hK _ _ (h A' c' w' h2 h3 h4)

theorem blk_kept {W W' : World} {row : Option Nat} {g : Nat} {t : TypeId} {cs : Array Value} (hs : Blk W g t cs) (hg : W.grownBy W' row) (hr : ∀ r, row = some r → ∃ o : Obj, W.heap[r]? = some o ∧ o.isCells = false) : Blk W' g t cs :=
  hs.grown hg (fun e => by
    obtain ⟨o, ho, hc⟩ := hr g e
    unfold Blk at hs
    rw [hs] at ho
    cases ho
    simp [Obj.isCells] at hc)
theorem own_blk (g : Nat) (t : TypeId) {β : Type} (cs : β → Array Value) : Own (fun (x : β) W => Blk W g t (cs x)) := fun _ _ _ _ hs hg hr => blk_kept hs hg hr
theorem row_kept {W W' : World} {row : Option Nat} {base n c : Nat} {e : TypeId} {A : Option Addr} {xs : List Value} (hs : W.ownsRow base e 1 (.slice A n c) n xs) (hg : W.grownBy W' row) (hr : ∀ r, row = some r → ∃ o : Obj, W.heap[r]? = some o ∧ o.isCells = false) : W'.ownsRow base e 1 (.slice A n c) n xs := by
  refine ⟨hs.1, ?_⟩
  rcases hs.2 with h0 | ⟨g, cap, cur, hv, hb, hh, r⟩
  · exact .inl h0
  · refine .inr ⟨g, cap, cur, hv, hb, ?_, r⟩
    refine (hg.block g (Array.getElem?_eq_some_iff.1 hh).1 (fun e => ?_)).trans hh
    obtain ⟨o, ho, hc⟩ := hr g e.symm
    rw [hh] at ho
    cases ho
    simp [Obj.isCells] at hc
theorem rd_kept {W W' : World} {row : Option Nat} {n : Nat} {A : Option Addr} {xs : List Value} (hs : Rd W A n xs) (hg : W.grownBy W' row) (hr : ∀ r, row = some r → ∃ o : Obj, W.heap[r]? = some o ∧ o.isCells = false) : Rd W' A n xs :=
  ⟨hs.1, fun hn => by
    obtain ⟨ad, rfl, hc⟩ := hs.2 hn
    exact ⟨ad, rfl, fun j u hu => cell_kept (hc j u hu) hg hr⟩⟩

theorem conv_new (w : World) (e : TypeId) (s : ByteArray) : New w (Lib.bytesWorld w e s) :=
  ⟨rfl, rfl, rfl, by rw [Lib.bytesWorld_size]; omega, fun k hk _ => Lib.bytesWorld_at_old w e s k hk⟩
theorem conv_rd (w : World) (e : TypeId) (s : ByteArray) : Rd (Lib.bytesWorld w e s) (some ⟨w.heap.size, 0, none⟩) s.size (bs s.data.toList) := by
  refine ⟨by simp, fun _ => ⟨_, rfl, fun j u hu => ?_⟩⟩
  obtain ⟨c, hc, rfl⟩ := bs_at hu
  rw [Addr.add_lit, Nat.zero_add]
  have hj : j < s.size := by have := (List.getElem?_eq_some_iff.1 hc).1; simpa using this
  rw [Lib.bytesWorld_cell w e s j hj, List.getD_eq_getElem?_getD, hc]
  rfl

/-- The blocks of K are as they were. -/
def Keep (K : Nat → Prop) (W W' : World) : Prop := ∀ k, K k → W'.heap[k]? = W.heap[k]?
theorem Keep.refl (K : Nat → Prop) (W : World) : Keep K W W := fun _ _ => rfl
theorem Keep.trans {K : Nat → Prop} {A B C : World} (h : Keep K A B) (h' : Keep K B C) : Keep K A C := fun k hk => (h' k hk).trans (h k hk)
theorem Keep.cell {K : Nat → Prop} {W W' : World} (h : Keep K W W') {p : Addr} (hp : K p.block) : W'.cell? p = W.cell? p := World.cell?_of_block (h p.block hp)
theorem Keep.rd {K : Nat → Prop} {W W' : World} (h : Keep K W W') {A : Option Addr} {n : Nat} {xs : List Value} (hr : Rd W A n xs) (hA : ∀ k, blk A = some k → K k) : Rd W' A n xs :=
  ⟨hr.1, fun hn => by
    obtain ⟨ad, rfl, hc⟩ := hr.2 hn
    refine ⟨ad, rfl, fun j u hu => ?_⟩
    rw [h.cell (by rw [block_add]; exact hA _ rfl)]
    exact hc j u hu⟩
/-- What only changes cells keeps everything else. -/
theorem KeepsOthers.of_grown {W W' : World} {row : Option Nat} {g : Nat} {t : TypeId} {cs : Array Value} {fz : Nat × Nat} (hg : W.grownBy W' row) (hrow : row = some g) (hb : W.heap[g]? = some (.cells cs t fz)) : KeepsOthers W W' :=
  ⟨hg.size, fun k o hk ho => (hg.block k (Array.getElem?_eq_some_iff.1 hk).1 (fun e => by
    rw [hrow] at e
    cases e
    rw [hb] at hk
    cases hk
    simp [Obj.isCells] at ho)).trans hk⟩
theorem KeepsOthers.of_app {W W' : World} {base n c : Nat} {e : TypeId} {A : Option Addr} {xs : List Value} (hs : W.ownsRow base e 1 (.slice A n c) n xs) (hg : W.grownBy W' (blk A)) : KeepsOthers W W' := by
  rcases hs.2 with ⟨hv, _⟩ | ⟨g, cap, cur, hv, hb, hh, r⟩
  · injection hv with hv
    subst hv
    exact ⟨hg.size, fun k o hk _ => (hg.block k (Array.getElem?_eq_some_iff.1 hk).1 (by simp [blk])).trans hk⟩
  · injection hv with hv
    subst hv
    exact KeepsOthers.of_grown hg rfl hh
end Go.Mem

namespace Go.Pure
open Go.RowKit

/-- A word: the bytes in little-endian order. -/
def word (l : List UInt8) : Nat := l.foldr (fun c a => a * 256 + c.toNat) 0
theorem word_nil : word [] = 0 := rfl
theorem word_cons (c : UInt8) (l : List UInt8) : word (c :: l) = word l * 256 + c.toNat := rfl
theorem word_lt (l : List UInt8) : word l < 256 ^ l.length := by
  induction l with
  | nil => simp [word_nil]
  | cons c l ih =>
    rw [word_cons, List.length_cons, Nat.pow_succ]
    have := c.toNat_lt
    omega
theorem word_lt7 {l : List UInt8} (h : l.length ≤ 7) : word l < 72057594037927936 :=
  Nat.lt_of_lt_of_le (word_lt l) (Nat.le_trans (Nat.pow_le_pow_right (by omega) h) (by decide))
theorem word_step {b : List UInt8} {p m : Nat} {c : UInt8} (h : b[p]? = some c) : word ((b.drop p).take (m + 1)) = word ((b.drop (p + 1)).take m) * 256 + c.toNat := by
  obtain ⟨hp, rfl⟩ := List.getElem?_eq_some_iff.1 h
  rw [List.drop_eq_getElem_cons hp, List.take_succ_cons, word_cons]
/-- The i-th word of bytes, and how many there are. -/
def wd (b : List UInt8) (i : Nat) : Nat := word ((b.drop (8 * i)).take 8)
def nw (b : List UInt8) : Nat := (b.length + 7) / 8
def wds (b : List UInt8) : List Nat := (List.range (nw b)).map (wd b)
theorem wds_length (b : List UInt8) : (wds b).length = nw b := by simp [wds]
def wdsTo (b : List UInt8) (k : Nat) : List Nat := (List.range k).map (wd b)
theorem wdsTo_succ (b : List UInt8) (k : Nat) : wdsTo b (k + 1) = wdsTo b k ++ [wd b k] := by simp [wdsTo, List.range_succ]
theorem wdsTo_length (b : List UInt8) (k : Nat) : (wdsTo b k).length = k := by simp [wdsTo]

theorem shl_or (w c : Nat) (hw : w < 72057594037927936) (hc : c < 256) : bits .or .u64 ((w : Int) * 256) (c : Int) = ((w * 256 + c : Nat) : Int) := by
  have e : (w : Int) * 256 = ((w * 256 : Nat) : Int) := by omega
  rw [e, u64_or_nat _ _ (by omega) (by omega)]
  have := Nat.shiftLeft_add_eq_or_of_lt (show c < 2 ^ 8 by omega) w
  rw [Nat.shiftLeft_eq] at this
  rw [show w * 256 = w * 2 ^ 8 by rfl, ← this]

theorem grp_val {b : List UInt8} {p m : Nat} {x : UInt8} (hx : b[p]? = some x) (hm : m ≤ 7) :
    bits .or .u64 ((word ((b.drop (p + 1)).take m) : Int) * 256) (IntKind.u64.wrap (x.toNat : Int)) = ((word ((b.drop p).take (m + 1)) : Nat) : Int) := by
  have hx2 := x.toNat_lt
  have h7 := word_lt7 (l := (b.drop (p + 1)).take m) (by simp; omega)
  have e : IntKind.u64.wrap (x.toNat : Int) = (x.toNat : Int) := by rw [IntKind.wrap_u64]; omega
  rw [e, shl_or _ _ h7 (by omega), word_step hx]
theorem wd_of_cnt {b : List UInt8} {k cnt len : Nat} (hl : b.length = len) (h : cnt = 8 ∨ 8 * k + cnt = len) (h8 : cnt ≤ 8) : word ((b.drop (8 * k)).take cnt) = wd b k := by
  unfold wd
  rcases h with rfl | h
  · rfl
  · rw [List.take_of_length_le (by simp; omega), List.take_of_length_le (by simp; omega)]

/-- One mixing step, in the walk's own spelling. -/
def mixI (a b : Int) : Int :=
  bits .xor .u64 (IntKind.u64.wrap (bits .xor .u64 a b * 11400714819323198485)) (IntKind.u64.wrap (bits .xor .u64 a b * 11400714819323198485) / 4294967296)
theorem mixI_range (a b : Int) : 0 ≤ mixI a b ∧ mixI a b ≤ 18446744073709551615 := ⟨bits_lo_u64 _ _ _, bits_hi_u64 _ _ _⟩
/-- The state behind some words. -/
def absorb (s : Int) (l : List Int) : Int := l.foldl mixI s
theorem absorb_snoc (s : Int) (l : List Int) (x : Int) : absorb s (l ++ [x]) = mixI (absorb s l) x := by simp [absorb]
/-- The state behind the first k of some ints. -/
def absTo (s : Int) (l : List Int) (k : Nat) : Int := absorb s ((l.take k).map IntKind.u64.wrap)
theorem absTo_succ {s : Int} {l : List Int} {k : Nat} {z : Int} (h : l[k]? = some z) : absTo s l (k + 1) = mixI (absTo s l k) (IntKind.u64.wrap z) := by
  unfold absTo; rw [List.take_add_one, h, List.map_append]; exact absorb_snoc _ _ _
theorem absTo_all (s : Int) (l : List Int) : absTo s l l.length = absorb s (l.map IntKind.u64.wrap) := by
  unfold absTo; rw [List.take_length]
/-- The hash of a label and words. -/
def sumI (label : List UInt8) (l : List Int) : Int :=
  mixI (absorb (mixI (mixI (absorb 0 ((wds label).map (fun n : Nat => (n : Int)))) label.length) l.length) (l.map IntKind.u64.wrap)) 0
end Go.Pure

namespace Go.Proofs.YtmpkaimhjdkheaaGreatDoor
open Go.RowKit Go.Mem

theorem elemInts : Elem Tryz.prog 23 3 (.int .i64 0) 8 := Elem.mk' Tryz.underlying23 (by kernel_rfl) rfl

/-- refuterref01.Around on plain numbers. -/
def aroundI (a b : Int) : Int := if a < 0 then (-(a + 1)) % b else a % b
theorem aroundI_neg {a b : Int} (h : a < 0) : aroundI a b = (-(a + 1)).tmod b := by
  unfold aroundI; rw [if_pos h, Int.tmod_eq_emod_of_nonneg (by omega)]
theorem aroundI_pos {a b : Int} (h : 0 ≤ a) : aroundI a b = a % b := by unfold aroundI; rw [if_neg (by omega)]
theorem aroundI_range (a b : Int) (hb : 1 ≤ b) : 0 ≤ aroundI a b ∧ aroundI a b < b := by
  unfold aroundI
  split
  · exact ⟨Int.emod_nonneg _ (by omega), Int.emod_lt_of_pos _ (by omega)⟩
  · exact ⟨Int.emod_nonneg _ (by omega), Int.emod_lt_of_pos _ (by omega)⟩

theorem ret_int {k : IntKind} {a b : Int} (h : a = b) : Ending.returned (.int k a) = .returned (.int k b) := by rw [h]

set_option maxHeartbeats 400000 in
theorem around_any (a b : Int) (w : World) (ha : -9223372036854775808 ≤ a) (ha2 : a ≤ 9223372036854775807) (hb : 1 ≤ b) (hb2 : b ≤ 9223372036854775807) :
    Calls Tryz.prog 4 #[.int .i64 a, .int .i64 b] w fun e w' => e = .returned (.int .i64 (aroundI a b)) ∧ w = w' := by
  by_cases h : a < 0
  · go_enter Tryz.func4, Tryz.ntmps4
    go_wp2
    go_ret
    exact ⟨ret_int (by rw [aroundI_neg h, Int.neg_tmod]), rfl⟩
  · go_enter Tryz.func4, Tryz.ntmps4
    go_wp2
    go_ret
    exact ⟨ret_int (aroundI_pos h).symm, rfl⟩

end Go.Proofs.YtmpkaimhjdkheaaGreatDoor

namespace Go.Proofs.YtmpkaimhjdkheaaGreatDoor
open Go.RowKit Go.Shelf Go.Mem Go.Pure
attribute [local go_sem] Oper.semAt_some

set_option maxHeartbeats 400000 in
theorem mix_any (a b : Int) (w : World) :
    Calls Tryz.prog 106 #[.int .u64 a, .int .u64 b] w fun e w' => e = .returned (.int .u64 (mixI a b)) ∧ w = w' := by
  go_enter Tryz.func106, Tryz.ntmps106
  go_wp2
  go_ret
  exact ⟨rfl, rfl⟩

set_option maxRecDepth 100000 in
set_option maxHeartbeats 2000000 in
/-- hash.groups's closure, for every loop body that keeps the bytes and the closure's box. -/
theorem groups1_in (n : Nat) (hn : 1 ≤ n) (l Bs : Nat) (A : Option Addr) (len cap : Nat) (b : List UInt8) (hlen : len ≤ 1000000000) (J Jx : List Nat → World → Prop)
    (hY : ∀ pre x W, J pre W → pre.length < nw b → YieldAt Fence.wide (n - 1) Tryz.prog l #[.int .u64 (x : Nat)] W fun e W' =>
      (e = .returned (.bool true) ∧ J (pre ++ [x]) W' ∧ Keep (fun k => k = Bs ∨ blk A = some k) W W') ∨ (e = .returned (.bool false) ∧ Jx (pre ++ [x]) W'))
    (W : World) (hBs : W.cell? ⟨Bs, 0, none⟩ = some (.slice A len cap)) (hr : Rd W A len (bs b)) (h0 : J [] W) :
    CallsIn Fence.wide n Tryz.prog 119 #[.func (.yield l) #[] #[], .pointer (some ⟨Bs, 0, none⟩)] W fun e W' => (∃ v, e = .returned v) ∧
      ((∃ ys, ys = wds b ∧ J ys W') ∨ (∃ pre, (∃ k, k ≤ nw b ∧ pre = wdsTo b k) ∧ Jx pre W')) := by
  have hbl : b.length = len := by simpa using hr.len
  have HBL := Lib.hid hbl
  clear hbl
  refine callsIn_of_wp Tryz.func119 rfl trivial ?_ rfl
  simp only [Tryz.ntmps119, List.size_toArray, List.length_cons, List.length_nil, Nat.reduceAdd, Nat.reduceSub, Array.replicate_succ, Array.replicate_zero, List.push_toArray, List.append_toArray, List.nil_append, List.cons_append]
  gi_wp2
  gi_loopw [3] (fun i wr => ∃ k : Nat, 8 * k ≤ len + 7 ∧ i = .int .i64 (8 * (k : Int)) ∧ J (wdsTo b k) wr ∧ Keep (fun k => k = Bs ∨ blk A = some k) W wr)
    (fun i _ => len + 8 - (intOf i).toNat)
  case atStart => exact ⟨0, by omega, rfl, h0, Keep.refl _ _⟩
  case round =>
    obtain ⟨k, hk, rfl, hJ, hK⟩ := hrel
    have hBs' : wr.cell? ⟨Bs, 0, none⟩ = some (.slice A len cap) := (hK.cell (p := ⟨Bs, 0, none⟩) (.inl rfl)).trans hBs
    by_cases hlt : 8 * k < len
    · have HJ := Lib.hid hJ
      have HK := Lib.hid hK
      have HR := Lib.hid hr
      have HY := Lib.hid hY
      clear hJ hK hr hY
      obtain ⟨cnt, hc1, hc8, hcl, hc9⟩ : ∃ cnt : Nat, 1 ≤ cnt ∧ cnt ≤ 8 ∧ 8 * k + cnt ≤ len ∧ (cnt = 8 ∨ 8 * k + cnt = len) := by
        rcases Nat.lt_or_ge (8 * k + 8) len with h | h
        · exact ⟨8, by omega, by omega, by omega, .inl rfl⟩
        · exact ⟨len - 8 * k, by omega, by omega, by omega, .inr (by omega)⟩
      have HC9 := Lib.hid hc9
      clear hc9
      by_cases h8 : 8 * k + 8 ≤ len
      all_goals
        gi_wp2
        gi_loop [4, 5] (fun v i => ∃ j : Nat, j ≤ cnt ∧ i = .int .i64 (8 * (k : Int) + (j : Int) - 1) ∧ v = .int .u64 (word ((b.drop (8 * k + j)).take (cnt - j))))
          (fun _ i => (intOf i - 8 * (k : Int) + 1).toNat)
        case atStart =>
          refine ⟨cnt, Nat.le_refl _, ?_, by simp [word]⟩
          have := HC9.out
          first | (rw [show (8 * (k : Int) + 8 - 1) = 8 * (k : Int) + (cnt : Int) - 1 by omega]) | (rw [show ((len : Int) - 1) = 8 * (k : Int) + (cnt : Int) - 1 by omega])
        case round =>
          obtain ⟨j, hj, rfl, rfl⟩ := hrel
          rcases Nat.eq_zero_or_pos j with h0' | h0'
          · subst h0'
            have hkw : (wdsTo b k).length < nw b := by rw [wdsTo_length]; unfold nw; rw [HBL.out]; omega
            obtain ⟨fn, tmps, assign, body, hy, hR⟩ := HY.out _ (word ((b.drop (8 * k)).take cnt)) wr HJ.out hkw
            have HRR := Lib.hid hR
            clear hR
            gi_wp2
            refine HRR.out.mono ?_
            rintro e W3 (⟨rfl, hJ3, hk3⟩ | ⟨rfl, hJx3⟩)
            · gi_wp2
              go_roundw
              case rel => exact ⟨k + 1, by omega, by go_num, by rw [wdsTo_succ, ← wd_of_cnt HBL.out HC9.out hc8]; exact hJ3, HK.out.trans hk3⟩
              case measure => simp [intOf]; omega
            · gi_wp2
              refine bodyPost_ret (results_none rfl _ _ _) rfl ?_
              exact ⟨⟨_, rfl⟩, .inr ⟨_, ⟨k + 1, by unfold nw; rw [HBL.out]; omega, by rw [wdsTo_succ, ← wd_of_cnt HBL.out HC9.out hc8]⟩, hJx3⟩⟩
          · obtain ⟨j, rfl⟩ : ∃ j', j = j' + 1 := ⟨j - 1, by omega⟩
            obtain ⟨ad, u, rfl, hu, hcu⟩ := (HK.out.rd HR.out (fun k hk => .inr hk)).at_ (k := 8 * k + j) (by omega)
            obtain ⟨x, hx, rfl⟩ := bs_at hu
            have hw7 := word_lt7 (l := (b.drop (8 * k + (j + 1))).take (cnt - (j + 1))) (by simp; omega)
            have hst := Lib.hid (grp_val (m := cnt - (j + 1)) hx (by omega))
            clear hu hx
            gi_wp2
            go_round
            case rel => exact ⟨j, by omega, by go_num, by have := hst.out; rw [show 8 * k + (j + 1) = 8 * k + j + 1 from rfl, this, show cnt - (j + 1) + 1 = cnt - j by omega]⟩
            case measure => simp [intOf]; omega
    · have hk' : k = nw b := by unfold nw; rw [HBL.out]; omega
      gi_wp2
      go_end0
      subst hk'
      exact ⟨⟨_, rfl⟩, .inl ⟨_, rfl, hJ⟩⟩

end Go.Proofs.YtmpkaimhjdkheaaGreatDoor

namespace Go.Proofs.YtmpkaimhjdkheaaGreatDoor
open Go.RowKit Go.Shelf Go.Mem Go.Pure
attribute [local go_sem] Oper.semAt_some

set_option maxHeartbeats 400000 in
theorem groups_any (A : Option Addr) (len cap : Nat) (w : World) :
    Calls Tryz.prog 105 #[.slice A len cap] w fun e w' => ∃ Bs, e = .returned (.func (.func 119) #[] #[.pointer (some ⟨Bs, 0, none⟩)]) ∧ Blk w' Bs 80 #[.slice A len cap] ∧ New w w' ∧ w.heap.size ≤ Bs := by
  go_enter Tryz.func105, Tryz.ntmps105
  go_wp2
  go_ret
  exact ⟨w.heap.size, rfl, Blk.new _ _ _, (Chg.refl _ w).alloc _, Nat.le_refl _⟩

theorem groups_stops (n : Nat) (hn : 1 ≤ n) (Bs : Nat) (A : Option Addr) (len cap : Nat) (b : List UInt8) (hlen : len ≤ 1000000000) (w : World) (hBs : w.cell? ⟨Bs, 0, none⟩ = some (.slice A len cap)) (hr : Rd w A len (bs b)) :
    SeqStopsK Fence.wide n Tryz.prog 119 #[.pointer (some ⟨Bs, 0, none⟩)] (fun x : Nat => #[Value.int .u64 x]) (Keep (fun k => k = Bs ∨ blk A = some k)) (fun ys => ys = wds b) (fun _ => True) (nw b) w := fun l J Jx W hW _ _ hY h0 => by
  have hnew := New.of_below hW
  refine (groups1_in n hn l Bs A len cap b hlen J Jx hY W (hnew.cell hBs (fun h => h)) (hr.new hnew) h0).mono ?_
  rintro e W' ⟨he, ⟨ys, rfl, hj⟩ | ⟨pre, _, hj⟩⟩
  · exact ⟨he, .inl ⟨_, rfl, hj⟩⟩
  · exact ⟨he, .inr ⟨_, trivial, hj⟩⟩

set_option maxRecDepth 100000 in
set_option maxHeartbeats 2000000 in
theorem sum_any (s : ByteArray) (hs : s.size ≤ 1000000) (A : Option Addr) (n c : Nat) (l : List Int) (w : World) (hr : Rd w A n (is l)) (hn : n ≤ 1000000000) :
    Calls Tryz.prog 87 #[.string s, .slice A n c] w fun e w' => e = .returned (.int .u64 (sumI s.data.toList l)) ∧ New w w' := by
  refine (callsIn_wide (n := 10)).1 ?_
  refine callsIn_of_wp_marks Tryz.func87 rfl trivial ?_ rfl
  simp only [Tryz.ntmps87, List.size_toArray, List.length_cons, List.length_nil, Nat.reduceAdd, Nat.reduceSub, Array.replicate_succ, Array.replicate_zero, List.push_toArray, List.append_toArray, List.nil_append, List.cons_append]
  have hcv := fun W => Lib.run_convert_string_bytes (P := Tryz.prog) W 9 80 5 s Tryz.underlying9 Tryz.underlying80 Tryz.underlying5
  gi_wp2_with (refine ⟨trivial, ?_⟩; gi_at_call 105; refine (callsIn_wide.2 (groups_any _ _ _ _)).mono ?_; rintro e w' ⟨Bs, rfl, hBs, hnew, hle⟩)
  obtain ⟨w0, hw0⟩ : ∃ w0, w.alloc (.cells #[.int .u64 0] 22) = w0 := ⟨_, rfl⟩
  have hb0 : Blk w0 w.heap.size 22 #[.int .u64 0] := by rw [← hw0]; exact Blk.new _ _ _
  have hn0 : New w w0 := by rw [← hw0]; exact (Chg.refl _ w).alloc _
  have hz0 : w0.heap.size = w.heap.size + 1 := by rw [← hw0]; simp
  rw [hw0] at hBs hnew hle ⊢
  clear hw0
  rw [Lib.bytesWorld_size, hz0] at hle
  have hrb : Rd w' (some ⟨w.heap.size + 1, 0, none⟩) s.size (bs s.data.toList) := by
    have := conv_rd w0 5 s
    rw [hz0] at this
    exact this.new hnew
  have hn1 : New w w' := (hn0.new (conv_new w0 _ s)).new hnew
  have hb1 : Blk w' w.heap.size 22 #[.int .u64 0] := (hb0.chg (conv_new w0 _ s) (fun h => h)).chg hnew (fun h => h)
  have hbs := hBs.cell 0 rfl
  have hbl := hBs.lt
  clear hnew hcv hn0 hb0
  refine wpIn_rangeFunc_ownF rfl (by omega) (gf := 119) (lb := #[.pointer (some ⟨Bs, 0, none⟩)]) rfl trivial (enters_of Tryz.func119 (by kernel_rfl) rfl)
    (groups_stops 9 (by omega) Bs _ _ _ s.data.toList (by omega) w' hbs hrb) (fun h h' => Keep.trans h h') ?kb (Below.refl _ _) (fun _ => rfl)
    (fun pre W => Blk W w.heap.size 22 #[.int .u64 (absorb 0 (pre.map (fun n : Nat => (n : Int))))] ∧ Below w.heap.size w W)
    (fun _ _ _ => False)
    (OwnFrom.and (Own.from (own_blk w.heap.size 22 (fun pre : List Nat => #[.int .u64 (absorb 0 (pre.map (fun n : Nat => (n : Int))))])) _) (ownFrom_below (Nat.le_refl _) (by omega)))
    (fun _ _ _ _ _ hs _ _ => hs)
    ⟨hb1, New.below hn1⟩ ?a1 ?assign ?body ?done ?stop
  case assign =>
    intro l x W K hK
    gi_wp2
    exact hK
  case kb =>
    intro W l' o o' hl' ho _ _ k hk
    refine World.putObj_heap_other ?_
    rcases hk with rfl | hk
    · omega
    · simp [blk] at hk; omega
  case body =>
    rintro l' pre x W ⟨hb, hB⟩ _
    have hcs := hb.cell 0 rfl
    have hfs := hb.frozen 0
    gi_wp2_with (refine ⟨trivial, ?_⟩; gi_at_call 106; refine (CallsIn.inRound l' (callsIn_wide.2 (mix_any _ _ _))).mono ?_; rintro e w2 ⟨rfl, rfl⟩)
    refine ⟨KeepsOthers.setCell _ _ _, ?_, ?_, hB.setCell (p := ⟨w.heap.size, 0, none⟩) (Nat.le_refl _) _⟩
    · intro k hk
      refine Below.heap_setCell W ⟨w.heap.size, 0, none⟩ _ k ?_
      rcases hk with rfl | hk
      · simp; omega
      · simp [blk] at hk; simp; omega
    · have := hb.set_ 0 (.int .u64 (mixI (absorb 0 (pre.map (fun n : Nat => (n : Int)))) x))
      rw [List.map_append, List.map_cons, List.map_nil, absorb_snoc]
      exact this
  case stop =>
    rintro D c pre W _ _ h _
    exact h.elim
  case done =>
    rintro D ys W hD rfl ⟨hb, hB⟩ hK
    have hcs := hb.cell 0 rfl
    have hfs := hb.frozen 0
    have hrw : Rd W A n (is l) := hr.new (New.of_below hB)
    have hDn : w.heap.size < D := by omega
    have HB := Lib.hid hb
    have HBB := Lib.hid hB
    have HK := Lib.hid hK
    clear hb hB hK
    gi_wp2_with (refine ⟨trivial, ?_⟩; gi_at_call 106; refine (callsIn_wide.2 (mix_any _ _ _)).mono ?_; rintro e w2 ⟨rfl, rfl⟩)
    have hll : l.length = n := by have := hr.len; rwa [is_length] at this
    have HLL := Lib.hid hll
    clear hll
    gi_loopw [28] (fun i wr => ∃ k : Nat, k ≤ n ∧ i = .int .i64 k ∧ Blk wr w.heap.size 22 #[.int .u64 (absTo (mixI (mixI (absorb 0 ((wds s.data.toList).map (fun n : Nat => (n : Int)))) s.size) n) l k)] ∧ Below w.heap.size w wr ∧ wr.heap[D]? = some (.deferred (some [])))
      (fun i _ => n - (intOf i).toNat)
    case atStart =>
      refine ⟨0, Nat.zero_le _, rfl, ?_, ?_, ?_⟩
      · exact (HB.out.set_ 0 _).set_ 0 _
      · exact (HBB.out.setCell (p := ⟨w.heap.size, 0, none⟩) (Nat.le_refl _) _).setCell (p := ⟨w.heap.size, 0, none⟩) (Nat.le_refl _) _
      · exact (KeepsOthers.setCell _ _ _).same D _ ((KeepsOthers.setCell _ _ _).same D _ HK.out rfl) rfl
    case round =>
      obtain ⟨k, hk, rfl, hb, hB, hKd⟩ := hrel
      have hcs := hb.cell 0 rfl
      have hfs := hb.frozen 0
      have HB := Lib.hid hb
      have HBB := Lib.hid hB
      have HK := Lib.hid hKd
      clear hb hB hKd
      by_cases hlt : k < n
      · obtain ⟨ad, u, rfl, hu, hcu⟩ := (hr.new (New.of_below HBB.out)).at_ hlt
        obtain ⟨z, hz, rfl⟩ := is_at hu
        have HZ := Lib.hid hz
        clear hu hz hr hrw
        gi_wp2_with (refine ⟨trivial, ?_⟩; gi_at_call 106; refine (callsIn_wide.2 (mix_any _ _ _)).mono ?_; rintro e w2 ⟨rfl, rfl⟩)
        go_roundw
        case rel =>
          refine ⟨k + 1, by omega, by go_num, ?_, HBB.out.setCell (p := ⟨w.heap.size, 0, none⟩) (Nat.le_refl _) _, (KeepsOthers.setCell _ _ _).same D _ HK.out rfl⟩
          rw [absTo_succ HZ.out]
          exact HB.out.set_ 0 _
        case measure => simp [intOf]; omega
      · obtain rfl : n = k := by omega
        gi_wp2_with (refine ⟨trivial, ?_⟩; gi_at_call 106; refine (callsIn_wide.2 (mix_any _ _ _)).mono ?_; rintro e w2 ⟨rfl, rfl⟩)
        refine ⟨by simp, .inl ⟨_, _, rfl, run_takeDeferred HK.out, ?_⟩⟩
        refine ⟨_, results_tmp rfl _ _ _, ?_, New.of_below (HBB.out.trans (belowK_b (w := w) (Nat.le_refl _) _ D _ _ (by omega) HK.out rfl rfl))⟩
        refine ret_int ?_
        have := HLL.out
        subst this
        rw [absTo_all]
        unfold sumI
        rw [Array.length_toList]
        rfl

end Go.Proofs.YtmpkaimhjdkheaaGreatDoor

namespace Go.Proofs.YtmpkaimhjdkheaaGreatDoor
set_option linter.unusedVariables false
open Go.RowKit Go.Mem Go.Pure

theorem elemWords : Elem Tryz.prog 66 22 (.int .u64 0) 8 := Elem.mk' Tryz.underlying66 (by kernel_rfl) rfl
/-- The cells of words. -/
def us (l : List Nat) : List Value := l.map (fun n : Nat => Value.int .u64 n)
theorem us_length (l : List Nat) : (us l).length = l.length := by simp [us]
theorem us_append (a b : List Nat) : us (a ++ b) = us a ++ us b := by simp [us]
theorem us_at {l : List Nat} {k : Nat} {u : Value} (h : (us l)[k]? = some u) : ∃ z, l[k]? = some z ∧ u = .int .u64 (z : Nat) := by
  simp only [us, List.getElem?_map, Option.map_eq_some_iff] at h
  obtain ⟨c, h1, h2⟩ := h
  exact ⟨c, h1, h2.symm⟩

theorem quo32 (z : Int) : IntKind.u64.wrap ((IntKind.u64.wrap z).tdiv 4294967296) = IntKind.u64.wrap z / 4294967296 := by
  rw [IntKind.wrap_u64, IntKind.wrap_u64, Int.tdiv_eq_ediv_of_nonneg (by omega)]
  omega

set_option maxHeartbeats 400000 in
theorem rmix_any (a b : Int) (w : World) :
    Calls Tryz.prog 122 #[.int .u64 a, .int .u64 b] w fun e w' => e = .returned (.int .u64 (mixI a b)) ∧ w = w' := by
  go_enter Tryz.func122, Tryz.ntmps122
  go_wp2
  go_ret
  refine ⟨ret_int ?_, rfl⟩
  unfold mixI
  rw [quo32]

theorem word_add {b : List UInt8} {p m : Nat} {x : UInt8} (hx : b[p]? = some x) (hm : m ≤ 7) :
    (256 : Int) * (word ((b.drop (p + 1)).take m) : Int) + (x.toNat : Int) = ((word ((b.drop p).take (m + 1)) : Nat) : Int) := by
  rw [word_step hx]
  omega

set_option maxHeartbeats 2000000 in
set_option maxRecDepth 100000 in
theorem words_any (A : Option Addr) (len cap : Nat) (b : List UInt8) (w : World) (hr : Rd w A len (bs b)) (hlen : len ≤ 1000000000) :
    Calls Tryz.prog 121 #[.slice A len cap] w fun e w' => ∃ A' n c, e = .returned (.slice A' n c) ∧ w'.ownsRow w.heap.size 22 1 (.slice A' n c) n (us (wds b)) ∧ New w w' := by
  have hbl : b.length = len := by simpa using hr.len
  have HBL := Lib.hid hbl
  clear hbl
  go_enter Tryz.func121, Tryz.ntmps121
  go_wp2
  go_loopw [3, 4] (fun v i wr => ∃ k : Nat, 8 * k ≤ len + 7 ∧ i = .int .i64 (8 * (k : Int)) ∧ ∃ A1 c1, v = .slice A1 k c1 ∧ wr.ownsRow w.heap.size 22 1 (.slice A1 k c1) k (us (wdsTo b k)) ∧ New w wr)
    (fun _ i _ => len + 8 - (intOf i).toNat)
  case atStart => exact ⟨0, by omega, rfl, none, 0, rfl, World.ownsRow_nil _ _ _ _, Chg.refl _ w⟩
  case round =>
    obtain ⟨k, hk, rfl, A1, c1, rfl, ho, hnew⟩ := hrel
    have HO := Lib.hid ho
    have HNW := Lib.hid hnew
    clear ho hnew
    by_cases hlt : 8 * k < len
    · obtain ⟨cnt, hc1, hc8, hcl, hc9⟩ : ∃ cnt : Nat, 1 ≤ cnt ∧ cnt ≤ 8 ∧ 8 * k + cnt ≤ len ∧ (cnt = 8 ∨ 8 * k + cnt = len) := by
        rcases Nat.lt_or_ge (8 * k + 8) len with h | h
        · exact ⟨8, by omega, by omega, by omega, .inl rfl⟩
        · exact ⟨len - 8 * k, by omega, by omega, by omega, .inr (by omega)⟩
      have HC9 := Lib.hid hc9
      clear hc9
      have hmin := fun ts t W => run_min2 (P := Tryz.prog) (8 * (k : Int) + 8) (len : Int) (8 * (k : Int) + (cnt : Int)) (by have := HC9.out; omega) ts t W
      have HR := Lib.hid hr
      clear hr
      go_wp2
      go_loop [5, 6] (fun v i => ∃ j : Nat, j ≤ cnt ∧ i = .int .i64 (8 * (k : Int) + (j : Int) - 1) ∧ v = .int .u64 (word ((b.drop (8 * k + j)).take (cnt - j))))
        (fun _ i => (intOf i - 8 * (k : Int) + 1).toNat)
      case atStart => exact ⟨cnt, Nat.le_refl _, rfl, by simp [word]⟩
      case round =>
        obtain ⟨j, hj, rfl, rfl⟩ := hrel
        rcases Nat.eq_zero_or_pos j with h0' | h0'
        · subst h0'
          have hwd := Lib.hid (wd_of_cnt (b := b) (k := k) HBL.out HC9.out hc8)
          go_wp2_with (at_builtin; refine wpList_app elemWords rfl _ _ rfl rfl (HO.out.alloc _) rfl Rd.one (by simp [Value.oneCell']) (by simp only [maxLen]; omega) (by omega) (by have := HNW.out.size; simp; omega) ?_; intro A' c' w1 hown1 hg1 hat1; have HO1 := Lib.hid hown1; clear hown1)
          go_roundw
          case rel =>
            refine ⟨k + 1, by omega, by go_num, A', c', rfl, ?_, ?_⟩
            · have := HO1.out
              rw [hwd.out] at this
              rw [wdsTo_succ, us_append]
              exact this
            · exact (HNW.out.alloc _).grown hg1 (fun j hj hlt' => by have := own_blk_le HO.out hj; omega)
          case measure => simp [intOf]; omega
        · obtain ⟨j, rfl⟩ : ∃ j', j = j' + 1 := ⟨j - 1, by omega⟩
          obtain ⟨ad, u, rfl, hu, hcu⟩ := (HR.out.new HNW.out).at_ (k := 8 * k + j) (by omega)
          obtain ⟨x, hx, rfl⟩ := bs_at hu
          have hx2 := x.toNat_lt
          have hw7 := word_lt7 (l := (b.drop (8 * k + (j + 1))).take (cnt - (j + 1))) (by simp; omega)
          have hst := Lib.hid (word_add (m := cnt - (j + 1)) hx (by omega))
          clear hu hx hmin
          go_wp2
          go_round
          case rel => exact ⟨j, by omega, by go_num, by have := hst.out; rw [show 8 * k + (j + 1) = 8 * k + j + 1 from rfl, this, show cnt - (j + 1) + 1 = cnt - j by omega]⟩
          case measure => simp [intOf]; omega
    · have hk' : k = nw b := by unfold nw; rw [HBL.out]; omega
      have HK' := Lib.hid hk'
      clear hk'
      go_wp2
      go_ret
      refine ⟨A1, k, c1, rfl, ?_, HNW.out⟩
      have := HO.out
      rw [HK'.out] at this ⊢
      exact this

set_option maxHeartbeats 2000000 in
set_option maxRecDepth 100000 in
theorem rsum_any (s : ByteArray) (hs : s.size ≤ 1000000) (A : Option Addr) (n c : Nat) (l : List Int) (w : World) (hr : Rd w A n (is l)) (hn : n ≤ 1000000000) :
    Calls Tryz.prog 109 #[.string s, .slice A n c] w fun e w' => e = .returned (.int .u64 (sumI s.data.toList l)) ∧ New w w' := by
  have hll : l.length = n := by have := hr.len; rwa [is_length] at this
  have HLL := Lib.hid hll
  clear hll
  have hcv := fun W => Lib.run_convert_string_bytes (P := Tryz.prog) W 9 80 5 s Tryz.underlying9 Tryz.underlying80 Tryz.underlying5
  go_enter Tryz.func109, Tryz.ntmps109
  go_wp2_with fail
  refine (words_any _ _ _ s.data.toList _ (conv_rd w 5 s) (by omega)).mono ?_
  rintro e w1 ⟨A1, n1, c1, rfl, ho1, hn1⟩
  have hn1' : New w w1 := (conv_new w _ s).new hn1
  have hwl : n1 = nw s.data.toList := by have := ho1.1; rw [us_length, wds_length] at this; omega
  have hn1l : n1 ≤ 1000000 := by rw [hwl]; unfold nw; simp; omega
  have HWL := Lib.hid hwl
  have HO1 := Lib.hid (Rd.of_own ho1)
  have HN1 := Lib.hid hn1'
  clear hcv ho1 hn1 hn1' hwl
  go_wp2_with fail
  go_loop [5, 7] (fun v i => ∃ k : Nat, k ≤ n1 ∧ i = .int .i64 k ∧ v = .int .u64 (absorb 0 ((wdsTo s.data.toList k).map (fun n : Nat => (n : Int))))) (fun _ i => n1 - (intOf i).toNat)
  case atStart => exact ⟨0, Nat.zero_le _, rfl, rfl⟩
  case round =>
    obtain ⟨k, hk, rfl, rfl⟩ := hrel
    by_cases hlt : k < n1
    · obtain ⟨ad, u, rfl, hu, hcu⟩ := HO1.out.at_ hlt
      obtain ⟨z, hz, rfl⟩ := us_at hu
      have hzw : z = wd s.data.toList k := by
        have h2 : k < nw s.data.toList := by rw [← HWL.out]; exact hlt
        simp [wds, h2] at hz
        exact hz.symm
      have HZ := Lib.hid hzw
      clear hu hz hzw
      go_wp2_with (go_at_call 122; refine (rmix_any _ _ _).mono ?_; rintro e w' ⟨rfl, rfl⟩)
      go_round
      case rel =>
        refine ⟨k + 1, by omega, by go_num, ?_⟩
        rw [wdsTo_succ, List.map_append, List.map_cons, List.map_nil, absorb_snoc, ← HZ.out]
      case measure => simp [intOf]; omega
    · obtain rfl : n1 = k := by omega
      obtain ⟨s0, hs0⟩ : ∃ s0, absorb 0 ((wdsTo s.data.toList n1).map (fun n : Nat => (n : Int))) = s0 := ⟨_, rfl⟩
      have HS0 := Lib.hid hs0
      rw [hs0]
      clear hs0
      have hrw := hr.new HN1.out
      have HR := Lib.hid hrw
      clear hr hrw
      go_wp2_with (go_at_call 122; refine (rmix_any _ _ _).mono ?_; rintro e w' ⟨rfl, rfl⟩)
      go_loop [5, 8] (fun v i => ∃ k : Nat, k ≤ n ∧ i = .int .i64 k ∧ v = .int .u64 (absTo (mixI (mixI s0 s.size) n) l k)) (fun _ i => n - (intOf i).toNat)
      case atStart => exact ⟨0, Nat.zero_le _, rfl, rfl⟩
      case round =>
        obtain ⟨k, hk, rfl, rfl⟩ := hrel
        by_cases hlt : k < n
        · obtain ⟨ad, u, rfl, hu, hcu⟩ := HR.out.at_ hlt
          obtain ⟨z, hz, rfl⟩ := is_at hu
          have HZ := Lib.hid hz
          clear hu hz
          go_wp2_with (go_at_call 122; refine (rmix_any _ _ _).mono ?_; rintro e w' ⟨rfl, rfl⟩)
          go_round
          case rel => exact ⟨k + 1, by omega, by go_num, by rw [absTo_succ HZ.out]⟩
          case measure => simp [intOf]; omega
        · obtain rfl : n = k := by omega
          go_wp2_with (go_at_call 122; refine (rmix_any _ _ _).mono ?_; rintro e w' ⟨rfl, rfl⟩)
          go_ret
          refine ⟨ret_int ?_, HN1.out⟩
          have := HLL.out
          subst this
          rw [absTo_all, ← HS0.out, HWL.out]
          unfold sumI
          rw [Array.length_toList]
          rfl

end Go.Proofs.YtmpkaimhjdkheaaGreatDoor

namespace Go.Proofs.YtmpkaimhjdkheaaGreatDoor
open Go.RowKit Go.Shelf Go.Mem Go.Pure

/-- A word of a stream. -/
def wordI (seed : Int) (label : List UInt8) (i : Int) : Int := sumI label [wrap64 seed, i]
theorem sumI_range' (lab : List UInt8) (l : List Int) : 0 ≤ sumI lab l ∧ sumI lab l ≤ 18446744073709551615 := mixI_range _ _

theorem rd_two {w : World} {a b : Int} {e : TypeId} : Rd (w.alloc (.cells #[.int .i64 a, .int .i64 b] e)) (some ⟨w.heap.size, 0, none⟩) 2 (is [a, b]) := Rd.lit (is [a, b]) rfl
set_option maxHeartbeats 1000000 in
theorem word_any (seed : Int) (s : ByteArray) (hs : s.size ≤ 1000000) (i : Int) (w : World) :
    Calls Tryz.prog 61 #[.int .u64 seed, .string s, .int .i64 i] w fun e w' => e = .returned (.int .u64 (wordI seed s.data.toList i)) ∧ New w w' := by
  go_enter Tryz.func61, Tryz.ntmps61
  go_wp2_with fail
  refine (sum_any s hs _ 2 2 [wrap64 seed, i] _ rd_two (by omega)).mono ?_
  rintro e w' ⟨rfl, hn⟩
  have H := Lib.hid (((Chg.refl (fun _ => False) w).alloc _).new hn)
  clear hn
  go_wp2
  go_ret
  exact ⟨rfl, H.out⟩

set_option maxHeartbeats 1000000 in
theorem rword_any (seed : Int) (s : ByteArray) (hs : s.size ≤ 1000000) (i : Int) (w : World) :
    Calls Tryz.prog 90 #[.int .u64 seed, .string s, .int .i64 i] w fun e w' => e = .returned (.int .u64 (wordI seed s.data.toList i)) ∧ New w w' := by
  go_enter Tryz.func90, Tryz.ntmps90
  go_wp2_with fail
  refine (rsum_any s hs _ 2 2 [wrap64 seed, i] _ rd_two (by omega)).mono ?_
  rintro e w' ⟨rfl, hn⟩
  have H := Lib.hid (((Chg.refl (fun _ => False) w).alloc _).new hn)
  clear hn
  go_wp2
  go_ret
  exact ⟨rfl, H.out⟩

end Go.Proofs.YtmpkaimhjdkheaaGreatDoor

namespace Go.Mem
open Go.RowKit Go.Shelf

/-- What turns blocks from B on that are no cells, and makes new ones, leaves I as it is. -/
def Stab (B : Nat) (I : World → Prop) : Prop :=
  ∀ W W' row, I W → W.grownBy W' row → (∀ r, row = some r → B ≤ r ∧ ∃ o : Obj, W.heap[r]? = some o ∧ o.isCells = false) → I W'
theorem Stab.put {B : Nat} {I : World → Prop} (h : Stab B I) {W : World} {l : Nat} {o : Obj} (o' : Obj) (hs : I W) (hB : B ≤ l) (hl : W.heap[l]? = some o) (ho : o.isCells = false) : I (W.putObj l o') :=
  h W _ (some l) hs (grownBy_putObj' W l o') (fun r e => by cases e; exact ⟨hB, o, hl, ho⟩)
theorem Stab.new {B : Nat} {I : World → Prop} (h : Stab B I) {W W' : World} (hs : I W) (hn : New W W') : I W' :=
  h W W' none hs ⟨hn.os, hn.tape, hn.output, hn.size, fun k hk _ => hn.block k hk (fun h => h)⟩ (fun r e => by cases e)
theorem Stab.alloc {B : Nat} {I : World → Prop} (h : Stab B I) {W : World} (o : Obj) (hs : I W) : I (W.alloc o) := h.new hs ((Chg.refl _ W).alloc o)
theorem Stab.and {B : Nat} {I I' : World → Prop} (h : Stab B I) (h' : Stab B I') : Stab B (fun W => I W ∧ I' W) := fun W W' row hs hg hr => ⟨h W W' row hs.1 hg hr, h' W W' row hs.2 hg hr⟩
theorem Stab.const (B : Nat) (p : Prop) : Stab B (fun _ => p) := fun _ _ _ h _ _ => h
theorem Stab.blk (B g : Nat) (t : TypeId) (cs : Array Value) : Stab B (fun W => Blk W g t cs) := fun _ _ _ hs hg hr => blk_kept hs hg (fun r e => (hr r e).2)
theorem Stab.rd (B : Nat) (A : Option Addr) (n : Nat) (xs : List Value) : Stab B (fun W => Rd W A n xs) := fun _ _ _ hs hg hr => rd_kept hs hg (fun r e => (hr r e).2)
theorem Stab.own (B base : Nat) (e : TypeId) (A : Option Addr) (n c : Nat) (xs : List Value) : Stab B (fun W => W.ownsRow base e 1 (.slice A n c) n xs) := fun _ _ _ hs hg hr => row_kept hs hg (fun r e => (hr r e).2)
theorem Stab.below {B B' : Nat} {w : World} (hB : B' ≤ w.heap.size) (hle : B' ≤ B) : Stab B (fun W => Below B' w W) := fun _ _ _ hs hg hr => hs.grown hg (Nat.le_trans hB hs.size) (fun k e => Nat.le_trans hle (hr k e).1)

end Go.Mem

namespace Go.Mem
set_option linter.unusedVariables false
open Go.RowKit Go.Shelf

/-- The contract of an iterator that may have no end of its own: the body lets only lists of the kind Bd come about. -/
def SeqB {α : Type} (F : Fence) (n : Nat) (P : Program) (gf : Nat) (lb : Array Value) (encs : α → Array Value) (Fx : List α → α → World → Prop) (Kp : World → World → Prop) (S Sp : List α → World → Prop) (Bd : List α → Prop) (w : World) : Prop :=
  ∀ (l : Nat) (J Jx : List α → World → Prop) (W : World), New w W → (∀ s W W', J s W → New W W' → J s W') → (∀ s W, J s W → Bd s) →
    (∀ pre x W1, J pre W1 → Fx pre x W1 → YieldAt F (n - 1) P l (encs x) W1 fun e W' =>
      (e = .returned (.bool true) ∧ J (pre ++ [x]) W' ∧ Kp W1 W') ∨ (e = .returned (.bool false) ∧ Jx (pre ++ [x]) W')) →
    J [] W →
    CallsIn F n P gf (#[.func (.yield l) #[] #[]] ++ lb) W fun e W' => (∃ v, e = .returned v) ∧ ((∃ xs, S xs W' ∧ J xs W') ∨ (∃ pre, Sp pre W' ∧ Jx pre W'))

theorem wpIn_rangeB {F : Fence} {n : Nat} {P : Program} {α : Type} {g : Operand} {ps : Array Tmp} {assign body : Code} {Q : Exit → Act → World → Prop} {a : Act} {w : World}
    (hro : F.round = none) (h1 : 1 ≤ n) {gf : Nat} {lb : Array Value} (hg : a.eval g = .func (.func gf) #[] lb) (hFg : F.fn gf) (eg : ∀ args w, (callFunc gf args).run P w = .ok (.enter gf args) w)
    {encs : α → Array Value} {Fx : List α → α → World → Prop} {Kp : World → World → Prop} {S Sp : List α → World → Prop} {Bd : List α → Prop} (hseq : SeqB F (n - 1) P gf lb encs Fx Kp S Sp Bd w)
    (hKt : ∀ {A B C : World}, Kp A B → Kp B C → Kp A C) (hKb : ∀ (W : World) (l : Nat) (o o' : Obj), w.heap.size ≤ l → W.heap[l]? = some o → o.isCells = false → Kp W (W.putObj l o')) (hps : ∀ x, (encs x).size = ps.size)
    (hFx : ∀ pre x, Stab w.heap.size (Fx pre x)) (hS : ∀ xs, Stab w.heap.size (S xs)) (hSp : ∀ xs, Stab w.heap.size (Sp xs))
    (I : List α → World → Prop) (hIB : ∀ s W, I s W → Bd s) (Ix : Code → List α → World → Prop) (hI : ∀ xs, Stab w.heap.size (I xs)) (hIx : ∀ c xs, Stab w.heap.size (Ix c xs)) (h0 : I [] w) (a₁ : α → Act)
    (hassign : ∀ (l : Nat) (x : α) (W : World) (K : Act → World → Prop), K (a₁ x) W →
      assign.wpIn (F.inRound l) (n - 1 - 1) P (Exit.then K (fun _ _ _ => False)) { tmps := (ps.zip (encs x)).foldl (fun t (p, v) => t.setIfInBounds p v) a.tmps, defers := [] } W)
    (hbody : ∀ (l : Nat) (pre : List α) (x : α) (W : World), I pre W → Fx pre x W → body.wpIn (F.inRound l) (n - 1 - 1) P (ownPostG w.heap.size Kp I Ix (pre ++ [x]) W) (a₁ x) W)
    (hdone : ∀ (D : Nat) (xs : List α) (W : World), w.heap.size ≤ D → S xs W → I xs W → W.heap[D]? = some (.deferred (some [])) → Q .normal { a with defers := { target := .collected D, args := #[] } :: a.defers } W)
    (hstop : ∀ (D : Nat) (c : Code) (pre : List α) (W : World), w.heap.size ≤ D → Sp pre W → Ix c pre W → W.heap[D]? = some (.deferred (some [])) → c.wpIn F n P Q { a with defers := { target := .collected D, args := #[] } :: a.defers } W) :
    (Code.rangeFunc g ps assign body).wpIn F n P Q a w := by
  refine wpIn_rangeFunc ?_
  intro fn hfn
  rw [hro]
  obtain ⟨rc, hrc⟩ : ∃ rc : LoopState → Option Code → Loop, rc = fun st pe => { state := st, pending := pe, fn, tmps := a.tmps, params := ps, assign, body, defers := w.heap.size } := ⟨_, rfl⟩
  obtain ⟨W1, hW1⟩ : ∃ W1, (w.alloc (.deferred (some []))).alloc (.loop (rc .ready none)) = W1 := ⟨_, rfl⟩
  have hL1 : W1.heap[w.heap.size + 1]? = some (.loop (rc .ready none)) := by
    rw [← hW1]; have := World.alloc_heap_new (w.alloc (.deferred (some []))) (.loop (rc .ready none)); rwa [World.size_alloc] at this
  have hK1 : W1.heap[w.heap.size]? = some (.deferred (some [])) := by
    rw [← hW1]; exact (Below.heap_alloc _ _ _ (by simp)).trans (World.alloc_heap_new w _)
  have hN1 : New w W1 := by rw [← hW1]; exact ((Chg.refl _ w).alloc _).alloc _
  have hI1 : I [] W1 := (hI []).new h0 hN1
  refine ⟨w.heap.size + 1, [{ target := .collected w.heap.size, args := #[] }], W1, { target := .fn (.func gf) lb, args := #[.func (.yield (w.heap.size + 1)) #[] #[]] }, W1, gf,
    #[.func (.yield (w.heap.size + 1)) #[] #[]] ++ lb, W1, ?_, ?_, ?_, ?_, fun _ => h1, ?_⟩
  · rw [← hW1, hrc]; exact run_enterLoop_outer _ _ _ _ _
  · simp only [resolve, hg]
    simp [go_sem]
  · intro f' hf'; simp [Target.leads] at hf'; subst hf'; exact hFg
  · simp [invoke, go_sem, eg]
  · refine (hseq (w.heap.size + 1)
      (fun pre W => I pre W ∧ W.heap[w.heap.size + 1]? = some (.loop (rc .ready none)) ∧ W.heap[w.heap.size]? = some (.deferred (some [])))
      (fun pre W => ∃ c, Ix c pre W ∧ W.heap[w.heap.size + 1]? = some (.loop (rc .done (some c))) ∧ W.heap[w.heap.size]? = some (.deferred (some [])))
      W1 hN1 (fun s A B hs hn => ⟨(hI s).new hs.1 hn, hn.heap hs.2.1 (fun h => h), hn.heap hs.2.2 (fun h => h)⟩) (fun s W hs => hIB s W hs.1) ?_ ⟨hI1, hL1, hK1⟩).mono ?_
    · rintro pre x W ⟨hi, hl, hk⟩ hfx
      have hlt : w.heap.size + 1 < W.heap.size := (Array.getElem?_eq_some_iff.1 hl).1
      have hy := run_yield (P := P) (args := encs x) hl (by rw [hrc]; exact hps x)
      rw [hrc] at hy
      refine ⟨fn, _, assign, body, hy, roundIn_of_wpIn hfn (hassign _ x W _ ?_)⟩
      clear hy
      refine ⟨_, run_beginRound hl (by rw [hrc]), ?_⟩
      obtain ⟨Wb, hWb⟩ : ∃ Wb, W.putObj (w.heap.size + 1) (.loop { rc .ready none with state := .busy }) = Wb := ⟨_, rfl⟩
      have hl2 : Wb.heap[w.heap.size + 1]? = some (.loop { rc .ready none with state := .busy }) := by rw [← hWb]; exact World.putObj_heap_same hlt
      have hk2 : Wb.heap[w.heap.size]? = some (.deferred (some [])) := by rw [← hWb]; exact (World.putObj_heap_other (by omega)).trans hk
      have hw2 : Kp W Wb := by rw [← hWb]; exact hKb _ _ _ _ (by omega) hl rfl
      have hi2 : I pre Wb := by rw [← hWb]; exact (hI pre).put _ hi (by omega) hl rfl
      have hf2 : Fx pre x Wb := by rw [← hWb]; exact (hFx pre x).put _ hfx (by omega) hl rfl
      rw [hWb]
      refine wpIn_mono (hbody _ pre x Wb hi2 hf2) ?_
      have fin : ∀ (jump : Option Code) (W3 : World), KeepsFrom w.heap.size Wb W3 →
          (Instr.endRound (w.heap.size + 1) jump).run P W3 = .ok (.bool jump.isNone) (W3.putObj (w.heap.size + 1) (.loop (rc (if jump.isNone then .ready else .done) jump))) ∧
          W3.heap[w.heap.size + 1]? = some (.loop { rc .ready none with state := .busy }) ∧
          (W3.putObj (w.heap.size + 1) (.loop (rc (if jump.isNone then .ready else .done) jump))).heap[w.heap.size + 1]? = some (.loop (rc (if jump.isNone then .ready else .done) jump)) ∧
          (W3.putObj (w.heap.size + 1) (.loop (rc (if jump.isNone then .ready else .done) jump))).heap[w.heap.size]? = some (.deferred (some [])) := fun jump W3 hk3 => by
        have hl3 := hk3.same _ _ (by omega) hl2 rfl
        have := run_endRound (P := P) jump hl3
        rw [hrc] at this ⊢
        exact ⟨this, by rw [hrc] at hl3; exact hl3, World.putObj_heap_same (Array.getElem?_eq_some_iff.1 hl3).1, (World.putObj_heap_other (by omega)).trans (hk3.same _ _ (Nat.le_refl _) hk2 rfl)⟩
      rintro e a3 W3 hp
      cases e with
      | normal =>
        obtain ⟨hk3, hkp3, hi3⟩ := hp
        obtain ⟨hr, hl3, hl4, hk4⟩ := fin none W3 hk3
        exact ⟨_, _, hr, .inl ⟨rfl, ⟨(hI _).put _ hi3 (by omega) hl3 rfl, hl4, hk4⟩, hKt (hKt hw2 hkp3) (hKb _ _ _ _ (by omega) hl3 rfl)⟩⟩
      | ret =>
        obtain ⟨hk3, hi3⟩ := hp
        obtain ⟨hr, hl3, hl4, hk4⟩ := fin (some .ret) W3 hk3
        exact ⟨_, _, hr, .inr ⟨rfl, .ret, (hIx _ _).put _ hi3 (by omega) hl3 rfl, hl4, hk4⟩⟩
      | exit id =>
        obtain ⟨hk3, hi3⟩ := hp
        obtain ⟨hr, hl3, hl4, hk4⟩ := fin (some (.exit id)) W3 hk3
        exact ⟨_, _, hr, .inr ⟨rfl, .exit id, (hIx _ _).put _ hi3 (by omega) hl3 rfl, hl4, hk4⟩⟩
      | goto t =>
        obtain ⟨hk3, hi3⟩ := hp
        obtain ⟨hr, hl3, hl4, hk4⟩ := fin (some (.goto t)) W3 hk3
        exact ⟨_, _, hr, .inr ⟨rfl, .goto t, (hIx _ _).put _ hi3 (by omega) hl3 rfl, hl4, hk4⟩⟩
      | panic ch => exact hp.elim
      | outgrown => exact hp.elim
    · rintro e W2 ⟨⟨v, rfl⟩, (⟨xs, hs, hi, hl, hk⟩ | ⟨pre, hsp, c, hi, hl, hk⟩)⟩
      · exact ⟨none, _, by have := run_endLoop (P := P) hl (by rw [hrc]; simp); rw [hrc] at this; exact this, hdone _ xs _ (Nat.le_refl _) ((hS xs).put _ hs (by omega) hl rfl) ((hI xs).put _ hi (by omega) hl rfl) ((World.putObj_heap_other (by omega)).trans hk)⟩
      · exact ⟨some c, _, by have := run_endLoop (P := P) hl (by rw [hrc]; simp); rw [hrc] at this; exact this, hstop _ c pre _ (Nat.le_refl _) ((hSp pre).put _ hsp (by omega) hl rfl) ((hIx c pre).put _ hi (by omega) hl rfl) ((World.putObj_heap_other (by omega)).trans hk)⟩
end Go.Mem

namespace Go.Proofs.YtmpkaimhjdkheaaGreatDoor
set_option linter.unusedVariables false
open Go.RowKit Go.Shelf Go.Mem Go.Pure
attribute [local go_sem] Oper.semAt_some

/-- What is handed on: the index of the next word, and the word. -/
def strE (seed : Int) (lab : List UInt8) (i : Int) (x : Nat) : Array Value := #[.int .i64 (i + x + 1), .int .u64 (wordI seed lab (i + x))]

set_option maxHeartbeats 400000 in
theorem stream_any (seed : Int) (s : ByteArray) (i : Int) (w : World) :
    Calls Tryz.prog 31 #[.int .u64 seed, .string s, .int .i64 i] w fun e w' => e = .returned (.func (.func 60) #[] #[.pointer (some ⟨w.heap.size + 2, 0, none⟩), .pointer (some ⟨w.heap.size, 0, none⟩), .pointer (some ⟨w.heap.size + 1, 0, none⟩)]) ∧
      Blk w' w.heap.size 22 #[.int .u64 seed] ∧ Blk w' (w.heap.size + 1) 9 #[.string s] ∧ Blk w' (w.heap.size + 2) 3 #[.int .i64 i] ∧ New w w' ∧ w'.heap.size = w.heap.size + 3 := by
  go_enter Tryz.func31, Tryz.ntmps31
  go_wp2
  go_ret
  have h1 : Blk (w.alloc (.cells #[.int .u64 seed] 22)) w.heap.size 22 #[.int .u64 seed] := Blk.new _ _ _
  have h2 : Blk ((w.alloc (.cells #[.int .u64 seed] 22)).alloc (.cells #[.string s] 9)) (w.heap.size + 1) 9 #[.string s] := by
    have := Blk.new (w.alloc (.cells #[.int .u64 seed] 22)) 9 #[.string s]
    rwa [World.size_alloc] at this
  have h3 : Blk (((w.alloc (.cells #[.int .u64 seed] 22)).alloc (.cells #[.string s] 9)).alloc (.cells #[.int .i64 i] 3)) (w.heap.size + 2) 3 #[.int .i64 i] := by
    have := Blk.new ((w.alloc (.cells #[.int .u64 seed] 22)).alloc (.cells #[.string s] 9)) 3 #[.int .i64 i]
    rwa [World.size_alloc, World.size_alloc] at this
  exact ⟨rfl, (h1.alloc _).alloc _, h2.alloc _, h3, (((Chg.refl _ w).alloc _).alloc _).alloc _, by simp⟩

/-- The boxes of the iterator. -/
def boxes (B : Nat) (k : Nat) : Prop := k = B ∨ k = B + 1 ∨ k = B + 2

set_option maxRecDepth 100000 in
set_option maxHeartbeats 2000000 in
theorem stream1_in (n : Nat) (hn : 1 ≤ n) (l B : Nat) (seed : Int) (s : ByteArray) (hs : s.size ≤ 1000000) (i : Int) (hi : 0 ≤ i ∧ i ≤ 1000000000) (m : Nat) (hm : m ≤ 1000000) (J Jx : List Nat → World → Prop)
    (hJ : ∀ s W W', J s W → New W W' → J s W') (hJB : ∀ s W, J s W → s.length < m)
    (hY : ∀ pre x W1, J pre W1 → x = pre.length → YieldAt Fence.wide (n - 1) Tryz.prog l (strE seed s.data.toList i x) W1 fun e W' =>
      (e = .returned (.bool true) ∧ J (pre ++ [x]) W' ∧ Keep (boxes B) W1 W') ∨ (e = .returned (.bool false) ∧ Jx (pre ++ [x]) W'))
    (W : World) (h1 : Blk W B 22 #[.int .u64 seed]) (h2 : Blk W (B + 1) 9 #[.string s]) (h3 : Blk W (B + 2) 3 #[.int .i64 i]) (h0 : J [] W) :
    CallsIn Fence.wide n Tryz.prog 60 #[.func (.yield l) #[] #[], .pointer (some ⟨B + 2, 0, none⟩), .pointer (some ⟨B, 0, none⟩), .pointer (some ⟨B + 1, 0, none⟩)] W fun e W' => (∃ v, e = .returned v) ∧
      ((∃ ys, False ∧ J ys W') ∨ (∃ pre, True ∧ Jx pre W')) := by
  refine callsIn_of_wp Tryz.func60 rfl trivial ?_ rfl
  simp only [Tryz.ntmps60, List.size_toArray, List.length_cons, List.length_nil, Nat.reduceAdd, Nat.reduceSub, Array.replicate_succ, Array.replicate_zero, List.push_toArray, List.append_toArray, List.nil_append, List.cons_append]
  have hc3 := h3.cell 0 rfl
  gi_wp2
  gi_loopw [5] (fun p wr => ∃ pre : List Nat, p = .int .i64 (i + pre.length) ∧ J pre wr ∧ Keep (boxes B) W wr) (fun p _ => (i + m - intOf p).toNat)
  case atStart => exact ⟨[], by simp, h0, fun _ _ => rfl⟩
  case round =>
    obtain ⟨pre, rfl, hJs, hK⟩ := hrel
    have hb1 : Blk wr B 22 #[.int .u64 seed] := (hK B (.inl rfl)).trans h1
    have hb2 : Blk wr (B + 1) 9 #[.string s] := (hK (B + 1) (.inr (.inl rfl))).trans h2
    have hb3 : Blk wr (B + 2) 3 #[.int .i64 i] := (hK (B + 2) (.inr (.inr rfl))).trans h3
    have hc1 := hb1.cell 0 rfl
    have hc2 := hb2.cell 0 rfl
    have hlen := hJB _ _ hJs
    obtain ⟨num, hnum⟩ : ∃ num, pre.length = num := ⟨_, rfl⟩
    rw [hnum] at hlen ⊢
    have HX := Lib.hid (And.intro hJs (And.intro hK (And.intro hnum (And.intro hb1 (And.intro hb2 hb3)))))
    have HY := Lib.hid hY
    have HJJ := Lib.hid hJ
    clear hJs hK hnum hb1 hb2 hb3 hY hJ hJB h1 h2 h3 hc3
    obtain ⟨hi1, hi2⟩ := hi
    gi_wp2
    refine ⟨trivial, (callsIn_wide.2 (word_any seed s hs (i + num) wr)).mono ?_⟩
    rintro e w1 ⟨rfl, hn1⟩
    obtain ⟨hJs, hK, hnum, hb1, hb2, hb3⟩ := HX.out
    have hJ1 : J pre w1 := HJJ.out _ _ _ hJs hn1
    obtain ⟨fn, tmps, assign, body, hy, hRR⟩ := HY.out pre num w1 hJ1 hnum.symm
    have H1 := Lib.hid (And.intro hn1 hRR)
    unfold strE at hy
    clear hJs hK hb1 hb2 hb3 hJ1 hn1 hRR hnum
    gi_wp2
    refine H1.out.2.mono ?_
    rintro e w2 (⟨rfl, hJ2, hk2⟩ | ⟨rfl, hJx2⟩)
    · gi_wp2
      go_roundw
      case rel =>
        obtain ⟨hJs, hK, hnum, hb1, hb2, hb3⟩ := HX.out
        refine ⟨pre ++ [num], ?_, hJ2, ?_⟩
        · rw [List.length_append, hnum]; go_num
        · intro k hk
          have hlt : k < wr.heap.size := by
            have a1 := hb1.lt
            have a2 := hb2.lt
            have a3 := hb3.lt
            rcases hk with rfl | rfl | rfl <;> assumption
          exact (hk2 k hk).trans ((H1.out.1.block k hlt (fun h => h)).trans (hK k hk))
      case measure => simp [intOf]; omega
    · gi_wp2
      refine bodyPost_end (results_none rfl _ _ _) rfl ?_
      exact ⟨⟨_, rfl⟩, .inr ⟨_, trivial, hJx2⟩⟩

theorem stream_seq (n : Nat) (hn : 1 ≤ n) (B : Nat) (seed : Int) (s : ByteArray) (hs : s.size ≤ 1000000) (i : Int) (hi : 0 ≤ i ∧ i ≤ 1000000000) (m : Nat) (hm : m ≤ 1000000) (w : World)
    (h1 : Blk w B 22 #[.int .u64 seed]) (h2 : Blk w (B + 1) 9 #[.string s]) (h3 : Blk w (B + 2) 3 #[.int .i64 i]) :
    SeqB Fence.wide n Tryz.prog 60 #[.pointer (some ⟨B + 2, 0, none⟩), .pointer (some ⟨B, 0, none⟩), .pointer (some ⟨B + 1, 0, none⟩)] (strE seed s.data.toList i)
      (fun pre x _ => x = pre.length) (Keep (boxes B)) (fun _ _ => False) (fun _ _ => True) (fun pre => pre.length < m) w := fun l J Jx W hW hJ hJB hY h0 =>
  stream1_in n hn l B seed s hs i hi m hm J Jx hJ hJB hY W (h1.chg hW (fun h => h)) (h2.chg hW (fun h => h)) (h3.chg hW (fun h => h)) h0

/-- 2^64 modulo n. -/
def overN (n : Nat) : Nat := 18446744073709551616 % n
/-- Is a word taken for the bound n? -/
def takes (n : Nat) (w : Int) : Prop := overN n = 0 ∨ w < 18446744073709551616 - overN n
instance (n : Nat) (w : Int) : Decidable (takes n w) := by unfold takes; exact inferInstance
/-- How many words are taken: the first that fits, at most 64 of them. -/
def triesN (n : Nat) (f : Nat → Int) : Nat → Nat → Nat
  | 0, k => k
  | t + 1, k => if takes n (f k) then k else triesN n f t (k + 1)
/-- The word that is taken. -/
def takenN (seed : Int) (lab : List UInt8) (i : Int) (n : Nat) : Nat := triesN n (fun k => wordI seed lab (i + k)) 63 0

theorem triesN_skip {n : Nat} {f : Nat → Int} : ∀ (k t : Nat), (∀ j, j < k → ¬ takes n (f j)) → triesN n f (t + k) 0 = triesN n f t k := by
  intro k
  induction k with
  | zero => intro t _; rfl
  | succ k ih =>
    intro t h
    have h1 := ih (t + 1) (fun j hj => h j (by omega))
    rw [show t + (k + 1) = t + 1 + k by omega, h1]
    show (if takes n (f k) then k else triesN n f t (k + 1)) = _
    rw [if_neg (h k (by omega))]
theorem taken_eq {seed : Int} {lab : List UInt8} {i : Int} {n k : Nat} (hk : k < 64) (h : ∀ j, j < k → ¬ takes n (wordI seed lab (i + (j : Nat)))) (ht : takes n (wordI seed lab (i + k)) ∨ k = 63) : takenN seed lab i n = k := by
  unfold takenN
  rw [show 63 = (63 - k) + k by omega, triesN_skip k (63 - k) h]
  rcases Nat.eq_zero_or_pos (63 - k) with h0 | h0
  · rw [h0]; rfl
  · obtain ⟨t, ht'⟩ : ∃ t, 63 - k = t + 1 := ⟨63 - k - 1, by omega⟩
    rw [ht']
    show (if takes n (wordI seed lab (i + (k : Nat))) then k else _) = k
    rcases ht with h1 | h1
    · rw [if_pos h1]
    · omega
theorem over_eq {n : Nat} (h1 : 1 ≤ n) (hn : n ≤ 4611686018427387904) : (IntKind.u64.wrap (-(n : Int))).tmod (n : Int) = (overN n : Int) := by
  rw [IntKind.wrap_u64]
  have e : (-(n : Int)) % 18446744073709551616 = ((18446744073709551616 - n : Nat) : Int) := by omega
  rw [e, Int.tmod_eq_emod_of_nonneg (by omega), ← Int.natCast_emod]
  unfold overN
  rw [Nat.mod_eq_sub_mod (a := 18446744073709551616) (b := n) (by omega)]
theorem over_lt {n : Nat} (h1 : 1 ≤ n) : overN n < n := Nat.mod_lt _ (by omega)
theorem word_range (seed : Int) (lab : List UInt8) (i : Int) : 0 ≤ wordI seed lab i ∧ wordI seed lab i ≤ 18446744073709551615 := sumI_range' _ _

/-- What holds ahead of each round. -/
def BelI (seed : Int) (s : ByteArray) (i : Int) (n ov B : Nat) (w : World) (pre : List Nat) (W : World) : Prop :=
  pre.length < 64 ∧ (∀ j, j < pre.length → ¬ takes n (wordI seed s.data.toList (i + (j : Nat)))) ∧ Blk W B 3 #[.int .i64 n] ∧ Blk W (B + 1) 3 #[.int .i64 0] ∧ Blk W (B + 1 + 1) 3 #[.int .i64 0] ∧ Blk W (B + 1 + 1 + 1) 22 #[.int .u64 ov] ∧ Blk W (B + 1 + 1 + 1 + 1) 3 #[.int .i64 pre.length] ∧ Below w.heap.size w W ∧ B + 1 + 1 + 1 + 1 + 1 + 3 ≤ W.heap.size
/-- What holds where the word has been taken. -/
def BelX (seed : Int) (s : ByteArray) (i : Int) (n B : Nat) (w : World) (c : Code) (_pre : List Nat) (W : World) : Prop :=
  c = .ret ∧ ∃ k, takenN seed s.data.toList i n = k ∧ k < 64 ∧ Blk W (B + 1) 3 #[.int .i64 (wordI seed s.data.toList (i + k) % n)] ∧ Blk W (B + 1 + 1) 3 #[.int .i64 (i + k + 1)] ∧ Below w.heap.size w W
theorem loadVar_int {W : World} {g : Nat} {v : Value} (h : W.cell? ⟨g, 0, none⟩ = some v) : (loadVar 3 ⟨g, 0, none⟩).run Tryz.prog W = .ok v W := by
  simp [loadVar, isAgg, run_underlying Tryz.underlying3, h]
theorem results_int2 {fn : Func} {p q : Tmp} (h : fn.results = #[.cell p 3, .cell q 3]) (tmps : Array Value) {W : World} {g g' : Nat} {v v' : Value} (hp : tmps.getD p undef = .pointer (some ⟨g, 0, none⟩)) (hq : tmps.getD q undef = .pointer (some ⟨g', 0, none⟩))
    (hc : W.cell? ⟨g, 0, none⟩ = some v) (hc' : W.cell? ⟨g', 0, none⟩ = some v') : (results fn tmps).run Tryz.prog W = .ok (.tuple #[v, v']) W := by
  have hp' : tmps[p]?.getD undef = .pointer (some ⟨g, 0, none⟩) := by simpa using hp
  have hq' : tmps[q]?.getD undef = .pointer (some ⟨g', 0, none⟩) := by simpa using hq
  simp [results, h, hp', hq', asAddr, loadVar_int hc, loadVar_int hc']

set_option maxRecDepth 100000 in
set_option maxHeartbeats 2000000 in
theorem below_any (seed : Int) (s : ByteArray) (hs : s.size ≤ 1000000) (i : Int) (hi : 0 ≤ i ∧ i ≤ 1000000000) (n : Nat) (hn1 : 1 ≤ n) (hn : n ≤ 4611686018427387904) (w : World) :
    Calls Tryz.prog 43 #[.int .u64 seed, .string s, .int .i64 i, .int .i64 n] w fun e w' =>
      e = .returned (.tuple #[.int .i64 (wordI seed s.data.toList (i + takenN seed s.data.toList i n) % n), .int .i64 (i + takenN seed s.data.toList i n + 1)]) ∧ New w w' := by
  refine (callsIn_wide (n := 10)).1 ?_
  refine callsIn_of_wp_marks Tryz.func43 rfl trivial ?_ rfl
  simp only [Tryz.ntmps43, List.size_toArray, List.length_cons, List.length_nil, Nat.reduceAdd, Nat.reduceSub, Array.replicate_succ, Array.replicate_zero, List.push_toArray, List.append_toArray, List.nil_append, List.cons_append]
  have g1 : decide ((n : Int) < 1) = false := by simp; omega
  have g2 : decide ((4611686018427387904 : Int) < (n : Int)) = false := by simp; omega
  have hov := over_eq hn1 hn
  have hol := over_lt (n := n) hn1
  obtain ⟨ov, hovq⟩ : ∃ ov, overN n = ov := ⟨_, rfl⟩
  rw [hovq] at hov hol
  have HOV := Lib.hid hovq
  have HI := Lib.hid hi
  clear hovq
  gi_wp2
  clear hov
  refine ⟨trivial, (callsIn_wide.2 (stream_any seed s i _)).mono ?_⟩
  rintro e w1 ⟨rfl, hs1, hs2, hs3, hnw, hz1⟩
  obtain ⟨v1, e1⟩ : ∃ v, w.alloc (.cells #[.int .i64 (n : Int)] 3) = v := ⟨_, rfl⟩
  have hb1 : Blk v1 w.heap.size 3 #[.int .i64 n] := by rw [← e1]; exact Blk.new _ _ _
  have z1 : v1.heap.size = w.heap.size + 1 := by rw [← e1]; simp
  have n1 : New w v1 := by rw [← e1]; exact (Chg.refl _ w).alloc _
  rw [e1] at hs1 hs2 hs3 hnw hz1
  obtain ⟨v2, e2⟩ : ∃ v, v1.alloc (.cells #[.int .i64 0] 3) = v := ⟨_, rfl⟩
  have hb2 : Blk v2 (w.heap.size + 1) 3 #[.int .i64 0] := by rw [← e2, ← z1]; exact Blk.new _ _ _
  have z2 : v2.heap.size = w.heap.size + 1 + 1 := by rw [← e2, ← z1]; simp
  have n2 : New v1 v2 := by rw [← e2]; exact (Chg.refl _ v1).alloc _
  rw [e2] at hs1 hs2 hs3 hnw hz1
  obtain ⟨v3, e3⟩ : ∃ v, v2.alloc (.cells #[.int .i64 0] 3) = v := ⟨_, rfl⟩
  have hb3 : Blk v3 (w.heap.size + 1 + 1) 3 #[.int .i64 0] := by rw [← e3, ← z2]; exact Blk.new _ _ _
  have z3 : v3.heap.size = w.heap.size + 1 + 1 + 1 := by rw [← e3, ← z2]; simp
  have n3 : New v2 v3 := by rw [← e3]; exact (Chg.refl _ v2).alloc _
  rw [e3] at hs1 hs2 hs3 hnw hz1
  obtain ⟨v4, e4⟩ : ∃ v, v3.alloc (.cells #[.int .u64 (ov : Int)] 22) = v := ⟨_, rfl⟩
  have hb4 : Blk v4 (w.heap.size + 1 + 1 + 1) 22 #[.int .u64 ov] := by rw [← e4, ← z3]; exact Blk.new _ _ _
  have z4 : v4.heap.size = w.heap.size + 1 + 1 + 1 + 1 := by rw [← e4, ← z3]; simp
  have n4 : New v3 v4 := by rw [← e4]; exact (Chg.refl _ v3).alloc _
  rw [e4] at hs1 hs2 hs3 hnw hz1
  obtain ⟨v5, e5⟩ : ∃ v, v4.alloc (.cells #[.int .i64 0] 3) = v := ⟨_, rfl⟩
  have hb5 : Blk v5 (w.heap.size + 1 + 1 + 1 + 1) 3 #[.int .i64 0] := by rw [← e5, ← z4]; exact Blk.new _ _ _
  have z5 : v5.heap.size = w.heap.size + 1 + 1 + 1 + 1 + 1 := by rw [← e5, ← z4]; simp
  have n5 : New v4 v5 := by rw [← e5]; exact (Chg.refl _ v4).alloc _
  rw [e5] at hs1 hs2 hs3 hnw hz1
  rw [e1, e2, e3, e4, e5]
  rw [z5] at hs1 hs2 hs3 hz1 ⊢
  have hN := n1.new (n2.new (n3.new (n4.new (n5.new hnw))))
  have hc1 := hb1.chg (n2.new (n3.new (n4.new (n5.new hnw)))) (fun h => h)
  have hc2 := hb2.chg (n3.new (n4.new (n5.new hnw))) (fun h => h)
  have hc3 := hb3.chg (n4.new (n5.new hnw)) (fun h => h)
  have hc4 := hb4.chg (n5.new hnw) (fun h => h)
  have hc5 := hb5.chg hnw (fun h => h)
  clear e1 e2 e3 e4 e5 hb1 hb2 hb3 hb4 hb5 z1 z2 z3 z4 z5 n1 n2 n3 n4 n5 hnw
  obtain ⟨B, hB⟩ : ∃ B, w.heap.size = B := ⟨_, rfl⟩
  rw [hB] at hs1 hs2 hs3 hz1 hc1 hc2 hc3 hc4 hc5 ⊢
  gi_wp2
  refine wpIn_rangeB rfl (by omega) (gf := 60) rfl trivial (enters_of Tryz.func60 (by kernel_rfl) rfl)
    (stream_seq 9 (by omega) _ seed s hs i HI.out 64 (by omega) w1 hs1 hs2 hs3) (fun h h' => Keep.trans h h') ?kb (fun _ => rfl) (fun _ _ => Stab.const _ _) (fun _ => Stab.const _ _) (fun _ => Stab.const _ _)
    (BelI seed s i n ov B w)
    (fun pre W h => h.1)
    (BelX seed s i n B w) ?hI ?hIx
    ⟨by simp, by simp, hc1, hc2, hc3, hc4, hc5, New.below hN, by omega⟩ ?a1 ?assign ?body ?done ?stop
  case assign =>
    intro l x W K hK
    unfold strE
    gi_wp2
    exact hK
  case kb =>
    intro W l o o' hl ho hoc k hk
    refine World.putObj_heap_other ?_
    rcases hk with rfl | rfl | rfl <;> omega
  case hI =>
    rintro pre W W' row ⟨q1, q2, q3, q4, q5, q6, q7, q8, q9⟩ hg hr
    exact ⟨q1, q2, blk_kept q3 hg (fun r e => (hr r e).2), blk_kept q4 hg (fun r e => (hr r e).2), blk_kept q5 hg (fun r e => (hr r e).2), blk_kept q6 hg (fun r e => (hr r e).2), blk_kept q7 hg (fun r e => (hr r e).2),
      q8.grown hg q8.size (fun k e => by have := (hr k e).1; omega), Nat.le_trans q9 hg.size⟩
  case hIx =>
    rintro c pre W W' row ⟨q1, k, q2, q3, q4, q5, q6⟩ hg hr
    exact ⟨q1, k, q2, q3, blk_kept q4 hg (fun r e => (hr r e).2), blk_kept q5 hg (fun r e => (hr r e).2), q6.grown hg q6.size (fun k e => by have := (hr k e).1; omega)⟩
  case done =>
    rintro D xs W hD hF
    exact hF.elim
  case body =>
    rintro l' pre x W ⟨q1, q2, q3, q4, q5, q6, q7, q8, q9⟩ rfl
    obtain ⟨N, hNq⟩ : ∃ N, pre.length = N := ⟨_, rfl⟩
    rw [hNq] at q1 q2 q7 ⊢
    have hr1 := q3.cell 0 rfl
    have hr2 := q4.cell 0 rfl
    have hr3 := q5.cell 0 rfl
    have hr4 := q6.cell 0 rfl
    have hr5 := q7.cell 0 rfl
    have hf2 := q4.frozen 0
    have hf3 := q5.frozen 0
    have hf5 := q7.frozen 0
    have hl2 := q4.lt
    have hwr := word_range seed s.data.toList (i + N)
    obtain ⟨wd, hwd⟩ : ∃ wd, wordI seed s.data.toList (i + N) = wd := ⟨_, rfl⟩
    rw [hwd] at hwr ⊢
    have HQ := Lib.hid (And.intro q2 (And.intro q3 (And.intro q4 (And.intro q5 (And.intro q6 (And.intro q7 (And.intro q8 (And.intro hNq hwd))))))))
    clear q2 q3 q4 q5 q6 q7 q8 hNq hwd hs1 hs2 hs3 hc1 hc2 hc3 hc4 hc5 hN
    have hmd0 : 0 ≤ wd % (n : Int) := Int.emod_nonneg _ (by omega)
    have hmd1 : wd % (n : Int) < (n : Int) := Int.emod_lt_of_pos _ (by omega)
    have hmd2 : wd.tmod (n : Int) = wd % (n : Int) := Int.tmod_eq_emod_of_nonneg hwr.1
    obtain ⟨md, hmd⟩ : ∃ md, wd % (n : Int) = md := ⟨_, rfl⟩
    rw [hmd] at hmd0 hmd1 hmd2
    obtain ⟨hi1, hi2⟩ := hi
    have hN64 : (N : Int) < 64 := by omega
    have fin : ∀ a : Act, takes n wd ∨ N = 63 → ownPostG w1.heap.size (Keep (boxes (B + 5)))
        (BelI seed s i n ov B w) (BelX seed s i n B w)
        (pre ++ [N]) W .ret a (((W.setCell ⟨B + 1 + 1 + 1 + 1, 0, none⟩ (.int .i64 ((N : Int) + 1))).setCell ⟨B + 1, 0, none⟩ (.int .i64 md)).setCell ⟨B + 1 + 1, 0, none⟩ (.int .i64 (i + N + 1))) := by
      intro a ht
      obtain ⟨q2, q3, q4, q5, q6, q7, q8, hNq, hwd⟩ := HQ.out
      refine ⟨((KeepsOthers.setCell _ _ _).trans ((KeepsOthers.setCell _ _ _).trans (KeepsOthers.setCell _ _ _))).from _, rfl, N, taken_eq q1 q2 (by rw [hwd]; exact ht), q1, ?_, ?_, ?_⟩
      · rw [hwd, hmd]
        exact (((q4.far (p := ⟨B + 1 + 1 + 1 + 1, 0, none⟩) (by simp) _).set_ 0 _).far (p := ⟨B + 1 + 1, 0, none⟩) (by simp) _)
      · exact ((q5.far (p := ⟨B + 1 + 1 + 1 + 1, 0, none⟩) (by simp) _).far (p := ⟨B + 1, 0, none⟩) (by simp) _).set_ 0 _
      · exact ((q8.setCell (p := ⟨B + 1 + 1 + 1 + 1, 0, none⟩) (by simp; omega) _).setCell (p := ⟨B + 1, 0, none⟩) (by simp; omega) _).setCell (p := ⟨B + 1 + 1, 0, none⟩) (by simp; omega) _
    have FIN := Lib.hid fin
    have HZ := Lib.hid (And.intro hz1 hB)
    clear fin hz1 hB
    by_cases h0 : ov = 0
    · subst h0
      have HT : Hid (takes n wd) := .inl HOV.out
      gi_wp2
      exact FIN.out _ (.inl HT.out)
    · have he : ((ov : Int) == 0) = false := by simp; omega
      have hneg : IntKind.u64.wrap (-(ov : Int)) = 18446744073709551616 - (ov : Int) := by rw [IntKind.wrap_u64]; omega
      by_cases hlt : wd < 18446744073709551616 - (ov : Int)
      · have HT : Hid (takes n wd) := .inr (by rw [HOV.out]; exact hlt)
        gi_wp2
        exact FIN.out _ (.inl HT.out)
      · have hltd : decide (wd < 18446744073709551616 - (ov : Int)) = false := by simpa using hlt
        have HT : Hid (¬ takes n wd) := fun h => by
          rcases h with h | h
          · exact h0 (by rw [← HOV.out]; exact h)
          · rw [HOV.out] at h; exact hlt h
        by_cases h63 : N = 63
        · have he64 : ((N : Int) + 1 == 64) = true := by simp; omega
          have H63 := Lib.hid h63
          clear h63
          gi_wp2
          exact FIN.out _ (.inr H63.out)
        · have he64 : ((N : Int) + 1 == 64) = false := by simp; omega
          gi_wp2
          obtain ⟨q2, q3, q4, q5, q6, q7, q8, hNq, hwd⟩ := HQ.out
          obtain ⟨hz1, hB⟩ := HZ.out
          refine ⟨(KeepsOthers.setCell _ _ _).from _, ?_, ?_, ?_, ?_, ?_, ?_, ?_, ?_, ?_, ?_⟩
          · intro k hk
            refine Below.heap_setCell W _ _ k ?_
            rcases hk with rfl | rfl | rfl
            · simp
            · simp
            · simp
          · rw [List.length_append, hNq]; simp; omega
          · intro j hj
            rw [List.length_append, hNq] at hj
            rcases Nat.lt_or_ge j N with g | g
            · exact q2 j g
            · obtain rfl : j = N := by simp at hj; omega
              rw [hwd]
              exact HT.out
          · exact q3.far (p := ⟨B + 1 + 1 + 1 + 1, 0, none⟩) (by simp; omega) _
          · exact q4.far (p := ⟨B + 1 + 1 + 1 + 1, 0, none⟩) (by simp) _
          · exact q5.far (p := ⟨B + 1 + 1 + 1 + 1, 0, none⟩) (by simp) _
          · exact q6.far (p := ⟨B + 1 + 1 + 1 + 1, 0, none⟩) (by simp) _
          · have := q7.set_ 0 (.int .i64 ((N : Int) + 1))
            rw [List.length_append, hNq]
            exact this
          · exact q8.setCell (p := ⟨B + 1 + 1 + 1 + 1, 0, none⟩) (by simp; omega) _
          · simp [World.setCell]
            omega
  case stop =>
    rintro D c pre W hD _ ⟨rfl, k, hk, hk64, hb1, hb2, hB2⟩ hK
    have hd1 := hb1.cell 0 rfl
    have hd2 := hb2.cell 0 rfl
    have HX := Lib.hid (And.intro hk (And.intro hb1 (And.intro hb2 (And.intro hB2 hK))))
    clear hk hb1 hb2 hB2 hK
    gi_wp2
    obtain ⟨hk, hb1, hb2, hB2, hK⟩ := HX.out
    refine ⟨by simp, .inl ⟨_, _, rfl, run_takeDeferred hK, ?_⟩⟩
    have hst : Stab 0 (fun V => Blk V (B + 1) 3 #[.int .i64 (wordI seed s.data.toList (i + k) % n)] ∧ Blk V (B + 1 + 1) 3 #[.int .i64 (i + k + 1)]) := Stab.and (Stab.blk _ _ _ _) (Stab.blk _ _ _ _)
    have hfin := hst.put (W := W) (l := D) (.deferred none) ⟨hb1, hb2⟩ (Nat.zero_le _) hK rfl
    refine ⟨_, results_int2 rfl _ rfl rfl (hfin.1.cell 0 rfl) (hfin.2.cell 0 rfl), ?_, New.of_below (hB2.trans (belowK_b (w := w) (Nat.le_refl _) _ D _ _ (by omega) hK rfl rfl))⟩
    rw [hk]
    rfl
end Go.Proofs.YtmpkaimhjdkheaaGreatDoor

namespace Go.Proofs.YtmpkaimhjdkheaaGreatDoor
set_option linter.unusedVariables false
open Go.RowKit Go.Shelf Go.Mem Go.Pure

/-- The first place at which the weights up to it come above r. -/
def seek : List Int → Int → Nat → Option Nat
  | [], _, _ => none
  | w :: t, r, k => if r < w then some k else seek t (r - w) (k + 1)
def goodW (l : List Int) : Prop := ∀ w ∈ l, 0 ≤ w ∧ w ≤ 1099511627776
theorem sum_take {l : List Int} {k : Nat} {z : Int} (h : l[k]? = some z) : (l.take (k + 1)).sum = (l.take k).sum + z := by
  rw [List.take_add_one, h]
  simp
/-- Pick's refusal. -/
def pickBad (l : List Int) : Prop := l = [] ∨ 4096 < l.length ∨ ¬ goodW l ∨ l.sum = 0
open Classical in
noncomputable def pickR (seed : Int) (lab : List UInt8) (i : Int) (l : List Int) : Int × Int × Int :=
  if pickBad l then (0, i, 1)
  else match seek l (wordI seed lab (i + takenN seed lab i l.sum.toNat) % l.sum) 0 with
    | some k => (k, i + takenN seed lab i l.sum.toNat + 1, 0)
    | none => (0, i, 1)
theorem pickR_bad {seed : Int} {lab : List UInt8} {i : Int} {l : List Int} (h : pickBad l) : pickR seed lab i l = (0, i, 1) := by
  unfold pickR
  rw [if_pos h]
theorem pickR_ok {seed : Int} {lab : List UInt8} {i : Int} {l : List Int} (h : ¬ pickBad l) {S t : Nat} {r : Int} {k : Nat} (hS : l.sum = (S : Int)) (ht : takenN seed lab i S = t) (hr : wordI seed lab (i + t) % S = r) (hk : seek l r 0 = some k) : pickR seed lab i l = ((k : Int), i + t + 1, 0) := by
  unfold pickR
  rw [if_neg h, hS, Int.toNat_natCast, ht, hr, hk]
/-- A number below the sum finds its place. -/
theorem seek_found {l : List Int} (h : goodW l) : ∀ (r : Int) (k : Nat), 0 ≤ r → r < l.sum → ∃ j, seek l r k = some j ∧ k ≤ j ∧ j < k + l.length := by
  induction l with
  | nil => intro r k h0 hr; simp at hr; omega
  | cons x l ih =>
    intro r k h0 hr
    unfold seek
    split
    · exact ⟨k, rfl, Nat.le_refl _, by simp⟩
    · obtain ⟨j, h1, h2, h3⟩ := ih (fun w hw => h w (by simp [hw])) (r - x) (k + 1) (by omega) (by simp at hr; omega)
      exact ⟨j, h1, by omega, by simp; omega⟩
theorem seek_drop {l : List Int} {k : Nat} {z r : Int} (h : l[k]? = some z) : seek (l.drop k) r k = if r < z then some k else seek (l.drop (k + 1)) (r - z) (k + 1) := by
  obtain ⟨hk, rfl⟩ := List.getElem?_eq_some_iff.1 h
  rw [List.drop_eq_getElem_cons hk]
  rfl

set_option maxRecDepth 100000 in
set_option maxHeartbeats 2000000 in
theorem pick_any (seed : Int) (s : ByteArray) (hs : s.size ≤ 1000000) (i : Int) (hi : 0 ≤ i ∧ i ≤ 1000000000) (A : Option Addr) (n c : Nat) (l : List Int) (w : World) (hr : Rd w A n (is l)) (hn : n ≤ 9223372036854775807) :
    Calls Tryz.prog 45 #[.int .u64 seed, .string s, .int .i64 i, .slice A n c] w fun e w' =>
      e = .returned (.tuple #[.int .i64 (pickR seed s.data.toList i l).1, .int .i64 (pickR seed s.data.toList i l).2.1, .int .i64 (pickR seed s.data.toList i l).2.2]) ∧ New w w' := by
  have hll : l.length = n := by have := hr.len; rwa [is_length] at this
  by_cases h0 : n = 0
  · have hbad : pickBad l := .inl (List.eq_nil_of_length_eq_zero (by omega))
    rw [pickR_bad hbad]
    subst h0
    clear hbad hll
    go_enter Tryz.func45, Tryz.ntmps45
    go_wp2
    go_ret3
    exact ⟨rfl, Chg.refl _ _⟩
  · have he0 : ((n : Int) == 0) = false := by simp; omega
    by_cases h4 : 4096 < n
    · have hbad : pickBad l := .inr (.inl (by omega))
      rw [pickR_bad hbad]
      have h4i : (4096 : Int) < (n : Int) := by omega
      clear hbad hll
      go_enter Tryz.func45, Tryz.ntmps45
      go_wp2
      go_ret3
      exact ⟨rfl, Chg.refl _ _⟩
    · have h4d : decide ((4096 : Int) < (n : Int)) = false := by simp; omega
      obtain ⟨P, hP⟩ : ∃ P, pickR seed s.data.toList i l = P := ⟨_, rfl⟩
      rw [hP]
      have H0 := Lib.hid (And.intro hll (And.intro hr hP))
      clear hll hr hP
      go_enter Tryz.func45, Tryz.ntmps45
      go_wp2_with fail
      go_loopw [11, 29] (fun v j wr => ∃ k S : Nat, k ≤ n ∧ j = .int .i64 k ∧ v = .int .i64 S ∧ goodW (l.take k) ∧ (l.take k).sum = (S : Int) ∧ S ≤ k * 1099511627776 ∧ wr = w) (fun _ j _ => n - (intOf j).toNat)
      case atStart => exact ⟨0, 0, by omega, rfl, rfl, fun w hw => by simp at hw, by simp, by omega, rfl⟩
      case round =>
        obtain ⟨k, S, hk, rfl, rfl, hgood, hsum, hSb, rfl⟩ := hrel
        have HG := Lib.hid (And.intro hgood hsum)
        clear hgood hsum
        by_cases hlt : k < n
        · obtain ⟨hll, hr, hP⟩ := H0.out
          obtain ⟨ad, u, rfl, hu, hcu⟩ := hr.at_ hlt
          obtain ⟨z, hz, rfl⟩ := is_at hu
          have HZ := Lib.hid hz
          clear hll hr hP hu hz
          by_cases hz0 : z < 0
          · have HB : Hid (pickBad l) := .inr (.inr (.inl (fun h => by have := (h z (List.mem_of_getElem? HZ.out)).1; omega)))
            go_wp2
            go_ret3
            rw [← H0.out.2.2, pickR_bad HB.out]
            exact ⟨rfl, Chg.refl _ _⟩
          · have hz0d : decide (z < 0) = false := by simp; omega
            by_cases hz4 : 1099511627776 < z
            · have HB : Hid (pickBad l) := .inr (.inr (.inl (fun h => by have := (h z (List.mem_of_getElem? HZ.out)).2; omega)))
              go_wp2
              go_ret3
              rw [← H0.out.2.2, pickR_bad HB.out]
              exact ⟨rfl, Chg.refl _ _⟩
            · have hz4d : decide (1099511627776 < z) = false := by simp; omega
              go_wp2
              go_roundw
              case rel =>
                obtain ⟨hgood, hsum⟩ := HG.out
                refine ⟨k + 1, S + z.toNat, by omega, by go_num, by go_num, ?_, ?_, by omega, trivial⟩
                · intro y hy
                  rw [List.take_add_one, HZ.out] at hy
                  rcases List.mem_append.1 hy with h | h
                  · exact hgood y h
                  · simp at h; omega
                · rw [sum_take HZ.out, hsum]; omega
              case measure => simp [intOf]; omega
        · obtain rfl : n = k := by omega
          obtain ⟨hll, hr, hP⟩ := H0.out
          obtain ⟨hgood, hsum⟩ := HG.out
          rw [List.take_of_length_le (by omega)] at hgood hsum
          have HS := Lib.hid (And.intro hll (And.intro hr (And.intro hP (And.intro hgood hsum))))
          have hSb2 : S ≤ 4503599627370496 := by omega
          clear hll hr hP hgood hsum HG H0
          by_cases hS0 : S = 0
          · have hse : ((S : Int) == 0) = true := by simp; omega
            have HB : Hid (pickBad l) := .inr (.inr (.inr (by rw [HS.out.2.2.2.2, hS0]; rfl)))
            go_wp2
            go_ret3
            rw [← HS.out.2.2.1, pickR_bad HB.out]
            exact ⟨rfl, Chg.refl _ _⟩
          · have hse : ((S : Int) == 0) = false := by simp; omega
            go_wp2_with fail
            refine (below_any seed s hs i hi S (by omega) (by omega) _).mono ?_
            rintro e w2 ⟨rfl, hn2⟩
            obtain ⟨t, ht⟩ : ∃ t, takenN seed s.data.toList i S = t := ⟨_, rfl⟩
            rw [ht]
            have hm0 : 0 ≤ wordI seed s.data.toList (i + t) % (S : Int) := Int.emod_nonneg _ (by omega)
            have hm1 : wordI seed s.data.toList (i + t) % (S : Int) < (S : Int) := Int.emod_lt_of_pos _ (by omega)
            obtain ⟨r0, hr0⟩ : ∃ r0, wordI seed s.data.toList (i + t) % (S : Int) = r0 := ⟨_, rfl⟩
            rw [hr0] at hm0 hm1 ⊢
            obtain ⟨hll, hr, hP, hgood, hsum⟩ := HS.out
            obtain ⟨j, hj, _, hjl⟩ := seek_found hgood r0 0 hm0 (by rw [hsum]; exact hm1)
            have hbad : ¬ pickBad l := fun h => by
              rcases h with h | h | h | h
              · rw [h] at hll; simp at hll; omega
              · omega
              · exact h hgood
              · rw [hsum] at h; omega
            have hPv : P = ((j : Int), i + t + 1, 0) := by rw [← hP]; exact pickR_ok hbad hsum ht hr0 hj
            have H2 := Lib.hid (And.intro hn2 (And.intro hj (And.intro hPv (And.intro hll (And.intro hr hgood)))))
            clear hn2 ht hr0 hll hr hP hgood hsum hj hbad hPv HS
            obtain ⟨q, hq⟩ : ∃ q, i + (t : Int) + 1 = q := ⟨_, rfl⟩
            rw [hq]
            have HQ := Lib.hid hq
            clear hq
            go_wp2_with fail
            go_loopw [14, 57] (fun v y wq => ∃ k : Nat, ∃ r : Int, k ≤ n ∧ y = .int .i64 k ∧ v = .int .i64 r ∧ seek (l.drop k) r k = some j ∧ 0 ≤ r ∧ r ≤ 4503599627370496 ∧ wq = w2) (fun _ y _ => n - (intOf y).toNat)
            case atStart => exact ⟨0, r0, by omega, rfl, rfl, by rw [List.drop_zero]; exact H2.out.2.1, hm0, by omega, rfl⟩
            case round =>
              obtain ⟨k, r, hk, rfl, rfl, hseek, hr0, hrb, rfl⟩ := hrel
              have HK := Lib.hid hseek
              clear hseek
              by_cases hlt : k < n
              · obtain ⟨hn2, hj, hPv, hll, hr, hgood⟩ := H2.out
                obtain ⟨ad, u, rfl, hu, hcu⟩ := (hr.new hn2).at_ hlt
                obtain ⟨z, hz, rfl⟩ := is_at hu
                have hzb := hgood z (List.mem_of_getElem? hz)
                have HZ := Lib.hid hz
                clear hn2 hj hPv hll hr hgood hu hz
                by_cases hrz : r < z
                · go_wp2
                  go_ret3
                  have h1 := HK.out
                  rw [seek_drop HZ.out, if_pos hrz] at h1
                  injection h1 with h1
                  rw [H2.out.2.2.1, ← h1, HQ.out]
                  exact ⟨rfl, H2.out.1⟩
                · have hrzd : decide (r < z) = false := by simp; omega
                  go_wp2
                  go_roundw
                  case rel =>
                    have h1 := HK.out
                    rw [seek_drop HZ.out, if_neg hrz] at h1
                    exact ⟨k + 1, r - z, by omega, by go_num, by go_num, h1, by omega, by omega, trivial⟩
                  case measure => simp [intOf]; omega
              · exfalso
                have h1 := HK.out
                rw [List.drop_of_length_le (by have := H2.out.2.2.2.1; omega)] at h1
                cases h1
end Go.Proofs.YtmpkaimhjdkheaaGreatDoor

namespace Go.Pure

/-! ### some place comes again -/
theorem pigeon : ∀ (M : Nat) (g : Nat → Nat), (∀ i, i ≤ M → g i < M) → ∃ i j, i < j ∧ j ≤ M ∧ g i = g j := by
  intro M
  induction M with
  | zero => intro g h; exact absurd (h 0 (Nat.le_refl _)) (by omega)
  | succ M ih =>
    intro g h
    by_cases hx : ∃ i, i ≤ M ∧ g i = g (M + 1)
    · obtain ⟨i, hi, he⟩ := hx
      exact ⟨i, M + 1, by omega, Nat.le_refl _, he⟩
    · have hne : ∀ i, i ≤ M → g i ≠ g (M + 1) := fun i hi he => hx ⟨i, hi, he⟩
      obtain ⟨i, j, h1, h2, h3⟩ := ih (fun i => if g i = M then g (M + 1) else g i) (fun i hi => by
        have a := h i (by omega)
        have b := h (M + 1) (Nat.le_refl _)
        have c := hne i hi
        show (if g i = M then g (M + 1) else g i) < M
        split <;> omega)
      refine ⟨i, j, h1, by omega, ?_⟩
      have ci := hne i (by omega)
      have cj := hne j (by omega)
      split at h3 <;> split at h3 <;> omega

/-- f, t times. -/
def iter (f : Nat → Nat) : Nat → Nat → Nat
  | 0, x => x
  | t + 1, x => iter f t (f x)
theorem iter_succ (f : Nat → Nat) (t x : Nat) : iter f (t + 1) x = f (iter f t x) := by
  induction t generalizing x with
  | zero => rfl
  | succ t ih => exact ih (f x)
theorem iter_add (f : Nat → Nat) (s t x : Nat) : iter f (s + t) x = iter f s (iter f t x) := by
  induction t generalizing x with
  | zero => rfl
  | succ t ih => exact ih (f x)
theorem iter_lt {f : Nat → Nat} {M : Nat} (hf : ∀ x, x < M → f x < M) (t : Nat) : ∀ x, x < M → iter f t x < M := by
  induction t with
  | zero => intro x h; exact h
  | succ t ih => intro x h; exact ih _ (hf x h)
/-- f and b undo each other below M. -/
structure Perm (f b : Nat → Nat) (M : Nat) : Prop where
  fl : ∀ x, x < M → f x < M
  bl : ∀ x, x < M → b x < M
  bf : ∀ x, x < M → b (f x) = x
  fb : ∀ x, x < M → f (b x) = x
theorem Perm.symm {f b : Nat → Nat} {M : Nat} (h : Perm f b M) : Perm b f M := ⟨h.bl, h.fl, h.fb, h.bf⟩
theorem Perm.undo {f b : Nat → Nat} {M : Nat} (h : Perm f b M) (t : Nat) : ∀ x, x < M → iter b t (iter f t x) = x := by
  induction t with
  | zero => intro x _; rfl
  | succ t ih =>
    intro x hx
    rw [iter_succ f]
    show iter b t (b (f (iter f t x))) = x
    rw [h.bf _ (iter_lt h.fl t x hx), ih x hx]
theorem Perm.again {f b : Nat → Nat} {M : Nat} (h : Perm f b M) {x : Nat} (hx : x < M) : ∃ t, iter f (t + 1) x = x := by
  obtain ⟨i, j, hij, _, he⟩ := pigeon M (fun i => iter f i x) (fun i _ => iter_lt h.fl i x hx)
  refine ⟨j - i - 1, ?_⟩
  have e : j = i + (j - i - 1 + 1) := by omega
  rw [e, iter_add] at he
  have h1 := h.undo i _ (iter_lt h.fl (j - i - 1 + 1) x hx)
  rw [← he, h.undo i x hx] at h1
  exact h1.symm
/-- The least number with a property. -/
theorem least {P : Nat → Prop} (h : ∃ t, P t) : ∃ t, P t ∧ ∀ s, s < t → ¬ P s := by
  obtain ⟨t, ht⟩ := h
  induction t using Nat.strongRecOn with
  | ind t ih =>
    by_cases hs : ∃ s, s < t ∧ P s
    · obtain ⟨s, h1, h2⟩ := hs
      exact ih s h1 h2
    · exact ⟨t, ht, fun s h1 h2 => hs ⟨s, h1, h2⟩⟩
open Classical in
/-- How many steps to the range below n. -/
noncomputable def dist (f : Nat → Nat) (n x : Nat) : Nat := if h : ∃ t, iter f t x < n then (least h).choose else 0
theorem dist_spec {f : Nat → Nat} {n x : Nat} (h : ∃ t, iter f t x < n) : iter f (dist f n x) x < n ∧ ∀ s, s < dist f n x → ¬ iter f s x < n := by
  unfold dist
  rw [dif_pos h]
  exact (least h).choose_spec
/-- One step nearer. -/
theorem dist_step {f : Nat → Nat} {n x : Nat} (h : ∃ t, iter f t x < n) (hx : ¬ x < n) : dist f n x = dist f n (f x) + 1 ∧ ∃ t, iter f t (f x) < n := by
  obtain ⟨h1, h2⟩ := dist_spec h
  have h0 : dist f n x ≠ 0 := fun e => by rw [e] at h1; exact hx h1
  obtain ⟨d, hd⟩ : ∃ d, dist f n x = d + 1 := ⟨dist f n x - 1, by omega⟩
  rw [hd] at h1 h2
  have hex : ∃ t, iter f t (f x) < n := ⟨d, h1⟩
  obtain ⟨h3, h4⟩ := dist_spec hex
  have ha : ¬ d < dist f n (f x) := fun hl => h4 d hl h1
  have hb : ¬ dist f n (f x) < d := fun hl => h2 (dist f n (f x) + 1) (by omega) h3
  exact ⟨by omega, hex⟩
/-- Where the walk from x (one step at least) first comes below n. -/
noncomputable def land (f : Nat → Nat) (n x : Nat) : Nat := iter f (dist f n (f x)) (f x)
theorem land_ex {f b : Nat → Nat} {M n x : Nat} (h : Perm f b M) (hn : n ≤ M) (hx : x < n) : ∃ t, iter f t (f x) < n := by
  obtain ⟨t, ht⟩ := h.again (x := x) (by omega)
  exact ⟨t, by have : iter f t (f x) = x := ht; omega⟩
theorem land_lt {f b : Nat → Nat} {M n x : Nat} (h : Perm f b M) (hn : n ≤ M) (hx : x < n) : land f n x < n := (dist_spec (land_ex h hn hx)).1
/-! ### the rounds -/
def fwd (p : Nat → Nat → Nat) : Nat → Nat × Nat → Nat × Nat
  | 0, x => x
  | i + 1, x => let y := fwd p i x; (y.2, y.1 ^^^ p i y.2)
def bwd (p : Nat → Nat → Nat) : Nat → Nat × Nat → Nat × Nat
  | 0, x => x
  | i + 1, x => bwd p i (x.2 ^^^ p i x.1, x.1)
theorem xor_xor (a b : Nat) : (a ^^^ b) ^^^ b = a := by rw [Nat.xor_assoc, Nat.xor_self, Nat.xor_zero]
theorem bwd_fwd (p : Nat → Nat → Nat) (i : Nat) : ∀ x, bwd p i (fwd p i x) = x := by
  induction i with
  | zero => intro x; rfl
  | succ i ih =>
    intro x
    show bwd p i ((fwd p i x).1 ^^^ p i (fwd p i x).2 ^^^ p i (fwd p i x).2, (fwd p i x).2) = x
    rw [xor_xor]
    exact ih x
theorem fwd_bwd (p : Nat → Nat → Nat) (i : Nat) : ∀ x, fwd p i (bwd p i x) = x := by
  induction i with
  | zero => intro x; rfl
  | succ i ih =>
    intro x
    show ((fwd p i (bwd p i (x.2 ^^^ p i x.1, x.1))).2, (fwd p i (bwd p i (x.2 ^^^ p i x.1, x.1))).1 ^^^ p i (fwd p i (bwd p i (x.2 ^^^ p i x.1, x.1))).2) = x
    rw [ih]
    simp only [xor_xor]
theorem fwd_lt {p : Nat → Nat → Nat} {h : Nat} (hp : ∀ i r, p i r < 2 ^ h) (i : Nat) : ∀ x : Nat × Nat, x.1 < 2 ^ h → x.2 < 2 ^ h → (fwd p i x).1 < 2 ^ h ∧ (fwd p i x).2 < 2 ^ h := by
  induction i with
  | zero => intro x h1 h2; exact ⟨h1, h2⟩
  | succ i ih => intro x h1 h2; have := ih x h1 h2; exact ⟨this.2, Nat.xor_lt_two_pow this.1 (hp _ _)⟩
theorem bwd_lt {p : Nat → Nat → Nat} {h : Nat} (hp : ∀ i r, p i r < 2 ^ h) (i : Nat) : ∀ x : Nat × Nat, x.1 < 2 ^ h → x.2 < 2 ^ h → (bwd p i x).1 < 2 ^ h ∧ (bwd p i x).2 < 2 ^ h := by
  induction i with
  | zero => intro x h1 h2; exact ⟨h1, h2⟩
  | succ i ih => intro x h1 h2; exact ih _ (Nat.xor_lt_two_pow h2 (hp _ _)) h1
def halves (h k : Nat) : Nat × Nat := (k / 2 ^ h, k % 2 ^ h)
def joinH (h : Nat) (x : Nat × Nat) : Nat := x.1 * 2 ^ h + x.2
def forthN (p : Nat → Nat → Nat) (h k : Nat) : Nat := joinH h (fwd p 4 (halves h k))
def backN (p : Nat → Nat → Nat) (h k : Nat) : Nat := joinH h (bwd p 4 (halves h k))
theorem joinH_halves (h k : Nat) : joinH h (halves h k) = k := by
  unfold joinH halves
  rw [Nat.mul_comm]
  exact Nat.div_add_mod k (2 ^ h)
theorem halves_joinH {h : Nat} {x : Nat × Nat} (hx : x.2 < 2 ^ h) : halves h (joinH h x) = x := by
  unfold joinH halves
  have h0 : 0 < 2 ^ h := Nat.pow_pos (by omega)
  rw [Nat.mul_comm, Nat.mul_add_div h0, Nat.div_eq_of_lt hx, Nat.mul_add_mod, Nat.mod_eq_of_lt hx]
  rfl
theorem joinH_lt {h : Nat} {x : Nat × Nat} (h1 : x.1 < 2 ^ h) (h2 : x.2 < 2 ^ h) : joinH h x < 2 ^ h * 2 ^ h := by
  unfold joinH
  have : x.1 * 2 ^ h + 2 ^ h ≤ 2 ^ h * 2 ^ h := by rw [← Nat.succ_mul]; exact Nat.mul_le_mul_right _ h1
  omega
theorem halves_lt {h k : Nat} (hk : k < 2 ^ h * 2 ^ h) : (halves h k).1 < 2 ^ h ∧ (halves h k).2 < 2 ^ h :=
  ⟨Nat.div_lt_of_lt_mul hk, Nat.mod_lt _ (Nat.pow_pos (by omega))⟩
theorem feistel {p : Nat → Nat → Nat} {h : Nat} (hp : ∀ i r, p i r < 2 ^ h) : Perm (forthN p h) (backN p h) (2 ^ h * 2 ^ h) where
  fl x hx := by have a := halves_lt hx; have b := fwd_lt hp 4 _ a.1 a.2; exact joinH_lt b.1 b.2
  bl x hx := by have a := halves_lt hx; have b := bwd_lt hp 4 _ a.1 a.2; exact joinH_lt b.1 b.2
  bf x hx := by
    have a := halves_lt hx
    have b := fwd_lt hp 4 _ a.1 a.2
    unfold backN forthN
    rw [halves_joinH b.2, bwd_fwd, joinH_halves]
  fb x hx := by
    have a := halves_lt hx
    have b := bwd_lt hp 4 _ a.1 a.2
    unfold backN forthN
    rw [halves_joinH b.2, fwd_bwd, joinH_halves]
end Go.Pure

namespace Go.Dig
set_option linter.unusedVariables false

/-- The value of digits in base B, the least significant one first. -/
def val (B : Nat) : List Nat → Nat
  | [] => 0
  | d :: l => d + B * val B l
@[simp] theorem val_nil (B : Nat) : val B [] = 0 := rfl
theorem val_cons (B d : Nat) (l : List Nat) : val B (d :: l) = d + B * val B l := rfl
theorem val_append (B : Nat) (a b : List Nat) : val B (a ++ b) = val B a + B ^ a.length * val B b := by
  induction a with
  | nil => simp
  | cons x a ih =>
    rw [List.cons_append, val_cons, ih, val_cons, List.length_cons, Nat.pow_succ, Nat.mul_add, ← Nat.mul_assoc, Nat.mul_comm (B ^ a.length) B]
    omega
theorem val_snoc (B : Nat) (a : List Nat) (d : Nat) : val B (a ++ [d]) = val B a + B ^ a.length * d := by
  rw [val_append, val_cons, val_nil, Nat.mul_zero, Nat.add_zero]
theorem val_take {B : Nat} {l : List Nat} {k d : Nat} (h : l[k]? = some d) : val B (l.take (k + 1)) = val B (l.take k) + B ^ k * d := by
  have hk := (List.getElem?_eq_some_iff.1 h).1
  rw [List.take_add_one, h, Option.toList_some, val_snoc, List.length_take, Nat.min_eq_left (by omega)]
theorem val_drop {B : Nat} {l : List Nat} {k d : Nat} (h : l[k]? = some d) : val B (l.drop k) = d + B * val B (l.drop (k + 1)) := by
  obtain ⟨hk, rfl⟩ := List.getElem?_eq_some_iff.1 h
  rw [List.drop_eq_getElem_cons hk, val_cons]
theorem val_split (B : Nat) (l : List Nat) (k : Nat) (hk : k ≤ l.length) : val B l = val B (l.take k) + B ^ k * val B (l.drop k) := by
  have := val_append B (l.take k) (l.drop k)
  rw [List.take_append_drop, List.length_take, Nat.min_eq_left hk] at this
  exact this
/-- Every digit is less than the base. -/
def Digs (B : Nat) (l : List Nat) : Prop := ∀ d ∈ l, d < B
theorem Digs.nil (B : Nat) : Digs B [] := fun d h => by simp at h
theorem Digs.cons {B d : Nat} {l : List Nat} (h : d < B) (hl : Digs B l) : Digs B (d :: l) := fun x hx => by
  rcases List.mem_cons.1 hx with rfl | hx
  · exact h
  · exact hl x hx
theorem Digs.snoc {B d : Nat} {l : List Nat} (hl : Digs B l) (h : d < B) : Digs B (l ++ [d]) := fun x hx => by
  rcases List.mem_append.1 hx with hx | hx
  · exact hl x hx
  · simp at hx; omega
theorem Digs.app {B : Nat} {a b : List Nat} (ha : Digs B a) (hb : Digs B b) : Digs B (a ++ b) := fun x hx => (List.mem_append.1 hx).elim (ha x) (hb x)
theorem Digs.take {B : Nat} {l : List Nat} (h : Digs B l) (k : Nat) : Digs B (l.take k) := fun x hx => h x (List.mem_of_mem_take hx)
theorem Digs.drop {B : Nat} {l : List Nat} (h : Digs B l) (k : Nat) : Digs B (l.drop k) := fun x hx => h x (List.mem_of_mem_drop hx)
theorem Digs.at_ {B : Nat} {l : List Nat} (h : Digs B l) {k d : Nat} (hd : l[k]? = some d) : d < B := h d (List.mem_of_getElem? hd)
theorem Digs.set_ {B : Nat} {l : List Nat} (h : Digs B l) {k d : Nat} (hd : d < B) : Digs B (l.set k d) := fun x hx => by
  rcases List.mem_or_eq_of_mem_set hx with h1 | h1
  · exact h x h1
  · omega
theorem Digs.zeros {B : Nat} (hB : 1 ≤ B) (n : Nat) : Digs B (List.replicate n 0) := fun x hx => by
  have := (List.mem_replicate.1 hx).2; omega
theorem val_zeros (B n : Nat) : val B (List.replicate n 0) = 0 := by
  induction n with
  | zero => rfl
  | succ n ih => rw [List.replicate_succ, val_cons, ih]; simp
theorem val_lt {B : Nat} {l : List Nat} (h : Digs B l) : val B l < B ^ l.length := by
  induction l with
  | nil => simp
  | cons x l ih =>
    have h1 := ih (fun d hd => h d (by simp [hd]))
    have h2 := h x (by simp)
    rw [val_cons, List.length_cons, Nat.pow_succ]
    have h3 : B * (val B l + 1) ≤ B * B ^ l.length := Nat.mul_le_mul_left _ h1
    rw [Nat.mul_add, Nat.mul_comm B (B ^ l.length)] at h3
    omega
/-- No zero at the end. -/
def Trim (l : List Nat) : Prop := l.getLast? ≠ some 0
theorem Trim.nil : Trim [] := by simp [Trim]
theorem Trim.snoc {l : List Nat} {d : Nat} (h : d ≠ 0) : Trim (l ++ [d]) := by simp [Trim, h]
theorem Trim.drop {l : List Nat} (h : Trim l) (k : Nat) : Trim (l.drop k) := by
  unfold Trim at *
  rw [List.getLast?_drop]
  split
  · simp
  · exact h
/-- The list without the zeros at its end. -/
def trim : List Nat → List Nat
  | [] => []
  | d :: l => match trim l with
    | [] => if d = 0 then [] else [d]
    | x :: t => d :: x :: t
theorem trim_cons (d : Nat) (l : List Nat) : trim (d :: l) = if d = 0 ∧ trim l = [] then [] else d :: trim l := by
  rw [trim]
  split
  · rename_i h
    by_cases hd : d = 0 <;> simp [h, hd]
  · rename_i h
    simp [h]
theorem trim_snoc_zero (l : List Nat) : trim (l ++ [0]) = trim l := by
  induction l with
  | nil => rfl
  | cons x l ih => rw [List.cons_append, trim_cons, trim_cons, ih]
theorem trim_snoc_pos (l : List Nat) {d : Nat} (h : d ≠ 0) : trim (l ++ [d]) = l ++ [d] := by
  induction l with
  | nil => simp [trim, h]
  | cons x l ih => rw [List.cons_append, trim_cons, ih]; simp
theorem trim_Trim (l : List Nat) : Trim (trim l) := by
  induction l with
  | nil => exact Trim.nil
  | cons x l ih =>
    rw [trim_cons]
    split
    · exact Trim.nil
    · rename_i h
      unfold Trim at *
      cases hl : trim l with
      | nil => rw [hl] at h; simp at h ⊢; exact h
      | cons y t => rw [hl] at ih; simpa using ih
theorem val_trim (B : Nat) (l : List Nat) : val B (trim l) = val B l := by
  induction l with
  | nil => rfl
  | cons x l ih =>
    rw [trim_cons, val_cons]
    split
    · rename_i h
      rw [h.2] at ih
      rw [← ih, h.1]; simp
    · rw [val_cons, ih]
theorem trim_digs {B : Nat} {l : List Nat} (h : Digs B l) : Digs B (trim l) := by
  induction l with
  | nil => exact Digs.nil B
  | cons x l ih =>
    rw [trim_cons]
    split
    · exact Digs.nil B
    · exact Digs.cons (h x (by simp)) (ih (fun d hd => h d (by simp [hd])))
theorem trim_take (l : List Nat) : trim l = l.take (trim l).length := by
  induction l with
  | nil => rfl
  | cons x l ih =>
    rw [trim_cons]
    split
    · simp
    · rw [List.length_cons, List.take_succ_cons, ← ih]
theorem trim_len (l : List Nat) : (trim l).length ≤ l.length := by
  have := congrArg List.length (trim_take l)
  rw [List.length_take] at this
  omega
/-- One step of trimming, by the last digit of the first k. -/
theorem trim_step {l : List Nat} {k d : Nat} (h : l[k]? = some d) (hd : d = 0) : trim (l.take (k + 1)) = trim (l.take k) := by
  rw [List.take_add_one, h, Option.toList_some, hd, trim_snoc_zero]
theorem trim_stop {l : List Nat} {k d : Nat} (h : l[k]? = some d) (hd : d ≠ 0) : trim (l.take (k + 1)) = l.take (k + 1) := by
  rw [List.take_add_one, h, Option.toList_some, trim_snoc_pos _ hd]

/-- l is THE list of digits of n. -/
structure Num (B : Nat) (l : List Nat) (n : Nat) : Prop where
  digs : Digs B l
  trim : Trim l
  val : val B l = n
theorem Num.zero (B : Nat) : Num B [] 0 := ⟨Digs.nil B, Trim.nil, rfl⟩
theorem Num.of_trim {B : Nat} {l : List Nat} (h : Digs B l) : Num B (Dig.trim l) (Dig.val B l) := ⟨trim_digs h, trim_Trim l, val_trim B l⟩
theorem val_pos {B : Nat} {l : List Nat} (hB : 1 ≤ B) (h : Trim l) (hn : l ≠ []) : B ^ (l.length - 1) ≤ val B l := by
  rcases List.eq_nil_or_concat l with rfl | ⟨a, d, rfl⟩
  · exact absurd rfl hn
  · rw [List.concat_eq_append] at h ⊢
    have hd : d ≠ 0 := fun e => h (by simp [e])
    rw [val_snoc, List.length_append, List.length_singleton, Nat.add_sub_cancel]
    exact Nat.le_trans (Nat.le_mul_of_pos_right _ (by omega)) (Nat.le_add_left _ _)
theorem Num.nil_iff {B : Nat} {l : List Nat} {n : Nat} (hB : 1 ≤ B) (h : Num B l n) : l = [] ↔ n = 0 := by
  constructor
  · intro e; subst e; exact h.val.symm
  · intro e
    rcases Decidable.em (l = []) with h1 | h1
    · exact h1
    · have h2 := val_pos hB h.trim h1
      have h3 : 0 < B ^ (l.length - 1) := Nat.pow_pos hB
      rw [h.val] at h2; omega
theorem Num.len_lt {B : Nat} (hB : 2 ≤ B) {a b : List Nat} {m n : Nat} (ha : Num B a m) (hb : Num B b n) (h : a.length < b.length) : m < n := by
  have h1 := val_lt ha.digs
  have h2 := val_pos (B := B) (by omega) hb.trim (fun e => by simp [e] at h)
  rw [ha.val] at h1
  rw [hb.val] at h2
  exact Nat.lt_of_lt_of_le h1 (Nat.le_trans (Nat.pow_le_pow_right (by omega) (by omega)) h2)
/-- A number below B^k has at most k digits, and the other way round. -/
theorem Num.len_le {B : Nat} (hB : 2 ≤ B) {a : List Nat} {m k : Nat} (ha : Num B a m) (h : m < B ^ k) : a.length ≤ k := by
  rcases Decidable.em (a = []) with h1 | h1
  · simp [h1]
  · have h2 := val_pos (B := B) (by omega) ha.trim h1
    rw [ha.val] at h2
    rcases Nat.lt_or_ge k a.length with h3 | h3
    · have := Nat.pow_le_pow_right (n := B) (by omega) (show k ≤ a.length - 1 by omega)
      omega
    · exact h3
theorem Num.lt {B : Nat} {a : List Nat} {m k : Nat} (hB : 1 ≤ B) (ha : Num B a m) (h : a.length ≤ k) : m < B ^ k := by
  have := val_lt ha.digs
  rw [ha.val] at this
  exact Nat.lt_of_lt_of_le this (Nat.pow_le_pow_right hB h)
/-- The first difference from the top decides. -/
theorem val_lt_of {B : Nat} {a b : List Nat} (ha : Digs B a) (hl : a.length = b.length) {k x y : Nat} (hx : a[k]? = some x) (hy : b[k]? = some y) (hd : a.drop (k + 1) = b.drop (k + 1)) (h : x < y) : val B a < val B b := by
  have hk := (List.getElem?_eq_some_iff.1 hx).1
  rw [val_split B a (k + 1) (by omega), val_split B b (k + 1) (by omega), hd, val_take hx, val_take hy]
  have h1 := val_lt (ha.take k)
  rw [List.length_take, Nat.min_eq_left (by omega)] at h1
  have h2 : B ^ k * (x + 1) ≤ B ^ k * y := Nat.mul_le_mul_left _ h
  rw [Nat.mul_add] at h2
  omega
theorem drop_step {a b : List Nat} {k x : Nat} (hx : a[k]? = some x) (hy : b[k]? = some x) (hd : a.drop (k + 1) = b.drop (k + 1)) : a.drop k = b.drop k := by
  obtain ⟨h1, e1⟩ := List.getElem?_eq_some_iff.1 hx
  obtain ⟨h2, e2⟩ := List.getElem?_eq_some_iff.1 hy
  rw [List.drop_eq_getElem_cons h1, List.drop_eq_getElem_cons h2, e1, e2, hd]
theorem Num.uniq {B : Nat} (hB : 2 ≤ B) : ∀ {a b : List Nat} {n : Nat}, Num B a n → Num B b n → a = b := by
  intro a b n ha hb
  have hl : a.length = b.length := by
    rcases Nat.lt_trichotomy a.length b.length with h | h | h
    · have := Num.len_lt hB ha hb h; omega
    · exact h
    · have := Num.len_lt hB hb ha h; omega
  have hv : Dig.val B a = Dig.val B b := by rw [ha.val, hb.val]
  have key : ∀ k, k ≤ a.length → a.drop (a.length - k) = b.drop (a.length - k) := by
    intro k
    induction k with
    | zero => intro _; rw [Nat.sub_zero, List.drop_of_length_le (Nat.le_refl _), List.drop_of_length_le (by omega)]
    | succ k ih =>
      intro hk
      have h1 := ih (by omega)
      rw [show a.length - k = a.length - (k + 1) + 1 by omega] at h1
      have hx := List.getElem?_eq_getElem (l := a) (i := a.length - (k + 1)) (by omega)
      have hy := List.getElem?_eq_getElem (l := b) (i := a.length - (k + 1)) (by omega)
      rcases Nat.lt_trichotomy (a[a.length - (k + 1)]'(by omega)) (b[a.length - (k + 1)]'(by omega)) with h | h | h
      · have := val_lt_of ha.digs hl hx hy h1 h; omega
      · rw [← h] at hy; exact drop_step hx hy h1
      · have := val_lt_of hb.digs hl.symm hy hx h1.symm h; omega
  have := key a.length (Nat.le_refl _)
  simpa using this

/-- The cells of numbers. -/
def nv (k : IntKind) (l : List Nat) : List Value := l.map (fun n : Nat => Value.int k n)
@[simp] theorem nv_length (k : IntKind) (l : List Nat) : (nv k l).length = l.length := by simp [nv]
theorem nv_append (k : IntKind) (a b : List Nat) : nv k (a ++ b) = nv k a ++ nv k b := by simp [nv]
theorem nv_at {k : IntKind} {l : List Nat} {i : Nat} {u : Value} (h : (nv k l)[i]? = some u) : ∃ z, l[i]? = some z ∧ u = .int k (z : Nat) := by
  simp only [nv, List.getElem?_map, Option.map_eq_some_iff] at h
  obtain ⟨c, h1, h2⟩ := h
  exact ⟨c, h1, h2.symm⟩
theorem nv_one {k : IntKind} (l : List Nat) : ∀ u ∈ nv k l, u.oneCell' = true := by
  intro u hu
  obtain ⟨_, _, rfl⟩ := List.mem_map.1 hu
  rfl
theorem nv_take (k : IntKind) (l : List Nat) (i : Nat) : (nv k l).take i = nv k (l.take i) := by simp [nv, List.map_take]
theorem nv_drop (k : IntKind) (l : List Nat) (i : Nat) : (nv k l).drop i = nv k (l.drop i) := by simp [nv, List.map_drop]
theorem nv_set (k : IntKind) (l : List Nat) (i d : Nat) : (nv k l).set i (.int k (d : Nat)) = nv k (l.set i d) := by simp [nv, List.map_set]
end Go.Dig
