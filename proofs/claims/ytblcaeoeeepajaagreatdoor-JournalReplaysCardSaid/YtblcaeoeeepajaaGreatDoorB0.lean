/- The parts Mem, MapI, RowV, MemRes, PureDisk, Base, DkA, DkB of the proof, in one text. -/
import Derived.WalkKit
import Derived.WalkSpells
import Derived.WalkLawsBesides
import Derived.Maps.AppendAt
import Derived.Deep.AppendLies
import Derived.Deep.Draws
import Derived.Lib.Hide
import Derived.Maps.RangeWalk
import Derived.Maps.OwnOps
import Derived.Deep.Upon
import Derived.Test.YtblcaeoeeepajaaGreatDoorProg
import Derived.Deep.QuietTactic
import Derived.BigQuiet
import Derived.Deep.RegionWith
set_option linter.unusedSimpArgs false
set_option linter.unusedVariables false

namespace Go.Mem
set_option linter.unusedVariables false
open Go.RowKit

/-- What a call changes at most: the blocks of S, and new ones. -/
structure Chg (S : Nat → Prop) (w w' : World) : Prop where
  os : w'.os = w.os
  tape : w'.tape = w.tape
  output : w'.output = w.output
  size : w.heap.size ≤ w'.heap.size
  block : ∀ k, k < w.heap.size → ¬ S k → w'.heap[k]? = w.heap[k]?

/-- Nothing that was there has changed. -/
abbrev New (w w' : World) : Prop := Chg (fun _ => False) w w'

section
variable {S T : Nat → Prop} {w w' w'' : World}
theorem Chg.refl (S : Nat → Prop) (w : World) : Chg S w w := ⟨rfl, rfl, rfl, Nat.le_refl _, fun _ _ _ => rfl⟩
theorem Chg.trans (h : Chg S w w') (h' : Chg T w' w'') (hs : ∀ k, k < w.heap.size → T k → S k) : Chg S w w'' :=
  ⟨h'.os.trans h.os, h'.tape.trans h.tape, h'.output.trans h.output, Nat.le_trans h.size h'.size,
    fun k hk hn => (h'.block k (Nat.lt_of_lt_of_le hk h.size) (fun ht => hn (hs k hk ht))).trans (h.block k hk hn)⟩
theorem Chg.new (h : Chg S w w') (h' : New w' w'') : Chg S w w'' := h.trans h' (fun _ _ hf => hf.elim)
theorem Chg.mono (h : Chg S w w') (hs : ∀ k, k < w.heap.size → S k → T k) : Chg T w w' :=
  ⟨h.os, h.tape, h.output, h.size, fun k hk hn => h.block k hk (fun hS => hn (hs k hk hS))⟩
theorem Chg.drew (h : Chg S w w') : Chg S w w'.drew := ⟨h.os, h.tape, h.output, h.size, h.block⟩
theorem Chg.drewN (h : Chg S w w') (n : Nat) : Chg S w (w'.drewN n) := ⟨h.os, h.tape, h.output, h.size, h.block⟩
theorem Chg.alloc (h : Chg S w w') (o : Obj) : Chg S w (w'.alloc o) :=
  ⟨h.os, h.tape, h.output, Nat.le_trans h.size (by simp), fun k hk hn => (Below.heap_alloc w' o k (Nat.lt_of_lt_of_le hk h.size)).trans (h.block k hk hn)⟩
theorem Chg.setCell (h : Chg S w w') {p : Addr} (hp : p.block < w.heap.size → S p.block) (u : Value) : Chg S w (w'.setCell p u) :=
  ⟨h.os, h.tape, h.output, Nat.le_trans h.size (by simp [World.setCell]), fun k hk hn => (Below.heap_setCell w' p u k (fun e => hn (by subst e; exact hp hk))).trans (h.block k hk hn)⟩
theorem Chg.grown (h : Chg S w w') {row : Option Nat} (hg : w'.grownBy w'' row) (hr : ∀ k, row = some k → k < w.heap.size → S k) : Chg S w w'' :=
  ⟨hg.os.trans h.os, hg.tape.trans h.tape, hg.output.trans h.output, Nat.le_trans h.size hg.size,
    fun k hk hn => (hg.block k (Nat.lt_of_lt_of_le hk h.size) (fun e => hn (hr k e.symm hk))).trans (h.block k hk hn)⟩
theorem Chg.below (h : Chg S w w') {B : Nat} (hs : ∀ k, S k → B ≤ k) (hB : B ≤ w.heap.size) : Below B w w' :=
  ⟨h.os, h.tape, h.output, h.size, fun k hk => h.block k (by omega) (fun hS => by have := hs k hS; omega)⟩
theorem New.below (h : New w w') : Below w.heap.size w w' := Chg.below h (fun _ hf => hf.elim) (Nat.le_refl _)
theorem New.of_below (h : Below w.heap.size w w') : New w w' := ⟨h.os, h.tape, h.output, h.size, fun k hk _ => h.block k hk⟩
theorem Chg.cell (h : Chg S w w') {p : Addr} {u : Value} (hc : w.cell? p = some u) (hn : ¬ S p.block) : w'.cell? p = some u :=
  (World.cell?_of_block (h.block p.block (World.block_lt_of_cell? w p hc) hn)).trans hc
theorem Chg.heap (h : Chg S w w') {g : Nat} {o : Obj} (hc : w.heap[g]? = some o) (hn : ¬ S g) : w'.heap[g]? = some o :=
  (h.block g (Array.getElem?_eq_some_iff.1 hc).1 hn).trans hc
/-- What the call leaves of its own: all that has changed lies at N or behind it. -/
theorem Chg.own (h : Chg S w w') (hs : ∀ k, k < w.heap.size → ¬ S k) : New w w' := h.mono (fun k hk hS => hs k hk hS)
end

/-- The block that a slice's address lies in. -/
def blk (A : Option Addr) : Option Nat := A.map (·.block)

/-- A slice whose n one-cell elements are xs. -/
def Rd (w : World) (A : Option Addr) (n : Nat) (xs : List Value) : Prop :=
  xs.length = n ∧ (0 < n → ∃ ad, A = some ad ∧ ∀ j u, xs[j]? = some u → w.cell? (ad.add j) = some u)

theorem block_add (a : Addr) (n : Nat) : (a.add n).block = a.block := by unfold Addr.add; split <;> rfl
theorem add_add' (a : Addr) (i j : Nat) : (a.add i).add j = a.add (i + j) := by
  unfold Addr.add
  by_cases hi : i = 0 <;> by_cases hj : j = 0 <;> simp [hi, hj, Nat.add_assoc]

section
variable {S : Nat → Prop} {w w' : World} {A : Option Addr} {n : Nat} {xs : List Value}
theorem Rd.nil (w : World) (A : Option Addr) : Rd w A 0 [] := ⟨rfl, fun h => absurd h (by omega)⟩
theorem Rd.len (h : Rd w A n xs) : xs.length = n := h.1
theorem Rd.at_ {k : Nat} (h : Rd w A n xs) (hk : k < n) : ∃ ad u, A = some ad ∧ xs[k]? = some u ∧ w.cell? (ad.add k) = some u := by
  obtain ⟨ad, e, hc⟩ := h.2 (by omega)
  have hl : k < xs.length := by have := h.1; omega
  exact ⟨ad, xs[k], e, List.getElem?_eq_getElem hl, hc k _ (List.getElem?_eq_getElem hl)⟩
theorem Rd.chg (h : Rd w A n xs) (hc : Chg S w w') (hs : ∀ k, blk A = some k → k < w.heap.size → ¬ S k) : Rd w' A n xs :=
  ⟨h.1, fun hn => by
    obtain ⟨ad, rfl, hcell⟩ := h.2 hn
    refine ⟨ad, rfl, fun j u hu => ?_⟩
    have h1 := hcell j u hu
    have hlt := World.block_lt_of_cell? w _ h1
    rw [block_add] at hlt
    exact hc.cell h1 (by rw [block_add]; exact hs ad.block rfl hlt)⟩
theorem Rd.new (h : Rd w A n xs) (hc : New w w') : Rd w' A n xs := h.chg hc (fun _ _ _ hf => hf)
theorem Rd.of_own {base : Nat} {e : TypeId} {c : Nat} (h : w.ownsRow base e 1 (.slice A n c) n xs) : Rd w A n xs := by
  refine ⟨by simpa using h.1, fun hn => ?_⟩
  obtain ⟨g, cap, hv, _, hlt⟩ := h.form hn
  have hA : A = some ⟨g, 0, none⟩ := by injection hv
  subst hA
  exact ⟨_, rfl, h.cells (g := g) rfl⟩
theorem Rd.take (h : Rd w A n xs) {k : Nat} (hk : k ≤ n) : Rd w A k (xs.take k) :=
  ⟨by rw [List.length_take, h.1]; omega, fun hn => by
    obtain ⟨ad, rfl, hc⟩ := h.2 (by omega)
    refine ⟨ad, rfl, fun j u hu => hc j u ?_⟩
    rw [List.getElem?_take] at hu
    split at hu
    · exact hu
    · cases hu⟩
theorem Rd.drop (h : Rd w A n xs) {k : Nat} (hk : k ≤ n) : Rd w (A.map (·.add k)) (n - k) (xs.drop k) :=
  ⟨by rw [List.length_drop, h.1], fun hn => by
    obtain ⟨ad, rfl, hc⟩ := h.2 (by omega)
    refine ⟨ad.add k, rfl, fun j u hu => ?_⟩
    rw [add_add']
    exact hc _ u (by rw [← hu, List.getElem?_drop])⟩
theorem Rd.cut (h : Rd w A n xs) {k cap : Nat} (hk : k ≤ n) (hc : n ≤ cap) : Rd w (if cap = k then A else A.map (·.add k)) (n - k) (xs.drop k) := by
  by_cases e : cap = k
  · have hn : n - k = 0 := by omega
    rw [if_pos e, hn]
    have : xs.drop k = [] := List.drop_eq_nil_of_le (by rw [h.1]; omega)
    rw [this]; exact Rd.nil w A
  · rw [if_neg e]; exact h.drop hk
end

/-- The slice type t has the one-cell element type e, with zero value z and that many bytes. -/
def Elem (P : Program) (t e : TypeId) (z : Value) (bytes : Nat) : Prop :=
  P.underlying t = some (.slice e) ∧ (∃ i, P.info? e = some i ∧ i.zero = some z ∧ i.size = 1 ∧ i.bytes = bytes) ∧ z.cells.size = 1

theorem Elem.mk' {P : Program} {t e : TypeId} {z : Value} {bytes : Nat} (h : P.underlying t = some (.slice e))
    (hi : (P.info? e).map (fun i => (i.zero, i.size, i.bytes)) = some (some z, 1, bytes)) (hz : z.cells.size = 1) : Elem P t e z bytes :=
  ⟨h, info_parts hi, hz⟩

theorem ownBlock_slice (A : Option Addr) (n c : Nat) : (Value.slice A n c).ownBlock = blk A := by cases A <;> rfl

section
variable {P : Program} {w : World} {base : Nat} {t e : TypeId} {z : Value} {bytes : Nat}

theorem own_slice {v : Value} {n : Nat} {xs : List Value} (h : w.ownsRow base e 1 v n xs) : ∃ A c, v = .slice A n c := by
  rcases h.2 with ⟨rfl, rfl⟩ | ⟨g, cap, cur, rfl, _⟩
  · exact ⟨_, _, rfl⟩
  · exact ⟨_, _, rfl⟩

theorem own_blk_le {A : Option Addr} {n c : Nat} {xs : List Value} (h : w.ownsRow base e 1 (.slice A n c) n xs) {k : Nat} (hk : blk A = some k) : base ≤ k ∧ k < w.heap.size :=
  h.lt k (by rw [ownBlock_slice]; exact hk)

theorem own_cap {A : Option Addr} {n c : Nat} {xs : List Value} (h : w.ownsRow base e 1 (.slice A n c) n xs) : n ≤ c ∧ c ≤ maxLen := by
  rcases h.2 with ⟨hv, rfl⟩ | ⟨g, cap, cur, hv, _, _, h1, h2, _⟩
  · injection hv with _ _ hc; subst hc; exact ⟨Nat.le_refl _, Nat.zero_le _⟩
  · injection hv with _ _ hc; subst hc; exact ⟨h1, h2⟩

theorem own_chg {w' : World} {S : Nat → Prop} {A : Option Addr} {n c : Nat} {xs : List Value} (h : w.ownsRow base e 1 (.slice A n c) n xs) (hc : Chg S w w') (hs : ∀ k, blk A = some k → ¬ S k) : w'.ownsRow base e 1 (.slice A n c) n xs := by
  refine ⟨h.1, ?_⟩
  rcases h.2 with h0 | ⟨g, cap, cur, hv, hb, hg, r⟩
  · exact .inl h0
  · refine .inr ⟨g, cap, cur, hv, hb, ?_, r⟩
    have hA : A = some ⟨g, 0, none⟩ := by injection hv
    exact hc.heap hg (hs g (by rw [hA]; rfl))

theorem own_base {base' : Nat} {v : Value} {n : Nat} {xs : List Value} (h : w.ownsRow base e 1 v n xs) (hb : base' ≤ base) : w.ownsRow base' e 1 v n xs := by
  refine ⟨h.1, ?_⟩
  rcases h.2 with h0 | ⟨g, cap, cur, hv, hg, r⟩
  · exact .inl h0
  · exact .inr ⟨g, cap, cur, hv, by omega, r⟩

/-- append, whatever the source: nil, empty or not. -/
theorem run_app (hE : Elem P t e z bytes) (ty : TypeId) {A0 : Option Addr} {n c0 : Nat} {xs : List Value} (hown : w.ownsRow base e 1 (.slice A0 n c0) n xs)
    {A : Option Addr} {m c : Nat} {news : List Value} (hr : Rd w A m news) (h1 : ∀ u ∈ news, u.oneCell' = true)
    (h63 : n + m ≤ maxLen) (hbytes : (n + m) * bytes ≤ 140737488355328) (hbase : base ≤ w.heap.size) :
    ∃ A' c' w', (Builtin.append_ #[t, t] ty #[.slice A0 n c0, .slice A m c]).run P w = .ok (.slice A' (n + m) c') w' ∧
      w'.ownsRow base e 1 (.slice A' (n + m) c') (n + m) (xs ++ news) ∧ w.grownBy w' (blk A0) ∧ (blk A' = blk A0 ∨ blk A' = some w.heap.size) := by
  obtain ⟨ht, ⟨i, hi, hz, hsize, hby⟩, hzs⟩ := hE
  rcases A with _ | ad
  · have hm : m = 0 := by
      rcases Nat.eq_zero_or_pos m with h0 | h0
      · exact h0
      · obtain ⟨ad, h, _⟩ := hr.2 h0
        cases h
    subst hm
    have hn : news = [] := List.eq_nil_of_length_eq_zero hr.1
    subst hn
    refine ⟨A0, c0, w, ?_, by simpa using hown, World.grownBy.refl w _, .inl rfl⟩
    have hcap := (own_cap hown).1
    rcases hown.2 with ⟨hv, rfl⟩ | ⟨g, cap, cur, hv, _, _, hnc, _⟩
    · injection hv with h1 _ h3
      subst h1 h3
      simp [Builtin.append_, run_underlying ht, sizeOf, typeInfo, hi, Builtin.lenOf, Builtin.firstCells]
    · injection hv with h1 _ h3
      subst h1 h3
      simp [Builtin.append_, run_underlying ht, sizeOf, typeInfo, hi, Builtin.lenOf, Builtin.firstCells, hnc, storeCells]
  · have hcells : ∀ j u, news[j]? = some u → w.cell? (ad.add j) = some u := by
      intro j u hu
      rcases Nat.eq_zero_or_pos m with h0 | h0
      · subst h0
        have hn : news = [] := List.eq_nil_of_length_eq_zero hr.1
        subst hn
        simp at hu
      · obtain ⟨ad', h, hc⟩ := hr.2 h0
        injection h with h
        subst h
        exact hc j u hu
    obtain ⟨v', w', hrun, h2, h3, _, h5⟩ := run_append_own_at (P := P) w base t ty e i z 1 bytes ht hi hz hsize hby hzs (by omega) _ n xs hown ad m c news (by simpa using hr.1) hcells h1 h63 hbytes hbase
    obtain ⟨A', c', rfl⟩ := own_slice h2
    rw [ownBlock_slice] at h3 h5
    rw [ownBlock_slice] at h5
    exact ⟨A', c', w', hrun, h2, h3, h5⟩

theorem wpList_app (hE : Elem P t e z bytes) {ops : Array Oper} {rest : List Oper} {o : Oper} {a : Act} {Q : Exit → Act → World → Prop} (hgd : o.guard = none) (s x : Operand)
    (ho : o.op = .call { callee := .builtin .append, args := #[s, x], argTypes := #[t, t] })
    {A0 : Option Addr} {n c0 : Nat} {xs : List Value} (hs : a.eval s = .slice A0 n c0) (hown : w.ownsRow base e 1 (.slice A0 n c0) n xs)
    {A : Option Addr} {m c : Nat} {news : List Value} (hx : a.eval x = .slice A m c) (hr : Rd w A m news) (h1 : ∀ u ∈ news, u.oneCell' = true)
    (h63 : n + m ≤ maxLen) (hbytes : (n + m) * bytes ≤ 140737488355328) (hbase : base ≤ w.heap.size)
    (h : ∀ A' c' w', w'.ownsRow base e 1 (.slice A' (n + m) c') (n + m) (xs ++ news) → w.grownBy w' (blk A0) → (blk A' = blk A0 ∨ blk A' = some w.heap.size) → wpList P ops Q rest (a.put o.dst (.slice A' (n + m) c')) w') :
    wpList P ops Q (o :: rest) a w := by
  refine wpList_plain hgd fun K hK => ?_
  obtain ⟨A', c', w', hrun, h2, h3, h4⟩ := run_app (P := P) hE o.type hown hr h1 h63 hbytes hbase
  unfold Oper.wp execOp
  simp only [ho, resolve, invoke, builtin, Sem.run_bind, Sem.run_pure, Result.andThen_ok, List.map_toArray, List.map_cons, List.map_nil, hs, hx]
  rw [hrun]
  exact hK _ _ (h A' c' w' h2 h3 h4)
end

/-- .. and the old slice still reads as it did. -/
theorem run_app_old {P : Program} {w : World} {base : Nat} {t e : TypeId} {z : Value} {bytes : Nat} (hE : Elem P t e z bytes) (ty : TypeId) {A0 : Option Addr} {n c0 : Nat} {xs : List Value} (hown : w.ownsRow base e 1 (.slice A0 n c0) n xs)
    {A : Option Addr} {m c : Nat} {news : List Value} (hr : Rd w A m news) (h1 : ∀ u ∈ news, u.oneCell' = true)
    (h63 : n + m ≤ maxLen) (hbytes : (n + m) * bytes ≤ 140737488355328) (hbase : base ≤ w.heap.size) {A' : Option Addr} {c' : Nat} {w' : World}
    (hrun : (Builtin.append_ #[t, t] ty #[.slice A0 n c0, .slice A m c]).run P w = .ok (.slice A' (n + m) c') w') (hown' : w'.ownsRow base e 1 (.slice A' (n + m) c') (n + m) (xs ++ news)) : Rd w' A0 n xs := by
  obtain ⟨ht, ⟨i, hi, hz, hsize, hby⟩, hzs⟩ := hE
  have hxl : xs.length = n := by simpa using hown.1
  rcases hown.2 with ⟨hv, hn0⟩ | ⟨g, cap, cur, hv, hbg, hg, hnc, hcm, hcs, htake⟩
  · subst hn0
    have : xs = [] := List.eq_nil_of_length_eq_zero hxl
    subst this
    exact Rd.nil _ _
  · injection hv with hA0 _ hc0
    subst hA0 hc0
    have hsame : A' = some ⟨g, 0, none⟩ → Rd w' (some ⟨g, 0, none⟩) n xs := fun hA' => by
      subst hA'
      have := (Rd.of_own hown').take (k := n) (by omega)
      rwa [List.take_left' hxl] at this
    rcases A with _ | ad
    · have hm : m = 0 := by
        rcases Nat.eq_zero_or_pos m with h0 | h0
        · exact h0
        · obtain ⟨ad, h, _⟩ := hr.2 h0
          cases h
      subst hm
      have hrun2 : (Builtin.append_ #[t, t] ty #[.slice (some ⟨g, 0, none⟩) n c0, .slice none 0 c]).run P w = .ok (.slice (some ⟨g, 0, none⟩) n c0) w := by
        simp [Builtin.append_, run_underlying ht, sizeOf, typeInfo, hi, Builtin.lenOf, Builtin.firstCells, hnc, storeCells]
      rw [hrun2] at hrun
      injection hrun with h2 h3
      injection h2 with h2
      exact hsame h2.symm
    · have hcells : ∀ j u, news[j]? = some u → w.cell? (ad.add j) = some u := by
        intro j u hu
        rcases Nat.eq_zero_or_pos m with h0 | h0
        · subst h0
          have hn : news = [] := List.eq_nil_of_length_eq_zero hr.1
          subst hn
          simp at hu
        · obtain ⟨ad', h, hc⟩ := hr.2 h0
          injection h with h
          subst h
          exact hc j u hu
      by_cases hroom : n + m ≤ c0
      · have hrun2 := run_append_room (P := P) w t ty e i ht hi g n c0 cur hg ad m c news (by rw [hsize, Nat.mul_one]; exact hr.1) hcells h1 hroom (by rw [hsize, hr.1]; omega)
        rw [hrun2] at hrun
        injection hrun with h2 h3
        injection h2 with h2
        exact hsame h2.symm
      · have hrun2 := run_append_grow (P := P) w t ty e i z ht hi hz ⟨g, 0, none⟩ n c0 xs (by rw [hsize, Nat.mul_one]; exact hxl) (hown.cells (g := g) rfl) ad m c news (by rw [hsize, Nat.mul_one]; exact hr.1) hcells (by omega) (by simp only [maxLen] at h63; omega) (growslice_fits (by omega) (by rw [hby]; exact hbytes))
        rw [hrun2] at hrun
        injection hrun with h2 h3
        subst h3
        exact (Rd.of_own hown).new (((Chg.refl _ w).drew).alloc _)

theorem wpList_app2 {P : Program} {w : World} {base : Nat} {t e : TypeId} {z : Value} {bytes : Nat} (hE : Elem P t e z bytes) {ops : Array Oper} {rest : List Oper} {o : Oper} {a : Act} {Q : Exit → Act → World → Prop} (hgd : o.guard = none) (s x : Operand)
    (ho : o.op = .call { callee := .builtin .append, args := #[s, x], argTypes := #[t, t] })
    {A0 : Option Addr} {n c0 : Nat} {xs : List Value} (hs : a.eval s = .slice A0 n c0) (hown : w.ownsRow base e 1 (.slice A0 n c0) n xs)
    {A : Option Addr} {m c : Nat} {news : List Value} (hx : a.eval x = .slice A m c) (hr : Rd w A m news) (h1 : ∀ u ∈ news, u.oneCell' = true)
    (h63 : n + m ≤ maxLen) (hbytes : (n + m) * bytes ≤ 140737488355328) (hbase : base ≤ w.heap.size)
    (h : ∀ A' c' w', w'.ownsRow base e 1 (.slice A' (n + m) c') (n + m) (xs ++ news) → w.grownBy w' (blk A0) → (blk A' = blk A0 ∨ blk A' = some w.heap.size) → Rd w' A0 n xs → wpList P ops Q rest (a.put o.dst (.slice A' (n + m) c')) w') :
    wpList P ops Q (o :: rest) a w := by
  refine wpList_plain hgd fun K hK => ?_
  obtain ⟨A', c', w', hrun, h2, h3, h4⟩ := run_app (P := P) hE o.type hown hr h1 h63 hbytes hbase
  have h5 := run_app_old (P := P) hE o.type hown hr h1 h63 hbytes hbase hrun h2
  unfold Oper.wp execOp
  simp only [ho, resolve, invoke, builtin, Sem.run_bind, Sem.run_pure, Result.andThen_ok, List.map_toArray, List.map_cons, List.map_nil, hs, hx]
  rw [hrun]
  exact hK _ _ (h A' c' w' h2 h3 h4 h5)

/-- The address of x[k:]. -/
def cutA (A : Option Addr) (c k : Nat) : Option Addr := if c = k then A else A.map (·.add k)
theorem blk_cutA (A : Option Addr) (c k : Nat) : blk (cutA A c k) = blk A := by
  unfold cutA blk
  split
  · rfl
  · cases A <;> simp [block_add]
theorem Rd.cutA {w : World} {A : Option Addr} {n : Nat} {xs : List Value} (h : Rd w A n xs) {k cap : Nat} (hk : k ≤ n) (hc : n ≤ cap) : Rd w (cutA A cap k) (n - k) (xs.drop k) := h.cut hk hc
theorem run_cut {P : Program} {t e : TypeId} {z : Value} {bytes : Nat} (hE : Elem P t e z bytes) (kl : IntKind) (A : Option Addr) (n c k : Nat) (i : Int) (hi : i = (k : Int)) (hk : k ≤ n) (W : World) :
    (Instr.slice t (.slice A n c) (some (.int kl i)) none none).run P W = .ok (.slice (cutA A c k) (n - k) (c - k)) W := by
  obtain ⟨ht, ⟨info, hi1, hi2, hi3, hi4⟩, _⟩ := hE
  have hel : P.elem t = e := by simp [Program.elem, ht]
  subst hi
  have := run_slice_l (P := P) W t A n c (by rw [hel]; exact ht) kl (k : Int) (by omega) (by omega)
  rw [this, hel]
  simp [sizeOf, typeInfo, hi1, hi3, sliced, cutA]
theorem run_upto {P : Program} {t e : TypeId} {z : Value} {bytes : Nat} (hE : Elem P t e z bytes) (kl : IntKind) (A : Option Addr) (n c k : Nat) (i : Int) (hi : i = (k : Int)) (hk : k ≤ c) (W : World) :
    (Instr.slice t (.slice A n c) none (some (.int kl i)) none).run P W = .ok (.slice A k c) W := by
  obtain ⟨ht, ⟨info, hi1, hi2, hi3, hi4⟩, _⟩ := hE
  have hel : P.elem t = e := by simp [Program.elem, ht]
  subst hi
  have := run_slice_h (P := P) W t A n c (by rw [hel]; exact ht) kl (k : Int) (by omega) (by omega)
  rw [this, hel]
  have e1 : A.map (fun x : Addr => x.add 0) = A := by cases A <;> simp [Addr.add]
  simp [sizeOf, typeInfo, hi1, hi3, sliced, e1]

/-- A block just laid, read as a slice. -/
theorem Rd.lit {w : World} (cs : List Value) {e : TypeId} {n : Nat} (hn : cs.length = n) : Rd (w.alloc (.cells cs.toArray e)) (some ⟨w.heap.size, 0, none⟩) n cs := by
  refine ⟨hn, fun _ => ⟨_, rfl, fun j u hu => ?_⟩⟩
  rw [Addr.add_lit, Nat.zero_add]
  exact (cell_of_row _ w.heap.size j _ e (0, 0) (heap_alloc_new w _)).trans (by simpa using hu)

/-- A block of one cell, just laid, read as a slice of one element. -/
theorem Rd.one {w : World} {v : Value} {e : TypeId} : Rd (w.alloc (.cells #[v] e)) (some ⟨w.heap.size, 0, none⟩) 1 [v] := by
  refine ⟨rfl, fun _ => ⟨_, rfl, fun j u hu => ?_⟩⟩
  match j, hu with
  | 0, hu =>
    simp at hu; subst hu
    show (w.alloc (.cells #[v] e)).cell? ((⟨w.heap.size, 0, none⟩ : Addr).add 0) = some v
    rw [Addr.add_lit]
    exact cell_of_row _ w.heap.size 0 _ e (0, 0) (heap_alloc_new w _)

/-! ### a block that is known whole -/
def Blk (w : World) (g : Nat) (t : TypeId) (cs : Array Value) : Prop := w.heap[g]? = some (.cells cs t (0, 0))
section
variable {w w' : World} {g : Nat} {t : TypeId} {cs : Array Value} {S : Nat → Prop}
theorem Blk.lt (h : Blk w g t cs) : g < w.heap.size := (Array.getElem?_eq_some_iff.1 h).1
theorem Blk.cell (h : Blk w g t cs) (i : Nat) {u : Value} (hu : cs[i]? = some u) : w.cell? ⟨g, i, none⟩ = some u := (cell_of_row w g i cs t (0, 0) h).trans hu
theorem Blk.frozen (h : Blk w g t cs) (i : Nat) : w.frozen? ⟨g, i, none⟩ = false := by
  unfold Blk at h
  simp [World.frozen?, h]
theorem Blk.new (w : World) (t : TypeId) (cs : Array Value) : Blk (w.alloc (.cells cs t)) w.heap.size t cs := heap_alloc_new w _
theorem Blk.drew (h : Blk w g t cs) : Blk w.drew g t cs := h
theorem Blk.drewN (h : Blk w g t cs) (n : Nat) : Blk (w.drewN n) g t cs := h
theorem Blk.alloc (h : Blk w g t cs) (o : Obj) : Blk (w.alloc o) g t cs := (Below.heap_alloc w o g h.lt).trans h
theorem Blk.set_ (h : Blk w g t cs) (i : Nat) (u : Value) : Blk (w.setCell ⟨g, i, none⟩ u) g t (cs.setIfInBounds i u) := by
  unfold Blk at h ⊢
  simp [World.setCell, Array.getElem?_modify, h]
theorem Blk.far (h : Blk w g t cs) {p : Addr} (hp : g ≠ p.block) (u : Value) : Blk (w.setCell p u) g t cs := (Below.heap_setCell w p u g hp).trans h
theorem Blk.chg (h : Blk w g t cs) (hc : Chg S w w') (hg : ¬ S g) : Blk w' g t cs := Chg.heap hc h hg
theorem Blk.grown {row : Option Nat} (h : Blk w g t cs) (hb : w.grownBy w' row) (hg : row ≠ some g) : Blk w' g t cs := (hb.block g h.lt (fun e => hg e.symm)).trans h
theorem Blk.ne_own {base : Nat} {e : TypeId} {A : Option Addr} {n c : Nat} {xs : List Value} (h : Blk w g t cs) (ho : w.ownsRow base e 1 (.slice A n c) n xs) (hne : t ≠ e) : blk A ≠ some g := by
  intro hA
  rcases ho.2 with ⟨hv, _⟩ | ⟨g', cap, cur, hv, _, hh, _⟩
  · injection hv with h1; subst h1; cases hA
  · injection hv with h1
    subst h1
    have : g' = g := by simpa [blk] using hA
    subst this
    unfold Blk at h
    rw [h] at hh
    injection hh with hh
    injection hh with _ ht
    exact hne ht
end

/-! ### bytes -/
/-- The cell of a byte. -/
def By (c : UInt8) : Value := .int .u8 (c.toNat : Int)
def bs (l : List UInt8) : List Value := l.map By
@[simp] theorem bs_length (l : List UInt8) : (bs l).length = l.length := by simp [bs]
@[simp] theorem bs_nil : bs [] = [] := rfl
theorem bs_append (a b : List UInt8) : bs (a ++ b) = bs a ++ bs b := by simp [bs]
theorem bs_one : ∀ (l : List UInt8), ∀ u ∈ bs l, u.oneCell' = true := by
  intro l u hu
  obtain ⟨_, _, rfl⟩ := List.mem_map.1 hu
  rfl
theorem bs_take (l : List UInt8) (k : Nat) : (bs l).take k = bs (l.take k) := by simp [bs, List.map_take]
theorem bs_drop (l : List UInt8) (k : Nat) : (bs l).drop k = bs (l.drop k) := by simp [bs, List.map_drop]
theorem bs_at {l : List UInt8} {k : Nat} {u : Value} (h : (bs l)[k]? = some u) : ∃ c, l[k]? = some c ∧ u = .int .u8 (c.toNat : Int) := by
  simp only [bs, List.getElem?_map, Option.map_eq_some_iff] at h
  obtain ⟨c, h1, h2⟩ := h
  exact ⟨c, h1, h2.symm⟩
/-- The cells of ints. -/
def is (l : List Int) : List Value := l.map (Value.int .i64)

theorem is_at {l : List Int} {k : Nat} {u : Value} (h : (is l)[k]? = some u) : ∃ z, l[k]? = some z ∧ u = .int .i64 z := by
  simp only [is, List.getElem?_map, Option.map_eq_some_iff] at h
  obtain ⟨c, h1, h2⟩ := h
  exact ⟨c, h1, h2.symm⟩
@[simp] theorem is_length (l : List Int) : (is l).length = l.length := by simp [is]
theorem is_append (a b : List Int) : is (a ++ b) = is a ++ is b := by simp [is]
theorem is_one : ∀ (l : List Int), ∀ u ∈ is l, u.oneCell' = true := by
  intro l u hu
  obtain ⟨_, _, rfl⟩ := List.mem_map.1 hu
  rfl
/-! ### min, max, string(b) -/
theorem run_min2 {P : Program} (x y m : Int) (h : (x ≤ y ∧ m = x) ∨ (y ≤ x ∧ m = y)) (ts : Array TypeId) (t : TypeId) (W : World) :
    (Builtin.min_ ts t #[.int .i64 x, .int .i64 y]).run P W = .ok (.int .i64 m) W := by
  simp [go_sem]
  split <;> omega
theorem run_tostr {P : Program} {src dst e : TypeId} (hs : P.underlying src = some (.slice e)) (he : P.underlying e = some (.int .u8)) (hd : P.underlying dst = some .string)
    {W : World} {A : Option Addr} {n c : Nat} {l : List UInt8} (hr : Rd W A n (bs l)) : (convert src dst (.slice A n c)).run P W = .ok (.string ⟨l.toArray⟩) W := by
  have hl : l.length = n := by have := hr.len; rwa [bs_length] at this
  subst hl
  cases A with
  | none =>
    have h0 : l = [] := by
      rcases Nat.eq_zero_or_pos l.length with h | h
      · exact List.eq_nil_of_length_eq_zero h
      · obtain ⟨ad, h, _⟩ := hr.2 h; cases h
    subst h0
    rw [run_convert_bytes_nil W src e hs he _ _ dst hd]
    rfl
  | some a =>
    refine run_convert_bytes_back W src dst e a c l hs he hd (fun j hj => ?_)
    obtain ⟨ad, h, hc⟩ := hr.2 (by omega)
    injection h with h
    subst h
    exact hc j _ (by simp [bs, By, hj])

/-! ### a slice of byte slices -/
/-- The values vs are slices of bytes that read as ls. -/
def Lists (W : World) (vs : List Value) (ls : List (List UInt8)) : Prop :=
  vs.length = ls.length ∧ ∀ (i : Nat) (v : Value) (l : List UInt8), vs[i]? = some v → ls[i]? = some l → ∃ A n c, v = .slice A n c ∧ n ≤ c ∧ c ≤ maxLen ∧ Rd W A n (bs l) ∧ ∀ k, blk A = some k → k < W.heap.size
theorem Lists.new {W W' : World} {vs : List Value} {ls : List (List UInt8)} (h : Lists W vs ls) (hn : New W W') : Lists W' vs ls :=
  ⟨h.1, fun i v l hv hl => by
    obtain ⟨A, n, c, h1, h2, h3, h4, h5⟩ := h.2 i v l hv hl
    exact ⟨A, n, c, h1, h2, h3, h4.new hn, fun k hk => Nat.lt_of_lt_of_le (h5 k hk) hn.size⟩⟩
theorem Lists.chg {S : Nat → Prop} {W W' : World} {vs : List Value} {ls : List (List UInt8)} (h : Lists W vs ls) (hn : Chg S W W') (hs : ∀ v ∈ vs, ∀ A n c, v = .slice A n c → ∀ k, blk A = some k → ¬ S k) : Lists W' vs ls :=
  ⟨h.1, fun i v l hv hl => by
    obtain ⟨A, n, c, h1, h2, h3, h4, h5⟩ := h.2 i v l hv hl
    exact ⟨A, n, c, h1, h2, h3, h4.chg hn (fun k hk _ => hs v (List.mem_of_getElem? hv) A n c h1 k hk), fun k hk => Nat.lt_of_lt_of_le (h5 k hk) hn.size⟩⟩
theorem Lists.nil (W : World) : Lists W [] [] := ⟨rfl, fun i v l hv _ => by simp at hv⟩
theorem Lists.snoc {W : World} {vs : List Value} {ls : List (List UInt8)} (h : Lists W vs ls) {A : Option Addr} {n c : Nat} {l : List UInt8} (hnc : n ≤ c) (hc : c ≤ maxLen) (hr : Rd W A n (bs l)) (hb : ∀ k, blk A = some k → k < W.heap.size) :
    Lists W (vs ++ [.slice A n c]) (ls ++ [l]) := by
  refine ⟨by simp [h.1], fun i v x hv hx => ?_⟩
  rw [List.getElem?_append] at hv hx
  rw [← h.1] at hx
  split at hv
  · rename_i hi
    rw [if_pos hi] at hx
    exact h.2 i v x hv hx
  · rename_i hi
    rw [if_neg hi] at hx
    have hi0 : i - vs.length = 0 := by
      have := (List.getElem?_eq_some_iff.1 hv).1
      simp at this
      omega
    rw [hi0] at hv hx
    simp at hv hx
    subst hv hx
    exact ⟨A, n, c, rfl, hnc, hc, hr, hb⟩
theorem Lists.take {W : World} {vs : List Value} {ls : List (List UInt8)} (h : Lists W vs ls) (k : Nat) : Lists W (vs.take k) (ls.take k) :=
  ⟨by simp [h.1], fun i v l hv hl => by
    rw [List.getElem?_take] at hv hl
    split at hv
    · rename_i hi
      rw [if_pos hi] at hl
      exact h.2 i v l hv hl
    · cases hv⟩

/-- The values vs are slices of bytes of the call's own (from block base on, of the element type e) that read as ls. -/
def OLists (W : World) (base : Nat) (e : TypeId) (vs : List Value) (ls : List (List UInt8)) : Prop :=
  vs.length = ls.length ∧ ∀ (i : Nat) (v : Value) (l : List UInt8), vs[i]? = some v → ls[i]? = some l → ∃ A n c, v = .slice A n c ∧ W.ownsRow base e 1 (.slice A n c) n (bs l)
theorem OLists.nil (W : World) (base : Nat) (e : TypeId) : OLists W base e [] [] := ⟨rfl, fun i v l hv _ => by simp at hv⟩
theorem OLists.lists {W : World} {base : Nat} {e : TypeId} {vs : List Value} {ls : List (List UInt8)} (h : OLists W base e vs ls) : Lists W vs ls :=
  ⟨h.1, fun i v l hv hl => by
    obtain ⟨A, n, c, h1, h2⟩ := h.2 i v l hv hl
    exact ⟨A, n, c, h1, (own_cap h2).1, (own_cap h2).2, Rd.of_own h2, fun k hk => (own_blk_le h2 hk).2⟩⟩
theorem OLists.new {W W' : World} {base : Nat} {e : TypeId} {vs : List Value} {ls : List (List UInt8)} (h : OLists W base e vs ls) (hn : New W W') : OLists W' base e vs ls :=
  ⟨h.1, fun i v l hv hl => by
    obtain ⟨A, n, c, h1, h2⟩ := h.2 i v l hv hl
    exact ⟨A, n, c, h1, own_chg h2 hn (fun _ _ h => h)⟩⟩
/-- A change of rows of other element types (and of new blocks) leaves them. -/
theorem OLists.chg {S : Nat → Prop} {W W' : World} {base : Nat} {e : TypeId} {vs : List Value} {ls : List (List UInt8)} (h : OLists W base e vs ls) (hn : Chg S W W') (hs : ∀ k cs, W.heap[k]? = some (.cells cs e (0, 0)) → ¬ S k) : OLists W' base e vs ls :=
  ⟨h.1, fun i v l hv hl => by
    obtain ⟨A, n, c, h1, h2⟩ := h.2 i v l hv hl
    refine ⟨A, n, c, h1, own_chg h2 hn (fun k hk => ?_)⟩
    rcases h2.2 with ⟨hv, _⟩ | ⟨g, cap, cur, hv, _, hh, _⟩
    · injection hv with hv; subst hv; cases hk
    · injection hv with hv
      subst hv
      have : g = k := by simpa [blk] using hk
      subst this
      exact hs g cur hh⟩
theorem OLists.snoc {W : World} {base : Nat} {e : TypeId} {vs : List Value} {ls : List (List UInt8)} (h : OLists W base e vs ls) {A : Option Addr} {n c : Nat} {l : List UInt8} (ho : W.ownsRow base e 1 (.slice A n c) n (bs l)) :
    OLists W base e (vs ++ [.slice A n c]) (ls ++ [l]) := by
  refine ⟨by simp [h.1], fun i v x hv hx => ?_⟩
  rw [List.getElem?_append] at hv hx
  rw [← h.1] at hx
  split at hv
  · rename_i hi
    rw [if_pos hi] at hx
    exact h.2 i v x hv hx
  · rename_i hi
    rw [if_neg hi] at hx
    have hi0 : i - vs.length = 0 := by
      have := (List.getElem?_eq_some_iff.1 hv).1
      simp at this
      omega
    rw [hi0] at hv hx
    simp at hv hx
    subst hv hx
    exact ⟨A, n, c, rfl, ho⟩
end Go.Mem

namespace Go.Mem
set_option linter.unusedVariables false
open Go.RowKit Go.Maps Go.WideShapes
open Go.WideElems (Fit rd rg pl rd_key rd_val rg_of)

/-! ### lists of pairs -/
abbrev Ent := Int × Value
/-- The element at a key. -/
def lk (L : List Ent) (i : Int) : Option Value := (L.find? (fun p => p.1 == i)).map (·.2)
def ins (x : Ent) : List Ent → List Ent
  | [] => [x]
  | y :: r => if x.1 < y.1 then x :: y :: r else y :: ins x r
def dl (L : List Ent) (i : Int) : List Ent := L.filter (fun p => !(p.1 == i))
def pt (L : List Ent) (i : Int) (v : Value) : List Ent := ins (i, v) (dl L i)
/-- The keys rise. -/
def Rise (L : List Ent) : Prop := L.Pairwise (fun p q => p.1 < q.1)

theorem mem_ins {x : Ent} : ∀ {L : List Ent} {y : Ent}, y ∈ ins x L ↔ y = x ∨ y ∈ L
  | [], y => by simp [ins]
  | z :: r, y => by
    unfold ins
    split
    · simp
    · simp [mem_ins (L := r)]
      constructor
      · rintro (h | h | h) <;> simp [h]
      · rintro (h | h | h) <;> simp [h]
theorem Rise.ins {x : Ent} : ∀ {L : List Ent}, Rise L → (∀ y ∈ L, y.1 ≠ x.1) → Rise (ins x L)
  | [], _, _ => by simp [Rise, Mem.ins]
  | z :: r, h, hn => by
    obtain ⟨h1, h2⟩ := List.pairwise_cons.1 h
    unfold Mem.ins
    have hz := hn z (by simp)
    split
    · rename_i hlt
      refine List.pairwise_cons.2 ⟨fun q hq => ?_, h⟩
      rcases List.mem_cons.1 hq with rfl | hq
      · exact hlt
      · have := h1 q hq; omega
    · refine List.pairwise_cons.2 ⟨fun q hq => ?_, Rise.ins h2 (fun y hy => hn y (by simp [hy]))⟩
      rcases mem_ins.1 hq with rfl | hq
      · omega
      · exact h1 q hq
theorem Rise.dl {L : List Ent} (h : Rise L) (i : Int) : Rise (dl L i) := h.filter _
theorem mem_dl {L : List Ent} {i : Int} {y : Ent} : y ∈ dl L i ↔ y ∈ L ∧ y.1 ≠ i := by simp [dl]
theorem Rise.pt {L : List Ent} (h : Rise L) (i : Int) (v : Value) : Rise (pt L i v) := (h.dl i).ins (fun y hy => (mem_dl.1 hy).2)
theorem mem_pt {L : List Ent} {i : Int} {v : Value} {y : Ent} : y ∈ pt L i v ↔ y = (i, v) ∨ (y ∈ L ∧ y.1 ≠ i) := by
  unfold pt
  rw [mem_ins, mem_dl]
theorem Rise.key {L : List Ent} (h : Rise L) {x y : Ent} (hx : x ∈ L) (hy : y ∈ L) (e : x.1 = y.1) : x = y := by
  induction L with
  | nil => simp at hx
  | cons z r ih =>
    obtain ⟨h1, h2⟩ := List.pairwise_cons.1 h
    rcases List.mem_cons.1 hx with rfl | hx' <;> rcases List.mem_cons.1 hy with rfl | hy'
    · rfl
    · have := h1 y hy'; omega
    · have := h1 x hx'; omega
    · exact ih h2 hx' hy'
theorem lk_some {L : List Ent} (h : Rise L) {i : Int} {v : Value} : lk L i = some v ↔ (i, v) ∈ L := by
  unfold lk
  constructor
  · intro e
    obtain ⟨p, hp, rfl⟩ := Option.map_eq_some_iff.1 e
    have h1 := List.mem_of_find?_eq_some hp
    have h2 := List.find?_some hp
    have h2 : p.1 = i := by simpa using h2
    subst h2
    exact h1
  · intro hm
    cases hf : L.find? (fun p => p.1 == i) with
    | none =>
      have := List.find?_eq_none.1 hf (i, v) hm
      simp at this
    | some p =>
      have h1 := List.mem_of_find?_eq_some hf
      have h2 : p.1 = i := by simpa using List.find?_some hf
      have := h.key h1 hm h2
      subst this
      rfl
theorem lk_none {L : List Ent} {i : Int} : lk L i = none ↔ ∀ p ∈ L, p.1 ≠ i := by
  unfold lk
  simp
theorem lk_pt {L : List Ent} (h : Rise L) (i : Int) (v : Value) (j : Int) : lk (pt L i v) j = if j = i then some v else lk L j := by
  split
  · rename_i e
    subst e
    exact (lk_some (h.pt _ _)).2 (mem_pt.2 (.inl rfl))
  · rename_i hne
    cases hl : lk L j with
    | none =>
      rw [lk_none] at hl ⊢
      intro p hp
      rcases mem_pt.1 hp with rfl | ⟨hp, _⟩
      · exact fun e => hne e.symm
      · exact hl p hp
    | some u => exact (lk_some (h.pt _ _)).2 (mem_pt.2 (.inr ⟨(lk_some h).1 hl, hne⟩))
theorem lk_dl {L : List Ent} (h : Rise L) (i j : Int) : lk (dl L i) j = if j = i then none else lk L j := by
  split
  · rename_i e
    subst e
    rw [lk_none]
    exact fun p hp => (mem_dl.1 hp).2
  · rename_i hne
    cases hl : lk L j with
    | none =>
      rw [lk_none] at hl ⊢
      exact fun p hp => hl p (mem_dl.1 hp).1
    | some u => exact (lk_some (h.dl _)).2 (mem_dl.2 ⟨(lk_some h).1 hl, hne⟩)
theorem Rise.ext : ∀ {L L' : List Ent}, Rise L → Rise L' → (∀ x, x ∈ L ↔ x ∈ L') → L = L'
  | [], [], _, _, _ => rfl
  | [], b :: s, _, _, h => by have := (h b).2 (by simp); simp at this
  | a :: r, [], _, _, h => by have := (h a).1 (by simp); simp at this
  | a :: r, b :: s, h1, h2, h => by
    obtain ⟨a1, a2⟩ := List.pairwise_cons.1 h1
    obtain ⟨b1, b2⟩ := List.pairwise_cons.1 h2
    have hab : a = b := by
      rcases List.mem_cons.1 ((h a).1 (by simp)) with e | ha
      · exact e
      · rcases List.mem_cons.1 ((h b).2 (by simp)) with e | hb
        · exact e.symm
        · have := a1 b hb
          have := b1 a ha
          omega
    subst hab
    rw [Rise.ext a2 b2 (fun x => ?_)]
    have hx := h x
    constructor
    · intro hm
      rcases List.mem_cons.1 (hx.1 (by simp [hm])) with e | h'
      · subst e; have := a1 x hm; omega
      · exact h'
    · intro hm
      rcases List.mem_cons.1 (hx.2 (by simp [hm])) with e | h'
      · subst e; have := b1 x hm; omega
      · exact h'
theorem Rise.ext_lk {L L' : List Ent} (h : Rise L) (h' : Rise L') (he : ∀ i, lk L i = lk L' i) : L = L' :=
  h.ext h' (fun x => by rw [show x = (x.1, x.2) from rfl, ← lk_some h, ← lk_some h', he])
/-! ### the words of the kit -/
def rawR (v : Value) : Option (DataW Value × List MemPlace) := some (.held v, [])
def enc (p : Ent) : Lit × DataW Value := (.int .i64 p.1, .held p.2)
def dat (L : List Ent) : DataW Value := .map (L.map enc)
theorem same_int (a b : Int) : (Lit.int .i64 a).sameKey (.int .i64 b) = (a == b) := by
  simp only [Lit.sameKey]
  by_cases h : a = b <;> simp [h]
theorem find_enc (L : List Ent) (i : Int) : (L.map enc).find? (fun p => p.1.sameKey (.int .i64 i)) = (L.find? (fun p => p.1 == i)).map enc := by
  rw [List.find?_map]
  congr 2
  funext p
  exact same_int p.1 i
theorem at_dat (L : List Ent) (i : Int) (z : DataW Value) : (dat L).atKey (.int .i64 i) z = match lk L i with | some v => .held v | none => z := by
  unfold dat DataW.atKey lk
  simp only [find_enc]
  cases L.find? (fun p => p.1 == i) <;> rfl
theorem has_dat (L : List Ent) (i : Int) : Maps.has (dat L) (.int .i64 i) = (lk L i).isSome := by
  unfold dat Maps.has lk
  simp only [List.any_map]
  rw [Option.isSome_map, List.isSome_find?]
  congr 1
  funext p
  exact same_int p.1 i
theorem size_dat (L : List Ent) : Maps.size (dat L) = L.length := by simp [dat, Maps.size]
theorem insert_enc (x : Ent) : ∀ L : List Ent, DataW.insert (enc x) (L.map enc) = (ins x L).map enc
  | [] => rfl
  | y :: r => by
    unfold ins
    simp only [List.map_cons, DataW.insert, enc, Lit.before, decide_eq_true_eq]
    split
    · rfl
    · have := insert_enc x r
      simp only [enc] at this
      simp only [List.map_cons, this, enc]
theorem filter_enc (L : List Ent) (i : Int) : (L.map enc).filter (fun p => !p.1.sameKey (.int .i64 i)) = (dl L i).map enc := by
  rw [List.filter_map]
  unfold dl
  congr 2
  funext p
  show (!(Lit.int .i64 p.1).sameKey (.int .i64 i)) = _
  rw [same_int]
theorem put_dat (L : List Ent) (i : Int) (v : Value) : (dat L).put (.int .i64 i) (.held v) = dat (pt L i v) := by
  unfold dat DataW.put pt
  simp only [filter_enc]
  exact congrArg DataW.map (insert_enc (i, v) _)
theorem del_dat (L : List Ent) (i : Int) : (dat L).del (.int .i64 i) = dat (dl L i) := by
  unfold dat DataW.del
  simp only [filter_enc]

/-! ### maps in memory -/
/-- The key's type is int. -/
def KeyI (P : Program) (k : TypeId) : Prop := P.underlying k = some (.int .i64)
/-- Block b is a map with these entries. -/
def MI (w : World) (P : Program) (k : TypeId) (b : Nat) (L : List Ent) : Prop := Rise L ∧ w.ownsMap P k rawR b L.length (dat L)
/-- An int of Go. -/
def I64 (i : Int) : Prop := -9223372036854775808 ≤ i ∧ i ≤ 9223372036854775807
theorem I64.wf {i : Int} (h : I64 i) : (Lit.int .i64 i).wf = true := by
  unfold I64 at h
  simp [Lit.wf, IntKind.min, IntKind.max, IntKind.signed, IntKind.bits]
  omega

section
variable {P : Program} {w w' : World} {k t e : TypeId} {b : Nat} {L : List Ent}
theorem MI.rise (h : MI w P k b L) : Rise L := h.1
theorem MI.lt (h : MI w P k b L) : b < w.heap.size := h.2.lt
theorem MI.made (w : World) (P : Program) (k : TypeId) : MI (w.alloc (.map #[] 0)) P k w.heap.size [] := ⟨List.Pairwise.nil, World.ownsMap_made w P k rawR⟩
theorem MI.same (h : MI w P k b L) (he : w'.heap[b]? = w.heap[b]?) : MI w' P k b L := by
  obtain ⟨hr, es, clock, hb, r⟩ := h
  exact ⟨hr, es, clock, he.trans hb, r⟩
theorem MI.chg {S : Nat → Prop} (h : MI w P k b L) (hc : Chg S w w') (hs : ¬ S b) : MI w' P k b L := h.same (hc.block b h.lt hs)
theorem MI.of_own {n : Nat} {D : DataW Value} (K : KeyI P k) (h : w.ownsMap P k rawR b n D) : ∃ L, D = dat L ∧ Rise L ∧ w.ownsMap P k rawR b L.length (dat L) := by
  have hK : Keyed P k := int_keyed K
  obtain ⟨es, clock, hb, F, hs, hD⟩ := h
  have hall : ∀ p ∈ (es.toList.map (rg P k rawR)).foldr DataW.insert [], ∃ x : Ent, p = enc x := by
    intro p hp
    obtain ⟨x, hx, rfl⟩ := List.mem_map.1 (mem_sorted.1 hp)
    obtain ⟨y, hy⟩ := F.reads x hx
    have hk := rd_key hy
    obtain ⟨z, hz, hzd⟩ := rd_val hy
    obtain ⟨i, hi, hl, _⟩ := Maps.keyOf_int_inv K hk
    refine ⟨(i, x.val), ?_⟩
    rw [rg_of hy]
    unfold rawR at hz
    cases hz
    exact Prod.ext hl hzd
  have hlist : ∀ l : List (Lit × DataW Value), (∀ p ∈ l, ∃ x : Ent, p = enc x) → ∃ L : List Ent, l = L.map enc := by
    intro l
    induction l with
    | nil => exact fun _ => ⟨[], rfl⟩
    | cons a r ih =>
      intro h
      obtain ⟨x, hx⟩ := h a (by simp)
      obtain ⟨L, hL⟩ := ih (fun p hp => h p (by simp [hp]))
      exact ⟨x :: L, by rw [hx, hL]; rfl⟩
  obtain ⟨L, hL⟩ := hlist _ hall
  have hr := Maps.sorted_sorted hK.one _ (Maps.fit_keys F) (Maps.fit_apart hK F)
  rw [hL, List.pairwise_map] at hr
  have hlen : es.size = L.length := by
    have := length_sorted (es.toList.map (rg P k rawR))
    rw [hL] at this
    simpa using this.symm
  refine ⟨L, by rw [hD, hL]; rfl, hr.imp (fun {a b} h => by simpa [enc, Lit.before] using h), es, clock, hb, F, by omega, by rw [hL]; rfl⟩
theorem MI.len (h : MI w P k b L) (ht : P.underlying t = some (.map k e)) (ty : TypeId) : (Builtin.len_ #[t] ty #[.map (some b)]).run P w = .ok (.int .i64 L.length) w := by
  have := h.2.len ht ty
  rwa [size_dat] at this
theorem MI.look (h : MI w P k b L) (K : KeyI P k) (ht : P.underlying t = some (.map k e)) {z : Value} (hz : (zeroValue e).run P w = .ok z w) {i : Int} (hi : I64 i) (c : Bool) :
    (Instr.lookup t (.map (some b)) (.int .i64 i) c).run P w = .ok (if c then .tuple #[(lk L i).getD z, .bool (lk L i).isSome] else (lk L i).getD z) w := by
  have hK : Keyed P k := int_keyed K
  have hkey := keyOf_int_mk K hi.wf
  have hr := h.rise
  obtain ⟨_, es, clock, hb, F, _, hD⟩ := h
  have hat := fun zd => at_dat L i zd
  rw [hD] at hat
  rcases Maps.fit_look c hK ht hz hb F hkey with ⟨hrun, _, ha⟩ | ⟨e0, y, _, _, hrun, hRv, ha, _⟩
  · cases hl : lk L i with
    | none => rw [hrun]; rfl
    | some v =>
      have h1 := hat .nil
      rw [ha, hl] at h1
      cases h1
  · cases hl : lk L i with
    | none =>
      have h1 := hat .nil
      rw [ha, hl] at h1
      unfold rawR at hRv
      cases hRv
      cases h1
    | some v =>
      have h1 := hat .nil
      rw [ha, hl] at h1
      unfold rawR at hRv
      cases hRv
      cases h1
      rw [hrun]
      rfl
theorem MI.store (h : MI w P k b L) (K : KeyI P k) (ht : P.underlying t = some (.map k e)) (hn : L.length < maxLen) {i : Int} (hi : I64 i) (v : Value) :
    ∃ w', (Instr.mapUpdate t (.map (some b)) (.int .i64 i) v).run P w = .ok () w' ∧ MI w' P k b (pt L i v) ∧ Chg (fun k => k = b) w w' ∧ w'.heap.size = w.heap.size := by
  have hK : Keyed P k := int_keyed K
  obtain ⟨w', hrun, h1, h2⟩ := h.2.store hK ht hn (keyOf_int_mk K hi.wf) (val := v) (d := .held v) (ps := []) rfl
  rw [put_dat] at h1
  obtain ⟨L', hL', hr', ho⟩ := MI.of_own K h1
  have e : L' = pt L i v := by
    have := hL'
    unfold dat at this
    injection this with this
    have hinj : ∀ (A B : List Ent), A.map enc = B.map enc → A = B := by
      intro A
      induction A with
      | nil => intro B hB; cases B <;> simp at hB; rfl
      | cons a r ih =>
        intro B hB
        cases B with
        | nil => simp at hB
        | cons c s =>
          simp only [List.map_cons, List.cons.injEq] at hB
          rw [ih s hB.2]
          have := hB.1
          simp [enc] at this
          rw [Prod.ext this.1 this.2]
    exact (hinj _ _ this).symm
  subst e
  refine ⟨w', hrun, ⟨hr', ho⟩, ?_, ?_⟩
  · obtain ⟨es, clock, es', clock', hb, rfl⟩ := h2
    exact ⟨rfl, rfl, rfl, by simp [ChangeMaps.setBlock], fun j hj hne => ChangeMaps.heap_setBlock_other hb _ hne⟩
  · obtain ⟨es, clock, es', clock', hb, rfl⟩ := h2
    simp [ChangeMaps.setBlock]
theorem dat_inj {A B : List Ent} (h : dat A = dat B) : A = B := by
  unfold dat at h
  injection h with h
  induction A generalizing B with
  | nil => cases B with
    | nil => rfl
    | cons c s => simp at h
  | cons a r ih =>
    cases B with
    | nil => simp at h
    | cons c s =>
      simp only [List.map_cons, List.cons.injEq] at h
      rw [ih h.2]
      have := h.1
      simp [enc] at this
      rw [Prod.ext this.1 this.2]
theorem MI.of_own' {n : Nat} (K : KeyI P k) (h : w.ownsMap P k rawR b n (dat L)) : MI w P k b L := by
  obtain ⟨L', e, h1, h2⟩ := MI.of_own K h
  rw [← dat_inj e] at h1 h2
  exact ⟨h1, h2⟩
theorem turned_chg (h : w.mapTurned w' b) : Chg (fun k => k = b) w w' ∧ w'.heap.size = w.heap.size := by
  obtain ⟨es, clock, es', clock', hb, rfl⟩ := h
  exact ⟨⟨rfl, rfl, rfl, by simp [ChangeMaps.setBlock], fun j hj hne => ChangeMaps.heap_setBlock_other hb _ hne⟩, by simp [ChangeMaps.setBlock]⟩
theorem MI.drop (h : MI w P k b L) (K : KeyI P k) (ht : P.underlying t = some (.map k e)) {i : Int} (hi : I64 i) (ty : TypeId) :
    ∃ w', (Builtin.delete_ #[t, k] ty #[.map (some b), .int .i64 i]).run P w = .ok (.tuple #[]) w' ∧ MI w' P k b (dl L i) ∧ Chg (fun k => k = b) w w' ∧ w'.heap.size = w.heap.size := by
  obtain ⟨w', hrun, h1, h2⟩ := h.2.drop (int_keyed K) ht (keyOf_int_mk K hi.wf) ty
  rw [del_dat] at h1
  exact ⟨w', hrun, MI.of_own' K h1, (turned_chg h2).1, (turned_chg h2).2⟩

/-! ### ranging -/
/-- Block r is an iterator over the map in block b; 'left i': the entry at key i is still to come. -/
def RI (w : World) (P : Program) (k : TypeId) (b r : Nat) (L : List Ent) (left : Int → Bool) : Prop :=
  Rise L ∧ ∃ lf cnt, w.ranges P k rawR b r L.length (dat L) lf cnt ∧ ∀ i, lf (.int .i64 i) = left i
theorem RI.mi {r : Nat} {left : Int → Bool} (h : RI w P k b r L left) : MI w P k b L := by
  obtain ⟨h1, lf, cnt, h2, _⟩ := h
  exact ⟨h1, h2.owns⟩
theorem RI.lt {r : Nat} {left : Int → Bool} (h : RI w P k b r L left) : r < w.heap.size := by
  obtain ⟨h1, lf, cnt, h2, _⟩ := h
  exact h2.lt
theorem RI.ne {r : Nat} {left : Int → Bool} (h : RI w P k b r L left) : r ≠ b := by
  obtain ⟨h1, lf, cnt, h2, _⟩ := h
  exact h2.ne
theorem RI.same {r : Nat} {left : Int → Bool} (h : RI w P k b r L left) (hb : w'.heap[b]? = w.heap[b]?) (hr : w'.heap[r]? = w.heap[r]?) : RI w' P k b r L left := by
  obtain ⟨h1, lf, cnt, ⟨es, clock, since, seen, c0, g1, g2, g3, g4, g5, g6⟩, h3⟩ := h
  exact ⟨h1, lf, cnt, ⟨es, clock, since, seen, c0, hb.trans g1, g2, g3, g4, hr.trans g5, g6⟩, h3⟩
theorem RI.chg {S : Nat → Prop} {r : Nat} {left : Int → Bool} (h : RI w P k b r L left) (hc : Chg S w w') (hb : ¬ S b) (hr : ¬ S r) : RI w' P k b r L left :=
  h.same (hc.block b h.mi.lt hb) (hc.block r h.lt hr)
theorem rangeLeft_same {r : Nat} (hb : w'.heap[b]? = w.heap[b]?) (hr : w'.heap[r]? = w.heap[r]?) : w'.rangeLeft b r = w.rangeLeft b r := by
  unfold World.rangeLeft
  rw [hb, hr]
theorem RI.left_chg {S : Nat → Prop} {r : Nat} {left : Int → Bool} (h : RI w P k b r L left) (hc : Chg S w w') (hb : ¬ S b) (hr : ¬ S r) : w'.rangeLeft b r = w.rangeLeft b r :=
  rangeLeft_same (hc.block b h.mi.lt hb) (hc.block r h.lt hr)
theorem grown_chg {row : Option Nat} (hg : w.grownBy w' row) : Chg (fun k => some k = row) w w' :=
  (Chg.refl _ w).grown hg (fun k e _ => e.symm)
theorem MI.range (h : MI w P k b L) (K : KeyI P k) (ht : P.underlying t = some (.map k e)) :
    ∃ w', (Instr.range t (.map (some b))).run P w = .ok (.pointer (some ⟨w.heap.size, 0, none⟩)) w' ∧ RI w' P k b w.heap.size L (fun i => (lk L i).isSome) ∧ New w w' ∧ w'.heap.size = w.heap.size + 1 := by
  obtain ⟨w', hrun, h1, h2, h3⟩ := h.2.range (int_keyed K) ht
  exact ⟨w', hrun, ⟨h.1, _, _, h1, fun i => has_dat L i⟩, (grown_chg h2).mono (fun k _ e => by cases e), h3⟩
theorem RI.next {r : Nat} {left : Int → Bool} (h : RI w P k b r L left) (K : KeyI P k) (ty : TypeId) :
    ((∀ i, left i = false) ∧ (Instr.next (.pointer (some ⟨r, 0, none⟩)) false ty).run P w = .ok (.tuple #[.bool false]) w) ∨
    ∃ i v w', (i, v) ∈ L ∧ I64 i ∧ left i = true ∧ (Instr.next (.pointer (some ⟨r, 0, none⟩)) false ty).run P w = .ok (.tuple #[.bool true, .int .i64 i, v]) w' ∧
      RI w' P k b r L (fun x => left x && !(x == i)) ∧ Chg (fun k => k = r) w w' ∧ w'.heap.size = w.heap.size ∧ w'.rangeLeft b r < w.rangeLeft b r ∧ (Instr.entry (.pointer (some ⟨r, 0, none⟩))).run P w' = .ok (.tuple #[.int .i64 i, v]) w' := by
  obtain ⟨h1, lf, cnt, h2, h3⟩ := h
  rcases h2.next (int_keyed K) ty with ⟨h0, hl, hrun⟩ | ⟨key, v, kl, y, w', cnt', hkey, hlk, hv, hat, hrun, hrg, hlt, hgr, hsz, hen⟩
  · exact .inl ⟨fun i => by rw [← h3, hl], hrun⟩
  · obtain ⟨i, rfl, rfl, hwf⟩ := Maps.keyOf_int_inv K hkey
    have hi : I64 i := by
      unfold I64
      simp [Lit.wf, IntKind.min, IntKind.max, IntKind.signed, IntKind.bits] at hwf
      omega
    have ha := hat .nil
    rw [at_dat] at ha
    unfold rawR at hv
    cases hv
    refine .inr ⟨i, v, w', ?_, hi, by rw [← h3]; exact hlk, hrun, ⟨h1, _, _, hrg, fun x => by show (lf (.int .i64 x) && !(Lit.int .i64 x).sameKey (.int .i64 i)) = _; rw [h3, same_int]⟩, (grown_chg hgr).mono (fun k _ e => by injection e), hsz, by rw [hrg.left_eq, h2.left_eq]; exact hlt, hen⟩
    cases hl : lk L i with
    | none => rw [hl] at ha; cases ha
    | some u =>
      rw [hl] at ha
      cases ha
      exact (lk_some h1).1 hl
end

/-! ### at the operation -/
section
variable {P : Program} (w : World) {k t e : TypeId} {b : Nat} {L : List Ent} {ops : Array Oper} {rest : List Oper} {o : Oper} {a : Act} {Q : Exit → Act → World → Prop}
theorem wpList_lookI (hg : o.guard = none) (m x : Operand) (c : Bool) (hop : o.op = Op.lookup t m x c) (K : KeyI P k) (ht : P.underlying t = some (.map k e)) {z : Value} (hz : (zeroValue e).run P w = .ok z w)
    (hm : a.eval m = .map (some b)) (h : MI w P k b L) {i : Int} (hi : I64 i) (hx : a.eval x = .int .i64 i)
    (hK : wpList P ops Q rest (a.put o.dst (if c then .tuple #[(lk L i).getD z, .bool (lk L i).isSome] else (lk L i).getD z)) w) : wpList P ops Q (o :: rest) a w := by
  refine wpList_plain hg fun K' hK' => ?_
  unfold Oper.wp
  have hrun := h.look K ht hz hi c
  simp [execOp, hop, hm, hx, hrun, Result.andThen]
  exact hK' _ _ hK
theorem wpList_storeI (hg : o.guard = none) (m x u : Operand) (hop : o.op = Op.mapUpdate t m x u) (K : KeyI P k) (ht : P.underlying t = some (.map k e))
    (hm : a.eval m = .map (some b)) (h : MI w P k b L) (hn : L.length < maxLen) {i : Int} (hi : I64 i) (hx : a.eval x = .int .i64 i) {v : Value} (hv : a.eval u = v)
    (hK : ∀ w', MI w' P k b (pt L i v) → Chg (fun k => k = b) w w' → w'.heap.size = w.heap.size → wpList P ops Q rest (a.put o.dst undef) w') : wpList P ops Q (o :: rest) a w := by
  refine wpList_plain hg fun K' hK' => ?_
  obtain ⟨w', hrun, h1, h2, h3⟩ := h.store K ht hn hi v
  unfold Oper.wp
  simp [execOp, hop, hm, hx, hv, hrun, Result.andThen]
  exact hK' _ _ (hK w' h1 h2 h3)
theorem wpList_dropI (hg : o.guard = none) (m x : Operand) (hop : o.op = Op.call { callee := Callee.builtin Builtin.delete, args := #[m, x], argTypes := #[t, k] }) (K : KeyI P k) (ht : P.underlying t = some (.map k e))
    (hm : a.eval m = .map (some b)) (h : MI w P k b L) {i : Int} (hi : I64 i) (hx : a.eval x = .int .i64 i)
    (hK : ∀ w', MI w' P k b (dl L i) → Chg (fun k => k = b) w w' → w'.heap.size = w.heap.size → wpList P ops Q rest (a.put o.dst (.tuple #[])) w') : wpList P ops Q (o :: rest) a w := by
  refine wpList_plain hg fun K' hK' => ?_
  obtain ⟨w', hrun, h1, h2, h3⟩ := h.drop K ht hi o.type
  unfold Oper.wp
  simp [execOp, hop, resolve, invoke, builtin, hm, hx, hrun, Result.andThen]
  exact hK' _ _ (hK w' h1 h2 h3)
theorem wpList_rangeI (hg : o.guard = none) (m : Operand) (hop : o.op = Op.range t m) (K : KeyI P k) (ht : P.underlying t = some (.map k e)) (hm : a.eval m = .map (some b)) (h : MI w P k b L)
    (hK : ∀ w', RI w' P k b w.heap.size L (fun i => (lk L i).isSome) → New w w' → w'.heap.size = w.heap.size + 1 → wpList P ops Q rest (a.put o.dst (.pointer (some ⟨w.heap.size, 0, none⟩))) w') : wpList P ops Q (o :: rest) a w := by
  refine wpList_plain hg fun K' hK' => ?_
  obtain ⟨w', hrun, h1, h2, h3⟩ := h.range K ht
  unfold Oper.wp
  simp [execOp, hop, hm, hrun, Result.andThen]
  exact hK' _ _ (hK w' h1 h2 h3)
theorem wpList_nextI (hg : o.guard = none) (it : Operand) (hop : o.op = Op.next it false) (K : KeyI P k) {r : Nat} {left : Int → Bool} (hit : a.eval it = .pointer (some ⟨r, 0, none⟩)) (h : RI w P k b r L left)
    {β : Type} (mk : β → Value) (inv : ∀ i v, (i, v) ∈ L → ∃ c, v = mk c)
    (hDone : (∀ i, left i = false) → wpList P ops Q rest (a.put o.dst (.tuple #[.bool false])) w)
    (hMore : ∀ (i : Int) (c : β) (w' : World), (i, mk c) ∈ L → I64 i → left i = true → RI w' P k b r L (fun x => left x && !(x == i)) → Chg (fun k => k = r) w w' → w'.heap.size = w.heap.size → w'.rangeLeft b r < w.rangeLeft b r →
      (Instr.entry (.pointer (some ⟨r, 0, none⟩))).run P w' = .ok (.tuple #[.int .i64 i, mk c]) w' → wpList P ops Q rest (a.put o.dst (.tuple #[.bool true, .int .i64 i, mk c])) w') :
    wpList P ops Q (o :: rest) a w := by
  refine wpList_plain hg fun K' hK' => ?_
  unfold Oper.wp
  rcases h.next K o.type with ⟨hl, hrun⟩ | ⟨i, v, w', hm, hi, hl, hrun, h1, h2, h3, h4, h5⟩
  · simp [execOp, hop, hit, hrun, Result.andThen]
    exact hK' _ _ (hDone hl)
  · obtain ⟨c, rfl⟩ := inv i v hm
    simp [execOp, hop, hit, hrun, Result.andThen]
    exact hK' _ _ (hMore i c w' hm hi hl h1 h2 h3 h4 h5)
end

/-! ### sums over a map, in any order -/
/-- What has been seen. -/
def sumL (f : Ent → Nat) (left : Int → Bool) (L : List Ent) : Nat := ((L.filter (fun p => !left p.1)).map f).sum
theorem sumL_start (f : Ent → Nat) (L : List Ent) : sumL f (fun i => (lk L i).isSome) L = 0 := by
  unfold sumL
  have : L.filter (fun p => !(lk L p.1).isSome) = [] := by
    rw [List.filter_eq_nil_iff]
    intro p hp
    cases hl : lk L p.1 with
    | none => exact absurd rfl (lk_none.1 hl p hp)
    | some u => simp
  rw [this]
  rfl
theorem sumL_end {f : Ent → Nat} {left : Int → Bool} {L : List Ent} (h : ∀ i, left i = false) : sumL f left L = (L.map f).sum := by
  unfold sumL
  rw [List.filter_eq_self.2 (fun p _ => by simp [h p.1])]
theorem sumL_step {f : Ent → Nat} {left : Int → Bool} {L : List Ent} (hr : Rise L) {i : Int} {v : Value} (hm : (i, v) ∈ L) (hl : left i = true) : sumL f (fun x => left x && !(x == i)) L = sumL f left L + f (i, v) := by
  unfold sumL
  simp only [Bool.not_and, Bool.not_not]
  induction L with
  | nil => simp at hm
  | cons z r ih =>
    obtain ⟨h1, h2⟩ := List.pairwise_cons.1 hr
    rcases List.mem_cons.1 hm with rfl | hm'
    · have e : r.filter (fun p => !left p.1 || p.1 == i) = r.filter (fun p => !left p.1) := by
        refine List.filter_congr (fun p hp => ?_)
        have := h1 p hp
        have hne : (p.1 == i) = false := beq_eq_false_iff_ne.2 (by have : i < p.1 := this; omega)
        simp [hne]
      rw [List.filter_cons_of_pos (by simp), List.filter_cons_of_neg (by simp [hl]), e, List.map_cons, List.sum_cons]
      omega
    · have hz := h1 _ hm'
      have hne : (z.1 == i) = false := beq_eq_false_iff_ne.2 (by have : z.1 < i := hz; omega)
      have := ih h2 hm'
      cases hz2 : left z.1 with
      | true => rw [List.filter_cons_of_neg (by simp [hz2, hne]), List.filter_cons_of_neg (by simp [hz2]), this]
      | false => rw [List.filter_cons_of_pos (by simp [hz2]), List.filter_cons_of_pos (by simp [hz2]), List.map_cons, List.map_cons, List.sum_cons, List.sum_cons, this]; omega
end Go.Mem

namespace Go.Mem
set_option linter.unusedVariables false
open Go.RowKit

theorem setCells_row (g : Nat) (t : TypeId) (x : Nat × Nat) : ∀ (vs pre olds post : List Value) (w : World), olds.length = vs.length → w.heap[g]? = some (.cells (pre ++ olds ++ post).toArray t x) → (w.setCells g pre.length vs).heap[g]? = some (.cells (pre ++ vs ++ post).toArray t x)
  | [], pre, olds, post, w, hl, h => by
    obtain rfl : olds = [] := List.eq_nil_of_length_eq_zero (by simpa using hl)
    exact h
  | v :: r, pre, [], post, w, hl, h => by simp at hl
  | v :: r, pre, o :: os, post, w, hl, h => by
    have h1 : (w.setCell ⟨g, pre.length, none⟩ v).heap[g]? = some (.cells ((pre ++ [v]) ++ os ++ post).toArray t x) := by
      simp [World.setCell, Array.getElem?_modify, h]
    have := setCells_row g t x r (pre ++ [v]) os post _ (by simpa using hl) h1
    simp only [World.setCells]
    rw [List.length_append, List.length_singleton] at this
    rw [this]
    simp
theorem setCells_chg (g : Nat) : ∀ (vs : List Value) (o : Nat) (w : World), Chg (fun k => k = g) w (w.setCells g o vs)
  | [], _, w => Chg.refl _ w
  | v :: r, o, w => ((Chg.refl (fun k => k = g) w).setCell (p := ⟨g, o, none⟩) (fun _ => rfl) v).trans (setCells_chg g r (o + 1) _) (fun _ _ h => h)

/-- The block of a slice. -/
def blkV : Value → Option Nat
  | .slice A _ _ => blk A
  | _ => none
/-- A slice that owns its row: its elements are xs; the row's cells are of the kind C. -/
def RowV (w : World) (t : TypeId) (C : Value → Prop) (v : Value) (xs : List Value) : Prop :=
  (v = .slice none 0 0 ∧ xs = []) ∨ ∃ g cp rest, v = .slice (some ⟨g, 0, none⟩) xs.length cp ∧ cp ≤ maxLen ∧ cp = xs.length + rest.length ∧ Blk w g t (xs ++ rest).toArray ∧ ∀ u ∈ xs ++ rest, C u
section
variable {P : Program} {w w' : World} {t e : TypeId} {C : Value → Prop} {v : Value} {xs : List Value}
theorem RowV.nil (w : World) (t : TypeId) (C : Value → Prop) : RowV w t C (.slice none 0 0) [] := .inl ⟨rfl, rfl⟩
theorem RowV.shape (h : RowV w t C v xs) : ∃ A c, v = .slice A xs.length c ∧ xs.length ≤ c ∧ c ≤ maxLen := by
  rcases h with ⟨rfl, rfl⟩ | ⟨g, cp, rest, rfl, h1, h2, _⟩
  · exact ⟨none, 0, rfl, Nat.le_refl _, Nat.zero_le _⟩
  · exact ⟨_, _, rfl, by omega, h1⟩
theorem RowV.rd {A : Option Addr} {n c : Nat} (h : RowV w t C (.slice A n c) xs) : Rd w A n xs := by
  rcases h with ⟨hv, rfl⟩ | ⟨g, cp, rest, hv, h1, h2, h3, _⟩
  · injection hv with _ hn _; subst hn; exact Rd.nil w A
  · injection hv with hA hn hc
    subst hA hn hc
    refine ⟨rfl, fun _ => ⟨_, rfl, fun j u hu => ?_⟩⟩
    rw [Addr.add_lit, Nat.zero_add]
    refine h3.cell j ?_
    have hj : j < xs.length := (List.getElem?_eq_some_iff.1 hu).1
    simpa [List.getElem?_append_left hj] using hu
theorem RowV.lt (h : RowV w t C v xs) {k : Nat} (hk : blkV v = some k) : k < w.heap.size := by
  rcases h with ⟨rfl, rfl⟩ | ⟨g, cp, rest, rfl, h1, h2, h3, _⟩
  · cases hk
  · obtain rfl : g = k := by simpa [blkV, blk] using hk
    exact h3.lt
theorem RowV.chg {S : Nat → Prop} (h : RowV w t C v xs) (hc : Chg S w w') (hs : ∀ k, blkV v = some k → ¬ S k) : RowV w' t C v xs := by
  rcases h with h | ⟨g, cp, rest, rfl, h1, h2, h3, h4⟩
  · exact .inl h
  · exact .inr ⟨g, cp, rest, rfl, h1, h2, h3.chg hc (hs g rfl), h4⟩
theorem RowV.new (h : RowV w t C v xs) (hc : New w w') : RowV w' t C v xs := h.chg hc (fun _ _ hf => hf)
/-- The row's block holds only cells of the kind. -/
theorem RowV.kind (h : RowV w t C v xs) {k : Nat} (hk : blkV v = some k) : ∃ cs : List Value, Blk w k t cs.toArray ∧ ∀ u ∈ cs, C u := by
  rcases h with ⟨rfl, rfl⟩ | ⟨g, cp, rest, rfl, h1, h2, h3, h4⟩
  · cases hk
  · obtain rfl : g = k := by simpa [blkV, blk] using hk
    exact ⟨_, h3, h4⟩
theorem RowV.ne {t' : TypeId} {cs : Array Value} {g : Nat} (h : RowV w t C v xs) (hb : Blk w g t' cs) (hne : t' ≠ t) : blkV v ≠ some g := fun hk => by
  obtain ⟨cs', h1, _⟩ := h.kind hk
  unfold Blk at hb h1
  rw [hb] at h1
  injection h1 with h1
  injection h1 with h1 h2
  exact hne h2
theorem RowV.all (h : RowV w t C v xs) : ∀ u ∈ xs, C u := by
  rcases h with ⟨rfl, rfl⟩ | ⟨g, cp, rest, rfl, h1, h2, h3, h4⟩
  · simp
  · exact fun u hu => h4 u (by simp [hu])
/-- The source of an append: a slice that reads. -/
theorem src_rd {tx e' : TypeId} (hk : P.underlying tx = some (.slice e')) {A : Option Addr} {m c : Nat} {news : List Value} (hr : Rd w A m news) (h1 : ∀ u ∈ news, u.oneCell' = true) : Src P 1 tx (.slice A m c) m news w := by
  cases A with
  | none =>
    have hm : m = 0 := by
      rcases Nat.eq_zero_or_pos m with h0 | h0
      · exact h0
      · obtain ⟨ad, h, _⟩ := hr.2 h0; cases h
    subst hm
    obtain rfl : news = [] := List.eq_nil_of_length_eq_zero hr.1
    exact Src.ofNil w hk c
  | some ad =>
    refine Src.ofSlice w hk ad m c news (by rw [hr.1]; omega) (fun j u hu => ?_) h1
    have hj := (List.getElem?_eq_some_iff.1 hu).1
    obtain ⟨ad', h, hc⟩ := hr.2 (by have := hr.1; omega)
    injection h with h
    subst h
    exact hc j u hu
theorem src_str {tx : TypeId} (hk : P.underlying tx = some .string) (s : ByteArray) : Src P 1 tx (.string s) s.data.toList.length (bs s.data.toList) w := by
  have := Src.ofString (P := P) w hk s
  have e : byteCells s = bs s.data.toList := rfl
  rw [e] at this
  have e2 : s.data.toList.length = s.size := by rw [Array.length_toList]; rfl
  rw [e2]
  exact this
theorem zero_cells1 {z : Value} (hz : z.cells = #[z]) (k : Nat) : (Builtin.zeroCells z.cells k).toList = List.replicate k z := by
  rw [hz]
  apply List.ext_getElem
  · simp [Builtin.zeroCells]
  · intro i h1 h2
    simp [Builtin.zeroCells]
    rw [Nat.mod_one]
    rfl
/-- append to a slice that owns its row. -/
theorem RowV.app {z : Value} {bytes : Nat} (hE : Elem P t e z bytes) (hzc : z.cells = #[z]) (hCz : C z) (tx ty : TypeId) (h : RowV w e C v xs) {x : Value} {m : Nat} {news : List Value} (hs : Src P 1 tx x m news w) (hC : ∀ u ∈ news, C u)
    (h63 : xs.length + m ≤ 4611686018427387904) (hbytes : (xs.length + m) * bytes ≤ 140737488355328) :
    ∃ v' w', (Builtin.append_ #[t, tx] ty #[v, x]).run P w = .ok v' w' ∧ RowV w' e C v' (xs ++ news) ∧ w.grownBy w' (blkV v) ∧ (blkV v' = blkV v ∨ blkV v' = some w.heap.size ∧ New w w') ∧ RowV w' e C v xs := by
  obtain ⟨ht, ⟨i, hi, hz, hsize, hby⟩, hzs⟩ := hE
  have hnl : news.length = m := by have := hs.newsLen; omega
  have hs' : Src P i.size tx x m news w := by rw [hsize]; exact hs
  by_cases h0 : m = 0
  · subst h0
    obtain rfl : news = [] := List.eq_nil_of_length_eq_zero hnl
    obtain ⟨A, c, rfl, h1, h2⟩ := h.shape
    exact ⟨_, w, run_append_nothing w t tx ty e i ht hi A xs.length c h1 x hs', by simpa using h, World.grownBy.refl w _, .inl rfl, h⟩
  · -- a new row
    have grow : ∀ (A : Option Addr) (cp : Nat), v = .slice A xs.length cp → cp < xs.length + m → (Builtin.firstCells i.size xs.length (.slice A xs.length cp)).run P w.drew = .ok xs.toArray w.drew →
        ∃ v' w', (Builtin.append_ #[t, tx] ty #[v, x]).run P w = .ok v' w' ∧ RowV w' e C v' (xs ++ news) ∧ w.grownBy w' (blkV v) ∧ (blkV v' = blkV v ∨ blkV v' = some w.heap.size ∧ New w w') ∧ RowV w' e C v xs := by
      intro A cp hv hlt hf
      subst hv
      have hge := grownCap_ge w (xs.length + m) cp e
      have hrun := run_append_grow_src (P := P) w t tx ty e i z ht hi hz A xs.length cp xs hf x m news hs' hlt (by omega) (by rw [hby]; exact growslice_fits (by omega) hbytes)
      refine ⟨_, _, hrun, .inr ⟨w.heap.size, _, List.replicate (grownCap w (xs.length + m) cp e - (xs.length + m)) z, ?_, grownCap_le_maxLen w (xs.length + m) cp e (by unfold maxLen; omega), ?_, ?_, ?_⟩, ⟨rfl, rfl, rfl, by simp, fun k hk _ => heap_alloc_old w.drew _ hk⟩, .inr ⟨rfl, ((Chg.refl _ w).drew).alloc _⟩, h.new (((Chg.refl _ w).drew).alloc _)⟩
      · rw [List.length_append, hnl]
      · rw [List.length_append, hnl, List.length_replicate]; omega
      · have e1 : (xs ++ news ++ List.replicate (grownCap w (xs.length + m) cp e - (xs.length + m)) z).toArray = (xs ++ news).toArray ++ Builtin.zeroCells z.cells (grownCap w (xs.length + m) cp e - (xs.length + m)) := by
          apply Array.ext'
          rw [Array.toList_append, zero_cells1 hzc]
        rw [e1]
        exact Blk.new w.drew e _
      · intro u hu
        simp only [List.mem_append, List.mem_replicate] at hu
        rcases hu with (hu | hu) | ⟨_, rfl⟩
        · exact h.all u hu
        · exact hC u hu
        · exact hCz
    rcases h with ⟨rfl, rfl⟩ | ⟨g, cp, rest, rfl, h1, h2, h3, h4⟩
    · exact grow none 0 rfl (by simp; omega) (by simp [Builtin.firstCells])
    · by_cases hroom : xs.length + m ≤ cp
      · -- in place
        have hcell : ∀ j, j < news.length → (w.cell? ⟨g, 0 + xs.length * i.size + j, none⟩).isSome = true := by
          intro j hj
          have hlt : xs.length * i.size + j < (xs ++ rest).length := by rw [List.length_append, hsize]; omega
          rw [Nat.zero_add, h3.cell (xs.length * i.size + j) (u := (xs ++ rest)[xs.length * i.size + j]) (by simp)]
          rfl
        have hrun := run_append_room_src (P := P) w t tx ty e i ht hi g 0 xs.length cp x m news hs' hroom hcell (fun j hj => h3.frozen _)
        obtain ⟨r1, r2, hr, hr1⟩ : ∃ r1 r2, rest = r1 ++ r2 ∧ r1.length = news.length := ⟨rest.take news.length, rest.drop news.length, (List.take_append_drop _ _).symm, by rw [List.length_take]; omega⟩
        subst hr
        have hrow := setCells_row g e (0, 0) news xs r1 r2 w hr1 (by simpa [Blk, List.append_assoc] using h3)
        have hoff : 0 + xs.length * i.size = xs.length := by rw [hsize]; omega
        rw [hoff] at hrun
        refine ⟨_, _, hrun, .inr ⟨g, cp, r2, by rw [List.length_append, hnl], h1, ?_, hrow, fun u hu => ?_⟩, ?_, .inl rfl, .inr ⟨g, cp, news ++ r2, rfl, h1, by simp only [List.length_append] at h2 ⊢; omega, by have := hrow; rw [List.append_assoc] at this; exact this, fun u hu => by
          simp only [List.mem_append] at hu
          rcases hu with hu | hu | hu
          · exact h4 u (by simp [hu])
          · exact hC u hu
          · exact h4 u (by simp [hu])⟩⟩
        · simp only [List.length_append] at h2 ⊢; omega
        · simp only [List.mem_append] at hu
          rcases hu with (hu | hu) | hu
          · exact h4 u (by simp [hu])
          · exact hC u hu
          · exact h4 u (by simp [hu])
        · have hc := setCells_chg g news xs.length w
          exact ⟨hc.os, hc.tape, hc.output, hc.size, fun k hk hne => hc.block k hk (fun e => hne (by rw [e]; rfl))⟩
      · refine grow _ cp rfl (by omega) ?_
        have hl : xs.length = xs.length * i.size := by rw [hsize]; omega
        exact run_firstCells_some (P := P) w.drew i.size xs.length ⟨g, 0, none⟩ xs.length cp xs hl (fun j u hu => by
          rw [Addr.add_lit, Nat.zero_add]
          have hj := (List.getElem?_eq_some_iff.1 hu).1
          exact h3.drew.cell j (by simpa [List.getElem?_append_left hj] using hu))
theorem wpList_appV {z : Value} {bytes : Nat} (hE : Elem P t e z bytes) (hzc : z.cells = #[z]) (hCz : C z) {tx : TypeId} {ops : Array Oper} {rest : List Oper} {o : Oper} {a : Act} {Q : Exit → Act → World → Prop} (hgd : o.guard = none) (s y : Operand)
    (ho : o.op = .call { callee := .builtin .append, args := #[s, y], argTypes := #[t, tx] }) (hsv : a.eval s = v) (h : RowV w e C v xs) {x : Value} {m : Nat} {news : List Value} (hy : a.eval y = x) (hs : Src P 1 tx x m news w) (hC : ∀ u ∈ news, C u)
    (h63 : xs.length + m ≤ 4611686018427387904) (hbytes : (xs.length + m) * bytes ≤ 140737488355328)
    (hk : ∀ A' c' n' w', n' = (xs ++ news).length → RowV w' e C (.slice A' n' c') (xs ++ news) → w.grownBy w' (blkV v) → (blk A' = blkV v ∨ blk A' = some w.heap.size ∧ New w w') → wpList P ops Q rest (a.put o.dst (.slice A' n' c')) w') :
    wpList P ops Q (o :: rest) a w := by
  refine wpList_plain hgd fun K hK => ?_
  obtain ⟨v', w', hrun, h2, h3, h4, _⟩ := RowV.app (P := P) hE hzc hCz tx o.type h hs hC h63 hbytes
  obtain ⟨A', c', rfl, _⟩ := h2.shape
  unfold Oper.wp execOp
  simp only [ho, resolve, invoke, builtin, Sem.run_bind, Sem.run_pure, Result.andThen_ok, List.map_toArray, List.map_cons, List.map_nil, hsv, hy]
  rw [hrun]
  exact hK _ _ (hk A' c' _ w' rfl h2 h3 h4)
/-- Block k holds cells of the kind alone. -/
def KindB (w : World) (t : TypeId) (C : Value → Prop) (k : Nat) : Prop := ∃ cs : List Value, Blk w k t cs.toArray ∧ ∀ u ∈ cs, C u
theorem KindB.chg {S : Nat → Prop} {k : Nat} (h : KindB w t C k) (hc : Chg S w w') (hs : ¬ S k) : KindB w' t C k := by
  obtain ⟨cs, h1, h2⟩ := h
  exact ⟨cs, h1.chg hc hs, h2⟩
/-- A byte. -/
def IsU8 (u : Value) : Prop := ∃ x : UInt8, u = By x
theorem bs_u8 (l : List UInt8) : ∀ u ∈ bs l, IsU8 u := fun u hu => by
  obtain ⟨x, _, rfl⟩ := List.mem_map.1 hu
  exact ⟨x, rfl⟩
end
end Go.Mem

namespace Go.Mem
set_option linter.unusedVariables false
open Go.RowKit
section
variable {P : Program} {fn : Func} {p q r : Tmp} {ty ty2 ty3 : TypeId} {w : World} {g g2 g3 : Nat} {t t2 t3 : TypeId} {cs cs2 cs3 : Array Value} {d d2 : TypeDesc}
/-- The type ty is a struct or an array of that many cells. -/
def Agg (P : Program) (ty : TypeId) (n : Nat) : Prop := ∃ d, P.underlying ty = some d ∧ (match d with | .struct _ | .array _ _ => true | _ => false) = true ∧ (P.info? ty).map (·.size) = some n
theorem Agg.load (h : Agg P ty cs.size) (hb : Blk w g t cs) : (loadVar ty ⟨g, 0, none⟩).run P w = .ok (.agg cs) w := by
  obtain ⟨d, hu, hd, hi⟩ := h
  exact run_loadVar_row w g t ty cs (0, 0) d hb hu (by cases d <;> first | rfl | (simp at hd)) hi
/-- The type ty is no struct and no array. -/
def Flat (P : Program) (ty : TypeId) : Prop := ∃ d, P.underlying ty = some d ∧ (match d with | .struct _ | .array _ _ => true | _ => false) = false
theorem Flat.load {v : Value} (h : Flat P ty) (hb : Blk w g t #[v]) : (loadVar ty ⟨g, 0, none⟩).run P w = .ok v w := by
  obtain ⟨d, hu, hd⟩ := h
  have hc := hb.cell 0 (u := v) rfl
  cases d <;> simp_all [loadVar, isAgg, run_underlying hu]
theorem res_c (h : fn.results = #[.cell p ty]) (tmps : Array Value) (hp : tmps.getD p undef = .pointer (some ⟨g, 0, none⟩)) {v : Value} (hl : (loadVar ty ⟨g, 0, none⟩).run P w = .ok v w) :
    (results fn tmps).run P w = .ok v w := by
  have hp' : tmps[p]?.getD undef = .pointer (some ⟨g, 0, none⟩) := by simpa using hp
  simp [results, h, hp', asAddr, hl]
theorem res_ct (h : fn.results = #[.cell p ty, .tmp q]) (tmps : Array Value) (hp : tmps.getD p undef = .pointer (some ⟨g, 0, none⟩)) {v u : Value} (hl : (loadVar ty ⟨g, 0, none⟩).run P w = .ok v w) (hq : tmps.getD q undef = u) :
    (results fn tmps).run P w = .ok (.tuple #[v, u]) w := by
  have hp' : tmps[p]?.getD undef = .pointer (some ⟨g, 0, none⟩) := by simpa using hp
  have hq' : tmps[q]?.getD undef = u := by simpa using hq
  simp [results, h, hp', hq', asAddr, hl]
end

section
variable {w w' : World} {A : Option Addr} {n g : Nat} {t : TypeId} {cs : Array Value} {xs : List Value}
/-- A slice does not lie in a block that holds none of its values. -/
theorem Rd.apart (h : Rd w A n xs) (hb : Blk w g t cs) (hne : ∀ u ∈ xs, u ∉ cs.toList) (hn : 0 < n) : blk A ≠ some g := by
  obtain ⟨ad, u, rfl, hu, hc⟩ := h.at_ hn
  intro e
  have e : ad.block = g := by simpa [blk] using e
  have hm := List.mem_of_getElem? hu
  unfold World.cell? at hc
  rw [block_add, e] at hc
  unfold Blk at hb
  rw [hb] at hc
  simp only at hc
  split at hc
  · cases hc
  · exact hne u hm (by have := Array.mem_of_getElem? hc; simpa using this)
theorem Rd.store (h : Rd w A n xs) (hb : Blk w g t cs) (hne : ∀ u ∈ xs, u ∉ cs.toList) (hc : Chg (fun k => k = g) w w') : Rd w' A n xs := by
  rcases Nat.eq_zero_or_pos n with h0 | h0
  · subst h0; exact ⟨h.1, fun h => absurd h (by omega)⟩
  · exact h.chg hc (fun k hk _ e => h.apart hb hne h0 (by rw [hk, e]))
/-- No number among the values. -/
def NoInt (l : List Value) : Prop := ∀ k z, Value.int k z ∉ l
theorem Blk.set2 {x y : Value} (h : Blk w g t #[x, y]) (a b : Value) : Blk ((w.setCell ⟨g, 0, none⟩ a).setCell ⟨g, 1, none⟩ b) g t #[a, b] := (h.set_ 0 a).set_ 1 b
theorem Blk.set1 {x : Value} (h : Blk w g t #[x]) (a : Value) : Blk (w.setCell ⟨g, 0, none⟩ a) g t #[a] := h.set_ 0 a
theorem far1 {p : Addr} {v : Value} (h : w.cell? p = some v) (hne : p.block ≠ g) (x : Value) : (w.setCell ⟨g, 0, none⟩ x).cell? p = some v :=
  (World.cell?_of_block (Below.heap_setCell w ⟨g, 0, none⟩ x p.block hne)).trans h
theorem far2 {p : Addr} {v : Value} (h : w.cell? p = some v) (hne : p.block ≠ g) (x y : Value) : ((w.setCell ⟨g, 0, none⟩ x).setCell ⟨g, 1, none⟩ y).cell? p = some v :=
  (World.cell?_of_block (Below.heap_setCell _ ⟨g, 1, none⟩ y p.block hne)).trans (far1 h hne x)
theorem Chg.at2 (w : World) (g : Nat) (a b : Value) : Chg (fun k => k = g) w ((w.setCell ⟨g, 0, none⟩ a).setCell ⟨g, 1, none⟩ b) := ((Chg.refl (fun k => k = g) w).setCell (p := ⟨g, 0, none⟩) (fun _ => rfl) _).setCell (p := ⟨g, 1, none⟩) (fun _ => rfl) _
/-- A change of a block that is the call's own. -/
theorem Chg.owned {S : Nat → Prop} {w0 : World} (h : New w0 w) (hc : Chg S w w') (hs : ∀ k, S k → w0.heap.size ≤ k) : New w0 w' := h.trans hc (fun k hk hS => by have := hs k hS; omega)
end

/-! ### a call in a world in which blocks have just been laid -/
section
variable {P : Program} {f : Nat} {args : Array Value} {w : World} {c1 c2 c3 c4 c5 : Array Value} {t1 t2 t3 t4 t5 : TypeId} {K : Ending → World → Prop}
theorem Calls.new1 (h : ∀ W, Blk W w.heap.size t1 c1 → New w W → W.heap.size = w.heap.size + 1 → Calls P f args W K) : Calls P f args (w.alloc (.cells c1 t1)) K :=
  h _ (Blk.new _ _ _) ((Chg.refl _ w).alloc _) (by simp)
theorem Calls.new2 (h : ∀ W, Blk W w.heap.size t1 c1 → Blk W (w.heap.size + 1) t2 c2 → New w W → W.heap.size = w.heap.size + 2 → Calls P f args W K) : Calls P f args ((w.alloc (.cells c1 t1)).alloc (.cells c2 t2)) K :=
  Calls.new1 fun W hb hn hz => h W ((Blk.new w t1 c1).chg hn (fun h => h)) (by rw [World.size_alloc] at hb; exact hb) (((Chg.refl _ w).alloc _).new hn) (by rw [hz]; simp)
theorem Calls.new3 (h : ∀ W, Blk W w.heap.size t1 c1 → Blk W (w.heap.size + 1) t2 c2 → Blk W (w.heap.size + 1 + 1) t3 c3 → New w W → W.heap.size = w.heap.size + 3 → Calls P f args W K) : Calls P f args (((w.alloc (.cells c1 t1)).alloc (.cells c2 t2)).alloc (.cells c3 t3)) K :=
  Calls.new2 fun W hb hb' hn hz => h W ((Blk.new w t1 c1).chg hn (fun h => h)) (by rw [World.size_alloc] at hb; exact hb) (by rw [World.size_alloc] at hb'; exact hb') (((Chg.refl _ w).alloc _).new hn) (by rw [hz]; simp)
/-- A walk in such a world. -/
theorem Code.new1 {c : Code} {Q : Exit → Act → World → Prop} {a : Act} (h : ∀ W, Blk W w.heap.size t1 c1 → New w W → W.heap.size = w.heap.size + 1 → Code.wp P c Q a W) : Code.wp P c Q a (w.alloc (.cells c1 t1)) :=
  h _ (Blk.new _ _ _) ((Chg.refl _ w).alloc _) (by simp)
theorem Code.new2 {c : Code} {Q : Exit → Act → World → Prop} {a : Act} (h : ∀ W, Blk W w.heap.size t1 c1 → Blk W (w.heap.size + 1) t2 c2 → New w W → W.heap.size = w.heap.size + 2 → Code.wp P c Q a W) : Code.wp P c Q a ((w.alloc (.cells c1 t1)).alloc (.cells c2 t2)) :=
  Code.new1 fun W hb hn hz => h W ((Blk.new w t1 c1).chg hn (fun h => h)) (by rw [World.size_alloc] at hb; exact hb) (((Chg.refl _ w).alloc _).new hn) (by rw [hz]; simp)
theorem Code.new3 {c : Code} {Q : Exit → Act → World → Prop} {a : Act} (h : ∀ W, Blk W w.heap.size t1 c1 → Blk W (w.heap.size + 1) t2 c2 → Blk W (w.heap.size + 1 + 1) t3 c3 → New w W → W.heap.size = w.heap.size + 3 → Code.wp P c Q a W) : Code.wp P c Q a (((w.alloc (.cells c1 t1)).alloc (.cells c2 t2)).alloc (.cells c3 t3)) :=
  Code.new2 fun W hb hb' hn hz => h W ((Blk.new w t1 c1).chg hn (fun h => h)) (by rw [World.size_alloc] at hb; exact hb) (by rw [World.size_alloc] at hb'; exact hb') (((Chg.refl _ w).alloc _).new hn) (by rw [hz]; simp)
end
end Go.Mem

namespace Go.Dk
set_option linter.unusedVariables false

/-- The files: their bytes, how many of them are durable; the plan of a failure (-1: none). -/
structure S where
  room : Nat
  f : Nat → List UInt8
  firm : Nat → Nat
  off : Bool
  plan : Int

def upd {α : Type} (g : Nat → α) (i : Nat) (x : α) : Nat → α := fun j => if j = i then x else g j
theorem upd_same {α : Type} (g : Nat → α) (i : Nat) (x : α) : upd g i x i = x := if_pos rfl
theorem upd_other {α : Type} (g : Nat → α) {i j : Nat} (x : α) (h : j ≠ i) : upd g i x j = g j := if_neg h
theorem upd_self {α : Type} (g : Nat → α) (i : Nat) : upd g i (g i) = g := by
  funext j
  unfold upd
  split
  · rename_i h; rw [h]
  · rfl
theorem upd_upd {α : Type} (g : Nat → α) (i : Nat) (x y : α) : upd (upd g i x) i y = upd g i y := by
  funext j
  unfold upd
  split <;> rfl

def usedN (f : Nat → List UInt8) : Nat → Nat
  | 0 => 0
  | n + 1 => usedN f n + (f n).length
/-- The number of bytes. -/
def used (s : S) : Nat := usedN s.f 64
theorem usedN_upd_lt (f : Nat → List UInt8) {i : Nat} (l : List UInt8) : ∀ n, n ≤ i → usedN (upd f i l) n = usedN f n
  | 0, _ => rfl
  | n + 1, h => by
    unfold usedN
    rw [usedN_upd_lt f l n (by omega), upd_other f l (show n ≠ i by omega)]
theorem usedN_upd (f : Nat → List UInt8) {i : Nat} (l : List UInt8) : ∀ n, i < n → usedN (upd f i l) n + (f i).length = usedN f n + l.length
  | 0, h => by omega
  | n + 1, h => by
    unfold usedN
    by_cases hi : i = n
    · subst hi
      rw [usedN_upd_lt f l i (Nat.le_refl _), upd_same]
      omega
    · have := usedN_upd (i := i) f l n (by omega)
      rw [upd_other f l (fun e => hi e.symm)]
      omega
theorem usedN_le {f : Nat → List UInt8} {i : Nat} : ∀ n, i < n → (f i).length ≤ usedN f n
  | 0, h => by omega
  | n + 1, h => by
    unfold usedN
    by_cases hi : i = n
    · subst hi; omega
    · have h1 := usedN_le (f := f) (i := i) n (by omega)
      exact Nat.le_trans h1 (Nat.le_add_right _ _)
theorem usedN_mono {f f' : Nat → List UInt8} (h : ∀ i, (f' i).length ≤ (f i).length) : ∀ n, usedN f' n ≤ usedN f n
  | 0 => Nat.le_refl _
  | n + 1 => by
    unfold usedN
    have := usedN_mono h n
    have := h n
    omega
theorem usedN_congr {f f' : Nat → List UInt8} (h : ∀ i, (f' i).length = (f i).length) (n : Nat) : usedN f' n = usedN f n :=
  Nat.le_antisymm (usedN_mono (fun i => Nat.le_of_eq (h i)) n) (usedN_mono (fun i => Nat.le_of_eq (h i).symm) n)

def filesN (f : Nat → List UInt8) (n : Nat) : List Nat := (List.range n).filter (fun i => !(f i).isEmpty)
/-- The files that are not empty. -/
def files (s : S) : List Nat := filesN s.f 64
theorem mem_filesN {f : Nat → List UInt8} {n i : Nat} : i ∈ filesN f n ↔ i < n ∧ f i ≠ [] := by
  unfold filesN
  rw [List.mem_filter, List.mem_range]
  cases f i <;> simp
theorem mem_files {s : S} {i : Nat} : i ∈ files s ↔ i < 64 ∧ s.f i ≠ [] := mem_filesN
theorem filesN_rise (f : Nat → List UInt8) (n : Nat) : (filesN f n).Pairwise (· < ·) := List.Pairwise.filter _ List.pairwise_lt_range
theorem filesN_succ (f : Nat → List UInt8) (n : Nat) : filesN f (n + 1) = filesN f n ++ (if (f n).isEmpty then [] else [n]) := by
  unfold filesN
  rw [List.range_succ, List.filter_append]
  congr 1
  cases h : (f n).isEmpty <;> simp [h]
theorem filesN_len (f : Nat → List UInt8) : ∀ n, (filesN f n).length ≤ n
  | 0 => by simp [filesN]
  | n + 1 => by
    rw [filesN_succ, List.length_append]
    have := filesN_len f n
    split <;> simp <;> omega
/-- A file's place among those that are not empty. -/
def rank (s : S) (i : Nat) : Nat := (filesN s.f i).length
theorem filesN_pre (f : Nat → List UInt8) {i : Nat} : ∀ n, i ≤ n → ∃ r, filesN f n = filesN f i ++ r
  | 0, h => ⟨[], by rw [Nat.le_zero.1 h, List.append_nil]⟩
  | n + 1, h => by
    by_cases hi : i = n + 1
    · exact ⟨[], by rw [hi]; simp⟩
    · obtain ⟨r, hr⟩ := filesN_pre f (i := i) n (by omega)
      exact ⟨r ++ (if (f n).isEmpty then [] else [n]), by rw [filesN_succ, hr, List.append_assoc]⟩
theorem rank_at {s : S} {j i : Nat} (h : (files s)[j]? = some i) : rank s i = j := by
  have hm := mem_files.1 (List.mem_of_getElem? h)
  obtain ⟨r, hr⟩ := filesN_pre s.f (i := i + 1) 64 (by omega)
  rw [filesN_succ s.f i, if_neg (by simpa using hm.2)] at hr
  have hlt := (List.getElem?_eq_some_iff.1 h).1
  have h2 : (files s)[rank s i]? = some i := by
    unfold files rank
    rw [hr, List.append_assoc, List.getElem?_append_right (Nat.le_refl _)]
    simp
  have hlt2 := (List.getElem?_eq_some_iff.1 h2).1
  rcases Nat.lt_trichotomy (rank s i) j with hl | hl | hl
  · have := List.pairwise_iff_getElem.1 (filesN_rise s.f 64) _ _ hlt2 hlt hl
    have q1 : (filesN s.f 64)[rank s i] = i := (List.getElem?_eq_some_iff.1 h2).2
    have q2 : (filesN s.f 64)[j] = i := (List.getElem?_eq_some_iff.1 h).2
    rw [q1, q2] at this
    omega
  · exact hl
  · have := List.pairwise_iff_getElem.1 (filesN_rise s.f 64) _ _ hlt hlt2 hl
    have q1 : (filesN s.f 64)[rank s i] = i := (List.getElem?_eq_some_iff.1 h2).2
    have q2 : (filesN s.f 64)[j] = i := (List.getElem?_eq_some_iff.1 h).2
    rw [q1, q2] at this
    omega
structure WF (s : S) : Prop where
  firm : ∀ i, s.firm i ≤ (s.f i).length
  plan : -1 ≤ s.plan ∧ s.plan ≤ 9223372036854775807
  room : s.room ≤ 16777216
  used : used s ≤ s.room
  far : ∀ i, 64 ≤ i → s.f i = []
theorem WF.len {s : S} (h : WF s) (i : Nat) : (s.f i).length ≤ 16777216 := by
  by_cases hi : i < 64
  · have h1 := usedN_le (f := s.f) (i := i) 64 hi
    have h2 := h.used
    have h3 := h.room
    unfold Dk.used at h2
    omega
  · rw [h.far i (by omega)]; simp

/-- A step: the state behind it; whether the power fails during it. -/
def pstep (s : S) : S × Bool :=
  if s.plan < 0 then (s, false) else if s.plan = 0 then ({ s with plan := -1, off := true }, true) else ({ s with plan := s.plan - 1 }, false)
def put (s : S) (i : Nat) (l : List UInt8) (d : Nat) : S := { s with f := upd s.f i l, firm := upd s.firm i d }

def append (s : S) (file : Int) (l : List UInt8) : S × Int :=
  if file < 0 ∨ 64 ≤ file then (s, 1) else if s.off then (s, 24) else if s.room < used s + l.length then (s, 23) else
  let r := pstep (put s file.toNat (s.f file.toNat ++ l) (s.firm file.toNat))
  (r.1, if r.2 then 24 else 0)

def read (s : S) (file : Int) : List UInt8 × Int :=
  if file < 0 ∨ 64 ≤ file then ([], 1) else if s.off then ([], 24) else (s.f file.toNat, 0)

def firmAll (s : S) : S := { s with firm := fun i => (s.f i).length }

def sync (s : S) : S × Int :=
  if s.off then (s, 24) else if (pstep s).2 then ((pstep s).1, 24) else (firmAll (pstep s).1, 0)

theorem step_f (s : S) : (pstep s).1.f = s.f ∧ (pstep s).1.firm = s.firm ∧ (pstep s).1.room = s.room := by
  unfold pstep
  split
  · exact ⟨rfl, rfl, rfl⟩
  · split <;> exact ⟨rfl, rfl, rfl⟩

def truncate (s : S) (file size : Int) : S × Int :=
  if file < 0 ∨ 64 ≤ file ∨ size < 0 ∨ ((s.f file.toNat).length : Int) < size then (s, 1) else if s.off then (s, 24) else
  if (pstep s).2 then ((pstep s).1, 24) else (put (pstep s).1 file.toNat ((s.f file.toNat).take size.toNat) (min (s.firm file.toNat) size.toNat), 0)

def arm (s : S) (n : Int) : S := if s.off then s else { s with plan := max n (-1) }

/-- How many loose bytes of a file survive. -/
def kept (s : S) (keep : List Int) (i : Nat) : Nat :=
  match keep[rank s i]? with
  | some k => (max 0 (min k (((s.f i).length : Int) - s.firm i))).toNat
  | none => 0
/-- The first j files' bytes cut. -/
def cutTo (s : S) (keep : List Int) (j : Nat) : Nat → List UInt8 := fun i => if i ∈ (files s).take j then (s.f i).take (s.firm i + kept s keep i) else s.f i
def manyTo (s : S) (keep : List Int) (j : Nat) : Nat := (((files s).take j).map (kept s keep)).sum
def cut (s : S) (keep : List Int) : S := { s with f := cutTo s keep (files s).length }
def many (s : S) (keep : List Int) : Nat := manyTo s keep (files s).length
/-- A bit of a byte turned. -/
def turn (l : List UInt8) (p k : Nat) : List UInt8 := l.modify p (fun c => c ^^^ UInt8.ofNat (2 ^ (7 - k)))
/-- The loose bit with a number turned. -/
def invert (s : S) : List Nat → Nat → (Nat → List UInt8)
  | [], _ => s.f
  | i :: r, bit => if bit < 8 * ((s.f i).length - s.firm i) then upd s.f i (turn (s.f i) (s.firm i + bit / 8) (bit % 8)) else invert s r (bit - 8 * ((s.f i).length - s.firm i))
def turned (s : S) (keep : List Int) (flip : Int) : S :=
  if 0 ≤ flip ∧ 0 < many s keep then { cut s keep with f := invert (cut s keep) (files s) (flip.toNat % (8 * many s keep)) } else cut s keep
def crash (s : S) (keep : List Int) (flip : Int) : S := { firmAll (turned s keep flip) with off := false, plan := -1 }
def new (room : Nat) : S := ⟨room, fun _ => [], fun _ => 0, false, -1⟩

theorem used_new (room : Nat) : used (new room) = 0 := by
  have : ∀ n, usedN (fun _ => ([] : List UInt8)) n = 0 := by
    intro n
    induction n with
    | zero => rfl
    | succ n ih => unfold usedN; rw [ih]; rfl
  exact this 64
theorem WF.new {room : Nat} (h : room ≤ 16777216) : WF (Dk.new room) := ⟨fun i => Nat.le_refl _, by simp [Dk.new], h, by rw [used_new]; exact Nat.zero_le _, fun i _ => rfl⟩
theorem WF.pstep {s : S} (h : WF s) : WF (Dk.pstep s).1 := by
  obtain ⟨h1, h2, h3⟩ := step_f s
  refine ⟨fun i => by rw [h1, h2]; exact h.firm i, ?_, by rw [h3]; exact h.room, by show usedN (Dk.pstep s).1.f 64 ≤ _; rw [h1, h3]; exact h.used, fun i hi => by rw [h1]; exact h.far i hi⟩
  have := h.plan
  unfold Dk.pstep
  split
  · exact this
  · split
    · simp
    · exact ⟨by show -1 ≤ s.plan - 1; omega, by show s.plan - 1 ≤ _; omega⟩
theorem put_used {s : S} {i : Nat} (hi : i < 64) (l : List UInt8) (d : Nat) : used (put s i l d) + (s.f i).length = used s + l.length := usedN_upd s.f l 64 hi
theorem WF.put {s : S} (h : WF s) {i : Nat} (hi : i < 64) {l : List UInt8} {d : Nat} (hd : d ≤ l.length) (hu : Dk.used s + l.length ≤ s.room + (s.f i).length) : WF (Dk.put s i l d) := by
  refine ⟨fun j => ?_, h.plan, h.room, ?_, fun j hj => ?_⟩
  · show upd s.firm i d j ≤ (upd s.f i l j).length
    unfold upd
    split
    · exact hd
    · exact h.firm j
  · have := put_used (s := s) hi l d
    show Dk.used (Dk.put s i l d) ≤ s.room
    omega
  · show upd s.f i l j = []
    rw [upd_other _ _ (by omega)]
    exact h.far j hj
theorem WF.firmAll {s : S} (h : WF s) : WF (Dk.firmAll s) := ⟨fun i => Nat.le_refl _, h.plan, h.room, h.used, h.far⟩
theorem WF.append {s : S} (h : WF s) (file : Int) (l : List UInt8) : WF (Dk.append s file l).1 := by
  unfold Dk.append
  split
  · exact h
  · rename_i h1
    split
    · exact h
    · split
      · exact h
      · rename_i h2
        exact (h.put (i := file.toNat) (by omega) (by rw [List.length_append]; have := h.firm file.toNat; omega) (by rw [List.length_append]; omega)).pstep
theorem WF.sync {s : S} (h : WF s) : WF (Dk.sync s).1 := by
  unfold Dk.sync
  split
  · exact h
  · split
    · exact h.pstep
    · exact h.pstep.firmAll
theorem WF.truncate {s : S} (h : WF s) (file size : Int) : WF (Dk.truncate s file size).1 := by
  obtain ⟨h1, h2, h3⟩ := step_f s
  unfold Dk.truncate
  split
  · exact h
  · rename_i hn
    split
    · exact h
    · split
      · exact h.pstep
      · refine h.pstep.put (i := file.toNat) (by omega) (by rw [List.length_take]; have := h.firm file.toNat; omega) ?_
        have := h.pstep.used
        rw [List.length_take, h1]
        omega
theorem WF.arm {s : S} (h : WF s) {n : Int} (hn : n ≤ 9223372036854775807) : WF (Dk.arm s n) := by
  unfold Dk.arm
  split
  · exact h
  · exact ⟨h.firm, by show -1 ≤ max n (-1) ∧ max n (-1) ≤ _; omega, h.room, h.used, h.far⟩
theorem cutTo_le (s : S) (keep : List Int) (j i : Nat) : (cutTo s keep j i).length ≤ (s.f i).length := by
  unfold cutTo
  split
  · rw [List.length_take]; omega
  · exact Nat.le_refl _
theorem kept_le (s : S) (keep : List Int) (i : Nat) : kept s keep i ≤ (s.f i).length - s.firm i := by
  unfold kept
  split <;> omega
theorem WF.cutTo {s : S} (h : WF s) (keep : List Int) (j : Nat) : WF { s with f := Dk.cutTo s keep j } := by
  refine ⟨fun i => ?_, h.plan, h.room, Nat.le_trans (usedN_mono (cutTo_le s keep j) 64) h.used, fun i hi => ?_⟩
  · show s.firm i ≤ (Dk.cutTo s keep j i).length
    have := h.firm i
    unfold Dk.cutTo
    split
    · rw [List.length_take]; omega
    · exact this
  · have := cutTo_le s keep j i
    rw [h.far i hi] at this
    exact List.eq_nil_of_length_eq_zero (by simpa using this)
theorem turn_len (l : List UInt8) (p k : Nat) : (turn l p k).length = l.length := by simp [turn]
theorem invert_len (s : S) : ∀ (r : List Nat) (b i : Nat), (invert s r b i).length = (s.f i).length
  | [], _, _ => rfl
  | x :: r, b, i => by
    unfold invert
    split
    · unfold upd
      split
      · rename_i h; rw [turn_len, h]
      · rfl
    · exact invert_len s r _ i
theorem WF.invert {s : S} (h : WF s) (r : List Nat) (b : Nat) : WF { s with f := Dk.invert s r b } := by
  refine ⟨fun i => ?_, h.plan, h.room, ?_, fun i hi => ?_⟩
  · show s.firm i ≤ (Dk.invert s r b i).length
    rw [invert_len]; exact h.firm i
  · show usedN (Dk.invert s r b) 64 ≤ s.room
    rw [usedN_congr (invert_len s r b)]; exact h.used
  · have := invert_len s r b i
    rw [h.far i hi] at this
    exact List.eq_nil_of_length_eq_zero this
theorem WF.turned {s : S} (h : WF s) (keep : List Int) (flip : Int) : WF (Dk.turned s keep flip) := by
  unfold Dk.turned
  split
  · exact (h.cutTo keep _).invert _ _
  · exact h.cutTo keep _
theorem WF.crash {s : S} (h : WF s) (keep : List Int) (flip : Int) : WF (Dk.crash s keep flip) :=
  ⟨(h.turned keep flip).firmAll.firm, ⟨by simp [Dk.crash], by simp [Dk.crash]⟩, (h.turned keep flip).room, (h.turned keep flip).used, (h.turned keep flip).far⟩

theorem take_at {α : Type} {L : List α} {j : Nat} {x : α} (h : L[j]? = some x) : L.take (j + 1) = L.take j ++ [x] := by
  rw [List.take_add_one, h]
  rfl
theorem files_nodup (s : S) : (files s).Nodup := (filesN_rise s.f 64).imp (fun h => by omega)
theorem not_take {α : Type} {L : List α} (hn : L.Nodup) {j : Nat} {x : α} (h : L[j]? = some x) : x ∉ L.take j := by
  intro hm
  obtain ⟨k, hk, he⟩ := List.mem_iff_getElem.1 hm
  rw [List.length_take] at hk
  rw [List.getElem_take] at he
  obtain ⟨hj, he2⟩ := List.getElem?_eq_some_iff.1 h
  have := (List.getElem_inj (h₀ := by omega) (h₁ := hj) hn).1 (he.trans he2.symm)
  omega
/-- The first j files made durable. -/
def syncTo (s : S) (j : Nat) : S := { s with firm := fun i => if i ∈ (files s).take j then (s.f i).length else s.firm i }
theorem syncTo_zero (s : S) : syncTo s 0 = s := by unfold syncTo; simp
theorem syncTo_succ {s : S} {j i : Nat} (h : (files s)[j]? = some i) : syncTo s (j + 1) = put (syncTo s j) i (s.f i) (s.f i).length := by
  unfold syncTo put
  have e1 : upd s.f i (s.f i) = s.f := upd_self _ _
  have e2 : (fun k => if k ∈ (files s).take (j + 1) then (s.f k).length else s.firm k) = upd (fun k => if k ∈ (files s).take j then (s.f k).length else s.firm k) i (s.f i).length := by
    funext k
    rw [take_at h]
    unfold upd
    by_cases e : k = i
    · subst e; simp
    · simp [e]
  simp only [e1, e2]
theorem syncTo_all {s : S} (h : WF s) : syncTo s (files s).length = firmAll s := by
  unfold syncTo firmAll
  have : (fun i => if i ∈ (files s).take (files s).length then (s.f i).length else s.firm i) = fun i => (s.f i).length := by
    funext i
    rw [List.take_length]
    split
    · rfl
    · rename_i hn
      have h1 := h.firm i
      have : s.f i = [] := by
        by_cases hi : i < 64
        · exact Decidable.byContradiction (fun e => hn (mem_files.2 ⟨hi, e⟩))
        · exact h.far i (by omega)
      rw [this] at h1 ⊢
      simpa using h1
  rw [this]
theorem WF.syncTo {s : S} (h : WF s) (j : Nat) : WF (syncTo s j) := ⟨fun i => by
  show (if i ∈ (files s).take j then (s.f i).length else s.firm i) ≤ (s.f i).length
  split
  · exact Nat.le_refl _
  · exact h.firm i, h.plan, h.room, h.used, h.far⟩
theorem sync_off {s : S} (h : s.off = true) : sync s = (s, 24) := if_pos h
theorem sync_down {s : S} (h : s.off = false) (h2 : (pstep s).2 = true) : sync s = ((pstep s).1, 24) := by unfold sync; rw [if_neg (by rw [h]; simp), if_pos h2]
theorem sync_ok {s : S} (h : s.off = false) (h2 : (pstep s).2 = false) : sync s = (firmAll (pstep s).1, 0) := by unfold sync; rw [if_neg (by rw [h]; simp), if_neg (by rw [h2]; simp)]

/-- The first j files cut. -/
def cutS (s : S) (keep : List Int) (j : Nat) : S := { s with f := cutTo s keep j }
theorem cutS_zero (s : S) (keep : List Int) : cutS s keep 0 = s := by unfold cutS cutTo; simp
theorem cutS_at {s : S} {keep : List Int} {j i : Nat} (h : (files s)[j]? = some i) : (cutS s keep j).f i = s.f i := by
  show cutTo s keep j i = _
  unfold cutTo
  rw [if_neg (not_take (files_nodup s) h)]
theorem cutS_succ {s : S} {keep : List Int} {j i : Nat} (h : (files s)[j]? = some i) : cutS s keep (j + 1) = put (cutS s keep j) i ((s.f i).take (s.firm i + kept s keep i)) (s.firm i) := by
  unfold cutS put
  have e1 : upd s.firm i (s.firm i) = s.firm := upd_self _ _
  have e2 : cutTo s keep (j + 1) = upd (cutTo s keep j) i ((s.f i).take (s.firm i + kept s keep i)) := by
    funext k
    unfold cutTo upd
    rw [take_at h]
    by_cases e : k = i
    · subst e; simp
    · simp [e]
  simp only [e1, e2]
theorem manyTo_zero (s : S) (keep : List Int) : manyTo s keep 0 = 0 := by simp [manyTo]
theorem manyTo_succ {s : S} {keep : List Int} {j i : Nat} (h : (files s)[j]? = some i) : manyTo s keep (j + 1) = manyTo s keep j + kept s keep i := by
  unfold manyTo
  rw [take_at h, List.map_append, List.sum_append]
  simp
theorem kept_at {s : S} {keep : List Int} {j i : Nat} (h : (files s)[j]? = some i) : kept s keep i = match keep[j]? with
    | some k => (max 0 (min k (((s.f i).length : Int) - s.firm i))).toNat
    | none => 0 := by
  unfold kept
  rw [rank_at h]
theorem sum_len (f : Nat → List UInt8) : ∀ n, ((filesN f n).map (fun i => (f i).length)).sum = usedN f n
  | 0 => rfl
  | n + 1 => by
    rw [filesN_succ, List.map_append, List.sum_append, sum_len f n]
    show _ = usedN f n + (f n).length
    cases h : f n with
    | nil => simp
    | cons a r => simp [h]
theorem sum_take_le (g h : Nat → Nat) (hg : ∀ i, g i ≤ h i) : ∀ (L : List Nat) (j : Nat), ((L.take j).map g).sum ≤ (L.map h).sum
  | [], j => by simp
  | a :: r, 0 => by simp
  | a :: r, j + 1 => by
    have := sum_take_le g h hg r j
    have := hg a
    simp only [List.take_succ_cons, List.map_cons, List.sum_cons]
    omega
theorem manyTo_le (s : S) (keep : List Int) (j : Nat) : manyTo s keep j ≤ used s := by
  unfold manyTo used
  rw [← sum_len]
  exact sum_take_le _ _ (fun i => Nat.le_trans (kept_le s keep i) (Nat.sub_le _ _)) _ _
theorem WF.cutS {s : S} (h : WF s) (keep : List Int) (j : Nat) : WF (cutS s keep j) := h.cutTo keep j
theorem crash_eq (s : S) (keep : List Int) (flip : Int) : crash s keep flip = { firmAll (turned s keep flip) with off := false, plan := -1 } := rfl

/-- The files that are not left. -/
def part (s : S) (left : Int → Bool) : S := { s with f := fun i => if left (i : Int) then [] else s.f i, firm := fun i => if left (i : Int) then 0 else s.firm i }
theorem part_all {s : S} {left : Int → Bool} (h : ∀ i, left i = false) : part s left = s := by
  unfold part
  simp [h]
theorem part_none {s : S} (hw : WF s) {left : Int → Bool} (h : ∀ i : Nat, i < 64 → s.f i ≠ [] → left (i : Int) = true) (i : Nat) : (part s left).f i = [] := by
  show (if left (i : Int) then [] else s.f i) = []
  split
  · rfl
  · rename_i hn
    by_cases hi : i < 64
    · exact Decidable.byContradiction (fun e => hn (h i hi e))
    · exact hw.far i (by omega)
theorem part_step {s : S} {left : Int → Bool} {k : Nat} (hl : left (k : Int) = true) : part s (fun x => left x && !(x == (k : Int))) = put (part s left) k (s.f k) (s.firm k) := by
  unfold part put
  have e1 : (fun i : Nat => if (left (i : Int) && !((i : Int) == (k : Int))) = true then ([] : List UInt8) else s.f i) = upd (fun i : Nat => if left (i : Int) = true then [] else s.f i) k (s.f k) := by
    funext i
    unfold upd
    by_cases e : i = k
    · subst e; simp
    · have : ((i : Int) == (k : Int)) = false := by simp; omega
      simp [this, e]
  have e2 : (fun i : Nat => if (left (i : Int) && !((i : Int) == (k : Int))) = true then 0 else s.firm i) = upd (fun i : Nat => if left (i : Int) = true then 0 else s.firm i) k (s.firm k) := by
    funext i
    unfold upd
    by_cases e : i = k
    · subst e; simp
    · have : ((i : Int) == (k : Int)) = false := by simp; omega
      simp [this, e]
  simp only [e1, e2]
theorem WF.part {s : S} (h : WF s) (left : Int → Bool) : WF (part s left) := by
  refine ⟨fun i => ?_, h.plan, h.room, Nat.le_trans (usedN_mono (fun i => ?_) 64) h.used, fun i hi => ?_⟩
  · show (if left (i : Int) then 0 else s.firm i) ≤ (if left (i : Int) then [] else s.f i).length
    split
    · exact Nat.zero_le _
    · exact h.firm i
  · show (if left (i : Int) then [] else s.f i).length ≤ (s.f i).length
    split
    · exact Nat.zero_le _
    · exact Nat.le_refl _
  · show (if left (i : Int) then [] else s.f i) = []
    split
    · rfl
    · exact h.far i hi
end Go.Dk

namespace Go.Proofs.YtblcaeoeeepajaaGreatDoor
open Go.RowKit Go.Mem

theorem elemBytes : Elem Tryz.prog 33 5 (.int .u8 0) 1 := Elem.mk' Tryz.underlying33 (by kernel_rfl) rfl
theorem elemInts : Elem Tryz.prog 22 3 (.int .i64 0) 8 := Elem.mk' Tryz.underlying22 (by kernel_rfl) rfl

/-- refuterref01.Around on plain numbers. -/
def aroundI (a b : Int) : Int := if a < 0 then (-(a + 1)) % b else a % b
theorem aroundI_neg {a b : Int} (h : a < 0) : aroundI a b = (-(a + 1)).tmod b := by
  unfold aroundI; rw [if_pos h, Int.tmod_eq_emod_of_nonneg (by omega)]
theorem aroundI_pos {a b : Int} (h : 0 ≤ a) : aroundI a b = a % b := by unfold aroundI; rw [if_neg (by omega)]
theorem aroundI_range (a b : Int) (hb : 1 ≤ b) : 0 ≤ aroundI a b ∧ aroundI a b < b := by
  unfold aroundI
  split
  · exact ⟨Int.emod_nonneg _ (by omega), Int.emod_lt_of_pos _ (by omega)⟩
  · exact ⟨Int.emod_nonneg _ (by omega), Int.emod_lt_of_pos _ (by omega)⟩

theorem ret_int {k : IntKind} {a b : Int} (h : a = b) : Ending.returned (.int k a) = .returned (.int k b) := by rw [h]

set_option maxHeartbeats 400000 in
theorem around_any (a b : Int) (w : World) (ha : -9223372036854775808 ≤ a) (ha2 : a ≤ 9223372036854775807) (hb : 1 ≤ b) (hb2 : b ≤ 9223372036854775807) :
    Calls Tryz.prog 11 #[.int .i64 a, .int .i64 b] w fun e w' => e = .returned (.int .i64 (aroundI a b)) ∧ w = w' := by
  by_cases h : a < 0
  · go_enter Tryz.func11, Tryz.ntmps11
    go_wp2
    go_ret
    exact ⟨ret_int (by rw [aroundI_neg h, Int.neg_tmod]), rfl⟩
  · go_enter Tryz.func11, Tryz.ntmps11
    go_wp2
    go_ret
    exact ⟨ret_int (aroundI_pos h).symm, rfl⟩

theorem same_step {a b : List UInt8} {k : Nat} {x y : UInt8} (h : a.take k = b.take k) (hx : a[k]? = some x) (hy : b[k]? = some y) (e : x = y) : a.take (k + 1) = b.take (k + 1) := by
  rw [List.take_add_one, List.take_add_one, h, hx, hy, e]

set_option maxHeartbeats 1000000 in
theorem sameBytes_q (A B : Option Addr) (n m c d : Nat) (la lb : List UInt8) (w : World) (ha : Rd w A n (bs la)) (hb : Rd w B m (bs lb)) (hn : n ≤ 9223372036854775807) (hm : m ≤ 9223372036854775807) :
    Calls Tryz.prog 57 #[.slice A n c, .slice B m d] w fun e w' => e = .returned (.bool (decide (la = lb))) ∧ ∃ m, w' = w.drewN m := by
  have hla : la.length = n := by simpa using ha.len
  have hlb : lb.length = m := by simpa using hb.len
  by_cases h : n = m
  · subst h
    have HA := Lib.hid hla
    have HB := Lib.hid hlb
    clear hla hlb
    go_enter Tryz.func57, Tryz.ntmps57
    go_wp2
    go_loopw [5] (fun i wr => ∃ k : Nat, k ≤ n ∧ i = .int .i64 k ∧ la.take k = lb.take k ∧ ∃ q, wr = w.drewN q) (fun i _ => n - (intOf i).toNat)
    case atStart => exact ⟨0, Nat.zero_le _, rfl, rfl, 0, rfl⟩
    case round =>
      obtain ⟨k, hk, rfl, htake, hnew⟩ := hrel
      have HT := Lib.hid htake
      obtain ⟨q, hq⟩ := hnew
      have hnew : New w wr := by rw [hq]; exact (Chg.refl _ w).drewN q
      have HQ := Lib.hid hq
      clear htake hq
      by_cases hlt : k < n
      · obtain ⟨ad, u, rfl, hu, hcu⟩ := (ha.new hnew).at_ hlt
        obtain ⟨bd, v, rfl, hv, hcv⟩ := (hb.new hnew).at_ hlt
        obtain ⟨x, hx, rfl⟩ := bs_at hu
        obtain ⟨y, hy, rfl⟩ := bs_at hv
        have HX := Lib.hid hx
        have HY := Lib.hid hy
        clear hu hv hx hy ha hb
        go_wp2
        go_quiet (fail)
        go_wp2
        · have hne : ((x.toNat : Int) != (y.toNat : Int)) = true := by assumption
          have e : la ≠ lb := fun e => by
            have h1 := HX.out
            rw [e, HY.out] at h1
            injection h1 with h1
            subst h1
            simp at hne
          go_ret
          exact ⟨by simp [e], _, by rw [HQ.out, World.drewN_drewN]⟩
        · have heq : ((x.toNat : Int) != (y.toNat : Int)) = false := by assumption
          have e : x = y := by
            have h1 : (x.toNat : Int) = y.toNat := by simpa using heq
            exact UInt8.toNat_inj.1 (by omega)
          go_roundw
          case rel => exact ⟨k + 1, by omega, by go_num, same_step HT.out HX.out HY.out e, _, by rw [HQ.out, World.drewN_drewN]⟩
          case measure => simp [intOf]; omega
      · go_wp2
        go_ret
        have hk' : k = n := by omega
        subst hk'
        have e : la = lb := by
          have := HT.out
          rwa [List.take_of_length_le (by rw [HA.out]; omega), List.take_of_length_le (by rw [HB.out]; omega)] at this
        exact ⟨by simp [e], _, HQ.out⟩
  · have e : la ≠ lb := fun e => h (by rw [← hla, ← hlb, e])
    have hd : decide (la = lb) = false := by simpa using e
    have H := Lib.hid hd
    clear hla hlb hd
    go_enter Tryz.func57, Tryz.ntmps57
    go_wp2
    go_ret
    rw [H.out]
    exact ⟨by simp, 0, rfl⟩

theorem sameBytes_any (A B : Option Addr) (n m c d : Nat) (la lb : List UInt8) (w : World) (ha : Rd w A n (bs la)) (hb : Rd w B m (bs lb)) (hn : n ≤ 9223372036854775807) (hm : m ≤ 9223372036854775807) :
    Calls Tryz.prog 57 #[.slice A n c, .slice B m d] w fun e w' => e = .returned (.bool (decide (la = lb))) ∧ New w w' :=
  (sameBytes_q A B n m c d la lb w ha hb hn hm).mono fun _ _ ⟨h1, q, h2⟩ => ⟨h1, by rw [h2]; exact (Chg.refl _ w).drewN q⟩

end Go.Proofs.YtblcaeoeeepajaaGreatDoor

namespace Go.Proofs.YtblcaeoeeepajaaGreatDoor
set_option linter.unusedVariables false
open Go.RowKit Go.Mem Go.Dk

/-! ### rows -/
theorem RowV.pre {w : World} {t : TypeId} {C : Value → Prop} {A : Option Addr} {n c : Nat} {xs : List Value} (h : RowV w t C (.slice A n c) xs) {k : Nat} (hk : k ≤ xs.length) : RowV w t C (.slice A k c) (xs.take k) := by
  rcases h with ⟨hv, rfl⟩ | ⟨g, cp, rest, hv, h1, h2, h3, h4⟩
  · injection hv with hA hn hc
    subst hA hn hc
    obtain rfl : k = 0 := by simpa using hk
    exact .inl ⟨rfl, rfl⟩
  · injection hv with hA hn hc
    subst hA hn hc
    have hl : (xs.take k).length = k := by rw [List.length_take]; omega
    refine .inr ⟨g, c, xs.drop k ++ rest, by rw [hl], h1, ?_, ?_, ?_⟩
    · rw [hl, List.length_append, List.length_drop]; omega
    · rw [← List.append_assoc, List.take_append_drop]; exact h3
    · rw [← List.append_assoc, List.take_append_drop]; exact h4
theorem RowV.st {w : World} {t : TypeId} {C : Value → Prop} {g n c : Nat} {xs : List Value} (h : RowV w t C (.slice (some ⟨g, 0, none⟩) n c) xs) {j : Nat} (hj : j < xs.length) {u : Value} (hu : C u) : RowV (w.setCell ⟨g, j, none⟩ u) t C (.slice (some ⟨g, 0, none⟩) n c) (xs.set j u) := by
  rcases h with ⟨hv, rfl⟩ | ⟨g', cp, rest, hv, h1, h2, h3, h4⟩
  · cases hv
  · injection hv with hA hn hc
    injection hA with hA
    injection hA with hA
    subst hA hn hc
    refine .inr ⟨g, c, rest, by rw [List.length_set], h1, by rw [List.length_set]; exact h2, ?_, ?_⟩
    · have := h3.set_ j u
      rwa [List.setIfInBounds_toArray, List.set_append_left _ _ hj] at this
    · intro v hv
      rcases List.mem_append.1 hv with hv | hv
      · rcases List.mem_or_eq_of_mem_set hv with hv | rfl
        · exact h4 v (by simp [hv])
        · exact hu
      · exact h4 v (by simp [hv])
theorem RowV.full {w : World} {t : TypeId} {C : Value → Prop} {v : Value} {xs : List Value} (h : RowV w t C v xs) (hx : xs ≠ []) : ∃ g c, v = .slice (some ⟨g, 0, none⟩) xs.length c := by
  rcases h with ⟨rfl, rfl⟩ | ⟨g, cp, rest, rfl, _⟩
  · exact absurd rfl hx
  · exact ⟨g, cp, rfl⟩

/-! ### the map of the files -/
/-- A file's content. -/
def ctV (v : Value) (d : Nat) : Value := .agg #[v, .int .i64 (d : Int)]
def entL (V : Nat → Value) (s : S) : List Ent := (files s).map (fun i : Nat => ((i : Int), ctV (V i) (s.firm i)))
theorem entL_rise (V : Nat → Value) (s : S) : Rise (entL V s) := by
  unfold Rise entL
  rw [List.pairwise_map]
  exact (filesN_rise s.f 64).imp (fun {a b} h => by show (a : Int) < (b : Int); omega)
theorem mem_entL {V : Nat → Value} {s : S} {p : Ent} : p ∈ entL V s ↔ ∃ i, i < 64 ∧ s.f i ≠ [] ∧ p = ((i : Int), ctV (V i) (s.firm i)) := by
  unfold entL
  rw [List.mem_map]
  constructor
  · rintro ⟨i, hi, rfl⟩
    exact ⟨i, (mem_files.1 hi).1, (mem_files.1 hi).2, rfl⟩
  · rintro ⟨i, h1, h2, rfl⟩
    exact ⟨i, mem_files.2 ⟨h1, h2⟩, rfl⟩
theorem lk_entL (V : Nat → Value) (s : S) (k : Int) : lk (entL V s) k = if 0 ≤ k ∧ k < 64 ∧ s.f k.toNat ≠ [] then some (ctV (V k.toNat) (s.firm k.toNat)) else none := by
  split
  · rename_i h
    refine (lk_some (entL_rise V s)).2 (mem_entL.2 ⟨k.toNat, by omega, h.2.2, ?_⟩)
    rw [Int.toNat_of_nonneg h.1]
  · rename_i h
    refine lk_none.2 (fun p hp e => ?_)
    obtain ⟨i, h1, h2, rfl⟩ := mem_entL.1 hp
    have e : (i : Int) = k := e
    subst e
    exact h ⟨by omega, by omega, by simpa using h2⟩
theorem entL_len (V : Nat → Value) (s : S) : (entL V s).length ≤ 64 := by
  unfold entL
  rw [List.length_map]
  exact filesN_len s.f 64
theorem entL_put {V : Nat → Value} {s : S} {i d : Nat} {l : List UInt8} {v : Value} (hi : i < 64) (hl : l ≠ []) : pt (entL V s) (i : Int) (ctV v d) = entL (upd V i v) (put s i l d) := by
  refine ((entL_rise V s).pt _ _).ext_lk (entL_rise _ _) (fun k => ?_)
  rw [lk_pt (entL_rise V s), lk_entL, lk_entL]
  by_cases hk : k = (i : Int)
  · subst hk
    rw [if_pos rfl, if_pos ⟨by omega, by omega, by simpa [put, upd_same] using hl⟩]
    simp [put, upd_same]
  · rw [if_neg hk]
    by_cases hn : 0 ≤ k
    · have hne : k.toNat ≠ i := by omega
      simp only [put, upd_other _ _ hne]
    · rw [if_neg (fun h => hn h.1), if_neg (fun h => hn h.1)]
theorem entL_del {V : Nat → Value} {s : S} {i d : Nat} {v : Value} (hi : i < 64) : dl (entL V s) (i : Int) = entL (upd V i v) (put s i [] d) := by
  refine ((entL_rise V s).dl _).ext_lk (entL_rise _ _) (fun k => ?_)
  rw [lk_dl (entL_rise V s), lk_entL, lk_entL]
  by_cases hk : k = (i : Int)
  · subst hk
    rw [if_pos rfl, if_neg (fun h => h.2.2 (by simp [put, upd_same]))]
  · rw [if_neg hk]
    by_cases hn : 0 ≤ k
    · have hne : k.toNat ≠ i := by omega
      simp only [put, upd_other _ _ hne]
    · rw [if_neg (fun h => hn h.1), if_neg (fun h => hn h.1)]

/-! ### a disk in memory -/
def dCells (s : S) (m : Nat) : Array Value := #[.int .i64 (s.room : Int), .map (some m), .bool s.off, .bool (decide (0 ≤ s.plan)), .int .i64 (max s.plan 0)]
/-- Block g is a disk whose map is m; the files' slices are V. -/
structure DC (w : World) (g m : Nat) (V : Nat → Value) (s : S) : Prop where
  blk : Blk w g 66 (dCells s m)
  map : MI w Tryz.prog 3 m (entL V s)
  nil : ∀ i, s.f i = [] → V i = .slice none 0 0 ∧ s.firm i = 0
structure DI (w : World) (g m : Nat) (V : Nat → Value) (s : S) : Prop where
  core : DC w g m V s
  rows : ∀ i, RowV w 5 IsU8 (V i) (bs (s.f i))
  apart : ∀ i j k, blkV (V i) = some k → blkV (V j) = some k → i = j
  wf : WF s
/-- Its blocks. -/
def ownD (g m : Nat) (V : Nat → Value) (k : Nat) : Prop := k = g ∨ k = m ∨ ∃ i, blkV (V i) = some k
section
variable {w w' : World} {g m : Nat} {V : Nat → Value} {s : S}
theorem DC.ne (h : DC w g m V s) : g ≠ m := by
  intro e
  subst e
  obtain ⟨_, es, clock, hb, _⟩ := h.map
  have := h.blk
  unfold Blk at this
  rw [this] at hb
  cases hb
theorem DC.chg {T : Nat → Prop} (h : DC w g m V s) (hc : Chg T w w') (hg : ¬ T g) (hm : ¬ T m) : DC w' g m V s := ⟨h.blk.chg hc hg, h.map.chg hc hm, h.nil⟩
theorem DC.row_ne (h : DC w g m V s) {v : Value} {xs : List Value} (hr : RowV w 5 IsU8 v xs) {k : Nat} (hk : blkV v = some k) : k ≠ g ∧ k ≠ m := by
  obtain ⟨cs, h1, _⟩ := hr.kind hk
  refine ⟨fun e => hr.ne h.blk (by decide) (by rw [hk, e]), fun e => ?_⟩
  subst e
  obtain ⟨_, es, clock, hb, _⟩ := h.map
  unfold Blk at h1
  rw [h1] at hb
  cases hb
theorem DI.chg {T : Nat → Prop} (h : DI w g m V s) (hc : Chg T w w') (ht : ∀ k, ownD g m V k → ¬ T k) : DI w' g m V s :=
  ⟨h.core.chg hc (ht g (.inl rfl)) (ht m (.inr (.inl rfl))), fun i => (h.rows i).chg hc (fun k hk => ht k (.inr (.inr ⟨i, hk⟩))), h.apart, h.wf⟩
theorem DI.new (h : DI w g m V s) (hc : New w w') : DI w' g m V s := h.chg hc (fun _ _ hf => hf)
theorem DI.lt (h : DI w g m V s) {k : Nat} (hk : ownD g m V k) : k < w.heap.size := by
  rcases hk with rfl | rfl | ⟨i, hi⟩
  · exact h.core.blk.lt
  · exact h.core.map.lt
  · exact (h.rows i).lt hi
/-- What a lookup of a file finds. -/
theorem DC.lk (h : DC w g m V s) {i : Nat} (hi : i < 64) : (lk (entL V s) (i : Int)).getD (.agg #[.slice none 0 0, .int .i64 0]) = ctV (V i) (s.firm i) := by
  rw [lk_entL]
  by_cases hf : s.f i = []
  · rw [if_neg (fun hn => hn.2.2 (by simpa using hf)), (h.nil i hf).1, (h.nil i hf).2]
    rfl
  · rw [if_pos ⟨by omega, by omega, by simpa using hf⟩]
    simp
end
theorem keyInt : KeyI Tryz.prog 3 := Tryz.underlying3

set_option maxHeartbeats 1000000 in
set_option maxRecDepth 100000 in
theorem dFails_any (g m : Nat) (s : S) (w : World) (hb : Blk w g 66 (dCells s m)) (hp : -1 ≤ s.plan ∧ s.plan ≤ 9223372036854775807) :
    Calls Tryz.prog 44 #[.pointer (some ⟨g, 0, none⟩)] w fun e w' => e = .returned (.bool (pstep s).2) ∧
      Blk w' g 66 (dCells (pstep s).1 m) ∧ Chg (fun k => k = g) w w' := by
  have hc2 := hb.cell 2 (u := .bool s.off) rfl
  have hc3 := hb.cell 3 (u := .bool (decide (0 ≤ s.plan))) rfl
  have hc4 := hb.cell 4 (u := .int .i64 (max s.plan 0)) rfl
  have hf2 := hb.frozen 2
  have hf3 := hb.frozen 3
  have hf4 := hb.frozen 4
  have HB := Lib.hid hb
  clear hb
  by_cases h1 : s.plan < 0
  · rw [show pstep s = (s, false) from if_pos h1]
    rw [show decide (0 ≤ s.plan) = false by simp; omega] at hc3
    have H1 := Lib.hid h1
    clear h1 hp
    go_enter Tryz.func44, Tryz.ntmps44
    go_wp2
    go_ret
    exact ⟨rfl, HB.out, Chg.refl _ w⟩
  · rw [show decide (0 ≤ s.plan) = true by simp; omega] at hc3
    obtain ⟨p, hpl⟩ : ∃ p : Int, max s.plan 0 = p := ⟨_, rfl⟩
    rw [hpl] at hc4
    by_cases h2 : s.plan = 0
    · have hst : pstep s = ({ s with plan := -1, off := true }, true) := by unfold pstep; rw [if_neg h1, if_pos h2]
      rw [hst]
      obtain rfl : p = 0 := by omega
      have H1 := Lib.hid hpl
      have H2 := Lib.hid h2
      clear h1 hp hpl h2 hst
      go_enter Tryz.func44, Tryz.ntmps44
      go_wp2
      go_ret
      refine ⟨rfl, ?_, ?_⟩
      · have := (HB.out.set_ 2 (.bool true)).set_ 3 (.bool false)
        simpa [dCells, H1.out, show max (-1 : Int) 0 = 0 by decide] using this
      · exact ((Chg.refl (fun k => k = g) w).setCell (p := ⟨g, 2, none⟩) (fun _ => rfl) _).setCell (p := ⟨g, 3, none⟩) (fun _ => rfl) _
    · have hst : pstep s = ({ s with plan := s.plan - 1 }, false) := by unfold pstep; rw [if_neg h1, if_neg h2]
      rw [hst]
      have hp1 : 0 < p := by omega
      have hp2 : p ≤ 9223372036854775807 := by omega
      have hw : IntKind.i64.wrap (p - 1) = p - 1 := IntWalk.i64_in _ (by omega)
      have hp3 : s.plan = p := by omega
      have H1 := Lib.hid hp3
      have H0 := Lib.hid (And.intro h1 hpl)
      clear h1 hp hpl h2 hst hp3
      go_enter Tryz.func44, Tryz.ntmps44
      go_wp2
      go_ret
      refine ⟨rfl, ?_, ?_⟩
      · have := HB.out.set_ 4 (.int .i64 (p - 1))
        have e1 : max (s.plan - 1) 0 = p - 1 := by rw [H1.out]; omega
        have e2 : decide (1 ≤ s.plan) = true := by rw [H1.out]; simp; omega
        have e3 : decide (0 ≤ s.plan) = true := by rw [H1.out]; simp; omega
        simpa [dCells, e1, e2, e3] using this
      · exact (Chg.refl (fun k => k = g) w).setCell (p := ⟨g, 4, none⟩) (fun _ => rfl) _

set_option maxHeartbeats 1000000 in
set_option maxRecDepth 100000 in
theorem dArm_any (g m : Nat) (s : S) (n : Int) (hn : -9223372036854775808 ≤ n ∧ n ≤ 9223372036854775807) (w : World) (hb : Blk w g 66 (dCells s m)) :
    Calls Tryz.prog 27 #[.pointer (some ⟨g, 0, none⟩), .int .i64 n] w fun e w' => e = .returned (.tuple #[]) ∧
      Blk w' g 66 (dCells (arm s n) m) ∧ Chg (fun k => k = g) w w' := by
  have hc2 := hb.cell 2 (u := .bool s.off) rfl
  have hf3 := hb.frozen 3
  have hf4 := hb.frozen 4
  have hc3 := hb.cell 3 (u := .bool (decide (0 ≤ s.plan))) rfl
  have hc4 := hb.cell 4 (u := .int .i64 (max s.plan 0)) rfl
  have HB := Lib.hid hb
  clear hb
  cases ho : s.off with
  | true =>
    rw [ho] at hc2
    rw [show arm s n = s from if_pos ho]
    have HO := Lib.hid ho
    clear ho
    go_enter Tryz.func27, Tryz.ntmps27
    go_wp2
    refine bodyPost_ret (results_none rfl _ _ _) rfl ?_
    exact ⟨rfl, HB.out, Chg.refl _ w⟩
  | false =>
    rw [ho] at hc2
    have ha : arm s n = { s with plan := max n (-1) } := if_neg (by rw [ho]; simp)
    rw [ha]
    have HO := Lib.hid ho
    clear ho ha
    go_enter Tryz.func27, Tryz.ntmps27
    go_wp2
    · have h : n < 0 := by assumption
      go_end0
      refine ⟨rfl, ?_, ?_⟩
      · have := (HB.out.set_ 3 (.bool (decide (0 ≤ n)))).set_ 4 (.int .i64 0)
        have e1 : max (max n (-1)) 0 = 0 := by omega
        have e2 : decide (0 ≤ max n (-1)) = decide (0 ≤ n) := by simp; omega
        simpa [dCells, e1, e2, HO.out] using this
      · exact ((Chg.refl (fun k => k = g) w).setCell (p := ⟨g, 3, none⟩) (fun _ => rfl) _).setCell (p := ⟨g, 4, none⟩) (fun _ => rfl) _
    · have h : 0 ≤ n := by assumption
      go_end0
      refine ⟨rfl, ?_, ?_⟩
      · have := (HB.out.set_ 3 (.bool true)).set_ 4 (.int .i64 n)
        have e1 : max (max n (-1)) 0 = n := by omega
        have e2 : decide (0 ≤ max n (-1)) = true := by simp; omega
        simpa [dCells, e1, e2, h, HO.out] using this
      · exact ((Chg.refl (fun k => k = g) w).setCell (p := ⟨g, 3, none⟩) (fun _ => rfl) _).setCell (p := ⟨g, 4, none⟩) (fun _ => rfl) _
end Go.Proofs.YtblcaeoeeepajaaGreatDoor

namespace Go.Proofs.YtblcaeoeeepajaaGreatDoor
set_option linter.unusedVariables false
open Go.RowKit Go.Mem Go.Dk

theorem i64_file {i : Nat} (hi : i < 64) : Go.Mem.I64 (i : Int) := ⟨by omega, by omega⟩
theorem zeroCt (w : World) : (zeroValue 91).run Tryz.prog w = .ok (.agg #[.slice none 0 0, .int .i64 0]) w := by kernel_rfl

theorem DC.put0 {w w1 : World} {g m : Nat} {V : Nat → Value} {s : S} (h : DC w g m V s) {i : Nat} (hi : i < 64) (hm : MI w1 Tryz.prog 3 m (dl (entL V s) (i : Int))) (hc : Chg (fun k => k = m) w w1) : DC w1 g m (upd V i (.slice none 0 0)) (put s i [] 0) := by
  refine ⟨h.blk.chg hc h.ne, by rw [← entL_del hi]; exact hm, fun j hj => ?_⟩
  by_cases e : j = i
  · subst e
    exact ⟨upd_same _ _ _, upd_same _ _ _⟩
  · have := h.nil j (by simpa [put, upd_other _ _ e] using hj)
    simpa [put, upd_other _ _ e] using this
theorem DC.put1 {w w1 : World} {g m : Nat} {V : Nat → Value} {s : S} (h : DC w g m V s) {i d : Nat} {l : List UInt8} {v : Value} (hi : i < 64) (hl : l ≠ []) (hm : MI w1 Tryz.prog 3 m (pt (entL V s) (i : Int) (ctV v d))) (hc : Chg (fun k => k = m) w w1) : DC w1 g m (upd V i v) (put s i l d) := by
  refine ⟨h.blk.chg hc h.ne, by rw [← entL_put hi hl]; exact hm, fun j hj => ?_⟩
  by_cases e : j = i
  · subst e
    exact absurd (by simpa [put, upd_same] using hj) hl
  · have := h.nil j (by simpa [put, upd_other _ _ e] using hj)
    simpa [put, upd_other _ _ e] using this

set_option maxHeartbeats 1000000 in
set_option maxRecDepth 100000 in
theorem dPut_any (g m : Nat) (V : Nat → Value) (s : S) (w : World) (h : DC w g m V s) (i : Nat) (hi : i < 64) (A : Option Addr) (n c : Nat) (l : List UInt8) (hl : l.length = n) (d : Nat) (hd : n = 0 → d = 0) :
    Calls Tryz.prog 43 #[.pointer (some ⟨g, 0, none⟩), .int .i64 (i : Int), ctV (.slice A n c) d] w fun e w' => e = .returned (.tuple #[]) ∧
      DC w' g m (upd V i (if n = 0 then .slice none 0 0 else .slice A n c)) (put s i l d) ∧ Chg (fun k => k = m) w w' := by
  have hc1 := h.blk.cell 1 (u := .map (some m)) rfl
  have hgl := h.blk.lt
  have HH := Lib.hid h
  have HD := Lib.hid hd
  have HL := Lib.hid hl
  have HB := Lib.hid (And.intro (Nat.lt_of_le_of_lt (entL_len V s) (show 64 < maxLen by decide)) trivial)
  clear h hd hl
  unfold ctV
  by_cases h0 : n = 0
  · subst h0
    go_enter Tryz.func43, Tryz.ntmps43
    go_wp2_with (at_delete; refine wpList_dropI _ rfl _ _ rfl keyInt Tryz.underlying64 rfl (HH.out.map.chg ((Chg.refl (fun _ => False) w).alloc _) (fun h => h)) (i64_file hi) rfl ?_; intro w1 hm1 hch1 hs1)
    refine bodyPost_ret (results_none rfl _ _ _) rfl ?_
    obtain rfl : l = [] := List.eq_nil_of_length_eq_zero HL.out
    obtain rfl : d = 0 := HD.out trivial
    have hc := ((Chg.refl (fun k => k = m) w).alloc _).trans hch1 (fun _ _ h => h)
    exact ⟨rfl, HH.out.put0 hi hm1 hc, hc⟩
  · have hn : ((n : Int) == 0) = false := by simp; omega
    go_enter Tryz.func43, Tryz.ntmps43
    go_wp2_with fail
    obtain ⟨w1, hrun, hm1, hch1, hs1⟩ := MI.store (w := (w.alloc (Obj.cells #[Value.slice A n c, Value.int IntKind.i64 ↑d] 91)).drew) (HH.out.map.chg (((Chg.refl (fun _ => False) w).alloc _).drew) (fun h => h)) keyInt Tryz.underlying64 HB.out.1 (i64_file hi) (.agg #[.slice A n c, .int .i64 (d : Int)])
    have HM := Lib.hid (And.intro hm1 hch1)
    clear hm1 hch1 hs1
    go_region
    go_wp2
    go_end0
    have hl : l ≠ [] := fun e => h0 (by rw [← HL.out, e]; rfl)
    have hc := (((Chg.refl (fun k => k = m) w).alloc (Obj.cells #[Value.slice A n c, Value.int IntKind.i64 ↑d] 91)).drew).trans HM.out.2 (fun _ _ h => h)
    exact ⟨rfl, HH.out.put1 hi hl HM.out.1 hc, hc⟩

/-! ### the number of bytes -/
def lenV : Value → Nat
  | .agg cs => match cs[0]? with | some (Value.slice _ n _) => n | _ => 0
  | _ => 0
theorem sum_files (f : Nat → List UInt8) (g : Nat → Nat) (hg : ∀ i, g i = (f i).length) : ∀ n, ((filesN f n).map g).sum = usedN f n
  | 0 => rfl
  | n + 1 => by
    rw [filesN_succ, List.map_append, List.sum_append, sum_files f g hg n]
    show _ = usedN f n + (f n).length
    cases h : f n with
    | nil => simp
    | cons a r => simp [hg, h]
theorem sum_filter {α : Type} (f : α → Nat) (p : α → Bool) : ∀ L : List α, ((L.filter p).map f).sum ≤ (L.map f).sum
  | [] => Nat.le_refl _
  | a :: r => by
    have := sum_filter f p r
    rw [List.filter_cons]
    split
    · simp only [List.map_cons, List.sum_cons]; omega
    · simp only [List.map_cons, List.sum_cons]; omega
theorem DI.sum {w : World} {g m : Nat} {V : Nat → Value} {s : S} (h : DI w g m V s) : ((entL V s).map (fun p => lenV p.2)).sum = used s := by
  unfold entL
  rw [List.map_map]
  refine sum_files s.f _ (fun i => ?_) 64
  obtain ⟨A, c, hv, _⟩ := (h.rows i).shape
  show lenV (ctV (V i) (s.firm i)) = _
  rw [hv, bs_length]
  rfl
theorem DI.sumto {w : World} {g m : Nat} {V : Nat → Value} {s : S} (h : DI w g m V s) (left : Int → Bool) : sumL (fun p => lenV p.2) left (entL V s) ≤ used s := by
  rw [← h.sum]
  unfold sumL
  exact sum_filter _ _ _

/-- An entry's cells. -/
def mkC (q : Option Addr × Nat × Nat × Nat) : Value := .agg #[.slice q.1 q.2.1 q.2.2.1, .int .i64 (q.2.2.2 : Int)]
theorem DI.inv {w : World} {g m : Nat} {V : Nat → Value} {s : S} (h : DI w g m V s) : ∀ i v, (i, v) ∈ entL V s → ∃ q, v = mkC q := by
  intro i v hm
  obtain ⟨j, h1, h2, h3⟩ := mem_entL.1 hm
  obtain ⟨A, c, hv, _⟩ := (h.rows j).shape
  injection h3 with h3 h4
  exact ⟨(A, _, c, s.firm j), by rw [h4, hv]; rfl⟩

set_option maxHeartbeats 1000000 in
set_option maxRecDepth 100000 in
theorem dUsed_any (g m : Nat) (V : Nat → Value) (s : S) (w : World) (h : DI w g m V s) :
    Calls Tryz.prog 42 #[.pointer (some ⟨g, 0, none⟩)] w fun e w' => e = .returned (.int .i64 (used s : Int)) ∧ New w w' := by
  have hc1 := h.core.blk.cell 1 (u := .map (some m)) rfl
  have hgl := h.core.blk.lt
  have hle := h.wf.used
  have hro := h.wf.room
  have HH := Lib.hid h
  have HINV := Lib.hid h.inv
  clear h
  go_enter Tryz.func42, Tryz.ntmps42
  go_wp2_with (at_range; refine wpList_rangeI _ rfl _ rfl keyInt Tryz.underlying64 rfl HH.out.core.map ?_; intro w0 hr0 hn0 hs0)
  have HR0 := Lib.hid hr0
  have HN0 := Lib.hid hn0
  clear hr0 hn0
  go_frame
  go_loopw [3] (fun n wr => ∃ left, RI wr Tryz.prog 3 m w.heap.size (entL V s) left ∧ n = .int .i64 ((sumL (fun p => lenV p.2) left (entL V s) : Nat) : Int) ∧ New w wr) (fun _ wr => wr.rangeLeft m w.heap.size)
  case atStart => exact ⟨_, HR0.out, by rw [sumL_start]; rfl, HN0.out⟩
  case round =>
    obtain ⟨left, hri, rfl, hnw⟩ := hrel
    have HRI := Lib.hid hri
    have HNW := Lib.hid hnw
    have hsum := HH.out.sumto left
    obtain ⟨k, hk⟩ : ∃ k, sumL (fun p => lenV p.2) left (entL V s) = k := ⟨_, rfl⟩
    rw [hk] at hsum
    rw [hk]
    have HK := Lib.hid hk
    clear hri hnw hk
    go_wp2_with (at_next; refine wpList_nextI wr rfl _ rfl keyInt rfl HRI.out mkC HINV.out ?_ ?_)
    · intro hdone
      go_wp2
      go_ret
      have := HH.out.sum
      rw [← sumL_end (f := fun p => lenV p.2) hdone, HK.out] at this
      exact ⟨by rw [this]; rfl, HNW.out⟩
    · intro i A n c d w1 hm hi hl hr1 hc2 hsz hlt hen
      have HM := Lib.hid hm
      have hnx := (Chg.owned HNW.out hc2 (fun j e => by have := HNW.out.size; have := HN0.out.size; omega))
      have hst := sumL_step (f := fun p => lenV p.2) HRI.out.mi.rise hm hl
      have hs2 := HH.out.sumto (fun x => left x && !(x == i))
      rw [HK.out] at hst
      rw [hst] at hs2
      have hln : lenV (mkC (A, n, c, d)) = n := rfl
      rw [hln] at hst hs2
      have HX := Lib.hid (And.intro hr1 (And.intro hnx hst))
      simp only [mkC] at hen ⊢
      clear hm hr1 hc2 hnx hst hln
      go_wp2
      go_roundw
      case rel => exact ⟨_, HX.out.1.chg ((Chg.refl (fun _ => False) w1).alloc _) (fun h => h) (fun h => h), by rw [HX.out.2.2]; go_num, HX.out.2.1.alloc _⟩
      case measure =>
        rw [RI.left_chg HX.out.1 ((Chg.refl (fun _ => False) w1).alloc _) (fun h => h) (fun h => h)]
        exact hlt
end Go.Proofs.YtblcaeoeeepajaaGreatDoor
