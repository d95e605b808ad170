/- The parts Seq, St, Own, Ow, By, Obj, Obj2 of the proof, in one text. -/
import Derived.Test.YtffehmfjcglalaaG1
import Derived.Lib.ConvBytes
import Derived.Test.YtffehmfjcglalaaRowV
set_option linter.unusedSimpArgs false
set_option linter.unusedVariables false

namespace Go.Col
set_option linter.unusedVariables false
open Go.RowKit Go.Mem

/-- A pointer to cells that are, in a row, a struct of a type; they lie in a plain block. -/
def refC (sz : Nat) (τ : TyC) : TyC := ⟨fun v w c => ∃ (ad : Addr) (cs : Array Value), v = .pointer (some ad) ∧ (0 < sz → c ad.block = 0) ∧ cs.size = sz ∧ τ.sat (.agg cs) w c ∧ ∀ j u, cs[j]? = some u → w.cell? (ad.add j) = some u,
  fun ⟨ad, cs, h1, h2, h3, h4, h5⟩ g e => ⟨ad, cs, h1, fun hs => by
      have hj := h5 0 cs[0] (Array.getElem?_eq_getElem (by omega))
      have hlt := World.block_lt_of_cell? _ _ hj
      rw [block_add] at hlt
      rw [e.col _ hlt]; exact h2 hs, h3, τ.stab h4 g e, fun j u hu => by
    have hsz : 0 < sz := by
      have := (Array.getElem?_eq_some_iff.1 hu).1
      omega
    have hc := h5 j u hu
    refine e.chg.cell hc ?_
    rw [block_add, h2 hsz, e.z]
    simp⟩⟩
/-- A slice of structs. -/
def seqC (sz : Nat) (L : List TyC) : TyC := ⟨fun v w c => ∃ A cp, v = .slice A L.length cp ∧ L.length ≤ cp ∧ ∀ k τ, L[k]? = some τ → ∃ ad, A = some ad ∧ (refC sz τ).sat (.pointer (some (ad.add (k * sz)))) w c,
  fun ⟨A, cp, h1, h2, h3⟩ g e => ⟨A, cp, h1, h2, fun k τ hk => by
    obtain ⟨ad, q1, q2⟩ := h3 k τ hk
    exact ⟨ad, q1, (refC sz τ).stab q2 g e⟩⟩⟩
/-- Cells that are structs in a row. -/
def catK (sz : Nat) (L : List TyC) : CTyC := ⟨fun cs w c => ∀ k τ, L[k]? = some τ → ∃ u : Array Value, u.size = sz ∧ τ.sat (.agg u) w c ∧ ∀ j x, u[j]? = some x → cs[k * sz + j]? = some x,
  fun h g e k τ hk => by
    obtain ⟨u, h1, h2, h3⟩ := h k τ hk
    exact ⟨u, h1, τ.stab h2 g e, h3⟩⟩
section
variable {P : Program} {w : World} {c : Colr} {v : Value} {sz : Nat} {L : List TyC} {τ : TyC} {g : Nat} {t e : TypeId}
theorem seq_of_row (h : (Fact.row g t (catK sz L)).P w c) {n : Nat} (hn : n = L.length) : (seqC sz L).sat (.slice (some ⟨g, 0, none⟩) n n) w c := by
  obtain ⟨h1, cs, h2, h3⟩ := h
  subst hn
  refine ⟨_, _, rfl, Nat.le_refl _, fun k τ hk => ⟨_, rfl, ?_⟩⟩
  obtain ⟨u, q1, q2, q3⟩ := h2 k τ hk
  refine ⟨_, u, rfl, fun _ => ?_, q1, q2, fun j x hx => ?_⟩
  · rw [block_add]; exact h1
  · rw [add_add', Addr.add_lit, Nat.zero_add]
    exact h3.cell _ (q3 j x hx)
theorem seq_index {k : Nat} {kd : IntKind} (ht : P.underlying t = some (.slice e)) (hz : (P.info? e).map (·.size) = some sz) (h : (seqC sz L).sat v w c) (hk : L[k]? = some τ) : ∃ ad, (Instr.indexAt t v (.int kd (k : Nat))).run P w = .ok ad w ∧ (refC sz τ).sat ad w c := by
  obtain ⟨A, cp, rfl, h2, h3⟩ := h
  obtain ⟨ad, rfl, q⟩ := h3 k τ hk
  refine ⟨_, ?_, q⟩
  have hi : k < L.length := (List.getElem?_eq_some_iff.1 hk).1
  have : (k : Int) < (L.length : Int) := by omega
  cases hq : P.info? e with
  | none => rw [hq] at hz; cases hz
  | some d =>
    rw [hq] at hz
    injection hz with hz
    simp [Instr.indexAt, asIntOf, run_underlying ht, this, hi, sizeOf, typeInfo, hq, hz, Result.andThen, go_sem]
theorem ref_load {ty : TypeId} (hA : Agg P ty sz) (h : (refC sz τ).sat v w c) : ∃ ad u, v = .pointer (some ad) ∧ (loadVar ty ad).run P w = .ok u w ∧ τ.sat u w c := by
  obtain ⟨ad, cs, rfl, h2, h3, h4, h5⟩ := h
  refine ⟨ad, _, rfl, load_cells (n := sz) hA cs.toList (by simpa using h3) (fun j u hu => h5 j u (by simpa using hu)), h4⟩
theorem seq_len {t e : TypeId} {o : Oper} {a : Act} {x : Operand} (h : o.op = .call { callee := .builtin .len, args := #[x], argTypes := #[t] }) (ht : P.underlying t = some (.slice e)) (hx : a.eval x = v) (hs : (seqC sz L).sat v w c) : (execOp a.eval o).run P w = .ok (.value (.int .i64 L.length)) w := by
  obtain ⟨A, cp, rfl, h2, h3⟩ := hs
  exact ex_len h ht hx
end
theorem rd_index {P : Program} {w : World} {A : Option Addr} {n cp k : Nat} {xs : List Value} {t e : TypeId} {kd : IntKind} (ht : P.underlying t = some (.slice e)) (hz : (P.info? e).map (·.size) = some 1) (h : Rd w A n xs) (hk : k < n) : ∃ ad, A = some ad ∧ (Instr.indexAt t (.slice A n cp) (.int kd (k : Nat))).run P w = .ok (.pointer (some (ad.add k))) w := by
  obtain ⟨ad, u, rfl, hu, hc⟩ := h.at_ hk
  refine ⟨ad, rfl, ?_⟩
  have : (k : Int) < (n : Int) := by omega
  cases hq : P.info? e with
  | none => rw [hq] at hz; cases hz
  | some d =>
    rw [hq] at hz
    injection hz with hz
    simp [Instr.indexAt, asIntOf, run_underlying ht, this, hk, sizeOf, typeInfo, hq, hz, Result.andThen, go_sem]
/-- A literal: a row of its own of just that many structs. -/
def litC (sz : Nat) (t : TypeId) (L : List TyC) : TyC := ⟨fun v w c => ∃ g cs, v = .slice (some ⟨g, 0, none⟩) L.length L.length ∧ c g = 0 ∧ Blk w g t cs ∧ cs.size = L.length * sz ∧ (catK sz L).sat cs w c,
  fun ⟨g, cs, h1, h2, h3, h4, h5⟩ gi e => by
    obtain ⟨q1, q2⟩ := blk_ext h3 h2 e e.z
    exact ⟨g, cs, h1, q2, q1, h4, (catK sz L).stab h5 gi e⟩⟩
section
variable {P : Program} {ops : Array Oper} {Q : Exit → Act → World → Prop} {CB : List Nat} {Fs : List RF} {V : Nat → TyC} {b : BB} {f : FF} {w : World} {c : Colr} {a : Act} {i : Nat} {o : Oper} {v v' : Value} {sz : Nat} {L : List TyC} {t e : TypeId} {τ : TyC}
theorem lit_seq (h : (litC sz t L).sat v w c) : (seqC sz L).sat v w c := by
  obtain ⟨g, cs, rfl, h2, h3, h4, h5⟩ := h
  exact seq_of_row (t := t) ⟨h2, cs, h5, h3⟩ rfl
theorem map_getD {α : Type} {d : α} {f : α → TyC} {xs : List α} {k : Nat} (h : k < xs.length) : (xs.map f)[k]? = some (f (xs.getD k d)) := by
  simp [List.getElem?_map, List.getElem?_eq_getElem h, List.getD]
theorem cat_app {cs ds zs : Array Value} (h : (catK sz L).sat cs w c) (hs : cs.size = L.length * sz) (h' : (catK sz [τ]).sat ds w c) (hd : ds.size = sz) : (catK sz (L ++ [τ])).sat (cs ++ ds ++ zs) w c := by
  intro k σ hk
  by_cases hl : k < L.length
  · rw [List.getElem?_append_left hl] at hk
    obtain ⟨u, q1, q2, q3⟩ := h k σ hk
    refine ⟨u, q1, q2, fun j x hx => ?_⟩
    have := q3 j x hx
    have hlt := (Array.getElem?_eq_some_iff.1 this).1
    rw [Array.append_assoc, Array.getElem?_append_left hlt]
    exact this
  · rw [List.getElem?_append_right (by omega)] at hk
    obtain ⟨m, rfl⟩ : ∃ m, k = L.length + m := ⟨k - L.length, by omega⟩
    rw [Nat.add_sub_cancel_left] at hk
    match m, hk with
    | 0, hk =>
      obtain ⟨u, q1, q2, q3⟩ := h' 0 σ hk
      refine ⟨u, q1, q2, fun j x hx => ?_⟩
      have h3 := q3 j x hx
      have hlt := (Array.getElem?_eq_some_iff.1 h3).1
      rw [Nat.zero_mul, Nat.zero_add] at h3 hlt
      rw [Nat.add_zero, Array.append_assoc, Array.getElem?_append_right (by omega), Array.getElem?_append_left (by omega)]
      rw [show L.length * sz + j - cs.size = j by omega]
      exact h3
    | m + 1, hk => simp at hk
/-- One more behind a literal: a new row. -/
theorem Step.app1 (d : Nat) {x y : Operand} {inf : TypeInfo} {z : Value} (hw : Region.wanted o (yielded ops a.tmps) = true) (hd : o.dst = some d) (hF : Fs.filter (aff [] i (some d)) = []) (hg : GI w c) (ho : o.op = .call { callee := .builtin .append, args := #[x, y], argTypes := #[t, t] }) (hx : a.eval x = v) (hy : a.eval y = v')
    (ht : P.underlying t = some (.slice e)) (hi : P.info? e = some inf) (hz : inf.zero = some z) (hsz : inf.size = sz) (h1 : (litC sz e L).sat v w c) (h2 : (litC sz e [τ]).sat v' w c) {m : Nat} (hm : L.length = m) (hfit : Builtin.nextslicecap (m + 1) m * inf.bytes ≤ 281474976710656) (hL : m ≤ 1000000) (hV : V d = seqC sz (L ++ [τ])) :
    Step P ops Q CB Fs V b f w c a i o := by
  subst hm
  obtain ⟨g, cs, rfl, q2, q3, q4, q5⟩ := h1
  obtain ⟨g', ds, rfl, r2, r3, r4, r5⟩ := h2
  have hrun := run_append_grow (P := P) w t o.type e inf z ht hi hz ⟨g, 0, none⟩ L.length L.length cs.toList (by rw [hsz]; simpa using q4) (fun j u hu => by rw [Addr.add_lit, Nat.zero_add]; exact q3.cell j (by simpa using hu)) ⟨g', 0, none⟩ 1 1 ds.toList (by rw [hsz]; simpa using r4) (fun j u hu => by rw [Addr.add_lit, Nat.zero_add]; exact r3.cell j (by simpa using hu)) (by omega) (by omega) hfit
  obtain ⟨W, hW⟩ : ∃ W, W = w.drew.alloc (.cells (cs.toList.toArray ++ ds.toList.toArray ++ Builtin.zeroCells z.cells (grownCap w (L.length + 1) L.length e - (L.length + 1))) e) := ⟨_, rfl⟩
  rw [← hW] at hrun
  have hn : New w W := by rw [hW]; exact ((Chg.refl _ w).drew).alloc _
  have hgr : L.length + 1 ≤ grownCap w (L.length + 1) L.length e := grownCap_ge _ _ _ _
  have he : (execOp a.eval o).run P w = .ok (.value (.slice (some ⟨w.heap.size, 0, none⟩) (L.length + 1) (grownCap w (L.length + 1) L.length e))) W := by
    simp [execOp, ho, resolve, invoke, builtin, hx, hy, hrun, Result.andThen]
  refine .run [] (some d) hw hd rfl (wp_val he ⟨_, _, rfl, Ext.of_new hn hg, fun d' h => ?_, by rw [hF]; trivial⟩)
  injection h with h
  subst h
  rw [hV]
  have hx := Ext.of_new hn hg
  have hb : Blk W w.heap.size e (cs ++ ds ++ Builtin.zeroCells z.cells (grownCap w (L.length + 1) L.length e - (L.length + 1))) := by
    rw [hW]
    exact Blk.new _ _ _
  have hc : ext0 c w.heap.size w.heap.size = 0 := by simp [ext0]
  have hk : (catK sz (L ++ [τ])).sat (cs ++ ds ++ Builtin.zeroCells z.cells (grownCap w (L.length + 1) L.length e - (L.length + 1))) W (ext0 c w.heap.size) := (catK sz _).stab (cat_app q5 q4 r5 (by simpa using r4)) hg hx
  have hlen : (L ++ [τ]).length = L.length + 1 := by simp
  refine ⟨_, _, by rw [hlen], by rw [hlen]; exact hgr, fun k σ hkk => ⟨_, rfl, ?_⟩⟩
  obtain ⟨u, p1, p2, p3⟩ := hk k σ hkk
  refine ⟨_, u, rfl, fun _ => ?_, p1, p2, fun j x hx => ?_⟩
  · rw [block_add]; exact hc
  · rw [add_add', Addr.add_lit, Nat.zero_add]
    exact hb.cell _ (p3 j x hx)
/-- A literal is laid. -/
theorem Step.litv (p : Nat) {n : Nat} {ty : TypeId} {ps : Array (Nat × Operand)} {vs : Array (Nat × Value)} {cs : Array Value} (hw : Region.wanted o (yielded ops a.tmps) = true) (hd : o.dst = some p) (hF : Fs.filter (aff [] i (some p)) = []) (hg : GI w c) (ho : o.op = .buildSlice ty n ps) (hp : ps.map (fun x => (x.1, a.eval x.2)) = vs)
    (hr : (Instr.buildSlice ty n vs).run P w = .ok (.slice (some ⟨w.heap.size, 0, none⟩) n n) (w.alloc (.cells cs t))) (hn : L.length = n) (hcs : cs.size = L.length * sz) (hk : (catK sz L).sat cs w c) (hV : V p = litC sz t L) : Step P ops Q CB Fs V b f w c a i o := by
  subst hn
  refine .run [] (some p) hw hd rfl (wp_val (ex_lit ho hp hr) ⟨_, _, rfl, Ext.allocP hg, fun d e => ?_, by rw [hF]; trivial⟩)
  injection e with e; subst e; rw [hV]
  exact ⟨_, cs, rfl, by simp [ext0], Blk.new _ _ _, hcs, (catK sz L).stab hk hg (Ext.allocP hg)⟩
end
end Go.Col

namespace Go.Mem
set_option linter.unusedVariables false
open Go.RowKit
section
variable {P : Program} {o : Oper} {a : Act} {w w' : World} {v : Value}
theorem ex_index' {t : TypeId} {x y : Operand} {p i : Value} (h : o.op = .index t x y) (hx : a.eval x = p) (hy : a.eval y = i) (hr : (Instr.index t p i).run P w = .ok v w) : (execOp a.eval o).run P w = .ok (.value v) w := by
  simp [execOp, h, hx, hy, hr, Result.andThen]
theorem ex_slice_to {t : TypeId} {x y : Operand} {p i : Value} (h : o.op = .slice t x none (some y) none) (hx : a.eval x = p) (hy : a.eval y = i) (hr : (Instr.slice t p none (some i) none).run P w = .ok v w) (ht : P.underlying t = some .string) : (execOp a.eval o).run P w = .ok (.value v) w := by
  simp [execOp, h, hx, hy, hr, Instr.sliceAt, run_underlying ht, Result.andThen]
theorem ex_slice_from {t : TypeId} {x y : Operand} {p i : Value} (h : o.op = .slice t x (some y) none none) (hx : a.eval x = p) (hy : a.eval y = i) (hr : (Instr.slice t p (some i) none none).run P w = .ok v w) (ht : P.underlying t = some .string) : (execOp a.eval o).run P w = .ok (.value v) w := by
  simp [execOp, h, hx, hy, hr, Instr.sliceAt, run_underlying ht, Result.andThen]
theorem ex_len_s {x : Operand} {t : TypeId} {s : ByteArray} (h : o.op = .call { callee := .builtin .len, args := #[x], argTypes := #[t] }) (ht : P.underlying t = some .string) (hx : a.eval x = .string s) : (execOp a.eval o).run P w = .ok (.value (.int .i64 s.size)) w := by
  simp [execOp, h, resolve, invoke, builtin, hx, Builtin.len_, run_underlying ht, goInt, Result.andThen]
end
end Go.Mem
namespace Go.Col
set_option linter.unusedVariables false
open Go.RowKit Go.Mem

/-- What a frame holds. -/
def Ev (n : Nat) (a : Act) (m : Nat → Option Value) : Prop := a.tmps.size = n ∧ a.defers = [] ∧ ∀ t v, m t = some v → t < n ∧ a.eval (.tmp t) = v
theorem Ev.at {n : Nat} {a : Act} {m : Nat → Option Value} (h : Ev n a m) (t : Nat) {v : Value} (ht : m t = some v) : a.eval (.tmp t) = v := (h.2.2 t v ht).2
def dep (dt : List (List Nat)) (i j : Nat) : Bool := (dt.getD i []).contains j
def chkT (l : List Oper) (dt : List (List Nat)) : Bool := (List.range l.length).all fun i => match nthL l i with
  | none => true
  | some o => (dt.getD i []).all fun j => o.after.any fun e => Region.binds .any e && e.on == j
def dstOf (l : List Oper) (j : Nat) : Option Nat := match nthL l j with | some o => o.dst | none => none
def chkE (l : List Oper) (D : List Nat) : Bool := D.all fun d => l.any fun o => o.dst == some d
/-- What a step knows. -/
structure Kx (dt : List (List Nat)) (w0 : World) (c0 : Colr) (CB : List Nat) (Fs : List RF) (i : Nat) (b : BB) (f : FF) (w : World) (c : Colr) : Prop where
  gi : GI w c
  ext : Ext CB w0 c0 w c
  fac : All Fs b f w c
  self : b i = false
  has : ∀ j k, b j = true → dep dt j k = true → b k = true
  done : ∀ j, dep dt i j = true → b j = true
section
variable {P : Program} {l : List Oper} {dt : List (List Nat)} {Q : Exit → Act → World → Prop} {n : Nat} {a : Act} {m : Nat → Option Value} {D CB : List Nat} {Fs : List RF} {V : Nat → TyC} {w0 : World} {c0 : Colr}
theorem Kx.nyet {i : Nat} {b : BB} {f : FF} {w : World} {c : Colr} (K : Kx dt w0 c0 CB Fs i b f w c) (j : Nat) (h : dep dt j i = true) : b j = false := by
  cases hb : b j with
  | false => rfl
  | true =>
    have := K.has j i hb h
    rw [K.self] at this
    cases this
theorem Kx.via {i : Nat} {b : BB} {f : FF} {w : World} {c : Colr} (K : Kx dt w0 c0 CB Fs i b f w c) {j : Nat} (h : b j = true) (k : Nat) (hk : dep dt j k = true) : b k = true := K.has j k h hk
def OpStep (P : Program) (l : List Oper) (dt : List (List Nat)) (Q : Exit → Act → World → Prop) (n : Nat) (a : Act) (m : Nat → Option Value) (D CB : List Nat) (Fs : List RF) (V : Nat → TyC) (w0 : World) (c0 : Colr) (i : Nat) : Prop :=
  ∀ (b : BB) (f : FF) (w : World) (c : Colr) (x : Act) (o : Oper), J l.toArray w0 c0 CB Fs V b f w c → (∀ d, D.contains d = false → f d = none) → Fr a x f → Ev n a m → nthL l i = some o → Kx dt w0 c0 CB Fs i b f w c → Step P l.toArray Q CB Fs V b f w c x i o
def AllS (S : Nat → Prop) : Nat → Nat → Prop
  | _, 0 => True
  | k, r + 1 => S k ∧ AllS S (k + 1) r
theorem AllS.at {S : Nat → Prop} : ∀ {r k : Nat}, AllS S k r → ∀ i, k ≤ i → i < k + r → S i
  | 0, k, _, i, h1, h2 => by omega
  | r + 1, k, h, i, h1, h2 => by
    by_cases hi : i = k
    · subst hi; exact h.1
    · exact AllS.at h.2 i (by omega) (by omega)
theorem chkT_at (h : chkT l dt = true) {i j : Nat} {o : Oper} (ho : nthL l i = some o) (hd : dep dt i j = true) : ∃ e ∈ o.after, Region.binds .any e = true ∧ e.on = j := by
  have hi : i < l.length := by rw [nthL_eq] at ho; exact (List.getElem?_eq_some_iff.1 ho).1
  have h1 := List.all_eq_true.1 h i (by simpa using hi)
  rw [ho] at h1
  have h2 := List.all_eq_true.1 h1 j (by simpa [dep] using hd)
  obtain ⟨k, hk, h3⟩ := Array.any_eq_true.1 h2
  rw [Bool.and_eq_true] at h3
  exact ⟨o.after[k], Array.getElem_mem hk, h3.1, by simpa using h3.2⟩
theorem dep_some {i j : Nat} (hT : chkT l dt = true) (hd : dep dt i j = true) : True := trivial

/-- A region, by terms. -/
theorem region_st {id : Nat} {dr : Bool} (dt : List (List Nat)) (D CB : List Nat) (V : Nat → TyC) (hE : Ev n a m) (hg : GI w0 c0)
    (hF : All Fs (fun _ => false) (fun _ => none) w0 c0) (hS : ∀ Q, AllS (OpStep P l dt Q n a m D CB Fs V w0 c0) 0 l.length)
    (hdone : ∀ (b : BB) (f : FF) (w : World) (c : Colr) (x : Act), GI w c → Ext CB w0 c0 w c → All Fs b f w c → (∀ i, i < l.length → b i = true) → (∀ d, D.contains d = true → ∃ v, f d = some v ∧ (V d).sat v w c) → (∀ d, D.contains d = false → f d = none) → Fr a x f → Q .normal x w) (hm : dr = true → P.follows .mixedOrders = true := by intro _; kernel_rfl) (hchk : chk l.toArray D = true := by kernel_rfl) (hT : chkT l dt = true := by kernel_rfl) (hD : chkE l D = true := by kernel_rfl) (hL : decide (dt.length ≤ l.length) = true := by rfl) (hCB : (CB.contains 0 || CB.contains 1) = false := by rfl) :
    (Code.region id l.toArray dr).wp P Q a w0 := by
  refine region_tz hm D hchk CB Fs V hCB hg hF ?_ ?_
  · intro b f w c x i o hi hJ hout hF' ho hbi ha
    have ho' : nthL l i = some o := by rw [nthL_eq]; simpa using ho
    have hi' : i < l.length := by simpa using hi
    refine AllS.at (hS Q) i (by omega) (by omega) b f w c x o hJ (fun d hd => hout d (by simpa using hd)) hF' hE ho' ⟨hJ.gi, hJ.ext, hJ.fac, hbi, fun j k hj hd => ?_, fun j hd => ?_⟩
    · cases hoj : nthL l j with
      | none =>
        exfalso
        have hlen : j < l.length := by
          refine Decidable.byContradiction fun hn => ?_
          have h0 : dt.length ≤ l.length := by simpa using hL
          unfold dep at hd
          rw [List.getD_eq_getElem?_getD, List.getElem?_eq_none (by omega)] at hd
          simp at hd
        rw [nthL_eq, List.getElem?_eq_getElem hlen] at hoj
        cases hoj
      | some oj =>
        obtain ⟨e, he, hb, rfl⟩ := chkT_at hT hoj hd
        rw [nthL_eq] at hoj
        exact hJ.cl j oj (by simpa using hoj) hj e he hb
    · obtain ⟨e, he, hb, rfl⟩ := chkT_at hT ho' hd
      exact ha e he hb
  · intro b f w c x hJ hb hout hF'
    refine hdone b f w c x hJ.gi hJ.ext hJ.fac (fun i hi => hb i (by simpa using hi)) (fun d hd => ?_) (fun d hd => hout d (by simpa using hd)) hF'
    have h1 := List.all_eq_true.1 hD d (by simpa using hd)
    obtain ⟨o, ho, h2⟩ := List.any_eq_true.1 h1
    obtain ⟨i, hi, rfl⟩ := List.getElem_of_mem ho
    have h3 : l[i].dst = some d := by simpa using h2
    have h4 := (hJ.set i l[i] d (by simp [hi]) h3).1 (hb i (by simpa using hi))
    cases hf : f d with
    | none => exact absurd hf h4
    | some v => exact ⟨v, rfl, hJ.typ d v hf⟩

/-! ### operands -/
inductive Ar where
  | s (t j : Nat)
  | o (t : Nat) (v : Value)
  | p (t : Nat) (v : Value) (j : Nat)
  | k (v : Value)
def Ar.opd : Ar → Operand
  | .s t _ => .tmp t
  | .o t _ => .tmp t
  | .p t _ _ => .tmp t
  | .k v => .const v
def Ar.W : Ar → Value → Value
  | .s _ _, v => v
  | .o _ u, _ => u
  | .p _ u _, _ => u
  | .k u, _ => u
def Ar.T (V : Nat → TyC) (w : World) (c : Colr) : Ar → Value → Prop
  | .s t _, v => (V t).sat v w c
  | .o _ _, _ => True
  | .p _ _ _, _ => True
  | .k _, _ => True
def Ar.ok (n : Nat) (l : List Oper) (dt : List (List Nat)) (m : Nat → Option Value) (D : List Nat) (i : Nat) : Ar → Prop
  | .s t j => dep dt i j = true ∧ decide (t < n) = true ∧ dstOf l j = some t
  | .o t v => m t = some v ∧ D.contains t = false
  | .p t v j => m t = some v ∧ dep dt j i = true ∧ dstOf l j = some t
  | .k _ => True
/-- An operand with the check that it is at hand. -/
structure XA (n : Nat) (l : List Oper) (dt : List (List Nat)) (m : Nat → Option Value) (D : List Nat) (i : Nat) where
  r : Ar
  ok : r.ok n l dt m D i
abbrev rS {n : Nat} {l : List Oper} {dt : List (List Nat)} {m : Nat → Option Value} {D : List Nat} {i : Nat} (t j : Nat) (h : dep dt i j = true ∧ decide (t < n) = true ∧ dstOf l j = some t := by exact ⟨rfl, rfl, rfl⟩) : XA n l dt m D i := ⟨.s t j, h⟩
abbrev rO {n : Nat} {l : List Oper} {dt : List (List Nat)} {m : Nat → Option Value} {D : List Nat} {i : Nat} (t : Nat) {v : Value} (h : m t = some v ∧ D.contains t = false := by exact ⟨rfl, rfl⟩) : XA n l dt m D i := ⟨.o t v, h⟩
abbrev rP {n : Nat} {l : List Oper} {dt : List (List Nat)} {m : Nat → Option Value} {D : List Nat} {i : Nat} (t j : Nat) {v : Value} (h : m t = some v ∧ dep dt j i = true ∧ dstOf l j = some t := by exact ⟨rfl, rfl, rfl⟩) : XA n l dt m D i := ⟨.p t v j, h⟩
abbrev rK {n : Nat} {l : List Oper} {dt : List (List Nat)} {m : Nat → Option Value} {D : List Nat} {i : Nat} (v : Value) : XA n l dt m D i := ⟨.k v, trivial⟩
variable {i : Nat}
theorem XA.ev (r : XA n l dt m D i) {b : BB} {f : FF} {w : World} {c : Colr} {x : Act} (hJ : J l.toArray w0 c0 CB Fs V b f w c) (hout : ∀ d, D.contains d = false → f d = none) (hF : Fr a x f) (hE : Ev n a m) (K : Kx dt w0 c0 CB Fs i b f w c) : ∃ v, x.eval r.r.opd = r.r.W v ∧ r.r.T V w c v := by
  obtain ⟨r, hr⟩ := r
  cases r with
  | s t j =>
    obtain ⟨h1, h2⟩ := hr
    have h2' := h2.2
    unfold dstOf at h2'
    split at h2'
    · rename_i oj hoj
      rw [nthL_eq] at hoj
      have h3 := (hJ.set j oj t (by simpa using hoj) h2').1 (K.done j h1)
      cases hf : f t with
      | none => exact absurd hf h3
      | some v =>
        have h4 := hJ.typ t v hf
        exact ⟨v, hF.in (by rw [hE.1]; exact of_decide_eq_true h2.1) hf, h4⟩
    · cases h2'
  | o t v =>
    obtain ⟨h1, h2⟩ := hr
    obtain ⟨h3, h4⟩ := hE.2.2 t v h1
    exact ⟨v, hF.out (by rw [hE.1]; exact h3) (hout t h2) h4, trivial⟩
  | p t v j =>
    obtain ⟨h1, h2, h5⟩ := hr
    obtain ⟨h3, h4⟩ := hE.2.2 t v h1
    refine ⟨v, hF.out (by rw [hE.1]; exact h3) ?_ h4, trivial⟩
    unfold dstOf at h5
    split at h5
    · rename_i oj hoj
      rw [nthL_eq] at hoj
      cases hf : f t with
      | none => rfl
      | some u =>
        have := (hJ.set j oj t (by simpa using hoj) h5).2 (by rw [hf]; simp)
        rw [K.nyet j h2] at this
        cases this
    · cases h5
  | k v => exact ⟨v, rfl, trivial⟩

/-- The guard, if there is one, lets the operation run. -/
def Gd (l : List Oper) (n : Nat) (dt : List (List Nat)) (V : Nat → TyC) (i : Nat) (g : Option (Nat × Bool)) : Prop := match g with
  | none => True
  | some (j, q) => dep dt i j = true ∧ ∃ d, (decide (d < n) = true ∧ dstOf l j = some d) ∧ V d = TyC.eq (.bool q)
def Gn (l : List Oper) (n : Nat) (dt : List (List Nat)) (V : Nat → TyC) (i : Nat) (g : Option (Nat × Bool)) : Prop := match g with
  | none => False
  | some (j, q) => dep dt i j = true ∧ ∃ d, (decide (d < n) = true ∧ dstOf l j = some d) ∧ (V d = TyC.eq (.bool !q) ∨ V d = TyC.eq undef)
section
variable {b : BB} {f : FF} {w : World} {c : Colr} {x : Act} {o : Oper}
theorem guard_slot {j d : Nat} (hJ : J l.toArray w0 c0 CB Fs V b f w c) (hF : Fr a x f) (hE : Ev n a m) (hj : b j = true) (hd : decide (d < n) = true ∧ dstOf l j = some d) : ∃ oj v, l.toArray[j]? = some oj ∧ oj.dst = some d ∧ x.tmps[d]? = some v ∧ (V d).sat v w c := by
  have h2 := hd.2
  unfold dstOf at h2
  split at h2
  · rename_i oj hoj
    rw [nthL_eq] at hoj
    have h3 := (hJ.set j oj d (by simpa using hoj) h2).1 hj
    cases hf : f d with
    | none => exact absurd hf h3
    | some v =>
      have hlt : d < a.tmps.size := by rw [hE.1]; exact of_decide_eq_true hd.1
      have he : x.eval (.tmp d) = v := hF.in hlt hf
      refine ⟨oj, v, by simpa using hoj, h2, ?_, hJ.typ d v hf⟩
      have hlx : d < x.tmps.size := by rw [hF.size]; exact hlt
      have : x.tmps.getD d undef = v := he
      simp only [Array.getD, hlx, dif_pos] at this
      rw [Array.getElem?_eq_getElem hlx]
      exact congrArg some this
  · cases h2
theorem Gd.wanted (hg : Gd l n dt V i o.guard) (hJ : J l.toArray w0 c0 CB Fs V b f w c) (hF : Fr a x f) (hE : Ev n a m) (K : Kx dt w0 c0 CB Fs i b f w c) : Region.wanted o (yielded l.toArray x.tmps) = true := by
  unfold Gd at hg
  split at hg
  · rename_i h; simp [Region.wanted, h]
  · rename_i j q h
    obtain ⟨h1, d, h2, h3⟩ := hg
    obtain ⟨oj, v, q1, q2, q3, q4⟩ := guard_slot hJ hF hE (K.done j h1) h2
    rw [h3] at q4
    obtain rfl : v = .bool q := q4
    simp only [List.getElem?_toArray] at q1
    simp [Region.wanted, h, yielded, q1, q2, q3]
theorem Gn.not (hg : Gn l n dt V i o.guard) (hJ : J l.toArray w0 c0 CB Fs V b f w c) (hF : Fr a x f) (hE : Ev n a m) (K : Kx dt w0 c0 CB Fs i b f w c) : Region.wanted o (yielded l.toArray x.tmps) = false := by
  unfold Gn at hg
  split at hg
  · exact hg.elim
  · rename_i j q h
    obtain ⟨h1, d, h2, h3⟩ := hg
    obtain ⟨oj, v, q1, q2, q3, q4⟩ := guard_slot hJ hF hE (K.done j h1) h2
    simp only [List.getElem?_toArray] at q1
    rcases h3 with h3 | h3
    · rw [h3] at q4
      obtain rfl : v = .bool !q := q4
      simp [Region.wanted, h, yielded, q1, q2, q3]
    · rw [h3] at q4
      obtain rfl : v = undef := q4
      simp [Region.wanted, h, yielded, q1, q2, q3, undef]
end
theorem sMv (d : Nat) {o : Oper} (r : XA n l dt m D i) (hi : nthL l i = some o := by rfl) (hop : o.op = .move r.r.opd ∨ o.op = .assign r.r.opd := by first | exact .inl rfl | exact .inr rfl) (hd : o.dst = some d := by rfl) (hA : Fs.filter (aff [] i (some d)) = [] := by rfl) (hT : ∀ w c v, r.r.T V w c v → (V d).sat (r.r.W v) w c := by first | exact fun _ _ _ h => h | exact fun _ _ _ _ => rfl) (hg : Gd l n dt V i o.guard := by first | exact trivial | exact ⟨rfl, _, ⟨rfl, rfl⟩, rfl⟩) : OpStep P l dt Q n a m D CB Fs V w0 c0 i := by
  intro b f w c x o' hJ hout hF hE ho K
  obtain rfl : o = o' := Option.some.inj (hi.symm.trans ho)
  obtain ⟨v, ev, sv⟩ := r.ev hJ hout hF hE K
  exact .pure d (hg.wanted hJ hF hE K) hd (by rw [hA]; trivial) hJ.gi (ex_move hop ev) (hT w c v sv)
theorem sNo (d : Nat) {o : Oper} (hV : V d = TyC.eq undef := by rfl) (hi : nthL l i = some o := by rfl) (hd : o.dst = some d := by rfl) (hA : Fs.filter (aff [] i (some d)) = [] := by rfl) (hg : Gn l n dt V i o.guard := by first | exact ⟨rfl, _, ⟨rfl, rfl⟩, .inl rfl⟩ | exact ⟨rfl, _, ⟨rfl, rfl⟩, .inr rfl⟩) : OpStep P l dt Q n a m D CB Fs V w0 c0 i := by
  intro b f w c x o' hJ hout hF hE ho K
  obtain rfl : o = o' := Option.some.inj (hi.symm.trans ho)
  exact .non d (hg.not hJ hF hE K) hd (by rw [hA]; trivial) (by rw [hV]; rfl)
theorem sLd (d : Nat) {o : Oper} (r0 : XA n l dt m D i) {ty : TypeId} (L : ∀ {b : BB} {f : FF} {w : World} {c : Colr} {v : Value}, Kx dt w0 c0 CB Fs i b f w c → r0.r.T V w c v → ∃ ad u, r0.r.W v = .pointer (some ad) ∧ (loadVar ty ad).run P w = .ok u w ∧ (V d).sat u w c) (hi : nthL l i = some o := by rfl) (hop : o.op = .load ty r0.r.opd := by rfl) (hd : o.dst = some d := by rfl) (hA : Fs.filter (aff [] i (some d)) = [] := by rfl) (hg : Gd l n dt V i o.guard := by first | exact trivial | exact ⟨rfl, _, ⟨rfl, rfl⟩, rfl⟩) : OpStep P l dt Q n a m D CB Fs V w0 c0 i := by
  intro b f w c x o' hJ hout hF hE ho K
  obtain rfl : o = o' := Option.some.inj (hi.symm.trans ho)
  obtain ⟨v0, ev0, sv0⟩ := r0.ev hJ hout hF hE K
  obtain ⟨ad, u, h1, h2, h3⟩ := L K sv0
  exact .pure d (hg.wanted hJ hF hE K) hd (by rw [hA]; trivial) hJ.gi (ex_load hop (ev0.trans h1) h2) h3
theorem sFa (d : Nat) {o : Oper} (r0 : XA n l dt m D i) {ty : TypeId} {k : Nat} {u : Value} (L : ∀ {w : World} {v : Value}, (Instr.fieldAt ty (r0.r.W v) k).run P w = .ok u w) (hV : V d = TyC.eq u := by rfl) (hT : ∀ w c v, r0.r.T V w c v → True := by intros; trivial) (hi : nthL l i = some o := by rfl) (hop : o.op = .fieldAddr ty r0.r.opd k := by rfl) (hd : o.dst = some d := by rfl) (hA : Fs.filter (aff [] i (some d)) = [] := by rfl) (hg : Gd l n dt V i o.guard := by first | exact trivial | exact ⟨rfl, _, ⟨rfl, rfl⟩, rfl⟩) : OpStep P l dt Q n a m D CB Fs V w0 c0 i := by
  intro b f w c x o' hJ hout hF hE ho K
  obtain rfl : o = o' := Option.some.inj (hi.symm.trans ho)
  obtain ⟨v0, ev0, sv0⟩ := r0.ev hJ hout hF hE K
  exact .pure d (hg.wanted hJ hF hE K) hd (by rw [hA]; trivial) hJ.gi (ex_field hop ev0 L) (by rw [hV]; rfl)
theorem sEx (d : Nat) {o : Oper} (r0 : XA n l dt m D i) {k : Nat} (L : ∀ {w : World} {c : Colr} {v : Value}, r0.r.T V w c v → ∃ vs u, r0.r.W v = .tuple vs ∧ vs[k]? = some u ∧ (V d).sat u w c) (hi : nthL l i = some o := by rfl) (hop : o.op = .extract r0.r.opd k := by rfl) (hd : o.dst = some d := by rfl) (hA : Fs.filter (aff [] i (some d)) = [] := by rfl) (hg : Gd l n dt V i o.guard := by first | exact trivial | exact ⟨rfl, _, ⟨rfl, rfl⟩, rfl⟩) : OpStep P l dt Q n a m D CB Fs V w0 c0 i := by
  intro b f w c x o' hJ hout hF hE ho K
  obtain rfl : o = o' := Option.some.inj (hi.symm.trans ho)
  obtain ⟨v0, ev0, sv0⟩ := r0.ev hJ hout hF hE K
  obtain ⟨vs, u, h1, h2, h3⟩ := L sv0
  exact .pure d (hg.wanted hJ hF hE K) hd (by rw [hA]; trivial) hJ.gi (ex_extract hop (ev0.trans h1) h2) h3
theorem sUn (d : Nat) {o : Oper} (r0 : XA n l dt m D i) {op : UnOp} {ty : TypeId} {u : Value} (L : ∀ {w : World} {v : Value}, (Op.unary op (r0.r.W v)).run P w = .ok u w) (hV : V d = TyC.eq u := by rfl) (hi : nthL l i = some o := by rfl) (hop : o.op = .unOp op ty r0.r.opd := by rfl) (hd : o.dst = some d := by rfl) (hA : Fs.filter (aff [] i (some d)) = [] := by rfl) (hg : Gd l n dt V i o.guard := by first | exact trivial | exact ⟨rfl, _, ⟨rfl, rfl⟩, rfl⟩) : OpStep P l dt Q n a m D CB Fs V w0 c0 i := by
  intro b f w c x o' hJ hout hF hE ho K
  obtain rfl : o = o' := Option.some.inj (hi.symm.trans ho)
  obtain ⟨v0, ev0, sv0⟩ := r0.ev hJ hout hF hE K
  exact .pure d (hg.wanted hJ hF hE K) hd (by rw [hA]; trivial) hJ.gi (ex_un hop ev0 L) (by rw [hV]; rfl)
theorem sUv (d : Nat) {o : Oper} (r0 : XA n l dt m D i) {op : UnOp} {ty : TypeId} {u z : Value} (hz : ∀ {w : World} {c : Colr} {v : Value}, r0.r.T V w c v → r0.r.W v = z) (L : ∀ {w : World}, (Op.unary op z).run P w = .ok u w) (hV : V d = TyC.eq u := by rfl) (hi : nthL l i = some o := by rfl) (hop : o.op = .unOp op ty r0.r.opd := by rfl) (hd : o.dst = some d := by rfl) (hA : Fs.filter (aff [] i (some d)) = [] := by rfl) (hg : Gd l n dt V i o.guard := by first | exact trivial | exact ⟨rfl, _, ⟨rfl, rfl⟩, rfl⟩) : OpStep P l dt Q n a m D CB Fs V w0 c0 i := by
  intro b f w c x o' hJ hout hF hE ho K
  obtain rfl : o = o' := Option.some.inj (hi.symm.trans ho)
  obtain ⟨v0, ev0, sv0⟩ := r0.ev hJ hout hF hE K
  exact .pure d (hg.wanted hJ hF hE K) hd (by rw [hA]; trivial) hJ.gi (ex_un hop (ev0.trans (hz sv0)) L) (by rw [hV]; rfl)
theorem sBin (d : Nat) {o : Oper} (r0 : XA n l dt m D i) (r1 : XA n l dt m D i) {op : BinOp} {ty ty2 : TypeId} {u z z' : Value} (hz : ∀ {w : World} {c : Colr} {v v' : Value}, r0.r.T V w c v → r1.r.T V w c v' → r0.r.W v = z ∧ r1.r.W v' = z') (G : ∀ {w : World}, (eqGuard op ty r0.r.opd r1.r.opd z z').run P w = .ok () w) (L : ∀ {w : World}, (binOp op ty z z').run P w = .ok u w) (hV : V d = TyC.eq u := by rfl) (hi : nthL l i = some o := by rfl) (hop : o.op = .binOp op ty r0.r.opd r1.r.opd ty2 := by rfl) (hd : o.dst = some d := by rfl) (hA : Fs.filter (aff [] i (some d)) = [] := by rfl) (hg : Gd l n dt V i o.guard := by first | exact trivial | exact ⟨rfl, _, ⟨rfl, rfl⟩, rfl⟩) : OpStep P l dt Q n a m D CB Fs V w0 c0 i := by
  intro b f w c x o' hJ hout hF hE ho K
  obtain rfl : o = o' := Option.some.inj (hi.symm.trans ho)
  obtain ⟨v0, ev0, sv0⟩ := r0.ev hJ hout hF hE K
  obtain ⟨v1, ev1, sv1⟩ := r1.ev hJ hout hF hE K
  exact .pure d (hg.wanted hJ hF hE K) hd (by rw [hA]; trivial) hJ.gi (ex_bin hop (ev0.trans (hz sv0 sv1).1) (ev1.trans (hz sv0 sv1).2) G L) (by rw [hV]; rfl)
theorem sIx (d : Nat) {o : Oper} (r0 : XA n l dt m D i) (r1 : XA n l dt m D i) {ty : TypeId} (L : ∀ {b : BB} {f : FF} {w : World} {c : Colr} {v v' : Value}, Kx dt w0 c0 CB Fs i b f w c → r0.r.T V w c v → r1.r.T V w c v' → ∃ u, (Instr.indexAt ty (r0.r.W v) (r1.r.W v')).run P w = .ok u w ∧ (V d).sat u w c) (hi : nthL l i = some o := by rfl) (hop : o.op = .indexAddr ty r0.r.opd r1.r.opd := by rfl) (hd : o.dst = some d := by rfl) (hA : Fs.filter (aff [] i (some d)) = [] := by rfl) (hg : Gd l n dt V i o.guard := by first | exact trivial | exact ⟨rfl, _, ⟨rfl, rfl⟩, rfl⟩) : OpStep P l dt Q n a m D CB Fs V w0 c0 i := by
  intro b f w c x o' hJ hout hF hE ho K
  obtain rfl : o = o' := Option.some.inj (hi.symm.trans ho)
  obtain ⟨v0, ev0, sv0⟩ := r0.ev hJ hout hF hE K
  obtain ⟨v1, ev1, sv1⟩ := r1.ev hJ hout hF hE K
  obtain ⟨u, h1, h2⟩ := L K sv0 sv1
  exact .pure d (hg.wanted hJ hF hE K) hd (by rw [hA]; trivial) hJ.gi (ex_index hop ev0 ev1 h1) h2
theorem sC0 (d : Nat) {o : Oper} {fn : Nat} {tys : Array TypeId} {fd : Func}  (L : ∀ {b : BB} {f : FF} {w : World} {c : Colr}, Kx dt w0 c0 CB Fs i b f w c → CV P fn #[] w c (V d)) (hfn : P.funcs[fn]? = some fd) (hi : nthL l i = some o := by rfl) (hop : o.op = .call { callee := .value (.func fn), args := #[], argTypes := tys } := by rfl) (hd : o.dst = some d := by rfl) (hA : Fs.filter (aff [] i (some d)) = [] := by rfl) (hnb : (fd.name == "runtime.NumGoroutine" || fd.body.isNone) = false := by rfl) (hg : Gd l n dt V i o.guard := by first | exact trivial | exact ⟨rfl, _, ⟨rfl, rfl⟩, rfl⟩) : OpStep P l dt Q n a m D CB Fs V w0 c0 i := by
  intro b f w c x o' hJ hout hF hE ho K
  obtain rfl : o = o' := Option.some.inj (hi.symm.trans ho)
  exact .call d (hg.wanted hJ hF hE K) hd hA hJ.gi hop (vs := #[]) (by simp []) (enter_of hfn hnb _) (L K)
theorem sC1 (d : Nat) {o : Oper} {fn : Nat} {tys : Array TypeId} {fd : Func} (r0 : XA n l dt m D i) (L : ∀ {b : BB} {f : FF} {w : World} {c : Colr} {v0 : Value}, Kx dt w0 c0 CB Fs i b f w c → r0.r.T V w c v0 → CV P fn #[r0.r.W v0] w c (V d)) (hfn : P.funcs[fn]? = some fd) (hi : nthL l i = some o := by rfl) (hop : o.op = .call { callee := .value (.func fn), args := #[r0.r.opd], argTypes := tys } := by rfl) (hd : o.dst = some d := by rfl) (hA : Fs.filter (aff [] i (some d)) = [] := by rfl) (hnb : (fd.name == "runtime.NumGoroutine" || fd.body.isNone) = false := by rfl) (hg : Gd l n dt V i o.guard := by first | exact trivial | exact ⟨rfl, _, ⟨rfl, rfl⟩, rfl⟩) : OpStep P l dt Q n a m D CB Fs V w0 c0 i := by
  intro b f w c x o' hJ hout hF hE ho K
  obtain rfl : o = o' := Option.some.inj (hi.symm.trans ho)
  obtain ⟨v0, ev0, sv0⟩ := r0.ev hJ hout hF hE K
  exact .call d (hg.wanted hJ hF hE K) hd hA hJ.gi hop (vs := #[r0.r.W v0]) (by simp [ev0]) (enter_of hfn hnb _) (L K sv0)
theorem sC2 (d : Nat) {o : Oper} {fn : Nat} {tys : Array TypeId} {fd : Func} (r0 : XA n l dt m D i) (r1 : XA n l dt m D i) (L : ∀ {b : BB} {f : FF} {w : World} {c : Colr} {v0 v1 : Value}, Kx dt w0 c0 CB Fs i b f w c → r0.r.T V w c v0 → r1.r.T V w c v1 → CV P fn #[r0.r.W v0, r1.r.W v1] w c (V d)) (hfn : P.funcs[fn]? = some fd) (hi : nthL l i = some o := by rfl) (hop : o.op = .call { callee := .value (.func fn), args := #[r0.r.opd, r1.r.opd], argTypes := tys } := by rfl) (hd : o.dst = some d := by rfl) (hA : Fs.filter (aff [] i (some d)) = [] := by rfl) (hnb : (fd.name == "runtime.NumGoroutine" || fd.body.isNone) = false := by rfl) (hg : Gd l n dt V i o.guard := by first | exact trivial | exact ⟨rfl, _, ⟨rfl, rfl⟩, rfl⟩) : OpStep P l dt Q n a m D CB Fs V w0 c0 i := by
  intro b f w c x o' hJ hout hF hE ho K
  obtain rfl : o = o' := Option.some.inj (hi.symm.trans ho)
  obtain ⟨v0, ev0, sv0⟩ := r0.ev hJ hout hF hE K
  obtain ⟨v1, ev1, sv1⟩ := r1.ev hJ hout hF hE K
  exact .call d (hg.wanted hJ hF hE K) hd hA hJ.gi hop (vs := #[r0.r.W v0, r1.r.W v1]) (by simp [ev0, ev1]) (enter_of hfn hnb _) (L K sv0 sv1)
theorem sC3 (d : Nat) {o : Oper} {fn : Nat} {tys : Array TypeId} {fd : Func} (r0 : XA n l dt m D i) (r1 : XA n l dt m D i) (r2 : XA n l dt m D i) (L : ∀ {b : BB} {f : FF} {w : World} {c : Colr} {v0 v1 v2 : Value}, Kx dt w0 c0 CB Fs i b f w c → r0.r.T V w c v0 → r1.r.T V w c v1 → r2.r.T V w c v2 → CV P fn #[r0.r.W v0, r1.r.W v1, r2.r.W v2] w c (V d)) (hfn : P.funcs[fn]? = some fd) (hi : nthL l i = some o := by rfl) (hop : o.op = .call { callee := .value (.func fn), args := #[r0.r.opd, r1.r.opd, r2.r.opd], argTypes := tys } := by rfl) (hd : o.dst = some d := by rfl) (hA : Fs.filter (aff [] i (some d)) = [] := by rfl) (hnb : (fd.name == "runtime.NumGoroutine" || fd.body.isNone) = false := by rfl) (hg : Gd l n dt V i o.guard := by first | exact trivial | exact ⟨rfl, _, ⟨rfl, rfl⟩, rfl⟩) : OpStep P l dt Q n a m D CB Fs V w0 c0 i := by
  intro b f w c x o' hJ hout hF hE ho K
  obtain rfl : o = o' := Option.some.inj (hi.symm.trans ho)
  obtain ⟨v0, ev0, sv0⟩ := r0.ev hJ hout hF hE K
  obtain ⟨v1, ev1, sv1⟩ := r1.ev hJ hout hF hE K
  obtain ⟨v2, ev2, sv2⟩ := r2.ev hJ hout hF hE K
  exact .call d (hg.wanted hJ hF hE K) hd hA hJ.gi hop (vs := #[r0.r.W v0, r1.r.W v1, r2.r.W v2]) (by simp [ev0, ev1, ev2]) (enter_of hfn hnb _) (L K sv0 sv1 sv2)
theorem sC4 (d : Nat) {o : Oper} {fn : Nat} {tys : Array TypeId} {fd : Func} (r0 : XA n l dt m D i) (r1 : XA n l dt m D i) (r2 : XA n l dt m D i) (r3 : XA n l dt m D i) (L : ∀ {b : BB} {f : FF} {w : World} {c : Colr} {v0 v1 v2 v3 : Value}, Kx dt w0 c0 CB Fs i b f w c → r0.r.T V w c v0 → r1.r.T V w c v1 → r2.r.T V w c v2 → r3.r.T V w c v3 → CV P fn #[r0.r.W v0, r1.r.W v1, r2.r.W v2, r3.r.W v3] w c (V d)) (hfn : P.funcs[fn]? = some fd) (hi : nthL l i = some o := by rfl) (hop : o.op = .call { callee := .value (.func fn), args := #[r0.r.opd, r1.r.opd, r2.r.opd, r3.r.opd], argTypes := tys } := by rfl) (hd : o.dst = some d := by rfl) (hA : Fs.filter (aff [] i (some d)) = [] := by rfl) (hnb : (fd.name == "runtime.NumGoroutine" || fd.body.isNone) = false := by rfl) (hg : Gd l n dt V i o.guard := by first | exact trivial | exact ⟨rfl, _, ⟨rfl, rfl⟩, rfl⟩) : OpStep P l dt Q n a m D CB Fs V w0 c0 i := by
  intro b f w c x o' hJ hout hF hE ho K
  obtain rfl : o = o' := Option.some.inj (hi.symm.trans ho)
  obtain ⟨v0, ev0, sv0⟩ := r0.ev hJ hout hF hE K
  obtain ⟨v1, ev1, sv1⟩ := r1.ev hJ hout hF hE K
  obtain ⟨v2, ev2, sv2⟩ := r2.ev hJ hout hF hE K
  obtain ⟨v3, ev3, sv3⟩ := r3.ev hJ hout hF hE K
  exact .call d (hg.wanted hJ hF hE K) hd hA hJ.gi hop (vs := #[r0.r.W v0, r1.r.W v1, r2.r.W v2, r3.r.W v3]) (by simp [ev0, ev1, ev2, ev3]) (enter_of hfn hnb _) (L K sv0 sv1 sv2 sv3)
theorem sB0 (d : Nat) {o : Oper} {ty : TypeId}  (L : ∀ {b : BB} {f : FF} {w : World} {c : Colr}, Kx dt w0 c0 CB Fs i b f w c → ∃ u, (Instr.build ty #[]).run P w = .ok u w ∧ (V d).sat u w c) (hi : nthL l i = some o := by rfl) (hop : o.op = .build ty #[] := by rfl) (hd : o.dst = some d := by rfl) (hA : Fs.filter (aff [] i (some d)) = [] := by rfl) (hg : Gd l n dt V i o.guard := by first | exact trivial | exact ⟨rfl, _, ⟨rfl, rfl⟩, rfl⟩) : OpStep P l dt Q n a m D CB Fs V w0 c0 i := by
  intro b f w c x o' hJ hout hF hE ho K
  obtain rfl : o = o' := Option.some.inj (hi.symm.trans ho)
  obtain ⟨u, h1, h2⟩ := L K
  exact .pure d (hg.wanted hJ hF hE K) hd (by rw [hA]; trivial) hJ.gi (ex_build hop (by simp []) h1) h2
theorem sB1 (d : Nat) {o : Oper} {ty : TypeId} (r0 : XA n l dt m D i) (L : ∀ {b : BB} {f : FF} {w : World} {c : Colr} {v0 : Value}, Kx dt w0 c0 CB Fs i b f w c → r0.r.T V w c v0 → ∃ u, (Instr.build ty #[(0, r0.r.W v0)]).run P w = .ok u w ∧ (V d).sat u w c) (hi : nthL l i = some o := by rfl) (hop : o.op = .build ty #[(0, r0.r.opd)] := by rfl) (hd : o.dst = some d := by rfl) (hA : Fs.filter (aff [] i (some d)) = [] := by rfl) (hg : Gd l n dt V i o.guard := by first | exact trivial | exact ⟨rfl, _, ⟨rfl, rfl⟩, rfl⟩) : OpStep P l dt Q n a m D CB Fs V w0 c0 i := by
  intro b f w c x o' hJ hout hF hE ho K
  obtain rfl : o = o' := Option.some.inj (hi.symm.trans ho)
  obtain ⟨v0, ev0, sv0⟩ := r0.ev hJ hout hF hE K
  obtain ⟨u, h1, h2⟩ := L K sv0
  exact .pure d (hg.wanted hJ hF hE K) hd (by rw [hA]; trivial) hJ.gi (ex_build hop (by simp [ev0]) h1) h2
theorem sB2 (d : Nat) {o : Oper} {ty : TypeId} (r0 : XA n l dt m D i) (r1 : XA n l dt m D i) (L : ∀ {b : BB} {f : FF} {w : World} {c : Colr} {v0 v1 : Value}, Kx dt w0 c0 CB Fs i b f w c → r0.r.T V w c v0 → r1.r.T V w c v1 → ∃ u, (Instr.build ty #[(0, r0.r.W v0), (1, r1.r.W v1)]).run P w = .ok u w ∧ (V d).sat u w c) (hi : nthL l i = some o := by rfl) (hop : o.op = .build ty #[(0, r0.r.opd), (1, r1.r.opd)] := by rfl) (hd : o.dst = some d := by rfl) (hA : Fs.filter (aff [] i (some d)) = [] := by rfl) (hg : Gd l n dt V i o.guard := by first | exact trivial | exact ⟨rfl, _, ⟨rfl, rfl⟩, rfl⟩) : OpStep P l dt Q n a m D CB Fs V w0 c0 i := by
  intro b f w c x o' hJ hout hF hE ho K
  obtain rfl : o = o' := Option.some.inj (hi.symm.trans ho)
  obtain ⟨v0, ev0, sv0⟩ := r0.ev hJ hout hF hE K
  obtain ⟨v1, ev1, sv1⟩ := r1.ev hJ hout hF hE K
  obtain ⟨u, h1, h2⟩ := L K sv0 sv1
  exact .pure d (hg.wanted hJ hF hE K) hd (by rw [hA]; trivial) hJ.gi (ex_build hop (by simp [ev0, ev1]) h1) h2
theorem sB3 (d : Nat) {o : Oper} {ty : TypeId} (r0 : XA n l dt m D i) (r1 : XA n l dt m D i) (r2 : XA n l dt m D i) (L : ∀ {b : BB} {f : FF} {w : World} {c : Colr} {v0 v1 v2 : Value}, Kx dt w0 c0 CB Fs i b f w c → r0.r.T V w c v0 → r1.r.T V w c v1 → r2.r.T V w c v2 → ∃ u, (Instr.build ty #[(0, r0.r.W v0), (1, r1.r.W v1), (2, r2.r.W v2)]).run P w = .ok u w ∧ (V d).sat u w c) (hi : nthL l i = some o := by rfl) (hop : o.op = .build ty #[(0, r0.r.opd), (1, r1.r.opd), (2, r2.r.opd)] := by rfl) (hd : o.dst = some d := by rfl) (hA : Fs.filter (aff [] i (some d)) = [] := by rfl) (hg : Gd l n dt V i o.guard := by first | exact trivial | exact ⟨rfl, _, ⟨rfl, rfl⟩, rfl⟩) : OpStep P l dt Q n a m D CB Fs V w0 c0 i := by
  intro b f w c x o' hJ hout hF hE ho K
  obtain rfl : o = o' := Option.some.inj (hi.symm.trans ho)
  obtain ⟨v0, ev0, sv0⟩ := r0.ev hJ hout hF hE K
  obtain ⟨v1, ev1, sv1⟩ := r1.ev hJ hout hF hE K
  obtain ⟨v2, ev2, sv2⟩ := r2.ev hJ hout hF hE K
  obtain ⟨u, h1, h2⟩ := L K sv0 sv1 sv2
  exact .pure d (hg.wanted hJ hF hE K) hd (by rw [hA]; trivial) hJ.gi (ex_build hop (by simp [ev0, ev1, ev2]) h1) h2
theorem sL1 (d : Nat) {o : Oper} {ty t : TypeId} {sz : Nat} {L : List TyC} (r0 : XA n l dt m D i) (H : ∀ {b : BB} {f : FF} {w : World} {c : Colr} {v0 : Value}, Kx dt w0 c0 CB Fs i b f w c → r0.r.T V w c v0 → ∃ cs, (Instr.buildSlice ty 1 #[(0, r0.r.W v0)]).run P w = .ok (.slice (some ⟨w.heap.size, 0, none⟩) 1 1) (w.alloc (.cells cs t)) ∧ cs.size = L.length * sz ∧ (catK sz L).sat cs w c) (hn : L.length = 1 := by rfl) (hV : V d = litC sz t L := by rfl) (hi : nthL l i = some o := by rfl) (hop : o.op = .buildSlice ty 1 #[(0, r0.r.opd)] := by rfl) (hd : o.dst = some d := by rfl) (hA : Fs.filter (aff [] i (some d)) = [] := by rfl) (hg : Gd l n dt V i o.guard := by first | exact trivial | exact ⟨rfl, _, ⟨rfl, rfl⟩, rfl⟩) : OpStep P l dt Q n a m D CB Fs V w0 c0 i := by
  intro b f w c x o' hJ hout hF hE ho K
  obtain rfl : o = o' := Option.some.inj (hi.symm.trans ho)
  obtain ⟨v0, ev0, sv0⟩ := r0.ev hJ hout hF hE K
  obtain ⟨cs, h1, h2, h3⟩ := H K sv0
  exact .litv d (L := L) (hg.wanted hJ hF hE K) hd hA hJ.gi hop (by simp [ev0]) h1 hn h2 h3 hV
theorem sL2 (d : Nat) {o : Oper} {ty t : TypeId} {sz : Nat} {L : List TyC} (r0 : XA n l dt m D i) (r1 : XA n l dt m D i) (H : ∀ {b : BB} {f : FF} {w : World} {c : Colr} {v0 v1 : Value}, Kx dt w0 c0 CB Fs i b f w c → r0.r.T V w c v0 → r1.r.T V w c v1 → ∃ cs, (Instr.buildSlice ty 2 #[(0, r0.r.W v0), (1, r1.r.W v1)]).run P w = .ok (.slice (some ⟨w.heap.size, 0, none⟩) 2 2) (w.alloc (.cells cs t)) ∧ cs.size = L.length * sz ∧ (catK sz L).sat cs w c) (hn : L.length = 2 := by rfl) (hV : V d = litC sz t L := by rfl) (hi : nthL l i = some o := by rfl) (hop : o.op = .buildSlice ty 2 #[(0, r0.r.opd), (1, r1.r.opd)] := by rfl) (hd : o.dst = some d := by rfl) (hA : Fs.filter (aff [] i (some d)) = [] := by rfl) (hg : Gd l n dt V i o.guard := by first | exact trivial | exact ⟨rfl, _, ⟨rfl, rfl⟩, rfl⟩) : OpStep P l dt Q n a m D CB Fs V w0 c0 i := by
  intro b f w c x o' hJ hout hF hE ho K
  obtain rfl : o = o' := Option.some.inj (hi.symm.trans ho)
  obtain ⟨v0, ev0, sv0⟩ := r0.ev hJ hout hF hE K
  obtain ⟨v1, ev1, sv1⟩ := r1.ev hJ hout hF hE K
  obtain ⟨cs, h1, h2, h3⟩ := H K sv0 sv1
  exact .litv d (L := L) (hg.wanted hJ hF hE K) hd hA hJ.gi hop (by simp [ev0, ev1]) h1 hn h2 h3 hV
theorem sL3 (d : Nat) {o : Oper} {ty t : TypeId} {sz : Nat} {L : List TyC} (r0 : XA n l dt m D i) (r1 : XA n l dt m D i) (r2 : XA n l dt m D i) (H : ∀ {b : BB} {f : FF} {w : World} {c : Colr} {v0 v1 v2 : Value}, Kx dt w0 c0 CB Fs i b f w c → r0.r.T V w c v0 → r1.r.T V w c v1 → r2.r.T V w c v2 → ∃ cs, (Instr.buildSlice ty 3 #[(0, r0.r.W v0), (1, r1.r.W v1), (2, r2.r.W v2)]).run P w = .ok (.slice (some ⟨w.heap.size, 0, none⟩) 3 3) (w.alloc (.cells cs t)) ∧ cs.size = L.length * sz ∧ (catK sz L).sat cs w c) (hn : L.length = 3 := by rfl) (hV : V d = litC sz t L := by rfl) (hi : nthL l i = some o := by rfl) (hop : o.op = .buildSlice ty 3 #[(0, r0.r.opd), (1, r1.r.opd), (2, r2.r.opd)] := by rfl) (hd : o.dst = some d := by rfl) (hA : Fs.filter (aff [] i (some d)) = [] := by rfl) (hg : Gd l n dt V i o.guard := by first | exact trivial | exact ⟨rfl, _, ⟨rfl, rfl⟩, rfl⟩) : OpStep P l dt Q n a m D CB Fs V w0 c0 i := by
  intro b f w c x o' hJ hout hF hE ho K
  obtain rfl : o = o' := Option.some.inj (hi.symm.trans ho)
  obtain ⟨v0, ev0, sv0⟩ := r0.ev hJ hout hF hE K
  obtain ⟨v1, ev1, sv1⟩ := r1.ev hJ hout hF hE K
  obtain ⟨v2, ev2, sv2⟩ := r2.ev hJ hout hF hE K
  obtain ⟨cs, h1, h2, h3⟩ := H K sv0 sv1 sv2
  exact .litv d (L := L) (hg.wanted hJ hF hE K) hd hA hJ.gi hop (by simp [ev0, ev1, ev2]) h1 hn h2 h3 hV
theorem sL4 (d : Nat) {o : Oper} {ty t : TypeId} {sz : Nat} {L : List TyC} (r0 : XA n l dt m D i) (r1 : XA n l dt m D i) (r2 : XA n l dt m D i) (r3 : XA n l dt m D i) (H : ∀ {b : BB} {f : FF} {w : World} {c : Colr} {v0 v1 v2 v3 : Value}, Kx dt w0 c0 CB Fs i b f w c → r0.r.T V w c v0 → r1.r.T V w c v1 → r2.r.T V w c v2 → r3.r.T V w c v3 → ∃ cs, (Instr.buildSlice ty 4 #[(0, r0.r.W v0), (1, r1.r.W v1), (2, r2.r.W v2), (3, r3.r.W v3)]).run P w = .ok (.slice (some ⟨w.heap.size, 0, none⟩) 4 4) (w.alloc (.cells cs t)) ∧ cs.size = L.length * sz ∧ (catK sz L).sat cs w c) (hn : L.length = 4 := by rfl) (hV : V d = litC sz t L := by rfl) (hi : nthL l i = some o := by rfl) (hop : o.op = .buildSlice ty 4 #[(0, r0.r.opd), (1, r1.r.opd), (2, r2.r.opd), (3, r3.r.opd)] := by rfl) (hd : o.dst = some d := by rfl) (hA : Fs.filter (aff [] i (some d)) = [] := by rfl) (hg : Gd l n dt V i o.guard := by first | exact trivial | exact ⟨rfl, _, ⟨rfl, rfl⟩, rfl⟩) : OpStep P l dt Q n a m D CB Fs V w0 c0 i := by
  intro b f w c x o' hJ hout hF hE ho K
  obtain rfl : o = o' := Option.some.inj (hi.symm.trans ho)
  obtain ⟨v0, ev0, sv0⟩ := r0.ev hJ hout hF hE K
  obtain ⟨v1, ev1, sv1⟩ := r1.ev hJ hout hF hE K
  obtain ⟨v2, ev2, sv2⟩ := r2.ev hJ hout hF hE K
  obtain ⟨v3, ev3, sv3⟩ := r3.ev hJ hout hF hE K
  obtain ⟨cs, h1, h2, h3⟩ := H K sv0 sv1 sv2 sv3
  exact .litv d (L := L) (hg.wanted hJ hF hE K) hd hA hJ.gi hop (by simp [ev0, ev1, ev2, ev3]) h1 hn h2 h3 hV
theorem sL6 (d : Nat) {o : Oper} {ty t : TypeId} {sz : Nat} {L : List TyC} (r0 : XA n l dt m D i) (r1 : XA n l dt m D i) (r2 : XA n l dt m D i) (r3 : XA n l dt m D i) (r4 : XA n l dt m D i) (r5 : XA n l dt m D i) (H : ∀ {b : BB} {f : FF} {w : World} {c : Colr} {v0 v1 v2 v3 v4 v5 : Value}, Kx dt w0 c0 CB Fs i b f w c → r0.r.T V w c v0 → r1.r.T V w c v1 → r2.r.T V w c v2 → r3.r.T V w c v3 → r4.r.T V w c v4 → r5.r.T V w c v5 → ∃ cs, (Instr.buildSlice ty 6 #[(0, r0.r.W v0), (1, r1.r.W v1), (2, r2.r.W v2), (3, r3.r.W v3), (4, r4.r.W v4), (5, r5.r.W v5)]).run P w = .ok (.slice (some ⟨w.heap.size, 0, none⟩) 6 6) (w.alloc (.cells cs t)) ∧ cs.size = L.length * sz ∧ (catK sz L).sat cs w c) (hn : L.length = 6 := by rfl) (hV : V d = litC sz t L := by rfl) (hi : nthL l i = some o := by rfl) (hop : o.op = .buildSlice ty 6 #[(0, r0.r.opd), (1, r1.r.opd), (2, r2.r.opd), (3, r3.r.opd), (4, r4.r.opd), (5, r5.r.opd)] := by rfl) (hd : o.dst = some d := by rfl) (hA : Fs.filter (aff [] i (some d)) = [] := by rfl) (hg : Gd l n dt V i o.guard := by first | exact trivial | exact ⟨rfl, _, ⟨rfl, rfl⟩, rfl⟩) : OpStep P l dt Q n a m D CB Fs V w0 c0 i := by
  intro b f w c x o' hJ hout hF hE ho K
  obtain rfl : o = o' := Option.some.inj (hi.symm.trans ho)
  obtain ⟨v0, ev0, sv0⟩ := r0.ev hJ hout hF hE K
  obtain ⟨v1, ev1, sv1⟩ := r1.ev hJ hout hF hE K
  obtain ⟨v2, ev2, sv2⟩ := r2.ev hJ hout hF hE K
  obtain ⟨v3, ev3, sv3⟩ := r3.ev hJ hout hF hE K
  obtain ⟨v4, ev4, sv4⟩ := r4.ev hJ hout hF hE K
  obtain ⟨v5, ev5, sv5⟩ := r5.ev hJ hout hF hE K
  obtain ⟨cs, h1, h2, h3⟩ := H K sv0 sv1 sv2 sv3 sv4 sv5
  exact .litv d (L := L) (hg.wanted hJ hF hE K) hd hA hJ.gi hop (by simp [ev0, ev1, ev2, ev3, ev4, ev5]) h1 hn h2 h3 hV

/-! ### boxes -/
theorem sBox (p nc : Nat) {o : Oper} {sp : Nat} {z : Array Value} {τ : TyC} {ty : TypeId} (r0 : XA n l dt m D i) (H : ∀ {b : BB} {f : FF} {w : World} {c : Colr} {v : Value}, Kx dt w0 c0 CB Fs i b f w c → r0.r.T V w c v → ∃ cs, (r0.r.W v).cells = cs ∧ τ.sat (r0.r.W v) w c ∧ cs.toList.all (fun v => !NB v) = true)
    (hi : nthL l i = some o := by rfl) (hop : o.op = .box ty r0.r.opd := by rfl) (hd : o.dst = some p := by rfl) (hF_ : Fs.filter (aff [nc] i (some p)) = [RF.new p nc ty sp z τ] := by rfl) (hCB : [nc].all (CB.contains ·) = true := by rfl) (hs : sp = i := by rfl) (hn : ([nc].contains 0 || [nc].contains 1) = false := by rfl) (hV : V p = TyC.ptr := by rfl) (hg : Gd l n dt V i o.guard := by first | exact trivial | exact ⟨rfl, _, ⟨rfl, rfl⟩, rfl⟩) : OpStep P l dt Q n a m D CB Fs V w0 c0 i := by
  intro b f w c x o' hJ hout hF hE ho K
  obtain rfl : o = o' := Option.some.inj (hi.symm.trans ho)
  obtain ⟨v0, ev0, sv0⟩ := r0.ev hJ hout hF hE K
  obtain ⟨cs, h1, h2, h3⟩ := H K sv0
  exact .box p nc sp z cs τ (hg.wanted hJ hF hE K) hd hCB hF_ hJ.gi hop ev0 h1 h2 hs hn h3 hV
theorem sAlz (p nc : Nat) {o : Oper} {sp : Nat} {z : Array Value} {τ : TyC} {ty : TypeId} {u : Value} (hz : ∀ {w : World}, (zeroValue ty).run P w = .ok u w) (hu : ∀ {w : World} {c : Colr}, τ.sat u w c)
    (hi : nthL l i = some o := by rfl) (hop : o.op = .alloc ty := by rfl) (hd : o.dst = some p := by rfl) (hF_ : Fs.filter (aff [nc] i (some p)) = [RF.new p nc ty sp z τ] := by rfl) (hCB : [nc].all (CB.contains ·) = true := by rfl) (hs : sp = i := by rfl) (hn : ([nc].contains 0 || [nc].contains 1) = false := by rfl) (hb : u.cells.toList.all (fun v => !NB v) = true := by rfl) (hV : V p = TyC.ptr := by rfl) (hg : Gd l n dt V i o.guard := by first | exact trivial | exact ⟨rfl, _, ⟨rfl, rfl⟩, rfl⟩) : OpStep P l dt Q n a m D CB Fs V w0 c0 i := by
  intro b f w c x o' hJ hout hF hE ho K
  obtain rfl : o = o' := Option.some.inj (hi.symm.trans ho)
  exact .allocz p nc sp z τ (hg.wanted hJ hF hE K) hd hCB hF_ hJ.gi hop hz rfl hu hs hn hb hV
theorem sAl (p nc : Nat) {o : Oper} {sp : Nat} {z : Array Value} {τ : TyC} {ty : TypeId} {u : Value} (hz : ∀ {w : World}, (zeroValue ty).run P w = .ok u w) (hc : u.cells = z := by rfl)
    (hi : nthL l i = some o := by rfl) (hop : o.op = .alloc ty := by rfl) (hd : o.dst = some p := by rfl) (hF_ : Fs.filter (aff [nc] i (some p)) = [RF.new p nc ty sp z τ] := by rfl) (hCB : [nc].all (CB.contains ·) = true := by rfl) (hs : dep dt sp i = true := by rfl) (hsi : (sp == i) = false := by rfl) (hn : ([nc].contains 0 || [nc].contains 1) = false := by rfl) (hb : z.toList.all (fun v => !NB v) = true := by rfl) (hV : V p = TyC.ptr := by rfl) (hg : Gd l n dt V i o.guard := by first | exact trivial | exact ⟨rfl, _, ⟨rfl, rfl⟩, rfl⟩) : OpStep P l dt Q n a m D CB Fs V w0 c0 i := by
  intro b f w c x o' hJ hout hF hE ho K
  obtain rfl : o = o' := Option.some.inj (hi.symm.trans ho)
  exact .alloc p nc sp z τ (hg.wanted hJ hF hE K) hd hCB hF_ hJ.gi hop hz hc (K.nyet sp hs) hsi hn hb hV
/-- A store that fills a box of the region. -/
theorem sStn (p nc j k : Nat) {o : Oper} {mm : Nat} {z : Array Value} {τ : TyC} {ty t : TypeId} (r1 : XA n l dt m D i) (hA : Agg P ty mm) (hs : τ.str mm) (H : ∀ {b : BB} {f : FF} {w : World} {c : Colr} {v : Value}, Kx dt w0 c0 CB Fs i b f w c → r1.r.T V w c v → τ.sat (r1.r.W v) w c := by exact fun _ h => h) (hp : dep dt i j = true ∧ decide (p < n) = true ∧ dstOf l j = some p := by exact ⟨rfl, rfl, rfl⟩) (hk : Fs[k]? = some (RF.new p nc t i z τ) := by rfl)
    (hi : nthL l i = some o := by rfl) (hop : o.op = .store ty (.tmp p) r1.r.opd := by rfl) (hd : o.dst = none := by rfl) (hz : z.size = mm := by rfl) (hF_ : Fs.filter (aff [nc] i none) = [RF.new p nc t i z τ] := by rfl) (hCB : [nc].all (CB.contains ·) = true := by rfl) (hn : ([nc].contains 0 || [nc].contains 1) = false := by rfl) (hV : V p = TyC.ptr := by rfl) (hg : Gd l n dt V i o.guard := by first | exact trivial | exact ⟨rfl, _, ⟨rfl, rfl⟩, rfl⟩) : OpStep P l dt Q n a m D CB Fs V w0 c0 i := by
  intro b f w c x o' hJ hout hF hE ho K
  obtain rfl : o = o' := Option.some.inj (hi.symm.trans ho)
  obtain ⟨v1, ev1, sv1⟩ := r1.ev hJ hout hF hE K
  obtain ⟨h1, h2, h2'⟩ := hp
  have h3' := h2'
  unfold dstOf at h3'
  split at h3'
  · rename_i oj hoj
    rw [nthL_eq] at hoj
    have h3 := (hJ.set j oj p (by simpa using hoj) h3').1 (K.done j h1)
    cases hf : f p with
    | none => exact absurd hf h3
    | some v =>
      have h4 := hJ.typ p v hf
      rw [hV] at h4
      obtain ⟨g, rfl⟩ := h4
      have he : x.eval (.tmp p) = .pointer (some ⟨g, 0, none⟩) := hF.in (by rw [hE.1]; exact of_decide_eq_true h2) hf
      obtain ⟨hcg, hbk⟩ := ((All.at K.fac k hk) g (by simp [hf, adr])).2 K.self
      obtain ⟨w2, q1, q2, q3⟩ := store_tyc (P := P) hA hs hbk hz (H K sv1) hJ.gi hcg hn
      refine .store nc [nc] rfl (hg.wanted hJ hF hE K) hd hCB hop he ev1 ⟨w2, q1, q2, ?_⟩
      rw [hF_]
      refine ⟨fun g' hg' => ?_, trivial⟩
      obtain rfl : g = g' := by simpa [hf, adr] using hg'
      exact ⟨fun _ => q3, fun hbb => by rw [bup_at] at hbb; cases hbb⟩
  · cases h3'
theorem st_now {g t n i : Nat} {τ : TyC} {F0 : RF} {b : BB} {f : FF} {w : World} {c : Colr} (h : BoxC w c g t n τ) : (RF.st i (Fact.box g t n τ) F0).P (bup b i) f w c := ⟨fun _ => h, fun hbb => (by rw [bup_at] at hbb; cases hbb)⟩
/-- A store into a box that was there. -/
theorem sSto (nc : Nat) {o : Oper} {g mm : Nat} {τ : TyC} {ty t : TypeId} {F : RF} (r0 r1 : XA n l dt m D i) (hA : Agg P ty mm) (hs : τ.str mm) (O : ∀ {b : BB} {f : FF} {w : World} {c : Colr}, Kx dt w0 c0 CB Fs i b f w c → ∃ old, Blk w g t old ∧ old.size = mm ∧ c g = nc) (H : ∀ {b : BB} {f : FF} {w : World} {c : Colr} {v : Value}, Kx dt w0 c0 CB Fs i b f w c → r1.r.T V w c v → τ.sat (r1.r.W v) w c)
    
    (hi : nthL l i = some o := by rfl) (hop : o.op = .store ty r0.r.opd r1.r.opd := by rfl) (hd : o.dst = none := by rfl) (ha : ∀ v, r0.r.W v = .pointer (some ⟨g, 0, none⟩) := by exact fun _ => rfl) (hF_ : Fs.filter (aff [nc] i none) = [F] := by rfl) (R : ∀ {b : BB} {f : FF} {w w' : World} {c : Colr}, Kx dt w0 c0 CB Fs i b f w c → BoxC w' c g t nc τ → F.P (bup b i) f w' c := by exact fun _ h => st_now h) (hCB : [nc].all (CB.contains ·) = true := by rfl) (hn : ([nc].contains 0 || [nc].contains 1) = false := by rfl) (hg : Gd l n dt V i o.guard := by first | exact trivial | exact ⟨rfl, _, ⟨rfl, rfl⟩, rfl⟩) : OpStep P l dt Q n a m D CB Fs V w0 c0 i := by
  intro b f w c x o' hJ hout hF hE ho K
  obtain rfl : o = o' := Option.some.inj (hi.symm.trans ho)
  obtain ⟨v0, ev0, sv0⟩ := r0.ev hJ hout hF hE K
  obtain ⟨v1, ev1, sv1⟩ := r1.ev hJ hout hF hE K
  obtain ⟨old, q1, q2, q3⟩ := O K
  obtain ⟨w2, p1, p2, p3⟩ := store_tyc (P := P) hA hs q1 q2 (H K sv1) hJ.gi q3 hn
  refine .store nc [nc] rfl (hg.wanted hJ hF hE K) hd hCB hop (ev0.trans (ha v0)) ev1 ⟨w2, p1, p2, ?_⟩
  rw [hF_]
  exact ⟨R K p3, trivial⟩
theorem st_later {i j : Nat} {F1 : Fact} {F0 : RF} {b : BB} {f : FF} {w : World} {c : Colr} (hb : b j = false) (hj : (j == i) = false) (h : F0.P (bup b i) f w c) : (RF.st j F1 F0).P (bup b i) f w c := ⟨fun hbb => (by rw [bup_ne hj, hb] at hbb; cases hbb), fun _ => h⟩
theorem bxs {τ : TyC} {k : Nat} {u : Value} {w : World} {c : Colr} (hs : τ.str k) (h : τ.sat u w c) : ∃ cs, u.cells = cs ∧ τ.sat u w c ∧ cs.toList.all (fun v => !NB v) = true := by
  obtain ⟨cs, rfl, _, _, h4⟩ := hs u w c h
  exact ⟨cs, rfl, h, h4⟩
theorem ldb {P : Program} {ty : TypeId} {ad : Addr} {w : World} {p : Value → Prop} (h : ∃ u, (loadVar ty ad).run P w = .ok u w ∧ p u) : ∃ ad' u, Value.pointer (some ad) = .pointer (some ad') ∧ (loadVar ty ad').run P w = .ok u w ∧ p u := by
  obtain ⟨u, h1, h2⟩ := h
  exact ⟨ad, u, rfl, h1, h2⟩
/-- The fact on a box of the region that is filled. -/
theorem nbox {p nc t sp : Nat} {z : Array Value} {τ : TyC} {b : BB} {f : FF} {w : World} {c : Colr} {g : Nat} (h : (RF.new p nc t sp z τ).P b f w c) (hf : f p = some (.pointer (some ⟨g, 0, none⟩))) (hb : b sp = true) : BoxC w c g t nc τ := (h g (by simp [hf, adr])).1 hb
/-- The load of a box of the region. -/
theorem sLn (d p : Nat) {o : Oper} {j k nc sp mm : Nat} {z : Array Value} {τ : TyC} {ty t : TypeId} (hp : dep dt i j = true ∧ decide (p < n) = true ∧ dstOf l j = some p) (hk : Fs[k]? = some (RF.new p nc t sp z τ)) (hsp : dep dt i sp = true) (hA : Agg P ty mm) (hs : τ.str mm) (hi : nthL l i = some o := by rfl) (hop : o.op = .load ty (.tmp p) := by rfl) (hd : o.dst = some d := by rfl) (hA' : Fs.filter (aff [] i (some d)) = [] := by rfl) (hV : V p = TyC.ptr := by rfl) (hV' : V d = τ := by rfl) (hg : Gd l n dt V i o.guard := by first | exact trivial | exact ⟨rfl, _, ⟨rfl, rfl⟩, rfl⟩) : OpStep P l dt Q n a m D CB Fs V w0 c0 i := by
  intro b f w c x o' hJ hout hF hE ho K
  obtain rfl : o = o' := Option.some.inj (hi.symm.trans ho)
  obtain ⟨h1, h2, h2'⟩ := hp
  have h3' := h2'
  unfold dstOf at h3'
  split at h3'
  · rename_i oj hoj
    rw [nthL_eq] at hoj
    have h3 := (hJ.set j oj p (by simpa using hoj) h3').1 (K.done j h1)
    cases hf : f p with
    | none => exact absurd hf h3
    | some v =>
      have h4 := hJ.typ p v hf
      rw [hV] at h4
      obtain ⟨g, rfl⟩ := h4
      have he : x.eval (.tmp p) = .pointer (some ⟨g, 0, none⟩) := hF.in (by rw [hE.1]; exact of_decide_eq_true h2) hf
      obtain ⟨u, q1, q2⟩ := BoxC.load (nbox (All.at K.fac k hk) hf (K.done sp hsp)) hA hs
      exact .pure d (hg.wanted hJ hF hE K) hd (by rw [hA']; trivial) hJ.gi (ex_load hop he q1) (by rw [hV']; exact q2)
  · cases h3'
/-- An append to a literal. -/
theorem sAp (d : Nat) {o : Oper} {sz mm : Nat} {t e : TypeId} {inf : TypeInfo} {z : Value} {L : List TyC} {τ : TyC} (r0 r1 : XA n l dt m D i) (ht : P.underlying t = some (.slice e)) (hi2 : P.info? e = some inf) (hz : inf.zero = some z) (hsz : inf.size = sz) (H0 : ∀ {b : BB} {f : FF} {w : World} {c : Colr} {v : Value}, Kx dt w0 c0 CB Fs i b f w c → r0.r.T V w c v → (litC sz e L).sat (r0.r.W v) w c) (H1 : ∀ {b : BB} {f : FF} {w : World} {c : Colr} {v : Value}, Kx dt w0 c0 CB Fs i b f w c → r1.r.T V w c v → (litC sz e [τ]).sat (r1.r.W v) w c) (hm : L.length = mm) (hfit : Builtin.nextslicecap (mm + 1) mm * inf.bytes ≤ 281474976710656) (hL : mm ≤ 1000000)
    (hi : nthL l i = some o := by rfl) (hop : o.op = .call { callee := .builtin .append, args := #[r0.r.opd, r1.r.opd], argTypes := #[t, t] } := by rfl) (hd : o.dst = some d := by rfl) (hA : Fs.filter (aff [] i (some d)) = [] := by rfl) (hV : V d = seqC sz (L ++ [τ]) := by rfl) (hg : Gd l n dt V i o.guard := by first | exact trivial | exact ⟨rfl, _, ⟨rfl, rfl⟩, rfl⟩) : OpStep P l dt Q n a m D CB Fs V w0 c0 i := by
  intro b f w c x o' hJ hout hF hE ho K
  obtain rfl : o = o' := Option.some.inj (hi.symm.trans ho)
  obtain ⟨v0, ev0, sv0⟩ := r0.ev hJ hout hF hE K
  obtain ⟨v1, ev1, sv1⟩ := r1.ev hJ hout hF hE K
  exact .app1 d (L := L) (τ := τ) (sz := sz) (m := mm) (hg.wanted hJ hF hE K) hd hA hJ.gi hop ev0 ev1 ht hi2 hz hsz (H0 K sv0) (H1 K sv1) hm hfit hL hV
/-- An operation that yields a known value: own proof. -/
theorem sVal (d : Nat) {o : Oper} {u : Value} (r0 : XA n l dt m D i) (L : ∀ {b : BB} {f : FF} {w : World} {c : Colr} {x : Act} {v : Value}, Kx dt w0 c0 CB Fs i b f w c → r0.r.T V w c v → x.eval r0.r.opd = r0.r.W v → (execOp x.eval o).run P w = .ok (.value u) w) (hi : nthL l i = some o := by rfl) (hd : o.dst = some d := by rfl) (hA : Fs.filter (aff [] i (some d)) = [] := by rfl) (hV : V d = TyC.eq u := by rfl) (hg : Gd l n dt V i o.guard := by first | exact trivial | exact ⟨rfl, _, ⟨rfl, rfl⟩, rfl⟩) : OpStep P l dt Q n a m D CB Fs V w0 c0 i := by
  intro b f w c x o' hJ hout hF hE ho K
  obtain rfl : o = o' := Option.some.inj (hi.symm.trans ho)
  obtain ⟨v0, ev0, sv0⟩ := r0.ev hJ hout hF hE K
  exact .pure d (hg.wanted hJ hF hE K) hd (by rw [hA]; trivial) hJ.gi (L K sv0 ev0) (by rw [hV]; rfl)
theorem sVal2 (d : Nat) {o : Oper} {u : Value} (r0 r1 : XA n l dt m D i) (L : ∀ {b : BB} {f : FF} {w : World} {c : Colr} {x : Act} {v v' : Value}, Kx dt w0 c0 CB Fs i b f w c → r0.r.T V w c v → r1.r.T V w c v' → x.eval r0.r.opd = r0.r.W v → x.eval r1.r.opd = r1.r.W v' → (execOp x.eval o).run P w = .ok (.value u) w) (hi : nthL l i = some o := by rfl) (hd : o.dst = some d := by rfl) (hA : Fs.filter (aff [] i (some d)) = [] := by rfl) (hV : V d = TyC.eq u := by rfl) (hg : Gd l n dt V i o.guard := by first | exact trivial | exact ⟨rfl, _, ⟨rfl, rfl⟩, rfl⟩) : OpStep P l dt Q n a m D CB Fs V w0 c0 i := by
  intro b f w c x o' hJ hout hF hE ho K
  obtain rfl : o = o' := Option.some.inj (hi.symm.trans ho)
  obtain ⟨v0, ev0, sv0⟩ := r0.ev hJ hout hF hE K
  obtain ⟨v1, ev1, sv1⟩ := r1.ev hJ hout hF hE K
  exact .pure d (hg.wanted hJ hF hE K) hd (by rw [hA]; trivial) hJ.gi (L K sv0 sv1 ev0 ev1) (by rw [hV]; rfl)

/-! ### extracts -/
theorem ex10 {τ : TyC} {u v : Value} {w : World} {c : Colr} (h : (τ.tup1 u).sat v w c) : ∃ vs x, v = .tuple vs ∧ vs[0]? = some x ∧ τ.sat x w c := by
  obtain ⟨x, rfl, h⟩ := h; exact ⟨_, x, rfl, rfl, h⟩
theorem ex11 {τ : TyC} {u v : Value} {w : World} {c : Colr} (h : (τ.tup1 u).sat v w c) : ∃ vs x, v = .tuple vs ∧ vs[1]? = some x ∧ (TyC.eq u).sat x w c := by
  obtain ⟨x, rfl, h⟩ := h; exact ⟨_, _, rfl, rfl, rfl⟩
theorem ex20 {τ σ : TyC} {u v : Value} {w : World} {c : Colr} (h : (τ.tup2 σ u).sat v w c) : ∃ vs x, v = .tuple vs ∧ vs[0]? = some x ∧ τ.sat x w c := by
  obtain ⟨x, y, rfl, h, h'⟩ := h; exact ⟨_, _, rfl, rfl, h⟩
theorem ex21 {τ σ : TyC} {u v : Value} {w : World} {c : Colr} (h : (τ.tup2 σ u).sat v w c) : ∃ vs x, v = .tuple vs ∧ vs[1]? = some x ∧ σ.sat x w c := by
  obtain ⟨x, y, rfl, h, h'⟩ := h; exact ⟨_, _, rfl, rfl, h'⟩
theorem ex22 {τ σ : TyC} {u v : Value} {w : World} {c : Colr} (h : (τ.tup2 σ u).sat v w c) : ∃ vs x, v = .tuple vs ∧ vs[2]? = some x ∧ (TyC.eq u).sat x w c := by
  obtain ⟨x, y, rfl, h, h'⟩ := h; exact ⟨_, _, rfl, rfl, rfl⟩
theorem exp0 {τ σ : TyC} {v : Value} {w : World} {c : Colr} (h : (τ.pair σ).sat v w c) : ∃ vs x, v = .tuple vs ∧ vs[0]? = some x ∧ τ.sat x w c := by
  obtain ⟨x, y, rfl, h, h'⟩ := h; exact ⟨_, _, rfl, rfl, h⟩
theorem exp1 {τ σ : TyC} {v : Value} {w : World} {c : Colr} (h : (τ.pair σ).sat v w c) : ∃ vs x, v = .tuple vs ∧ vs[1]? = some x ∧ σ.sat x w c := by
  obtain ⟨x, y, rfl, h, h'⟩ := h; exact ⟨_, _, rfl, rfl, h'⟩
theorem exe {vs : Array Value} {k : Nat} {x v : Value} {w : World} {c : Colr} (hk : vs[k]? = some x) (h : (TyC.eq (.tuple vs)).sat v w c) : ∃ vs' x', v = .tuple vs' ∧ vs'[k]? = some x' ∧ (TyC.eq x).sat x' w c := ⟨vs, x, h, hk, rfl⟩
/-! ### behind a region -/
def nthR : List RF → Nat → RF
  | [], _ => .s Fact.tru
  | F :: _, 0 => F
  | _ :: L, k + 1 => nthR L k
def pickR : List Nat → List RF → List RF
  | [], _ => []
  | k :: ks, L => .s (nthR L k).fin :: pickR ks L
theorem All.nth {b : BB} {f : FF} {w : World} {c : Colr} : ∀ {L : List RF} (k : Nat), All L b f w c → (nthR L k).P b f w c
  | [], _, _ => trivial
  | _ :: _, 0, h => h.1
  | _ :: L, k + 1, h => All.nth k h.2
theorem nth_ops {N : Nat} : ∀ {L : List RF} (k : Nat), (L.all fun F => F.ops.all fun i => decide (i < N)) = true → ∀ i, (nthR L k).ops.contains i = true → i < N
  | [], _, _, i, h => by simp [nthR, RF.ops] at h
  | F :: L, 0, hL, i, h => by
    rw [List.all_cons, Bool.and_eq_true] at hL
    have := List.all_eq_true.1 hL.1 i (by simpa [nthR] using h)
    simpa using this
  | F :: L, k + 1, hL, i, h => by
    rw [List.all_cons, Bool.and_eq_true] at hL
    exact nth_ops k hL.2 i h
theorem All.pick {N : Nat} {b b' : BB} {f f' : FF} {w : World} {c : Colr} {L : List RF} (h : All L b f w c) (hb : ∀ i, i < N → b i = true) (hN : (L.all fun F => F.ops.all fun i => decide (i < N)) = true) : ∀ ks : List Nat, All (pickR ks L) b' f' w c
  | [] => trivial
  | k :: ks => ⟨RF.to_fin _ (All.nth k h) (fun i hi => hb i (nth_ops k hN i hi)), All.pick h hb hN ks⟩
theorem All.pk {N : Nat} {b : BB} {f : FF} {w : World} {c : Colr} {L : List RF} (h : All L b f w c) (hb : ∀ i, i < N → b i = true) (hN : (L.all fun F => F.ops.all fun i => decide (i < N)) = true) (ks : List Nat) : All (pickR ks L) (fun _ => false) (fun _ => none) w c := h.pick hb hN ks
theorem All.cb {g t n : Nat} {τ : TyC} {L : List RF} {b : BB} {f : FF} {w : World} {c : Colr} (h : BoxC w c g t n τ) (hL : All L b f w c) : All (.s (Fact.box g t n τ) :: L) b f w c := ⟨h, hL⟩
theorem All.cv {v : Value} {τ : TyC} {L : List RF} {b : BB} {f : FF} {w : World} {c : Colr} (h : τ.sat v w c) (hL : All L b f w c) : All (.s (Fact.val τ v) :: L) b f w c := ⟨h, hL⟩
theorem All.stat {F : Fact} {L : List RF} {b b' : BB} {f f' : FF} {w : World} {c : Colr} (h : All [.s F] b f w c) : All [.s F] b' f' w c := h
def AllK (f : FF) (n : Nat) : List (Nat × Value) → Prop
  | [] => True
  | p :: L => (f p.1 = some p.2 ∧ p.1 < n) ∧ AllK f n L
theorem kn {f : FF} {n : Nat} : AllK f n [] := trivial
theorem ck {f : FF} {n t : Nat} {v : Value} {L : List (Nat × Value)} (h : f t = some v) (hK : AllK f n L) (ht : decide (t < n) = true := by rfl) : AllK f n ((t, v) :: L) := ⟨⟨h, of_decide_eq_true ht⟩, hK⟩
theorem kv {f : FF} {V : Nat → TyC} {d : Nat} {u : Value} {w : World} {c : Colr} (h : ∃ v, f d = some v ∧ (V d).sat v w c) (hV : V d = TyC.eq u) : f d = some u := by
  obtain ⟨v, h1, h2⟩ := h
  rw [hV] at h2
  rw [h1, (show v = u from h2)]
theorem kp {f : FF} {V : Nat → TyC} {d : Nat} {w : World} {c : Colr} (h : ∃ v, f d = some v ∧ (V d).sat v w c) (hV : V d = TyC.ptr) : ∃ g, f d = some (.pointer (some ⟨g, 0, none⟩)) := by
  obtain ⟨v, h1, h2⟩ := h
  rw [hV] at h2
  obtain ⟨g, rfl⟩ := h2
  exact ⟨g, h1⟩
def upm (KL : List (Nat × Value)) (D : List Nat) (m : Nat → Option Value) (t : Nat) : Option Value := match KL.lookup t with
  | some v => some v
  | none => if D.contains t then none else m t
theorem AllK.look {f : FF} {n : Nat} : ∀ {L : List (Nat × Value)}, AllK f n L → ∀ {t : Nat} {v : Value}, L.lookup t = some v → f t = some v ∧ t < n
  | (t', v') :: L, h, t, v, hl => by
    rw [List.lookup_cons] at hl
    split at hl
    · rename_i he
      have : t = t' := by simpa using he
      subst this
      injection hl with hl
      subst hl
      exact h.1
    · exact AllK.look h.2 hl
  | [], _, t, v, hl => by simp at hl
theorem Ev.up {n : Nat} {a x : Act} {m : Nat → Option Value} {D : List Nat} {f : FF} {KL : List (Nat × Value)} (hE : Ev n a m) (hF : Fr a x f) (hout : ∀ d, D.contains d = false → f d = none) (hK : AllK f n KL) : Ev n x (upm KL D m) := by
  refine ⟨hF.size.trans hE.1, hF.defers.trans hE.2.1, fun t v h => ?_⟩
  unfold upm at h
  split at h
  · rename_i u hu
    injection h with h
    subst h
    obtain ⟨h1, h2⟩ := AllK.look hK hu
    exact ⟨h2, hF.in (by rw [hE.1]; exact h2) h1⟩
  · split at h
    · cases h
    · rename_i hd
      obtain ⟨h1, h2⟩ := hE.2.2 t v h
      exact ⟨h1, hF.out (by rw [hE.1]; exact h1) (hout t (by simpa using hd)) h2⟩
def mof (KL : List (Nat × Value)) (t : Nat) : Option Value := KL.lookup t
def subm (m : Nat → Option Value) : List (Nat × Value) → Prop
  | [] => True
  | p :: L => m p.1 = some p.2 ∧ subm m L
theorem subm.look {m : Nat → Option Value} : ∀ {L : List (Nat × Value)}, subm m L → ∀ {t : Nat} {v : Value}, L.lookup t = some v → m t = some v
  | (t', v') :: L, h, t, v, hl => by
    rw [List.lookup_cons] at hl
    split at hl
    · rename_i he
      have : t = t' := by simpa using he
      subst this
      injection hl with hl
      subst hl
      exact h.1
    · exact subm.look h.2 hl
  | [], _, t, v, hl => by simp at hl
/-- Some of the slots. -/
theorem Ev.sub {n : Nat} {a : Act} {m : Nat → Option Value} (hE : Ev n a m) (KL : List (Nat × Value)) (h : subm m KL) : Ev n a (mof KL) := ⟨hE.1, hE.2.1, fun t v ht => hE.2.2 t v (h.look ht)⟩
/-- One slot's value, said otherwise. -/
theorem Ev.re {n : Nat} {a : Act} {m : Nat → Option Value} (hE : Ev n a m) (t : Nat) {v v' : Value} (ht : m t = some v) (e : v = v') : Ev n a (fun k => if k == t then some v' else m k) := ⟨hE.1, hE.2.1, fun k u hk => by
  by_cases h : k = t
  · subst h
    simp at hk
    subst hk e
    exact hE.2.2 k v ht
  · have : (k == t) = false := by simpa using h
    simp [this] at hk
    exact hE.2.2 k u hk⟩
def setR : List RF → Nat → RF → List RF
  | [], _, _ => []
  | _ :: L, 0, G => G :: L
  | F :: L, k + 1, G => F :: setR L k G
theorem All.put {G : Fact} {b : BB} {f : FF} {w : World} {c : Colr} : ∀ {L : List RF} (k : Nat), All L b f w c → G.P w c → All (setR L k (.s G)) b f w c
  | [], _, _, _ => trivial
  | _ :: _, 0, h, hG => ⟨hG, h.2⟩
  | _ :: L, k + 1, h, hG => ⟨h.1, All.put k h.2 hG⟩
theorem enter_st {f : Nat} {fn : Func} {cd : Code} {args : Array Value} {w : World} {R : Ending → World → Prop} {n : Nat} (hf : P.funcs[f]? = some fn) (hb : fn.body = some cd) (hn : fn.ntmps = n) (KL : List (Nat × Value)) (hK : KL.all (fun p => decide (p.1 < args.size)) = true) (hA : subm (fun t => args[t]?) KL) (hs : args.size ≤ n)
    (h : ∀ a : Act, Ev n a (mof KL) → cd.wp P (bodyPost P fn R) a w) : Calls P f args w R := by
  refine enter_wp hf hb hn ?_
  intro a ha
  refine h a ⟨enter_size ha (by omega), enter_defers ha, fun t v ht => ?_⟩
  have h1 := subm.look hA ht
  have h2 : t < args.size := (Array.getElem?_eq_some_iff.1 h1).1
  exact ⟨by omega, enter_ev ha h1⟩

abbrev b0 : BB := fun _ => false
abbrev f0 : FF := fun _ => none
def stg : List RF → Nat → Nat → Fact → List RF
  | [], _, _, _ => []
  | F :: L, 0, i, G => .st i G F :: L
  | F :: L, k + 1, i, G => F :: stg L k i G
theorem All.stg {w : World} {c : Colr} : ∀ {L : List RF} (k i : Nat) (G : Fact), All L b0 f0 w c → All (stg L k i G) b0 f0 w c
  | [], _, _, _, _ => trivial
  | _ :: _, 0, _, _, h => ⟨⟨fun hb => (by cases hb), fun _ => h.1⟩, h.2⟩
  | _ :: L, k + 1, i, G, h => ⟨h.1, All.stg k i G h.2⟩
theorem All.cn {L : List RF} {w : World} {c : Colr} (p n : Nat) (t : TypeId) (s : Nat) (z : Array Value) (τ : TyC) (h : All L b0 f0 w c) : All (.new p n t s z τ :: L) b0 f0 w c := ⟨RF.new_none, h⟩
theorem All.box {L : List RF} {b : BB} {f : FF} {w : World} {c : Colr} {g t n : Nat} {τ : TyC} (h : All L b f w c) (k : Nat) (hk : nthR L k = .s (Fact.box g t n τ)) : BoxC w c g t n τ := by
  have := All.nth k h
  rw [hk] at this
  exact this
theorem All.val {L : List RF} {b : BB} {f : FF} {w : World} {c : Colr} {τ : TyC} {v : Value} (h : All L b f w c) (k : Nat) (hk : nthR L k = .s (Fact.val τ v)) : τ.sat v w c := by
  have := All.nth k h
  rw [hk] at this
  exact this
/-- A staged box, behind its store and ahead of it. -/
theorem All.sb1 {L : List RF} {b : BB} {f : FF} {w : World} {c : Colr} {g t n i : Nat} {τ : TyC} {F0 : RF} (h : All L b f w c) (k : Nat) (hk : nthR L k = .st i (Fact.box g t n τ) F0) (hb : b i = true) : BoxC w c g t n τ := by
  have := All.nth k h
  rw [hk] at this
  exact this.1 hb
theorem All.sb0 {L : List RF} {b : BB} {f : FF} {w : World} {c : Colr} {g t n i : Nat} {τ : TyC} {F1 : Fact} (h : All L b f w c) (k : Nat) (hk : nthR L k = .st i F1 (.s (Fact.box g t n τ))) (hb : b i = false) : BoxC w c g t n τ := by
  have := All.nth k h
  rw [hk] at this
  exact this.2 hb
theorem All.nb {L : List RF} {b : BB} {f : FF} {w : World} {c : Colr} {g t n p sp : Nat} {z : Array Value} {τ : TyC} (h : All L b f w c) (k : Nat) (hk : nthR L k = .new p n t sp z τ) (hf : f p = some (.pointer (some ⟨g, 0, none⟩))) (hb : b sp = true) : BoxC w c g t n τ := by
  have := All.nth k h
  rw [hk] at this
  exact nbox this hf hb

theorem sPkt (d : Nat) {o : Oper} (r0 r1 : XA n l dt m D i) {z : Operand} (hz : ∀ {w : World} {c : Colr} {v : Value}, r0.r.T V w c v → r0.r.W v = .bool true := by first | exact fun h => h | exact fun _ => rfl) (hi : nthL l i = some o := by rfl) (hop : o.op = .pick r0.r.opd r1.r.opd z := by rfl) (hd : o.dst = some d := by rfl) (hA : Fs.filter (aff [] i (some d)) = [] := by rfl) (hT : ∀ w c v, r1.r.T V w c v → (V d).sat (r1.r.W v) w c := by first | exact fun _ _ _ h => h | exact fun _ _ _ _ => rfl) (hg : Gd l n dt V i o.guard := by first | exact trivial | exact ⟨rfl, _, ⟨rfl, rfl⟩, rfl⟩) : OpStep P l dt Q n a m D CB Fs V w0 c0 i := by
  intro b f w c x o' hJ hout hF hE ho K
  obtain rfl : o = o' := Option.some.inj (hi.symm.trans ho)
  obtain ⟨v0, ev0, sv0⟩ := r0.ev hJ hout hF hE K
  obtain ⟨v1, ev1, sv1⟩ := r1.ev hJ hout hF hE K
  exact .pure d (hg.wanted hJ hF hE K) hd (by rw [hA]; trivial) hJ.gi (ex_pick (b := true) hop (ev0.trans (hz sv0)) ev1) (hT w c v1 sv1)
theorem sPkf (d : Nat) {o : Oper} (r0 r1 : XA n l dt m D i) {z : Operand} (hz : ∀ {w : World} {c : Colr} {v : Value}, r0.r.T V w c v → r0.r.W v = .bool false := by first | exact fun h => h | exact fun _ => rfl) (hi : nthL l i = some o := by rfl) (hop : o.op = .pick r0.r.opd z r1.r.opd := by rfl) (hd : o.dst = some d := by rfl) (hA : Fs.filter (aff [] i (some d)) = [] := by rfl) (hT : ∀ w c v, r1.r.T V w c v → (V d).sat (r1.r.W v) w c := by first | exact fun _ _ _ h => h | exact fun _ _ _ _ => rfl) (hg : Gd l n dt V i o.guard := by first | exact trivial | exact ⟨rfl, _, ⟨rfl, rfl⟩, rfl⟩) : OpStep P l dt Q n a m D CB Fs V w0 c0 i := by
  intro b f w c x o' hJ hout hF hE ho K
  obtain rfl : o = o' := Option.some.inj (hi.symm.trans ho)
  obtain ⟨v0, ev0, sv0⟩ := r0.ev hJ hout hF hE K
  obtain ⟨v1, ev1, sv1⟩ := r1.ev hJ hout hF hE K
  exact .pure d (hg.wanted hJ hF hE K) hd (by rw [hA]; trivial) hJ.gi (ex_pick (b := false) hop (ev0.trans (hz sv0)) ev1) (hT w c v1 sv1)
theorem sFv (d : Nat) {o : Oper} {ty : TypeId} {k : Nat} {u z : Value} (r0 : XA n l dt m D i) (L : ∀ {w : World}, (Instr.fieldAt ty z k).run P w = .ok u w) (hz : ∀ {w : World} {c : Colr} {v : Value}, r0.r.T V w c v → r0.r.W v = z := by exact fun h => h) (hV : V d = TyC.eq u := by rfl) (hi : nthL l i = some o := by rfl) (hop : o.op = .fieldAddr ty r0.r.opd k := by rfl) (hd : o.dst = some d := by rfl) (hA : Fs.filter (aff [] i (some d)) = [] := by rfl) (hg : Gd l n dt V i o.guard := by first | exact trivial | exact ⟨rfl, _, ⟨rfl, rfl⟩, rfl⟩) : OpStep P l dt Q n a m D CB Fs V w0 c0 i := by
  intro b f w c x o' hJ hout hF hE ho K
  obtain rfl : o = o' := Option.some.inj (hi.symm.trans ho)
  obtain ⟨v0, ev0, sv0⟩ := r0.ev hJ hout hF hE K
  exact .pure d (hg.wanted hJ hF hE K) hd (by rw [hA]; trivial) hJ.gi (ex_field hop (ev0.trans (hz sv0)) L) (by rw [hV]; rfl)
theorem sSlen (d : Nat) {o : Oper} {t e : TypeId} {A : Option Addr} {k cp : Nat} (r0 : XA n l dt m D i) (ht : P.underlying t = some (.slice e)) (hz : ∀ {b : BB} {f : FF} {w : World} {c : Colr} {v : Value}, Kx dt w0 c0 CB Fs i b f w c → r0.r.T V w c v → r0.r.W v = .slice A k cp) (hi : nthL l i = some o := by rfl) (hop : o.op = .call { callee := .builtin .len, args := #[r0.r.opd], argTypes := #[t] } := by rfl) (hd : o.dst = some d := by rfl) (hA : Fs.filter (aff [] i (some d)) = [] := by rfl) (hV : V d = TyC.eq (.int .i64 k) := by rfl) (hg : Gd l n dt V i o.guard := by first | exact trivial | exact ⟨rfl, _, ⟨rfl, rfl⟩, rfl⟩) : OpStep P l dt Q n a m D CB Fs V w0 c0 i := by
  intro b f w c x o' hJ hout hF hE ho K
  obtain rfl : o = o' := Option.some.inj (hi.symm.trans ho)
  obtain ⟨v0, ev0, sv0⟩ := r0.ev hJ hout hF hE K
  exact .pure d (hg.wanted hJ hF hE K) hd (by rw [hA]; trivial) hJ.gi (ex_len hop ht (ev0.trans (hz K sv0))) (by rw [hV]; rfl)
theorem sQlen (d : Nat) {o : Oper} {sz : Nat} {t e : TypeId} {L : List TyC} (r0 : XA n l dt m D i) (ht : P.underlying t = some (.slice e)) (hz : ∀ {b : BB} {f : FF} {w : World} {c : Colr} {v : Value}, Kx dt w0 c0 CB Fs i b f w c → r0.r.T V w c v → (seqC sz L).sat (r0.r.W v) w c) (hi : nthL l i = some o := by rfl) (hop : o.op = .call { callee := .builtin .len, args := #[r0.r.opd], argTypes := #[t] } := by rfl) (hd : o.dst = some d := by rfl) (hA : Fs.filter (aff [] i (some d)) = [] := by rfl) (hV : V d = TyC.eq (.int .i64 L.length) := by rfl) (hg : Gd l n dt V i o.guard := by first | exact trivial | exact ⟨rfl, _, ⟨rfl, rfl⟩, rfl⟩) : OpStep P l dt Q n a m D CB Fs V w0 c0 i := by
  intro b f w c x o' hJ hout hF hE ho K
  obtain rfl : o = o' := Option.some.inj (hi.symm.trans ho)
  obtain ⟨v0, ev0, sv0⟩ := r0.ev hJ hout hF hE K
  exact .pure d (hg.wanted hJ hF hE K) hd (by rw [hA]; trivial) hJ.gi (seq_len hop ht ev0 (hz K sv0)) (by rw [hV]; rfl)
theorem run_not {P : Program} {w : World} (b : Bool) : (Op.unary .not (.bool b)).run P w = .ok (.bool (!b)) w := by
  simp [Op.unary, go_sem]
theorem sVi (d : Nat) {o : Oper} (r0 : XA n l dt m D i) (r1 : XA n l dt m D i) {ty : TypeId} {u z z' : Value} (hz : ∀ {w : World} {c : Colr} {v v' : Value}, r0.r.T V w c v → r1.r.T V w c v' → r0.r.W v = z ∧ r1.r.W v' = z') (L : ∀ {w : World}, (Instr.index ty z z').run P w = .ok u w) (hV : V d = TyC.eq u := by rfl) (hi : nthL l i = some o := by rfl) (hop : o.op = .index ty r0.r.opd r1.r.opd := by rfl) (hd : o.dst = some d := by rfl) (hA : Fs.filter (aff [] i (some d)) = [] := by rfl) (hg : Gd l n dt V i o.guard := by first | exact trivial | exact ⟨rfl, _, ⟨rfl, rfl⟩, rfl⟩) : OpStep P l dt Q n a m D CB Fs V w0 c0 i := by
  intro b f w c x o' hJ hout hF hE ho K
  obtain rfl : o = o' := Option.some.inj (hi.symm.trans ho)
  obtain ⟨v0, ev0, sv0⟩ := r0.ev hJ hout hF hE K
  obtain ⟨v1, ev1, sv1⟩ := r1.ev hJ hout hF hE K
  exact .pure d (hg.wanted hJ hF hE K) hd (by rw [hA]; trivial) hJ.gi (ex_index' hop (ev0.trans (hz sv0 sv1).1) (ev1.trans (hz sv0 sv1).2) L) (by rw [hV]; rfl)
theorem sSlt (d : Nat) {o : Oper} (r0 : XA n l dt m D i) (r1 : XA n l dt m D i) {ty : TypeId} {u z z' : Value} (hz : ∀ {w : World} {c : Colr} {v v' : Value}, r0.r.T V w c v → r1.r.T V w c v' → r0.r.W v = z ∧ r1.r.W v' = z') (L : ∀ {w : World}, (Instr.slice ty z none (some z') none).run P w = .ok u w) (ht : P.underlying ty = some .string) (hV : V d = TyC.eq u := by rfl) (hi : nthL l i = some o := by rfl) (hop : o.op = .slice ty r0.r.opd none (some r1.r.opd) none := by rfl) (hd : o.dst = some d := by rfl) (hA : Fs.filter (aff [] i (some d)) = [] := by rfl) (hg : Gd l n dt V i o.guard := by first | exact trivial | exact ⟨rfl, _, ⟨rfl, rfl⟩, rfl⟩) : OpStep P l dt Q n a m D CB Fs V w0 c0 i := by
  intro b f w c x o' hJ hout hF hE ho K
  obtain rfl : o = o' := Option.some.inj (hi.symm.trans ho)
  obtain ⟨v0, ev0, sv0⟩ := r0.ev hJ hout hF hE K
  obtain ⟨v1, ev1, sv1⟩ := r1.ev hJ hout hF hE K
  exact .pure d (hg.wanted hJ hF hE K) hd (by rw [hA]; trivial) hJ.gi (ex_slice_to hop (ev0.trans (hz sv0 sv1).1) (ev1.trans (hz sv0 sv1).2) L ht) (by rw [hV]; rfl)
theorem sSlf (d : Nat) {o : Oper} (r0 : XA n l dt m D i) (r1 : XA n l dt m D i) {ty : TypeId} {u z z' : Value} (hz : ∀ {w : World} {c : Colr} {v v' : Value}, r0.r.T V w c v → r1.r.T V w c v' → r0.r.W v = z ∧ r1.r.W v' = z') (L : ∀ {w : World}, (Instr.slice ty z (some z') none none).run P w = .ok u w) (ht : P.underlying ty = some .string) (hV : V d = TyC.eq u := by rfl) (hi : nthL l i = some o := by rfl) (hop : o.op = .slice ty r0.r.opd (some r1.r.opd) none none := by rfl) (hd : o.dst = some d := by rfl) (hA : Fs.filter (aff [] i (some d)) = [] := by rfl) (hg : Gd l n dt V i o.guard := by first | exact trivial | exact ⟨rfl, _, ⟨rfl, rfl⟩, rfl⟩) : OpStep P l dt Q n a m D CB Fs V w0 c0 i := by
  intro b f w c x o' hJ hout hF hE ho K
  obtain rfl : o = o' := Option.some.inj (hi.symm.trans ho)
  obtain ⟨v0, ev0, sv0⟩ := r0.ev hJ hout hF hE K
  obtain ⟨v1, ev1, sv1⟩ := r1.ev hJ hout hF hE K
  exact .pure d (hg.wanted hJ hF hE K) hd (by rw [hA]; trivial) hJ.gi (ex_slice_from hop (ev0.trans (hz sv0 sv1).1) (ev1.trans (hz sv0 sv1).2) L ht) (by rw [hV]; rfl)

theorem sStrlen {o : Oper} (d : Nat) {t : TypeId} {s : ByteArray} {k : Nat} (r0 : XA n l dt m D i) (ht : P.underlying t = some .string) (hs : s.size = k) (hz : ∀ {b : BB} {f : FF} {w : World} {c : Colr} {v : Value}, Kx dt w0 c0 CB Fs i b f w c → r0.r.T V w c v → r0.r.W v = .string s) (hi : nthL l i = some o := by rfl) (hop : o.op = .call { callee := .builtin .len, args := #[r0.r.opd], argTypes := #[t] } := by rfl) (hd : o.dst = some d := by rfl) (hA : Fs.filter (aff [] i (some d)) = [] := by rfl) (hV : V d = TyC.eq (.int .i64 k) := by rfl) (hg : Gd l n dt V i o.guard := by first | exact trivial | exact ⟨rfl, _, ⟨rfl, rfl⟩, rfl⟩) : OpStep P l dt Q n a m D CB Fs V w0 c0 i := by
  intro b f w c x o' hJ hout hF hE ho K
  obtain rfl : o = o' := Option.some.inj (hi.symm.trans ho)
  obtain ⟨v0, ev0, sv0⟩ := r0.ev hJ hout hF hE K
  exact .pure d (hg.wanted hJ hF hE K) hd (by rw [hA]; trivial) hJ.gi (ex_len_s hop ht (ev0.trans (hz K sv0))) (by rw [hV, ← hs]; rfl)

/-- The load of a box; of a field of a box whose address the region has made. -/
theorem sLb (d : Nat) {o : Oper} {g t nc mm : Nat} {τ : TyC} {ty : TypeId} (r0 : XA n l dt m D i) (k : Nat) (hA : Agg P ty mm) (hs : τ.str mm) (hi : nthL l i = some o := by rfl) (hop : o.op = .load ty r0.r.opd := by rfl) (hd : o.dst = some d := by rfl) (hk : nthR Fs k = .s (Fact.box g t nc τ) := by rfl) (ha : ∀ v, r0.r.W v = .pointer (some ⟨g, 0, none⟩) := by exact fun _ => rfl) (hA' : Fs.filter (aff [] i (some d)) = [] := by rfl) (hV : V d = τ := by rfl) (hg : Gd l n dt V i o.guard := by first | exact trivial | exact ⟨rfl, _, ⟨rfl, rfl⟩, rfl⟩) : OpStep P l dt Q n a m D CB Fs V w0 c0 i := by
  intro b f w c x o' hJ hout hF hE ho K
  obtain rfl : o = o' := Option.some.inj (hi.symm.trans ho)
  obtain ⟨v0, ev0, sv0⟩ := r0.ev hJ hout hF hE K
  obtain ⟨u, h1, h2⟩ := BoxC.load (K.fac.box k hk) hA hs
  exact .pure d (hg.wanted hJ hF hE K) hd (by rw [hA']; trivial) hJ.gi (ex_load hop (ev0.trans (ha v0)) h1) (by rw [hV]; exact h2)
theorem sLf (d : Nat) {o : Oper} {ad : Addr} {ty : TypeId} (r0 : XA n l dt m D i) (L : ∀ {b : BB} {f : FF} {w : World} {c : Colr}, Kx dt w0 c0 CB Fs i b f w c → ∃ u, (loadVar ty ad).run P w = .ok u w ∧ (V d).sat u w c) (hi : nthL l i = some o := by rfl) (hop : o.op = .load ty r0.r.opd := by rfl) (hd : o.dst = some d := by rfl) (hz : ∀ w c v, r0.r.T V w c v → r0.r.W v = .pointer (some ad) := by first | exact fun _ _ _ h => h | exact fun _ _ _ _ => rfl) (hA' : Fs.filter (aff [] i (some d)) = [] := by rfl) (hg : Gd l n dt V i o.guard := by first | exact trivial | exact ⟨rfl, _, ⟨rfl, rfl⟩, rfl⟩) : OpStep P l dt Q n a m D CB Fs V w0 c0 i := by
  intro b f w c x o' hJ hout hF hE ho K
  obtain rfl : o = o' := Option.some.inj (hi.symm.trans ho)
  obtain ⟨v0, ev0, sv0⟩ := r0.ev hJ hout hF hE K
  obtain ⟨u, h1, h2⟩ := L K
  exact .pure d (hg.wanted hJ hF hE K) hd (by rw [hA']; trivial) hJ.gi (ex_load hop (ev0.trans (hz w c v0 sv0)) h1) h2

abbrev iE (x : Int) : TyC := TyC.eq (.int .i64 x)
abbrev bE (x : Bool) : TyC := TyC.eq (.bool x)
abbrev uE : TyC := TyC.eq undef
abbrev PT : TyC := TyC.ptr
abbrev pE (g k : Nat) : TyC := TyC.eq (.pointer (some ⟨g, k, none⟩))
abbrev vP (g : Nat) : Value := .pointer (some ⟨g, 0, none⟩)
abbrev vI (x : Int) : Value := .int .i64 x
end
end Go.Col

namespace Go.Col
set_option linter.unusedVariables false
open Go.RowKit Go.Mem

/-- A slice of so many elements (sz cells each) that owns its row, of a colour; its cells. Without elements it may be nil. -/
def OwnRow (n sz : Nat) (t : TypeId) (v : Value) (len : Nat) (xs : List Value) (w : World) (c : Colr) : Prop :=
  xs.length = len * sz ∧ ((v = .slice none 0 0 ∧ len = 0) ∨ ∃ g cp cs, v = .slice (some ⟨g, 0, none⟩) len cp ∧ len ≤ cp ∧ c g = n ∧ Blk w g t cs ∧ cs.size = cp * sz ∧ cs.toList.take (len * sz) = xs)
section
variable {P : Program} {w w' : World} {c c' : Colr} {n sz len m : Nat} {t e ty : TypeId} {v z : Value} {xs news : List Value} {S : List Nat}
theorem OwnRow.ext (h : OwnRow n sz t v len xs w c) (he : Ext S w c w' c') (hn : S.contains n = false) : OwnRow n sz t v len xs w' c' := by
  refine ⟨h.1, h.2.imp id ?_⟩
  rintro ⟨g, cp, cs, h1, h2, h3, h4, h5, h6⟩
  obtain ⟨q1, q2⟩ := blk_ext h4 h3 he hn
  exact ⟨g, cp, cs, h1, h2, q2, q1, h5, h6⟩
theorem OwnRow.nil : OwnRow n sz t (.slice none 0 0) 0 [] w c := ⟨by simp, .inl ⟨rfl, rfl⟩⟩
theorem OwnRow.open (h : OwnRow n sz t v len xs w c) (hl : 0 < len) : ∃ g cp, v = .slice (some ⟨g, 0, none⟩) len cp := by
  rcases h.2 with ⟨_, h0⟩ | ⟨g, cp, cs, h1, _⟩
  · omega
  · exact ⟨g, cp, h1⟩
theorem OwnRow.cell (h : OwnRow n sz t v len xs w c) {g cp : Nat} (hv : v = .slice (some ⟨g, 0, none⟩) len cp) {j : Nat} {u : Value} (hu : xs[j]? = some u) : w.cell? ⟨g, j, none⟩ = some u := by
  rcases h.2 with ⟨h1, _⟩ | ⟨g', cp', cs, h1, h2, h3, h4, h5, h6⟩
  · rw [h1] at hv; cases hv
  · rw [h1] at hv
    injection hv with hv
    injection hv with hv
    injection hv with hv
    subst hv
    refine h4.cell j ?_
    rw [← h6, List.getElem?_take] at hu
    split at hu
    · simpa using hu
    · cases hu
theorem all_nb {l : List Value} : (l.all (fun v => !NB v) = true) ↔ ∀ v ∈ l, NB v = false := by simp
theorem gi_blk (g : GI w c) {k : Nat} {cs : Array Value} (hb : Blk w k t cs) (h : c k ≠ 0) : cs.toList.all (fun v => !NB v) = true := all_nb.2 (g k cs t (0, 0) hb h)
theorem zero_nb {z : Array Value} (hz : z.toList.all (fun v => !NB v) = true) (k : Nat) : (Builtin.zeroCells z k).toList.all (fun v => !NB v) = true := by
  rw [all_nb] at *
  intro v hv
  unfold Builtin.zeroCells at hv
  simp only [Array.toList_map, Array.toList_range, List.mem_map, List.mem_range] at hv
  obtain ⟨i, hi, rfl⟩ := hv
  have hs : 0 < z.size := by
    rcases Nat.eq_zero_or_pos z.size with h0 | h0
    · rw [h0, Nat.mul_zero] at hi; omega
    · exact h0
  have hlt : i % z.size < z.size := Nat.mod_lt _ hs
  rw [getElem!_pos z (i % z.size) hlt]
  exact hz _ (by simp)
theorem zero_size (z : Array Value) (k : Nat) : (Builtin.zeroCells z k).size = k * z.size := by simp [Builtin.zeroCells]
theorem all_nb_app {a b : List Value} (ha : a.all (fun v => !NB v) = true) (hb : b.all (fun v => !NB v) = true) : (a ++ b).all (fun v => !NB v) = true := by rw [List.all_append, ha, hb]; rfl
theorem app_new {cs : Array Value} {cp : Nat} (g : GI w c) (hS : ([n].contains 0 || [n].contains 1) = false) (hnb : cs.toList.all (fun v => !NB v) = true) (hlen : len ≤ cp) (hsz : cs.size = cp * sz) (hx : xs.length = len * sz) (htk : cs.toList.take (len * sz) = xs) :
    Ext [n] w c (w.drew.alloc (.cells cs e)) (setC c w.heap.size n) ∧ OwnRow n sz e (.slice (some ⟨w.heap.size, 0, none⟩) len cp) len xs (w.drew.alloc (.cells cs e)) (setC c w.heap.size n) := by
  refine ⟨(Ext.drew hS g).trans (Ext.alloc (w := w.drew) (t := e) g.drew hS hnb) (by simp), hx, .inr ⟨w.heap.size, cp, cs, rfl, hlen, by simp [setC], Blk.new w.drew e cs, hsz, htk⟩⟩
/-- append to a slice that owns its row: in place or anew. -/
theorem app_run {inf : TypeInfo} (h : OwnRow n sz e v len xs w c) (g : GI w c) (hS : ([n].contains 0 || [n].contains 1) = false) (ht : P.underlying t = some (.slice e)) (hi : P.info? e = some inf) (hz : inf.zero = some z) (hisz : inf.size = sz) (hzs : z.cells.size = sz) (hzn : z.cells.toList.all (fun v => !NB v) = true)
    {ad : Addr} {m cp' : Nat} (hl : news.length = m * sz) (hc : ∀ j u, news[j]? = some u → w.cell? (ad.add j) = some u) (h1 : ∀ u ∈ news, u.oneCell' = true) (hnb : news.all (fun v => !NB v) = true) (hm : 0 < m) (h63 : len + m ≤ 4611686018427387904) (hfit : (len + m) * inf.bytes ≤ 140737488355328) :
    ∃ v2 w2 c2, (Builtin.append_ #[t, t] ty #[v, .slice (some ad) m cp']).run P w = .ok v2 w2 ∧ Ext [n] w c w2 c2 ∧ OwnRow n sz e v2 (len + m) (xs ++ news) w2 c2 := by
  obtain ⟨hx, h⟩ := h
  have hxl : (xs ++ news).length = (len + m) * sz := by rw [List.length_append, hx, hl, Nat.add_mul]
  rcases h with ⟨rfl, rfl⟩ | ⟨gg, cp, cs, rfl, h2, h3, h4, h5, h6⟩
  · have hx0 : xs = [] := List.eq_nil_of_length_eq_zero (by omega)
    subst hx0
    have hge := grownCap_ge w m 0 e
    have hrun := run_append_nil (P := P) w t ty e inf z ht hi hz ad m cp' news (by rw [hisz]; exact hl) hc hm (by omega) (by rw [Nat.zero_add] at hfit; omega)
    obtain ⟨q1, q2⟩ := app_new (n := n) (sz := sz) (len := m) (xs := news) (e := e) (cs := news.toArray ++ Builtin.zeroCells z.cells (grownCap w m 0 e - m)) (cp := grownCap w m 0 e) g hS (by rw [Array.toList_append]; exact all_nb_app hnb (zero_nb hzn _)) hge
      (by rw [Array.size_append, zero_size, hzs, List.size_toArray, hl, ← Nat.add_mul]; congr 1; omega) hl (by rw [Array.toList_append]; exact List.take_left' hl)
    exact ⟨_, _, _, hrun, q1, by rw [Nat.zero_add, List.nil_append]; exact q2⟩
  · by_cases hroom : len + m ≤ cp
    · have hsz : len * sz + news.length ≤ cs.size := by rw [h5, hl, ← Nat.add_mul]; exact Nat.mul_le_mul_right _ hroom
      have hrun := run_append_room (P := P) w t ty e inf ht hi gg len cp cs h4 ad m cp' news (by rw [hisz]; exact hl) hc h1 hroom (by rw [hisz]; exact hsz)
      rw [hisz, h6] at hrun
      obtain ⟨cs2, hcs2⟩ : ∃ cs2, cs2 = (xs ++ news ++ cs.toList.drop (len * sz + news.length)).toArray := ⟨_, rfl⟩
      rw [← hcs2] at hrun
      have hb2 : Blk (w.setRow gg cs2) gg e cs2 := setRow_heap w gg cs cs2 e (0, 0) h4
      have hold := gi_blk g h4 (by rw [h3]; intro h0; subst h0; simp at hS)
      have hn2 : cs2.toList.all (fun v => !NB v) = true := by
        rw [hcs2]
        refine all_nb_app (all_nb_app ?_ hnb) ?_
        · rw [← h6, all_nb] at *; exact fun u hu => hold u (List.mem_of_mem_take hu)
        · rw [all_nb] at *; exact fun u hu => hold u (List.mem_of_mem_drop hu)
      refine ⟨_, _, c, hrun, Ext.store g ⟨rfl, rfl, rfl, by simp [World.setRow], fun k hk hne => setRow_other w gg k cs2 hne⟩ (by simp [World.setRow]) h3 hS hb2 hn2, hxl, .inr ⟨gg, cp, cs2, rfl, hroom, h3, hb2, ?_, ?_⟩⟩
      · rw [hcs2, List.size_toArray, List.length_append, List.length_drop, hxl, Array.length_toList, h5, hl, ← Nat.add_mul]
        have := Nat.mul_le_mul_right sz hroom
        omega
      · rw [hcs2]
        exact List.take_left' hxl
    · have hge := grownCap_ge w (len + m) cp e
      have hrun := run_append_grow (P := P) w t ty e inf z ht hi hz ⟨gg, 0, none⟩ len cp xs (by rw [hisz]; exact hx) (fun j u hu => by
        rw [Addr.add_lit, Nat.zero_add]
        refine h4.cell j ?_
        rw [← h6, List.getElem?_take] at hu
        split at hu
        · simpa using hu
        · cases hu) ad m cp' news (by rw [hisz]; exact hl) hc (by omega) (by omega) (growslice_fits (by omega) hfit)
      have hxn : xs.all (fun v => !NB v) = true := by
        have hold := gi_blk g h4 (by rw [h3]; intro h0; subst h0; simp at hS)
        rw [← h6, all_nb] at *; exact fun u hu => hold u (List.mem_of_mem_take hu)
      obtain ⟨q1, q2⟩ := app_new (n := n) (sz := sz) (len := len + m) (xs := xs ++ news) (e := e) (cs := xs.toArray ++ news.toArray ++ Builtin.zeroCells z.cells (grownCap w (len + m) cp e - (len + m))) (cp := grownCap w (len + m) cp e) g hS
        (by rw [Array.toList_append, Array.toList_append]; exact all_nb_app (all_nb_app hxn hnb) (zero_nb hzn _)) hge
        (by rw [Array.size_append, Array.size_append, zero_size, hzs, List.size_toArray, List.size_toArray, hl, hx, ← Nat.add_mul, ← Nat.add_mul]; congr 1; omega) hxl (by rw [Array.toList_append, Array.toList_append]; exact List.take_left' hxl)
      exact ⟨_, _, _, hrun, q1, q2⟩
end
end Go.Col

namespace Go.Col
set_option linter.unusedVariables false
open Go.RowKit Go.Mem

/-- A slice of structs that owns its row. -/
def ownS (n sz : Nat) (t : TypeId) (L : List TyC) : TyO := ⟨[n], fun v w c => ∃ xs, OwnRow n sz t v L.length xs w c ∧ (catK sz L).sat xs.toArray w c, fun ⟨xs, h1, h2⟩ g e hn => ⟨xs, h1.ext e (by simpa using hn), (catK sz L).stab h2 g e⟩⟩
theorem ownS_nil {n sz : Nat} {t : TypeId} {w : World} {c : Colr} : (ownS n sz t []).sat (.slice none 0 0) w c := ⟨[], OwnRow.nil, fun k τ hk => by simp at hk⟩
theorem ownS_open {n sz : Nat} {t : TypeId} {L : List TyC} {v : Value} {w : World} {c : Colr} (h : (ownS n sz t L).sat v w c) {m : Nat} (hm : L.length = m) (hl : 0 < m) : ∃ g cp, v = .slice (some ⟨g, 0, none⟩) m cp := by
  obtain ⟨xs, h1, _⟩ := h
  subst hm
  exact h1.open hl
/-- The cells of an element. -/
theorem ownS_cells {n sz : Nat} {t : TypeId} {L : List TyC} {g cp m : Nat} {w : World} {c : Colr} (h : (ownS n sz t L).sat (.slice (some ⟨g, 0, none⟩) m cp) w c) (hm : L.length = m) {k : Nat} {τ : TyC} (hk : L[k]? = some τ) : ∃ u : Array Value, u.size = sz ∧ τ.sat (.agg u) w c ∧ ∀ j x, u[j]? = some x → w.cell? ⟨g, k * sz + j, none⟩ = some x := by
  obtain ⟨xs, h1, h2⟩ := h
  obtain ⟨u, q1, q2, q3⟩ := h2 k τ hk
  subst hm
  exact ⟨u, q1, q2, fun j x hx => h1.cell rfl (by have := q3 j x hx; simpa using this)⟩
theorem ownS_load {P : Program} {ty : TypeId} {n sz : Nat} {t : TypeId} {L : List TyC} {g cp m : Nat} {w : World} {c : Colr} (hA : Agg P ty sz) (h : (ownS n sz t L).sat (.slice (some ⟨g, 0, none⟩) m cp) w c) (hm : L.length = m) {k : Nat} {τ : TyC} (hk : L[k]? = some τ) : ∃ u, (loadVar ty ⟨g, k * sz, none⟩).run P w = .ok u w ∧ τ.sat u w c := by
  obtain ⟨u, q1, q2, q3⟩ := ownS_cells h hm hk
  refine ⟨_, load_cells hA u.toList (by simpa using q1) (fun j x hx => ?_), q2⟩
  rw [Addr.add_lit]
  exact q3 j x (by simpa using hx)
theorem own_now {d : Nat} {τ : TyO} {b : BB} {f : FF} {u : Value} {w : World} {c : Colr} (h : τ.sat u w c) : (RF.own d τ).P b (upF (some d) u f) w c := fun v hv => by
  rw [up_at] at hv
  injection hv with hv
  exact hv ▸ h
theorem own_nyet {d p : Nat} {τ : TyO} {b : BB} {f : FF} {u : Value} {w : World} {c : Colr} (hp : (p == d) = false) (h : f p = none) : (RF.own p τ).P b (upF (some d) u f) w c := fun v hv => by
  have : upF (some d) u f p = f p := by
    have : ¬ p = d := by simpa using hp
    have h2 : ¬ d = p := fun e => this e.symm
    unfold upF
    split
    · rename_i h3
      injection h3 with h3
      exact absurd h3 h2
    · rfl
  rw [this, h] at hv
  cases hv
theorem All.co {v : Value} {τ : TyO} {L : List RF} {b : BB} {f : FF} {w : World} {c : Colr} (h : τ.sat v w c) (hL : All L b f w c) : All (.s (Fact.own τ v) :: L) b f w c := ⟨h, hL⟩
theorem All.own {L : List RF} {b : BB} {f : FF} {w : World} {c : Colr} {τ : TyO} {v : Value} (h : All L b f w c) (k : Nat) (hk : nthR L k = .s (Fact.own τ v)) : τ.sat v w c := by
  have := All.nth k h
  rw [hk] at this
  exact this
theorem All.so0 {L : List RF} {b : BB} {f : FF} {w : World} {c : Colr} {i : Nat} {τ : TyO} {v : Value} {F1 : Fact} (h : All L b f w c) (k : Nat) (hk : nthR L k = .st i F1 (.s (Fact.own τ v))) (hb : b i = false) : τ.sat v w c := by
  have := All.nth k h
  rw [hk] at this
  exact this.2 hb
theorem All.no {L : List RF} {b : BB} {f : FF} {w : World} {c : Colr} {τ : TyO} {p : Nat} {v : Value} (h : All L b f w c) (k : Nat) (hk : nthR L k = .own p τ) (hf : f p = some v) : τ.sat v w c := by
  have := All.nth k h
  rw [hk] at this
  exact this v hf
theorem All.cown {L : List RF} {w : World} {c : Colr} (p : Nat) (τ : TyO) (h : All L b0 f0 w c) : All (.own p τ :: L) b0 f0 w c := ⟨RF.own_none, h⟩
section
variable {P : Program} {l : List Oper} {dt : List (List Nat)} {Q : Exit → Act → World → Prop} {n : Nat} {a : Act} {m : Nat → Option Value} {D CB : List Nat} {Fs : List RF} {V : Nat → TyC} {w0 : World} {c0 : Colr} {i : Nat}
theorem unset_of {b : BB} {f : FF} {w : World} {c : Colr} (hJ : J l.toArray w0 c0 CB Fs V b f w c) {j p : Nat} (hb : b j = false) (hp : dstOf l j = some p) : f p = none := by
  unfold dstOf at hp
  cases ho : nthL l j with
  | none => rw [ho] at hp; cases hp
  | some oj =>
    rw [ho] at hp
    rw [nthL_eq] at ho
    have := hJ.set j oj p (by simpa using ho) hp
    cases hf : f p with
    | none => rfl
    | some v =>
      have := this.2 (by rw [hf]; simp)
      rw [hb] at this
      cases this
/-- One element more, in place or anew; the old slice is gone; the slot p is written later. -/
theorem sApO (nc d p j : Nat) {o : Oper} {sz : Nat} {t e : TypeId} {inf : TypeInfo} {z : Value} {L : List TyC} {τ : TyC} {σ : TyO} {F0 : RF} (r0 r1 : XA n l dt m D i) (ht : P.underlying t = some (.slice e)) (hi2 : P.info? e = some inf) (hz : inf.zero = some z) (hsz : inf.size = sz) (hzc : z.cells.size = sz) (hzn : z.cells.toList.all (fun v => !NB v) = true) (hs : τ.str sz)
    (H0 : ∀ {b : BB} {f : FF} {w : World} {c : Colr} {v : Value}, Kx dt w0 c0 CB Fs i b f w c → r0.r.T V w c v → (ownS nc sz e L).sat (r0.r.W v) w c) (H1 : ∀ {b : BB} {f : FF} {w : World} {c : Colr} {v : Value}, Kx dt w0 c0 CB Fs i b f w c → r1.r.T V w c v → (litC sz e [τ]).sat (r1.r.W v) w c) (hL : L.length ≤ 1000000) (hfit : inf.bytes ≤ 100000)
    (hi : nthL l i = some o := by rfl) (hop : o.op = .call { callee := .builtin .append, args := #[r0.r.opd, r1.r.opd], argTypes := #[t, t] } := by rfl) (hd : o.dst = some d := by rfl) (hA : Fs.filter (aff [nc] i (some d)) = [.own d (ownS nc sz e (L ++ [τ])), .own p σ, .st i Fact.tru F0] := by rfl) (hj : dep dt j i = true ∧ dstOf l j = some p := by exact ⟨rfl, rfl⟩) (hpd : (p == d) = false := by rfl)
    (hCB : [nc].all (CB.contains ·) = true := by rfl) (hn : ([nc].contains 0 || [nc].contains 1) = false := by rfl) (hV : V d = TyC.any := by rfl) (hg : Gd l n dt V i o.guard := by first | exact trivial | exact ⟨rfl, _, ⟨rfl, rfl⟩, rfl⟩) : OpStep P l dt Q n a m D CB Fs V w0 c0 i := by
  intro b f w c x o' hJ hout hF hE ho K
  obtain rfl : o = o' := Option.some.inj (hi.symm.trans ho)
  obtain ⟨v0, ev0, sv0⟩ := r0.ev hJ hout hF hE K
  obtain ⟨v1, ev1, sv1⟩ := r1.ev hJ hout hF hE K
  obtain ⟨xs, h1, h2⟩ := H0 K sv0
  obtain ⟨g', ds, hlit, k2, k3, k4, k5⟩ := H1 K sv1
  obtain ⟨u, p1, p2, p3⟩ := k5 0 τ rfl
  obtain ⟨cs, hcs, q1, q2, q3⟩ := hs _ _ _ p2
  injection hcs with hcs
  subst hcs
  have hds : ds.size = sz := by simpa using k4
  have hdu : ds = u := by
    apply Array.ext (by rw [hds, p1])
    intro k hk1 hk2
    have := p3 k u[k] (Array.getElem?_eq_getElem hk2)
    rw [Nat.zero_mul, Nat.zero_add, Array.getElem?_eq_getElem hk1] at this
    injection this
  subst hdu
  have hlen : (L ++ [τ]).length = L.length + 1 := by simp
  obtain ⟨v2, w2, c2, r1', r2', r3'⟩ := app_run (P := P) (t := t) (ty := o.type) (m := 1) (cp' := 1) (news := ds.toList) (ad := ⟨g', 0, none⟩) h1 hJ.gi hn ht hi2 hz hsz hzc hzn (by simpa using hds) (fun j u hu => by rw [Addr.add_lit, Nat.zero_add]; exact k3.cell j (by simpa using hu)) (fun u hu => by have := Array.all_eq_true_iff_forall_mem.1 q2 u (by simpa using hu); exact this) q3 (by omega) (by omega) (by
    have : (L.length + 1) * inf.bytes ≤ 1000001 * 100000 := Nat.mul_le_mul (by omega) hfit
    omega)
  have hnew : (ownS nc sz e (L ++ [τ])).sat v2 w2 c2 := by
    refine ⟨_, by rw [hlen]; exact r3', ?_⟩
    have h2' := (catK sz L).stab h2 hJ.gi r2'
    have h3' : (catK sz [τ]).sat ds w2 c2 := (catK sz [τ]).stab k5 hJ.gi r2'
    have := cat_app (zs := #[]) h2' (by simpa using h1.1) h3' hds
    rw [Array.append_empty] at this
    have e : (xs ++ ds.toList).toArray = xs.toArray ++ ds := by simp
    rw [e]
    exact this
  have he : (execOp x.eval o).run P w = .ok (.value v2) w2 := by
    simp [execOp, hop, resolve, invoke, builtin, ev0, ev1, hlit, r1', Result.andThen]
  refine .run [nc] (some d) (hg.wanted hJ hF hE K) hd hCB (wp_val he ⟨_, c2, rfl, r2', fun d' _ => ?_, ?_⟩)
  · injection ‹some d = some d'› with hdd
    subst hdd
    rw [hV]
    trivial
  · rw [hA]
    exact ⟨own_now hnew, own_nyet hpd (unset_of hJ (K.nyet j hj.1) hj.2), ⟨fun _ => trivial, fun hb => by simp [bup] at hb⟩, trivial⟩
/-- A move of an owned value. -/
theorem sMvO (q p k : Nat) {o : Oper} {τ : TyO} (j : Nat) (hi : nthL l i = some o := by rfl) (hop : o.op = .move (.tmp q) ∨ o.op = .assign (.tmp q) := by first | exact .inl rfl | exact .inr rfl) (hd : o.dst = some p := by rfl) (hA : Fs.filter (aff [] i (some p)) = [.own p τ] := by rfl) (hk : nthR Fs k = .own q τ := by rfl) (hV : V p = TyC.any := by rfl) (hq : dep dt i j = true ∧ decide (q < n) = true ∧ dstOf l j = some q := by exact ⟨rfl, rfl, rfl⟩) (hg : Gd l n dt V i o.guard := by first | exact trivial | exact ⟨rfl, _, ⟨rfl, rfl⟩, rfl⟩) : OpStep P l dt Q n a m D CB Fs V w0 c0 i := by
  intro b f w c x o' hJ hout hF hE ho K
  obtain rfl : o = o' := Option.some.inj (hi.symm.trans ho)
  obtain ⟨v, ev, hfv⟩ : ∃ v, x.eval (.tmp q) = v ∧ f q = some v := by
    obtain ⟨h1, h2, h3⟩ := hq
    unfold dstOf at h3
    split at h3
    · rename_i oj hoj
      rw [nthL_eq] at hoj
      have h4 := (hJ.set j oj q (by simpa using hoj) h3).1 (K.done j h1)
      cases hf : f q with
      | none => exact absurd hf h4
      | some v => exact ⟨v, hF.in (by rw [hE.1]; exact of_decide_eq_true h2) hf, rfl⟩
    · cases h3
  exact .pure p (hg.wanted hJ hF hE K) hd (by rw [hA]; exact ⟨own_now (All.no K.fac k hk hfv), trivial⟩) hJ.gi (ex_move hop ev) (by rw [hV]; trivial)
/-- The address of an element of a known slice. -/
theorem sIxv (d : Nat) {o : Oper} {ty : TypeId} {u z z' : Value} (r0 : XA n l dt m D i) (r1 : XA n l dt m D i) (hz : ∀ {w : World} {c : Colr} {v v' : Value}, r0.r.T V w c v → r1.r.T V w c v' → r0.r.W v = z ∧ r1.r.W v' = z') (L : ∀ {w : World}, (Instr.indexAt ty z z').run P w = .ok u w) (hV : V d = TyC.eq u := by rfl) (hi : nthL l i = some o := by rfl) (hop : o.op = .indexAddr ty r0.r.opd r1.r.opd := by rfl) (hd : o.dst = some d := by rfl) (hA : Fs.filter (aff [] i (some d)) = [] := by rfl) (hg : Gd l n dt V i o.guard := by first | exact trivial | exact ⟨rfl, _, ⟨rfl, rfl⟩, rfl⟩) : OpStep P l dt Q n a m D CB Fs V w0 c0 i := by
  intro b f w c x o' hJ hout hF hE ho K
  obtain rfl : o = o' := Option.some.inj (hi.symm.trans ho)
  obtain ⟨v0, ev0, sv0⟩ := r0.ev hJ hout hF hE K
  obtain ⟨v1, ev1, sv1⟩ := r1.ev hJ hout hF hE K
  exact .pure d (hg.wanted hJ hF hE K) hd (by rw [hA]; trivial) hJ.gi (ex_index hop (ev0.trans (hz sv0 sv1).1) (ev1.trans (hz sv0 sv1).2) L) (by rw [hV]; rfl)
theorem own_cast {n sz : Nat} {t : TypeId} {L L' : List TyC} {v : Value} {w : World} {c : Colr} (e : L = L') (h : (ownS n sz t L).sat v w c) : (ownS n sz t L').sat v w c := e ▸ h
end
theorem map_take_succ {α : Type} {d : α} {f : α → TyC} {xs : List α} {k : Nat} (h : k < xs.length) : (xs.take k).map f ++ [f (xs.getD k d)] = (xs.take (k + 1)).map f := by
  rw [List.take_succ_eq_append_getElem h, List.map_append]
  simp [List.getD, List.getElem?_eq_getElem h]
theorem map_take_at {α : Type} {d : α} {f : α → TyC} {xs : List α} {k m : Nat} (h : k < m) (hm : m ≤ xs.length) : ((xs.take m).map f)[k]? = some (f (xs.getD k d)) := by
  rw [List.getElem?_map, List.getElem?_take_of_lt h, List.getElem?_eq_getElem (by omega)]
  simp [List.getD, List.getElem?_eq_getElem (show k < xs.length by omega)]
theorem run_neqb {P : Program} {w : World} {t : TypeId} (ht : P.underlying t = some .bool) (a b : Bool) : (binOp .neq t (.bool a) (.bool b)).run P w = .ok (.bool (!(a == b))) w := by
  obtain ⟨k, hk⟩ : ∃ k, Op.maxDepth = k + 1 := ⟨_, rfl⟩
  have h : (Op.equalIn Op.maxDepth t (.bool a) (.bool b)).run P w = .ok (a == b) w := by
    rw [hk]
    simp [Op.equalIn, run_underlying ht]
  simp [binOp, Op.equal, h, go_sem]
end Go.Col

namespace Go.Col
set_option linter.unusedVariables false
open Go.RowKit Go.Mem

/-- The string with these bytes. -/
abbrev Sb (l : List UInt8) : ByteArray := ⟨l.toArray⟩
/-- A byte slice that owns its row, of a colour. -/
def byO (n : Nat) (l : List UInt8) : TyO := ⟨[n], fun v w c => ∃ g cp cs t x, v = .slice (some ⟨g, 0, none⟩) l.length cp ∧ l.length ≤ cp ∧ c g = n ∧ w.heap[g]? = some (.cells cs t x) ∧ (∀ j, j < l.length → (decide (x.1 ≤ j) && decide (j < x.2)) = false) ∧ ∀ (j : Nat) (u : Value), (bs l)[j]? = some u → cs[j]? = some u,
  fun {S v w c w' c'} ⟨g, cp, cs, t, x, h1, h2, h3, h4, h5, h6⟩ gi e hn => by
    have hlt : g < w.heap.size := (Array.getElem?_eq_some_iff.1 h4).1
    exact ⟨g, cp, cs, t, x, h1, h2, (e.col g hlt).trans h3, e.chg.heap h4 (fun hs => by rw [h3] at hs; simp at hn; simp [hn] at hs), h5, h6⟩⟩
section
variable {P : Program} {w w' : World} {c c' : Colr} {n m : Nat} {v : Value} {l : List UInt8}
theorem byO_open (h : (byO n l).sat v w c) (hm : l.length = m) : ∃ g cp, v = .slice (some ⟨g, 0, none⟩) m cp ∧ m ≤ cp := by
  obtain ⟨g, cp, cs, t, x, h1, h2, _⟩ := h
  subst hm
  exact ⟨g, cp, h1, h2⟩
theorem byO_rd (h : (byO n l).sat v w c) : ∃ g cp, v = .slice (some ⟨g, 0, none⟩) l.length cp ∧ l.length ≤ cp ∧ Rd w (some ⟨g, 0, none⟩) l.length (bs l) := by
  obtain ⟨g, cp, cs, t, x, h1, h2, h3, h4, h5, h6⟩ := h
  refine ⟨g, cp, h1, h2, by simp [bs], fun _ => ⟨_, rfl, fun j u hu => ?_⟩⟩
  rw [Addr.add_lit, Nat.zero_add]
  exact (cell_of_row w g j cs t x h4).trans (h6 j u hu)
theorem by_cast {l' : List UInt8} (e : l = l') (h : (byO n l).sat v w c) : (byO n l').sat v w c := e ▸ h
theorem bytes_nb (l : List UInt8) (k : Nat) : ((bs l).toArray ++ Array.replicate k (Value.int .u8 0)).toList.all (fun v => !NB v) = true := by
  rw [all_nb]
  intro v hv
  simp only [Array.toList_append, List.mem_append, Array.toList_replicate, List.mem_replicate, bs, List.mem_map] at hv
  rcases hv with ⟨x, _, rfl⟩ | ⟨_, rfl⟩
  · rfl
  · rfl
theorem bytesCells_eq (w : World) (e : TypeId) (l : List UInt8) : Lib.bytesCells w e (Sb l) = (bs l).toArray ++ Array.replicate (grownCap w (Sb l).size 0 e - (Sb l).size) (Value.int .u8 0) := by
  unfold Lib.bytesCells
  congr 1
  simp [Sb, bs, By]
/-- []byte(s). -/
theorem conv_own {e : TypeId} (l : List UInt8) (g : GI w c) (hS : ([n].contains 0 || [n].contains 1) = false) :
    Ext [n] w c (Lib.bytesWorld w e (Sb l)) (setC c w.heap.size n) ∧ (byO n l).sat (.slice (some ⟨w.heap.size, 0, none⟩) (Sb l).size (grownCap w (Sb l).size 0 e)) (Lib.bytesWorld w e (Sb l)) (setC c w.heap.size n) := by
  have hsz : (Sb l).size = l.length := by simp [Sb, ByteArray.size]
  have hnew := Lib.bytesWorld_at_new w e (Sb l)
  refine ⟨⟨hS, ⟨rfl, rfl, rfl, by rw [Lib.bytesWorld_size]; omega, fun k hk _ => Lib.bytesWorld_at_old w e _ k hk⟩, fun k hk => if_neg (show ¬ k = w.heap.size by omega), fun k h1 h2 => ?_, ?_⟩, ?_⟩
  · rw [Lib.bytesWorld_size] at h2
    obtain rfl : k = w.heap.size := by omega
    exact .inr (.inr (by simp [setC]))
  · intro k cs' t' x hb hc v hv
    by_cases hk : k = w.heap.size
    · subst hk
      rw [hnew] at hb
      injection hb with hb
      injection hb with hb
      subst hb
      rw [bytesCells_eq] at hv
      exact all_nb.1 (bytes_nb l _) v hv
    · have hlt : k < w.heap.size := by
        have := (Array.getElem?_eq_some_iff.1 hb).1
        rw [Lib.bytesWorld_size] at this; omega
      rw [Lib.bytesWorld_at_old w e _ k hlt] at hb
      simp only [setC, if_neg hk] at hc
      exact g k cs' t' x hb hc v hv
  · refine ⟨w.heap.size, _, _, e, _, by rw [hsz], by rw [← hsz]; exact grownCap_ge _ _ _ _, by simp [setC], hnew, fun j hj => ?_, fun j u hu => ?_⟩
    · have : (Lib.bytesCells w e (Sb l)).size ≥ l.length := by rw [bytesCells_eq]; simp [bs]
      simp
      omega
    · rw [bytesCells_eq, Array.getElem?_append_left]
      · simpa using hu
      · have := (List.getElem?_eq_some_iff.1 hu).1
        simpa using this
/-- A byte is stored. -/
theorem by_store {ty : TypeId} {g cp j : Nat} {b : UInt8} (gi : GI w c) (hS : ([n].contains 0 || [n].contains 1) = false) (hty : (P.info? ty).map (·.size) = some 1) (h : (byO n l).sat (.slice (some ⟨g, 0, none⟩) m cp) w c) (hm : l.length = m) (hj : j < m) :
    ∃ w', (storeVar ty ⟨g, j * 1, none⟩ (By b)).run P w = .ok () w' ∧ Ext [n] w c w' c ∧ (byO n (l.set j b)).sat (.slice (some ⟨g, 0, none⟩) m cp) w' c := by
  subst hm
  obtain ⟨g', cp', cs, t, x, h1, h2, h3, h4, h5, h6⟩ := h
  injection h1 with h1 h1' h1''
  injection h1 with h1
  injection h1 with h1
  subst h1 h1''
  have hlt : g < w.heap.size := (Array.getElem?_eq_some_iff.1 h4).1
  have hjc : j < cs.size := by
    have hu : (bs l)[j]? = some (By l[j]) := by simp [bs, hj]
    exact (Array.getElem?_eq_some_iff.1 (h6 j _ hu)).1
  obtain ⟨u, hu⟩ : ∃ u, cs[j]? = some u := ⟨cs[j], by simp [hjc]⟩
  have hcell : w.cell? ⟨g, j, none⟩ = some u := (cell_of_row w g j cs t x h4).trans hu
  have hfr : w.frozen? ⟨g, j, none⟩ = false := by
    unfold World.frozen?
    rw [h4]
    exact h5 j hj
  have hrun : (storeVar ty ⟨g, j * 1, none⟩ (By b)).run P w = .ok () (w.setCell ⟨g, j, none⟩ (By b)) := by
    rw [Nat.mul_one]
    cases hq : P.info? ty with
    | none => rw [hq] at hty; cases hty
    | some d =>
      rw [hq] at hty
      injection hty with hty
      simp [storeVar, sizeOf, typeInfo, hq, By, Value.cells, hty, storeCells, hcell, hfr, Addr.add_lit, Result.andThen, go_sem, Value.oneCell']
  have hblk : (w.setCell ⟨g, j, none⟩ (By b)).heap[g]? = some (.cells (cs.setIfInBounds j (By b)) t x) := by
    simp [World.setCell, Array.getElem?_modify, h4]
  refine ⟨_, hrun, ⟨hS, (Chg.refl _ w).setCell (p := ⟨g, j, none⟩) (fun _ => by simp [h3]) _, fun _ _ => rfl, fun k h1 h2 => ?_, ?_⟩, g, cp, _, t, x, by rw [List.length_set], by rw [List.length_set]; exact h2, h3, hblk, fun k hk => h5 k (by rwa [List.length_set] at hk), fun k u hk => ?_⟩
  · simp [World.setCell] at h2; omega
  · intro k cs' t' x' hb hc v hv
    by_cases hk : k = g
    · subst hk
      rw [hblk] at hb
      injection hb with hb
      injection hb with hb
      subst hb
      simp only [Array.toList_setIfInBounds] at hv
      rcases List.mem_or_eq_of_mem_set hv with hv | rfl
      · exact gi k cs t x h4 hc v hv
      · rfl
    · rw [Below.heap_setCell w ⟨g, j, none⟩ _ k (fun e => hk e)] at hb
      exact gi k cs' t' x' hb hc v hv
  · by_cases hkj : k = j
    · subst hkj
      simp [bs, hj] at hk
      subst hk
      simp [hjc, By]
    · have hk' : (bs l)[k]? = some u := by
        rw [← hk]
        simp [bs, List.getElem?_set_ne (fun e => hkj e.symm)]
      rw [Array.getElem?_setIfInBounds_ne (fun e => hkj e.symm)]
      exact h6 k u hk'
/-- string(b), of the first bytes. -/
theorem by_string {src dst e : TypeId} (hs : P.underlying src = some (.slice e)) (he : P.underlying e = some (.int .u8)) (hd : P.underlying dst = some .string) {g cp cp' k : Nat} (h : (byO n l).sat (.slice (some ⟨g, 0, none⟩) m cp) w c) (hm : l.length = m) (hk : k ≤ m) :
    (convert src dst (.slice (some ⟨g, 0, none⟩) k cp')).run P w = .ok (.string (Sb (l.take k))) w := by
  subst hm
  obtain ⟨g', cp2, q1, q2, q3⟩ := byO_rd h
  injection q1 with q1 q1' q1''
  injection q1 with q1
  injection q1 with q1
  subst q1
  have := q3.take hk
  rw [bs_take] at this
  exact run_tostr hs he hd this
end
theorem RF.in1 {i : Nat} {F1 : Fact} {F0 : RF} {b : BB} {f : FF} {w : World} {c : Colr} (h : (RF.st i F1 F0).P b f w c) (hb : b i = true) : F1.P w c := h.1 hb
theorem RF.in0 {i : Nat} {F1 : Fact} {F0 : RF} {b : BB} {f : FF} {w : World} {c : Colr} (h : (RF.st i F1 F0).P b f w c) (hb : b i = false) : F0.P b f w c := h.2 hb
theorem RF.inS {F : Fact} {b : BB} {f : FF} {w : World} {c : Colr} (h : (RF.s F).P b f w c) : F.P w c := h
theorem st_now' {i : Nat} {F1 : Fact} {F0 : RF} {b : BB} {f : FF} {w : World} {c : Colr} (h : F1.P w c) : (RF.st i F1 F0).P (bup b i) f w c := ⟨fun _ => h, fun hbb => (by rw [bup_at] at hbb; cases hbb)⟩
section
variable {P : Program} {l : List Oper} {dt : List (List Nat)} {Q : Exit → Act → World → Prop} {n : Nat} {a : Act} {m : Nat → Option Value} {D CB : List Nat} {Fs : List RF} {V : Nat → TyC} {w0 : World} {c0 : Colr} {i : Nat}
/-- []byte(s). -/
theorem sCvb (nc d p j : Nat) {o : Oper} {σ : TyO} {src dst e : TypeId} {u : TypeDesc} {x0 : List UInt8} (r0 : XA n l dt m D i) (hs : P.underlying src = some u) (hds : P.underlying dst = some (.slice e)) (he : P.underlying e = some (.int .u8)) (hz : ∀ {b : BB} {f : FF} {w : World} {c : Colr} {v : Value}, Kx dt w0 c0 CB Fs i b f w c → r0.r.T V w c v → r0.r.W v = .string (Sb x0))
    (hi : nthL l i = some o := by rfl) (hop : o.op = .convert src dst r0.r.opd := by rfl) (hd : o.dst = some d := by rfl) (hA : Fs.filter (aff [nc] i (some d)) = [.own d (byO nc x0), .own p σ] := by rfl) (hj : dep dt j i = true ∧ dstOf l j = some p := by exact ⟨rfl, rfl⟩) (hpd : (p == d) = false := by rfl) (hCB : [nc].all (CB.contains ·) = true := by rfl) (hn : ([nc].contains 0 || [nc].contains 1) = false := by rfl) (hV : V d = TyC.any := by rfl) (hg : Gd l n dt V i o.guard := by first | exact trivial | exact ⟨rfl, _, ⟨rfl, rfl⟩, rfl⟩) : OpStep P l dt Q n a m D CB Fs V w0 c0 i := by
  intro b f w c x o' hJ hout hF hE ho K
  obtain rfl : o = o' := Option.some.inj (hi.symm.trans ho)
  obtain ⟨v0, ev0, sv0⟩ := r0.ev hJ hout hF hE K
  have hrun := Lib.run_convert_string_bytes (P := P) w src dst e (Sb x0) hs hds he
  have he' : (execOp x.eval o).run P w = .ok (.value (.slice (some ⟨w.heap.size, 0, none⟩) (Sb x0).size (grownCap w (Sb x0).size 0 e))) (Lib.bytesWorld w e (Sb x0)) := by
    simp [execOp, hop, ev0, hz K sv0, hrun, Result.andThen]
  obtain ⟨q1, q2⟩ := conv_own (n := nc) (w := w) (c := c) (e := e) x0 hJ.gi hn
  refine .run [nc] (some d) (hg.wanted hJ hF hE K) hd hCB (wp_val he' ⟨_, _, rfl, q1, fun d' _ => ?_, ?_⟩)
  · injection ‹some d = some d'› with hdd
    subst hdd
    rw [hV]
    trivial
  · rw [hA]
    exact ⟨own_now q2, own_nyet hpd (unset_of hJ (K.nyet j hj.1) hj.2), trivial⟩
/-- b[j] = x. -/
theorem sStb (nc : Nat) {o : Oper} {ty : TypeId} {g cp k j : Nat} {x0 : List UInt8} {y : UInt8} {F0 : RF} (r0 r1 : XA n l dt m D i) (hty : (P.info? ty).map (·.size) = some 1) (ha : ∀ {b : BB} {f : FF} {w : World} {c : Colr} {v : Value}, Kx dt w0 c0 CB Fs i b f w c → r0.r.T V w c v → r0.r.W v = .pointer (some ⟨g, j * 1, none⟩)) (hb : ∀ {b : BB} {f : FF} {w : World} {c : Colr} {v : Value}, Kx dt w0 c0 CB Fs i b f w c → r1.r.T V w c v → r1.r.W v = By y) (O : ∀ {b : BB} {f : FF} {w : World} {c : Colr}, Kx dt w0 c0 CB Fs i b f w c → (byO nc x0).sat (.slice (some ⟨g, 0, none⟩) k cp) w c) (hm : x0.length = k) (hj : j < k)
    (hi : nthL l i = some o := by rfl) (hop : o.op = .store ty r0.r.opd r1.r.opd := by rfl) (hd : o.dst = none := by rfl) (hA : Fs.filter (aff [nc] i none) = [.st i (Fact.own (byO nc (x0.set j y)) (.slice (some ⟨g, 0, none⟩) k cp)) F0] := by rfl) (hCB : [nc].all (CB.contains ·) = true := by rfl) (hn : ([nc].contains 0 || [nc].contains 1) = false := by rfl) (hg : Gd l n dt V i o.guard := by first | exact trivial | exact ⟨rfl, _, ⟨rfl, rfl⟩, rfl⟩) : OpStep P l dt Q n a m D CB Fs V w0 c0 i := by
  intro b f w c x o' hJ hout hF hE ho K
  obtain rfl : o = o' := Option.some.inj (hi.symm.trans ho)
  obtain ⟨v0, ev0, sv0⟩ := r0.ev hJ hout hF hE K
  obtain ⟨v1, ev1, sv1⟩ := r1.ev hJ hout hF hE K
  obtain ⟨w2, q1, q2, q3⟩ := by_store (P := P) (b := y) hJ.gi hn hty (O K) hm hj
  refine .store nc [nc] rfl (hg.wanted hJ hF hE K) hd hCB hop (ev0.trans (ha K sv0)) (ev1.trans (hb K sv1)) ⟨w2, q1, q2, ?_⟩
  rw [hA]
  exact ⟨st_now' q3, trivial⟩
/-- A call that changes an owned object. -/
theorem sM1 (nc d : Nat) {o : Oper} {fn : Nat} {tys : Array TypeId} {fd : Func} {F1 : Fact} {F0 : RF} (r0 : XA n l dt m D i) (L : ∀ {b : BB} {f : FF} {w : World} {c : Colr} {v0 : Value}, Kx dt w0 c0 CB Fs i b f w c → r0.r.T V w c v0 → CE P fn #[r0.r.W v0] w c [nc] (fun v w' c' => (V d).sat v w' c' ∧ F1.P w' c')) (hfn : P.funcs[fn]? = some fd) (hi : nthL l i = some o := by rfl) (hop : o.op = .call { callee := .value (.func fn), args := #[r0.r.opd], argTypes := tys } := by rfl) (hd : o.dst = some d := by rfl) (hA : Fs.filter (aff [nc] i (some d)) = [.st i F1 F0] := by rfl) (hCB : [nc].all (CB.contains ·) = true := by rfl) (hnb : (fd.name == "runtime.NumGoroutine" || fd.body.isNone) = false := by rfl) (hg : Gd l n dt V i o.guard := by first | exact trivial | exact ⟨rfl, _, ⟨rfl, rfl⟩, rfl⟩) : OpStep P l dt Q n a m D CB Fs V w0 c0 i := by
  intro b f w c x o' hJ hout hF hE ho K
  obtain rfl : o = o' := Option.some.inj (hi.symm.trans ho)
  obtain ⟨v0, ev0, sv0⟩ := r0.ev hJ hout hF hE K
  exact .callE d [nc] (hg.wanted hJ hF hE K) hd hCB hJ.gi hop (vs := #[r0.r.W v0]) (by simp [ev0]) (enter_of hfn hnb _) (L K sv0) (fun v w' c' h _ => ⟨h.1, by rw [hA]; exact ⟨st_now' h.2, trivial⟩⟩)
theorem sM2 (nc d : Nat) {o : Oper} {fn : Nat} {tys : Array TypeId} {fd : Func} {F1 : Fact} {F0 : RF} (r0 : XA n l dt m D i) (r1 : XA n l dt m D i) (L : ∀ {b : BB} {f : FF} {w : World} {c : Colr} {v0 v1 : Value}, Kx dt w0 c0 CB Fs i b f w c → r0.r.T V w c v0 → r1.r.T V w c v1 → CE P fn #[r0.r.W v0, r1.r.W v1] w c [nc] (fun v w' c' => (V d).sat v w' c' ∧ F1.P w' c')) (hfn : P.funcs[fn]? = some fd) (hi : nthL l i = some o := by rfl) (hop : o.op = .call { callee := .value (.func fn), args := #[r0.r.opd, r1.r.opd], argTypes := tys } := by rfl) (hd : o.dst = some d := by rfl) (hA : Fs.filter (aff [nc] i (some d)) = [.st i F1 F0] := by rfl) (hCB : [nc].all (CB.contains ·) = true := by rfl) (hnb : (fd.name == "runtime.NumGoroutine" || fd.body.isNone) = false := by rfl) (hg : Gd l n dt V i o.guard := by first | exact trivial | exact ⟨rfl, _, ⟨rfl, rfl⟩, rfl⟩) : OpStep P l dt Q n a m D CB Fs V w0 c0 i := by
  intro b f w c x o' hJ hout hF hE ho K
  obtain rfl : o = o' := Option.some.inj (hi.symm.trans ho)
  obtain ⟨v0, ev0, sv0⟩ := r0.ev hJ hout hF hE K
  obtain ⟨v1, ev1, sv1⟩ := r1.ev hJ hout hF hE K
  exact .callE d [nc] (hg.wanted hJ hF hE K) hd hCB hJ.gi hop (vs := #[r0.r.W v0, r1.r.W v1]) (by simp [ev0, ev1]) (enter_of hfn hnb _) (L K sv0 sv1) (fun v w' c' h _ => ⟨h.1, by rw [hA]; exact ⟨st_now' h.2, trivial⟩⟩)
theorem sM3 (nc d : Nat) {o : Oper} {fn : Nat} {tys : Array TypeId} {fd : Func} {F1 : Fact} {F0 : RF} (r0 : XA n l dt m D i) (r1 : XA n l dt m D i) (r2 : XA n l dt m D i) (L : ∀ {b : BB} {f : FF} {w : World} {c : Colr} {v0 v1 v2 : Value}, Kx dt w0 c0 CB Fs i b f w c → r0.r.T V w c v0 → r1.r.T V w c v1 → r2.r.T V w c v2 → CE P fn #[r0.r.W v0, r1.r.W v1, r2.r.W v2] w c [nc] (fun v w' c' => (V d).sat v w' c' ∧ F1.P w' c')) (hfn : P.funcs[fn]? = some fd) (hi : nthL l i = some o := by rfl) (hop : o.op = .call { callee := .value (.func fn), args := #[r0.r.opd, r1.r.opd, r2.r.opd], argTypes := tys } := by rfl) (hd : o.dst = some d := by rfl) (hA : Fs.filter (aff [nc] i (some d)) = [.st i F1 F0] := by rfl) (hCB : [nc].all (CB.contains ·) = true := by rfl) (hnb : (fd.name == "runtime.NumGoroutine" || fd.body.isNone) = false := by rfl) (hg : Gd l n dt V i o.guard := by first | exact trivial | exact ⟨rfl, _, ⟨rfl, rfl⟩, rfl⟩) : OpStep P l dt Q n a m D CB Fs V w0 c0 i := by
  intro b f w c x o' hJ hout hF hE ho K
  obtain rfl : o = o' := Option.some.inj (hi.symm.trans ho)
  obtain ⟨v0, ev0, sv0⟩ := r0.ev hJ hout hF hE K
  obtain ⟨v1, ev1, sv1⟩ := r1.ev hJ hout hF hE K
  obtain ⟨v2, ev2, sv2⟩ := r2.ev hJ hout hF hE K
  exact .callE d [nc] (hg.wanted hJ hF hE K) hd hCB hJ.gi hop (vs := #[r0.r.W v0, r1.r.W v1, r2.r.W v2]) (by simp [ev0, ev1, ev2]) (enter_of hfn hnb _) (L K sv0 sv1 sv2) (fun v w' c' h _ => ⟨h.1, by rw [hA]; exact ⟨st_now' h.2, trivial⟩⟩)
theorem sM4 (nc d : Nat) {o : Oper} {fn : Nat} {tys : Array TypeId} {fd : Func} {F1 : Fact} {F0 : RF} (r0 : XA n l dt m D i) (r1 : XA n l dt m D i) (r2 : XA n l dt m D i) (r3 : XA n l dt m D i) (L : ∀ {b : BB} {f : FF} {w : World} {c : Colr} {v0 v1 v2 v3 : Value}, Kx dt w0 c0 CB Fs i b f w c → r0.r.T V w c v0 → r1.r.T V w c v1 → r2.r.T V w c v2 → r3.r.T V w c v3 → CE P fn #[r0.r.W v0, r1.r.W v1, r2.r.W v2, r3.r.W v3] w c [nc] (fun v w' c' => (V d).sat v w' c' ∧ F1.P w' c')) (hfn : P.funcs[fn]? = some fd) (hi : nthL l i = some o := by rfl) (hop : o.op = .call { callee := .value (.func fn), args := #[r0.r.opd, r1.r.opd, r2.r.opd, r3.r.opd], argTypes := tys } := by rfl) (hd : o.dst = some d := by rfl) (hA : Fs.filter (aff [nc] i (some d)) = [.st i F1 F0] := by rfl) (hCB : [nc].all (CB.contains ·) = true := by rfl) (hnb : (fd.name == "runtime.NumGoroutine" || fd.body.isNone) = false := by rfl) (hg : Gd l n dt V i o.guard := by first | exact trivial | exact ⟨rfl, _, ⟨rfl, rfl⟩, rfl⟩) : OpStep P l dt Q n a m D CB Fs V w0 c0 i := by
  intro b f w c x o' hJ hout hF hE ho K
  obtain rfl : o = o' := Option.some.inj (hi.symm.trans ho)
  obtain ⟨v0, ev0, sv0⟩ := r0.ev hJ hout hF hE K
  obtain ⟨v1, ev1, sv1⟩ := r1.ev hJ hout hF hE K
  obtain ⟨v2, ev2, sv2⟩ := r2.ev hJ hout hF hE K
  obtain ⟨v3, ev3, sv3⟩ := r3.ev hJ hout hF hE K
  exact .callE d [nc] (hg.wanted hJ hF hE K) hd hCB hJ.gi hop (vs := #[r0.r.W v0, r1.r.W v1, r2.r.W v2, r3.r.W v3]) (by simp [ev0, ev1, ev2, ev3]) (enter_of hfn hnb _) (L K sv0 sv1 sv2 sv3) (fun v w' c' h _ => ⟨h.1, by rw [hA]; exact ⟨st_now' h.2, trivial⟩⟩)
theorem sM5 (nc d : Nat) {o : Oper} {fn : Nat} {tys : Array TypeId} {fd : Func} {F1 : Fact} {F0 : RF} (r0 : XA n l dt m D i) (r1 : XA n l dt m D i) (r2 : XA n l dt m D i) (r3 : XA n l dt m D i) (r4 : XA n l dt m D i) (L : ∀ {b : BB} {f : FF} {w : World} {c : Colr} {v0 v1 v2 v3 v4 : Value}, Kx dt w0 c0 CB Fs i b f w c → r0.r.T V w c v0 → r1.r.T V w c v1 → r2.r.T V w c v2 → r3.r.T V w c v3 → r4.r.T V w c v4 → CE P fn #[r0.r.W v0, r1.r.W v1, r2.r.W v2, r3.r.W v3, r4.r.W v4] w c [nc] (fun v w' c' => (V d).sat v w' c' ∧ F1.P w' c')) (hfn : P.funcs[fn]? = some fd) (hi : nthL l i = some o := by rfl) (hop : o.op = .call { callee := .value (.func fn), args := #[r0.r.opd, r1.r.opd, r2.r.opd, r3.r.opd, r4.r.opd], argTypes := tys } := by rfl) (hd : o.dst = some d := by rfl) (hA : Fs.filter (aff [nc] i (some d)) = [.st i F1 F0] := by rfl) (hCB : [nc].all (CB.contains ·) = true := by rfl) (hnb : (fd.name == "runtime.NumGoroutine" || fd.body.isNone) = false := by rfl) (hg : Gd l n dt V i o.guard := by first | exact trivial | exact ⟨rfl, _, ⟨rfl, rfl⟩, rfl⟩) : OpStep P l dt Q n a m D CB Fs V w0 c0 i := by
  intro b f w c x o' hJ hout hF hE ho K
  obtain rfl : o = o' := Option.some.inj (hi.symm.trans ho)
  obtain ⟨v0, ev0, sv0⟩ := r0.ev hJ hout hF hE K
  obtain ⟨v1, ev1, sv1⟩ := r1.ev hJ hout hF hE K
  obtain ⟨v2, ev2, sv2⟩ := r2.ev hJ hout hF hE K
  obtain ⟨v3, ev3, sv3⟩ := r3.ev hJ hout hF hE K
  obtain ⟨v4, ev4, sv4⟩ := r4.ev hJ hout hF hE K
  exact .callE d [nc] (hg.wanted hJ hF hE K) hd hCB hJ.gi hop (vs := #[r0.r.W v0, r1.r.W v1, r2.r.W v2, r3.r.W v3, r4.r.W v4]) (by simp [ev0, ev1, ev2, ev3, ev4]) (enter_of hfn hnb _) (L K sv0 sv1 sv2 sv3 sv4) (fun v w' c' h _ => ⟨h.1, by rw [hA]; exact ⟨st_now' h.2, trivial⟩⟩)
/-- min of two ints. -/
theorem sMin (d : Nat) {o : Oper} {ts : Array TypeId} {x y z : Int} (r0 r1 : XA n l dt m D i) (hz : ∀ {w : World} {c : Colr} {v v' : Value}, r0.r.T V w c v → r1.r.T V w c v' → r0.r.W v = .int .i64 x ∧ r1.r.W v' = .int .i64 y) (hm : (x ≤ y ∧ z = x) ∨ (y ≤ x ∧ z = y)) (hi : nthL l i = some o := by rfl) (hop : o.op = .call { callee := .builtin .min, args := #[r0.r.opd, r1.r.opd], argTypes := ts } := by rfl) (hd : o.dst = some d := by rfl) (hA : Fs.filter (aff [] i (some d)) = [] := by rfl) (hV : V d = TyC.eq (.int .i64 z) := by rfl) (hg : Gd l n dt V i o.guard := by first | exact trivial | exact ⟨rfl, _, ⟨rfl, rfl⟩, rfl⟩) : OpStep P l dt Q n a m D CB Fs V w0 c0 i := by
  intro b f w c x o' hJ hout hF hE ho K
  obtain rfl : o = o' := Option.some.inj (hi.symm.trans ho)
  obtain ⟨v0, ev0, sv0⟩ := r0.ev hJ hout hF hE K
  obtain ⟨v1, ev1, sv1⟩ := r1.ev hJ hout hF hE K
  obtain ⟨h1, h2⟩ := hz sv0 sv1
  exact .pure (v := .int .i64 z) d (hg.wanted hJ hF hE K) hd (by rw [hA]; trivial) hJ.gi (by simp [execOp, hop, resolve, invoke, builtin, ev0.trans h1, ev1.trans h2, run_min2 _ _ _ hm, Result.andThen]) (by rw [hV]; rfl)
/-- s[:k] of a known slice. -/
theorem sSlb (d : Nat) {o : Oper} {t e : TypeId} {z : Value} {bytes : Nat} {A : Option Addr} {q cp k : Nat} (r0 r1 : XA n l dt m D i) (hE_ : Elem P t e z bytes) (hz : ∀ {w : World} {c : Colr} {v v' : Value}, r0.r.T V w c v → r1.r.T V w c v' → r0.r.W v = .slice A q cp ∧ r1.r.W v' = .int .i64 (k : Int)) (hk : k ≤ cp) (hi : nthL l i = some o := by rfl) (hop : o.op = .slice t r0.r.opd none (some r1.r.opd) none := by rfl) (hd : o.dst = some d := by rfl) (hA : Fs.filter (aff [] i (some d)) = [] := by rfl) (hV : V d = TyC.eq (.slice A k cp) := by rfl) (hg : Gd l n dt V i o.guard := by first | exact trivial | exact ⟨rfl, _, ⟨rfl, rfl⟩, rfl⟩) : OpStep P l dt Q n a m D CB Fs V w0 c0 i := by
  intro b f w c x o' hJ hout hF hE ho K
  obtain rfl : o = o' := Option.some.inj (hi.symm.trans ho)
  obtain ⟨v0, ev0, sv0⟩ := r0.ev hJ hout hF hE K
  obtain ⟨v1, ev1, sv1⟩ := r1.ev hJ hout hF hE K
  obtain ⟨h1, h2⟩ := hz sv0 sv1
  have hrun := run_upto (P := P) hE_ .i64 A q cp k k rfl hk w
  exact .pure (v := .slice A k cp) d (hg.wanted hJ hF hE K) hd (by rw [hA]; trivial) hJ.gi (by simp [execOp, hop, ev0.trans h1, ev1.trans h2, Instr.sliceAt, run_underlying hE_.1, hrun, Result.andThen]) (by rw [hV]; rfl)
/-- string(b) of the first bytes of an owned row. -/
theorem sCvs (d nc : Nat) {o : Oper} {src dst e : TypeId} {g q cp cp' k : Nat} {x0 y0 : List UInt8} (r0 : XA n l dt m D i) (hs : P.underlying src = some (.slice e)) (he : P.underlying e = some (.int .u8)) (hds : P.underlying dst = some .string) (hz : ∀ {w : World} {c : Colr} {v : Value}, r0.r.T V w c v → r0.r.W v = .slice (some ⟨g, 0, none⟩) k cp') (O : ∀ {b : BB} {f : FF} {w : World} {c : Colr}, Kx dt w0 c0 CB Fs i b f w c → (byO nc x0).sat (.slice (some ⟨g, 0, none⟩) q cp) w c) (hm : x0.length = q) (hk : k ≤ q) (hy : x0.take k = y0) (hi : nthL l i = some o := by rfl) (hop : o.op = .convert src dst r0.r.opd := by rfl) (hd : o.dst = some d := by rfl) (hA : Fs.filter (aff [] i (some d)) = [] := by rfl) (hV : V d = TyC.eq (.string (Sb y0)) := by rfl) (hg : Gd l n dt V i o.guard := by first | exact trivial | exact ⟨rfl, _, ⟨rfl, rfl⟩, rfl⟩) : OpStep P l dt Q n a m D CB Fs V w0 c0 i := by
  intro b f w c x o' hJ hout hF hE ho K
  obtain rfl : o = o' := Option.some.inj (hi.symm.trans ho)
  obtain ⟨v0, ev0, sv0⟩ := r0.ev hJ hout hF hE K
  have hrun := by_string (P := P) (cp' := cp') hs he hds (O K) hm hk
  subst hy
  exact .pure (v := .string (Sb (x0.take k))) d (hg.wanted hJ hF hE K) hd (by rw [hA]; trivial) hJ.gi (by simp [execOp, hop, ev0.trans (hz sv0), hrun, Result.andThen]) (by rw [hV]; rfl)
theorem sLsq (d : Nat) {o : Oper} {sz k : Nat} {t e : TypeId} {L : List TyC} (r0 : XA n l dt m D i) (hlen : L.length = k) (ht : P.underlying t = some (.slice e)) (hz : ∀ {b : BB} {f : FF} {w : World} {c : Colr} {v : Value}, Kx dt w0 c0 CB Fs i b f w c → r0.r.T V w c v → (seqC sz L).sat (r0.r.W v) w c) (hi : nthL l i = some o := by rfl) (hop : o.op = .call { callee := .builtin .len, args := #[r0.r.opd], argTypes := #[t] } := by rfl) (hd : o.dst = some d := by rfl) (hA : Fs.filter (aff [] i (some d)) = [] := by rfl) (hV : V d = TyC.eq (.int .i64 (k : Int)) := by rfl) (hg : Gd l n dt V i o.guard := by first | exact trivial | exact ⟨rfl, _, ⟨rfl, rfl⟩, rfl⟩) : OpStep P l dt Q n a m D CB Fs V w0 c0 i := by
  intro b f w c x o' hJ hout hF hE ho K
  obtain rfl : o = o' := Option.some.inj (hi.symm.trans ho)
  obtain ⟨v0, ev0, sv0⟩ := r0.ev hJ hout hF hE K
  subst hlen
  exact .pure d (hg.wanted hJ hF hE K) hd (by rw [hA]; trivial) hJ.gi (seq_len hop ht ev0 (hz K sv0)) (by rw [hV]; rfl)
end
/-- A cell. -/
def TyC.sc (τ : TyC) : TyC := ⟨fun v w c => ∃ x, v = .agg #[x] ∧ τ.sat x w c, fun ⟨x, h1, h2⟩ g e => ⟨x, h1, τ.stab h2 g e⟩⟩
theorem ref_load_s {P : Program} {w : World} {c : Colr} {v : Value} {ty : TypeId} {τ : TyC} (hu : P.underlying ty = some .string) (h : (refC 1 (TyC.sc τ)).sat v w c) : ∃ ad u, v = .pointer (some ad) ∧ (loadVar ty ad).run P w = .ok u w ∧ τ.sat u w c := by
  obtain ⟨ad, cs, rfl, h2, h3, ⟨x, h4, h5⟩, h6⟩ := h
  injection h4 with h4
  subst h4
  have hc := h6 0 x rfl
  have e : ad.add 0 = ad := by simp [Addr.add]
  rw [e] at hc
  refine ⟨ad, x, rfl, ?_, h5⟩
  simp [loadVar, isAgg, run_underlying hu, hc, Result.andThen, go_sem]
theorem run_add_sb {P : Program} {w : World} (t : TypeId) (a b : List UInt8) (h : a.length + b.length ≤ 1000000) : (binOp .add t (.string (Sb a)) (.string (Sb b))).run P w = .ok (.string (Sb (a ++ b))) w := by
  have e : (Sb a ++ Sb b) = Sb (a ++ b) := by apply ByteArray.ext; simp
  have h1 : (Sb a).size = a.length := by simp [ByteArray.size]
  have h2 : (Sb b).size = b.length := by simp [ByteArray.size]
  have h3 : ¬ 9223372036854775807 < (Sb a).size + (Sb b).size := by omega
  simp [binOp, go_sem, e]
  omega
end Go.Col

namespace Go.Col
set_option linter.unusedVariables false
open Go.RowKit Go.Mem

/-- A value that owns nothing. -/
def TyO.of (τ : TyC) : TyO := ⟨[], τ.sat, fun h g e _ => τ.stab h g e⟩
theorem any_flat {L : List TyO} {p : Nat → Bool} (h : (L.flatMap TyO.cols).any p = false) {k : Nat} {τ : TyO} (hk : L[k]? = some τ) : τ.cols.any p = false := by
  rw [List.any_eq_false] at h ⊢
  exact fun x hx => h x (List.mem_flatMap.2 ⟨τ, List.mem_of_getElem? hk, hx⟩)
/-- A tuple. -/
def tupO (L : List TyO) : TyO := ⟨L.flatMap TyO.cols, fun v w c => ∃ xs : List Value, v = .tuple xs.toArray ∧ xs.length = L.length ∧ ∀ (k : Nat) (τ : TyO) (x : Value), L[k]? = some τ → xs[k]? = some x → τ.sat x w c,
  fun ⟨xs, h1, h2, h3⟩ g e hn => ⟨xs, h1, h2, fun k τ x hk hx => τ.stab (h3 k τ x hk hx) g e (any_flat hn hk)⟩⟩
theorem tupO_at {L : List TyO} {v : Value} {w : World} {c : Colr} (h : (tupO L).sat v w c) {k : Nat} {τ : TyO} (hk : L[k]? = some τ) : ∃ (vs : Array Value) (x : Value), v = .tuple vs ∧ vs[k]? = some x ∧ τ.sat x w c := by
  obtain ⟨xs, rfl, h2, h3⟩ := h
  have hlt : k < xs.length := by rw [h2]; exact (List.getElem?_eq_some_iff.1 hk).1
  exact ⟨_, xs[k], rfl, by simp [hlt], h3 k τ _ hk (by simp [hlt])⟩
theorem tupO_two {σ τ : TyO} {x y : Value} {w : World} {c : Colr} (h1 : σ.sat x w c) (h2 : τ.sat y w c) : (tupO [σ, τ]).sat (.tuple #[x, y]) w c := ⟨[x, y], rfl, rfl, fun k ρ z hk hz => by
  match k, hk, hz with
  | 0, hk, hz => injection hk with hk; injection hz with hz; subst hk hz; exact h1
  | 1, hk, hz => injection hk with hk; injection hz with hz; subst hk hz; exact h2
  | k + 2, hk, hz => simp at hk⟩
theorem tupO_three {σ τ υ : TyO} {x y z : Value} {w : World} {c : Colr} (h1 : σ.sat x w c) (h2 : τ.sat y w c) (h3 : υ.sat z w c) : (tupO [σ, τ, υ]).sat (.tuple #[x, y, z]) w c := ⟨[x, y, z], rfl, rfl, fun k ρ u hk hu => by
  match k, hk, hu with
  | 0, hk, hu => injection hk with hk; injection hu with hu; subst hk hu; exact h1
  | 1, hk, hu => injection hk with hk; injection hu with hu; subst hk hu; exact h2
  | 2, hk, hu => injection hk with hk; injection hu with hu; subst hk hu; exact h3
  | k + 3, hk, hu => simp at hk⟩

/-- The colours behind a call that changes an object of the colour n: own tells its new blocks. -/
def extO (c : Colr) (m n : Nat) (own : Nat → Bool) : Colr := fun k => if k < m then c k else if own k then n else 0
theorem extO_old {c : Colr} {m n k : Nat} {own : Nat → Bool} (h : k < m) : extO c m n own k = c k := if_pos h
theorem extO_own {c : Colr} {m n k : Nat} {own : Nat → Bool} (h : m ≤ k) (ho : own k = true) : extO c m n own k = n := by
  unfold extO
  rw [if_neg (by omega), if_pos ho]
theorem extO_plain {c : Colr} {m n k : Nat} {own : Nat → Bool} (h : m ≤ k) (ho : own k = false) : extO c m n own k = 0 := by
  unfold extO
  rw [if_neg (by omega), if_neg (by rw [ho]; simp)]
/-- A call that changes blocks of the colour n alone. -/
theorem Ext.of_obj {n : Nat} {S : Nat → Prop} {own : Nat → Bool} {w w' : World} {c : Colr} (g : GI w c) (hn : ([n].contains 0 || [n].contains 1) = false) (h : Chg S w w') (hc : ∀ k, S k → k < w.heap.size → c k = n)
    (hb : ∀ k, (k < w.heap.size ∧ S k) ∨ (w.heap.size ≤ k ∧ own k = true) → ∀ cs t x, w'.heap[k]? = some (.cells cs t x) → ∀ v ∈ cs.toList, NB v = false) : Ext [n] w c w' (extO c w.heap.size n own) := by
  refine ⟨hn, ⟨h.os, h.tape, h.output, h.size, fun k hk hs => h.block k hk (fun hS => hs (by rw [hc k hS hk]; simp))⟩, fun k hk => extO_old hk, fun k h1 h2 => ?_, ?_⟩
  · cases ho : own k with
    | true => rw [extO_own h1 ho]; exact .inr (.inr (by simp))
    | false => rw [extO_plain h1 ho]; exact .inl rfl
  · intro k cs t x hk hck v hv
    by_cases hlt : k < w.heap.size
    · by_cases hS : S k
      · exact hb k (.inl ⟨hlt, hS⟩) cs t x hk v hv
      · rw [h.block k hlt hS] at hk
        rw [extO_old hlt] at hck
        exact g k cs t x hk hck v hv
    · cases ho : own k with
      | true => exact hb k (.inr ⟨by omega, ho⟩) cs t x hk v hv
      | false => rw [extO_plain (by omega) ho] at hck; exact absurd rfl hck
theorem kind_nb {w : World} {t : TypeId} {k : Nat} (h : KindB w t IsU8 k) : ∀ cs t' x, w.heap[k]? = some (.cells cs t' x) → ∀ v ∈ cs.toList, NB v = false := by
  obtain ⟨cs', h1, h2⟩ := h
  intro cs t' x hk v hv
  unfold Blk at h1
  rw [h1] at hk
  injection hk with hk
  injection hk with hk
  subst hk
  obtain ⟨y, rfl⟩ := h2 v (by simpa using hv)
  rfl
theorem blk_nb {w : World} {t : TypeId} {k : Nat} {cs : Array Value} (h : Blk w k t cs) (hcs : ∀ v ∈ cs.toList, NB v = false) : ∀ cs t' x, w.heap[k]? = some (.cells cs t' x) → ∀ v ∈ cs.toList, NB v = false := by
  intro cs' t' x hk v hv
  unfold Blk at h
  rw [h] at hk
  injection hk with hk
  injection hk with hk
  subst hk
  exact hcs v hv
/-- Bytes in a plain block. -/
def byC (l : List UInt8) : TyC := ⟨fun v w c => ∃ A cp, v = .slice A l.length cp ∧ Rd w A l.length (bs l) ∧ l.length ≤ cp ∧ ∀ ad, A = some ad → ad.block < w.heap.size ∧ c ad.block = 0, fun {S v w c w' c'} ⟨A, cp, h1, h2, hcp, h5⟩ g e => ⟨A, cp, h1, rd_ext0 h2 (fun ad h _ => (h5 ad h).2) e, hcp, fun ad h6 => ⟨Nat.lt_of_lt_of_le (h5 ad h6).1 e.chg.size, by rw [e.col _ (h5 ad h6).1, (h5 ad h6).2]⟩⟩⟩
theorem CV.of_newc {P : Program} {w : World} {c : Colr} {f : Nat} {vs : Array Value} {τ : TyC} {R : Value → World → Prop} (h : Calls P f vs w fun e w' => ∃ v, e = .returned v ∧ R v w' ∧ New w w') (hR : ∀ v w', New w w' → R v w' → τ.sat v w' (ext0 c w.heap.size)) : CV P f vs w c τ := fun hg =>
  h.mono fun e w' ⟨v, h1, h2, h3⟩ => ⟨v, _, h1, hR v w' h3 h2, Ext.of_new h3 hg⟩

/-- A chain of operations, each behind the one before. -/
def pathO (dt : List (List Nat)) : Nat → List Nat → Option Nat
  | i, [] => some i
  | i, k :: r => if dep dt k i then pathO dt k r else none
theorem pathO_nyet {dt : List (List Nat)} {b : BB} (h : ∀ j k, b j = true → dep dt j k = true → b k = true) : ∀ (P : List Nat) (i j : Nat), b i = false → pathO dt i P = some j → b j = false
  | [], i, j, hb, hp => by injection hp with hp; rw [← hp]; exact hb
  | k :: r, i, j, hb, hp => by
    unfold pathO at hp
    split at hp
    · rename_i hd
      refine pathO_nyet h r k j ?_ hp
      cases hk : b k with
      | false => rfl
      | true => rw [h k i hk hd] at hb; cases hb
    · cases hp
/-- Facts about slots that are not written yet. -/
def unO (l : List Oper) (dt : List (List Nat)) (i d : Nat) : List RF → List (List Nat) → Bool
  | [], [] => true
  | .own p σ :: r, P :: u => !(p == d) && (match pathO dt i P with | some j => dstOf l j == some p | none => false) && unO l dt i d r u
  | _, _ => false
section
variable {P : Program} {l : List Oper} {dt : List (List Nat)} {Q : Exit → Act → World → Prop} {n : Nat} {a : Act} {m : Nat → Option Value} {D CB : List Nat} {Fs : List RF} {V : Nat → TyC} {w0 : World} {c0 : Colr} {i : Nat}
theorem unO_all {b : BB} {f : FF} {w w' : World} {c c' : Colr} {d : Nat} {v : Value} (hJ : J l.toArray w0 c0 CB Fs V b f w c) (K : Kx dt w0 c0 CB Fs i b f w c) : ∀ (r : List RF) (u : List (List Nat)), unO l dt i d r u = true → All r (bup b i) (upF (some d) v f) w' c'
  | [], [], _ => trivial
  | .own p σ :: r, P :: u, h => by
    simp only [unO, Bool.and_eq_true, Bool.not_eq_true'] at h
    obtain ⟨⟨h1, h2⟩, h3⟩ := h
    cases hp : pathO dt i P with
    | none => rw [hp] at h2; cases h2
    | some j =>
      rw [hp] at h2
      exact ⟨own_nyet h1 (unset_of hJ (pathO_nyet K.has P i j K.self hp) (by simpa using h2)), unO_all hJ K r u h3⟩
  | .own _ _ :: _, [], h => by cases h
  | [], _ :: _, h => by cases h
  | .s _ :: _, _, h => by cases h
  | .st _ _ _ :: _, _, h => by cases h
  | .new _ _ _ _ _ _ :: _, _, h => by cases h
/-- An element of a tuple that holds objects: an object; a plain value. -/
theorem sExO (q p k : Nat) {o : Oper} {L : List TyO} {τ : TyO} (ix j : Nat) (hL : L[ix]? = some τ) (hi : nthL l i = some o := by rfl) (hop : o.op = .extract (.tmp q) ix := by rfl) (hd : o.dst = some p := by rfl) (hA : Fs.filter (aff [] i (some p)) = [.own p τ] := by rfl) (hk : nthR Fs k = .own q (tupO L) := by rfl) (hV : V p = TyC.any := by rfl) (hq : dep dt i j = true ∧ decide (q < n) = true ∧ dstOf l j = some q := by exact ⟨rfl, rfl, rfl⟩) (hg : Gd l n dt V i o.guard := by first | exact trivial | exact ⟨rfl, _, ⟨rfl, rfl⟩, rfl⟩) : OpStep P l dt Q n a m D CB Fs V w0 c0 i := by
  intro b f w c x o' hJ hout hF hE ho K
  obtain rfl : o = o' := Option.some.inj (hi.symm.trans ho)
  obtain ⟨v, ev, hfv⟩ : ∃ v, x.eval (.tmp q) = v ∧ f q = some v := by
    obtain ⟨h1, h2, h3⟩ := hq
    unfold dstOf at h3
    split at h3
    · rename_i oj hoj
      rw [nthL_eq] at hoj
      have h4 := (hJ.set j oj q (by simpa using hoj) h3).1 (K.done j h1)
      cases hf : f q with
      | none => exact absurd hf h4
      | some v => exact ⟨v, hF.in (by rw [hE.1]; exact of_decide_eq_true h2) hf, rfl⟩
    · cases h3
  obtain ⟨vs, u, h1, h2, h3⟩ := tupO_at (All.no K.fac k hk hfv) hL
  exact .pure p (hg.wanted hJ hF hE K) hd (by rw [hA]; exact ⟨own_now h3, trivial⟩) hJ.gi (ex_extract hop (ev.trans h1) h2) (by rw [hV]; trivial)
theorem sExP (q p k : Nat) {o : Oper} {L : List TyO} {τ : TyC} (ix j : Nat) (hL : L[ix]? = some (TyO.of τ)) (hi : nthL l i = some o := by rfl) (hop : o.op = .extract (.tmp q) ix := by rfl) (hd : o.dst = some p := by rfl) (hA : Fs.filter (aff [] i (some p)) = [] := by rfl) (hk : nthR Fs k = .own q (tupO L) := by rfl) (hV : V p = τ := by rfl) (hq : dep dt i j = true ∧ decide (q < n) = true ∧ dstOf l j = some q := by exact ⟨rfl, rfl, rfl⟩) (hg : Gd l n dt V i o.guard := by first | exact trivial | exact ⟨rfl, _, ⟨rfl, rfl⟩, rfl⟩) : OpStep P l dt Q n a m D CB Fs V w0 c0 i := by
  intro b f w c x o' hJ hout hF hE ho K
  obtain rfl : o = o' := Option.some.inj (hi.symm.trans ho)
  obtain ⟨v, ev, hfv⟩ : ∃ v, x.eval (.tmp q) = v ∧ f q = some v := by
    obtain ⟨h1, h2, h3⟩ := hq
    unfold dstOf at h3
    split at h3
    · rename_i oj hoj
      rw [nthL_eq] at hoj
      have h4 := (hJ.set j oj q (by simpa using hoj) h3).1 (K.done j h1)
      cases hf : f q with
      | none => exact absurd hf h4
      | some v => exact ⟨v, hF.in (by rw [hE.1]; exact of_decide_eq_true h2) hf, rfl⟩
    · cases h3
  obtain ⟨vs, u, h1, h2, h3⟩ := tupO_at (All.no K.fac k hk hfv) hL
  exact .pure p (hg.wanted hJ hF hE K) hd (by rw [hA]; trivial) hJ.gi (ex_extract hop (ev.trans h1) h2) (by rw [hV]; exact h3)
/-- A call that makes an object. -/
theorem sO0 (nc d : Nat) (un : List (List Nat)) {o : Oper} {fn : Nat} {tys : Array TypeId} {fd : Func} {σ : TyO} {rest : List RF} (L : ∀ {b : BB} {f : FF} {w : World} {c : Colr}, Kx dt w0 c0 CB Fs i b f w c → CE P fn #[] w c [nc] (fun v w' c' => σ.sat v w' c')) (hfn : P.funcs[fn]? = some fd) (hi : nthL l i = some o := by rfl) (hop : o.op = .call { callee := .value (.func fn), args := #[], argTypes := tys } := by rfl) (hd : o.dst = some d := by rfl) (hA : Fs.filter (aff [nc] i (some d)) = .own d σ :: rest := by rfl) (hun : unO l dt i d rest un = true := by rfl) (hV : V d = TyC.any := by rfl) (hCB : [nc].all (CB.contains ·) = true := by rfl) (hnb : (fd.name == "runtime.NumGoroutine" || fd.body.isNone) = false := by rfl) (hg : Gd l n dt V i o.guard := by first | exact trivial | exact ⟨rfl, _, ⟨rfl, rfl⟩, rfl⟩) : OpStep P l dt Q n a m D CB Fs V w0 c0 i := by
  intro b f w c x o' hJ hout hF hE ho K
  obtain rfl : o = o' := Option.some.inj (hi.symm.trans ho)
  exact .callE d [nc] (hg.wanted hJ hF hE K) hd hCB hJ.gi hop (vs := #[]) (by simp) (enter_of hfn hnb _) (L K) (fun v w' c' h _ => ⟨by rw [hV]; trivial, by rw [hA]; exact ⟨own_now h, unO_all hJ K rest un hun⟩⟩)
/-- A call that makes an object. -/
theorem sO1 (nc d : Nat) (un : List (List Nat)) {o : Oper} {fn : Nat} {tys : Array TypeId} {fd : Func} {σ : TyO} {rest : List RF} (r0 : XA n l dt m D i) (L : ∀ {b : BB} {f : FF} {w : World} {c : Colr} {v0 : Value}, Kx dt w0 c0 CB Fs i b f w c → r0.r.T V w c v0 → CE P fn #[r0.r.W v0] w c [nc] (fun v w' c' => σ.sat v w' c')) (hfn : P.funcs[fn]? = some fd) (hi : nthL l i = some o := by rfl) (hop : o.op = .call { callee := .value (.func fn), args := #[r0.r.opd], argTypes := tys } := by rfl) (hd : o.dst = some d := by rfl) (hA : Fs.filter (aff [nc] i (some d)) = .own d σ :: rest := by rfl) (hun : unO l dt i d rest un = true := by rfl) (hV : V d = TyC.any := by rfl) (hCB : [nc].all (CB.contains ·) = true := by rfl) (hnb : (fd.name == "runtime.NumGoroutine" || fd.body.isNone) = false := by rfl) (hg : Gd l n dt V i o.guard := by first | exact trivial | exact ⟨rfl, _, ⟨rfl, rfl⟩, rfl⟩) : OpStep P l dt Q n a m D CB Fs V w0 c0 i := by
  intro b f w c x o' hJ hout hF hE ho K
  obtain rfl : o = o' := Option.some.inj (hi.symm.trans ho)
  obtain ⟨v0, ev0, sv0⟩ := r0.ev hJ hout hF hE K
  exact .callE d [nc] (hg.wanted hJ hF hE K) hd hCB hJ.gi hop (vs := #[r0.r.W v0]) (by simp [ev0]) (enter_of hfn hnb _) (L K sv0) (fun v w' c' h _ => ⟨by rw [hV]; trivial, by rw [hA]; exact ⟨own_now h, unO_all hJ K rest un hun⟩⟩)
/-- A call that makes an object. -/
theorem sO2 (nc d : Nat) (un : List (List Nat)) {o : Oper} {fn : Nat} {tys : Array TypeId} {fd : Func} {σ : TyO} {rest : List RF} (r0 : XA n l dt m D i) (r1 : XA n l dt m D i) (L : ∀ {b : BB} {f : FF} {w : World} {c : Colr} {v0 v1 : Value}, Kx dt w0 c0 CB Fs i b f w c → r0.r.T V w c v0 → r1.r.T V w c v1 → CE P fn #[r0.r.W v0, r1.r.W v1] w c [nc] (fun v w' c' => σ.sat v w' c')) (hfn : P.funcs[fn]? = some fd) (hi : nthL l i = some o := by rfl) (hop : o.op = .call { callee := .value (.func fn), args := #[r0.r.opd, r1.r.opd], argTypes := tys } := by rfl) (hd : o.dst = some d := by rfl) (hA : Fs.filter (aff [nc] i (some d)) = .own d σ :: rest := by rfl) (hun : unO l dt i d rest un = true := by rfl) (hV : V d = TyC.any := by rfl) (hCB : [nc].all (CB.contains ·) = true := by rfl) (hnb : (fd.name == "runtime.NumGoroutine" || fd.body.isNone) = false := by rfl) (hg : Gd l n dt V i o.guard := by first | exact trivial | exact ⟨rfl, _, ⟨rfl, rfl⟩, rfl⟩) : OpStep P l dt Q n a m D CB Fs V w0 c0 i := by
  intro b f w c x o' hJ hout hF hE ho K
  obtain rfl : o = o' := Option.some.inj (hi.symm.trans ho)
  obtain ⟨v0, ev0, sv0⟩ := r0.ev hJ hout hF hE K
  obtain ⟨v1, ev1, sv1⟩ := r1.ev hJ hout hF hE K
  exact .callE d [nc] (hg.wanted hJ hF hE K) hd hCB hJ.gi hop (vs := #[r0.r.W v0, r1.r.W v1]) (by simp [ev0, ev1]) (enter_of hfn hnb _) (L K sv0 sv1) (fun v w' c' h _ => ⟨by rw [hV]; trivial, by rw [hA]; exact ⟨own_now h, unO_all hJ K rest un hun⟩⟩)
/-- A call that makes an object. -/
theorem sO3 (nc d : Nat) (un : List (List Nat)) {o : Oper} {fn : Nat} {tys : Array TypeId} {fd : Func} {σ : TyO} {rest : List RF} (r0 : XA n l dt m D i) (r1 : XA n l dt m D i) (r2 : XA n l dt m D i) (L : ∀ {b : BB} {f : FF} {w : World} {c : Colr} {v0 v1 v2 : Value}, Kx dt w0 c0 CB Fs i b f w c → r0.r.T V w c v0 → r1.r.T V w c v1 → r2.r.T V w c v2 → CE P fn #[r0.r.W v0, r1.r.W v1, r2.r.W v2] w c [nc] (fun v w' c' => σ.sat v w' c')) (hfn : P.funcs[fn]? = some fd) (hi : nthL l i = some o := by rfl) (hop : o.op = .call { callee := .value (.func fn), args := #[r0.r.opd, r1.r.opd, r2.r.opd], argTypes := tys } := by rfl) (hd : o.dst = some d := by rfl) (hA : Fs.filter (aff [nc] i (some d)) = .own d σ :: rest := by rfl) (hun : unO l dt i d rest un = true := by rfl) (hV : V d = TyC.any := by rfl) (hCB : [nc].all (CB.contains ·) = true := by rfl) (hnb : (fd.name == "runtime.NumGoroutine" || fd.body.isNone) = false := by rfl) (hg : Gd l n dt V i o.guard := by first | exact trivial | exact ⟨rfl, _, ⟨rfl, rfl⟩, rfl⟩) : OpStep P l dt Q n a m D CB Fs V w0 c0 i := by
  intro b f w c x o' hJ hout hF hE ho K
  obtain rfl : o = o' := Option.some.inj (hi.symm.trans ho)
  obtain ⟨v0, ev0, sv0⟩ := r0.ev hJ hout hF hE K
  obtain ⟨v1, ev1, sv1⟩ := r1.ev hJ hout hF hE K
  obtain ⟨v2, ev2, sv2⟩ := r2.ev hJ hout hF hE K
  exact .callE d [nc] (hg.wanted hJ hF hE K) hd hCB hJ.gi hop (vs := #[r0.r.W v0, r1.r.W v1, r2.r.W v2]) (by simp [ev0, ev1, ev2]) (enter_of hfn hnb _) (L K sv0 sv1 sv2) (fun v w' c' h _ => ⟨by rw [hV]; trivial, by rw [hA]; exact ⟨own_now h, unO_all hJ K rest un hun⟩⟩)
/-- A call that makes an object. -/
theorem sO4 (nc d : Nat) (un : List (List Nat)) {o : Oper} {fn : Nat} {tys : Array TypeId} {fd : Func} {σ : TyO} {rest : List RF} (r0 : XA n l dt m D i) (r1 : XA n l dt m D i) (r2 : XA n l dt m D i) (r3 : XA n l dt m D i) (L : ∀ {b : BB} {f : FF} {w : World} {c : Colr} {v0 v1 v2 v3 : Value}, Kx dt w0 c0 CB Fs i b f w c → r0.r.T V w c v0 → r1.r.T V w c v1 → r2.r.T V w c v2 → r3.r.T V w c v3 → CE P fn #[r0.r.W v0, r1.r.W v1, r2.r.W v2, r3.r.W v3] w c [nc] (fun v w' c' => σ.sat v w' c')) (hfn : P.funcs[fn]? = some fd) (hi : nthL l i = some o := by rfl) (hop : o.op = .call { callee := .value (.func fn), args := #[r0.r.opd, r1.r.opd, r2.r.opd, r3.r.opd], argTypes := tys } := by rfl) (hd : o.dst = some d := by rfl) (hA : Fs.filter (aff [nc] i (some d)) = .own d σ :: rest := by rfl) (hun : unO l dt i d rest un = true := by rfl) (hV : V d = TyC.any := by rfl) (hCB : [nc].all (CB.contains ·) = true := by rfl) (hnb : (fd.name == "runtime.NumGoroutine" || fd.body.isNone) = false := by rfl) (hg : Gd l n dt V i o.guard := by first | exact trivial | exact ⟨rfl, _, ⟨rfl, rfl⟩, rfl⟩) : OpStep P l dt Q n a m D CB Fs V w0 c0 i := by
  intro b f w c x o' hJ hout hF hE ho K
  obtain rfl : o = o' := Option.some.inj (hi.symm.trans ho)
  obtain ⟨v0, ev0, sv0⟩ := r0.ev hJ hout hF hE K
  obtain ⟨v1, ev1, sv1⟩ := r1.ev hJ hout hF hE K
  obtain ⟨v2, ev2, sv2⟩ := r2.ev hJ hout hF hE K
  obtain ⟨v3, ev3, sv3⟩ := r3.ev hJ hout hF hE K
  exact .callE d [nc] (hg.wanted hJ hF hE K) hd hCB hJ.gi hop (vs := #[r0.r.W v0, r1.r.W v1, r2.r.W v2, r3.r.W v3]) (by simp [ev0, ev1, ev2, ev3]) (enter_of hfn hnb _) (L K sv0 sv1 sv2 sv3) (fun v w' c' h _ => ⟨by rw [hV]; trivial, by rw [hA]; exact ⟨own_now h, unO_all hJ K rest un hun⟩⟩)
/-- A call that makes an object. -/
theorem sO5 (nc d : Nat) (un : List (List Nat)) {o : Oper} {fn : Nat} {tys : Array TypeId} {fd : Func} {σ : TyO} {rest : List RF} (r0 : XA n l dt m D i) (r1 : XA n l dt m D i) (r2 : XA n l dt m D i) (r3 : XA n l dt m D i) (r4 : XA n l dt m D i) (L : ∀ {b : BB} {f : FF} {w : World} {c : Colr} {v0 v1 v2 v3 v4 : Value}, Kx dt w0 c0 CB Fs i b f w c → r0.r.T V w c v0 → r1.r.T V w c v1 → r2.r.T V w c v2 → r3.r.T V w c v3 → r4.r.T V w c v4 → CE P fn #[r0.r.W v0, r1.r.W v1, r2.r.W v2, r3.r.W v3, r4.r.W v4] w c [nc] (fun v w' c' => σ.sat v w' c')) (hfn : P.funcs[fn]? = some fd) (hi : nthL l i = some o := by rfl) (hop : o.op = .call { callee := .value (.func fn), args := #[r0.r.opd, r1.r.opd, r2.r.opd, r3.r.opd, r4.r.opd], argTypes := tys } := by rfl) (hd : o.dst = some d := by rfl) (hA : Fs.filter (aff [nc] i (some d)) = .own d σ :: rest := by rfl) (hun : unO l dt i d rest un = true := by rfl) (hV : V d = TyC.any := by rfl) (hCB : [nc].all (CB.contains ·) = true := by rfl) (hnb : (fd.name == "runtime.NumGoroutine" || fd.body.isNone) = false := by rfl) (hg : Gd l n dt V i o.guard := by first | exact trivial | exact ⟨rfl, _, ⟨rfl, rfl⟩, rfl⟩) : OpStep P l dt Q n a m D CB Fs V w0 c0 i := by
  intro b f w c x o' hJ hout hF hE ho K
  obtain rfl : o = o' := Option.some.inj (hi.symm.trans ho)
  obtain ⟨v0, ev0, sv0⟩ := r0.ev hJ hout hF hE K
  obtain ⟨v1, ev1, sv1⟩ := r1.ev hJ hout hF hE K
  obtain ⟨v2, ev2, sv2⟩ := r2.ev hJ hout hF hE K
  obtain ⟨v3, ev3, sv3⟩ := r3.ev hJ hout hF hE K
  obtain ⟨v4, ev4, sv4⟩ := r4.ev hJ hout hF hE K
  exact .callE d [nc] (hg.wanted hJ hF hE K) hd hCB hJ.gi hop (vs := #[r0.r.W v0, r1.r.W v1, r2.r.W v2, r3.r.W v3, r4.r.W v4]) (by simp [ev0, ev1, ev2, ev3, ev4]) (enter_of hfn hnb _) (L K sv0 sv1 sv2 sv3 sv4) (fun v w' c' h _ => ⟨by rw [hV]; trivial, by rw [hA]; exact ⟨own_now h, unO_all hJ K rest un hun⟩⟩)
theorem sLenX (d : Nat) {o : Oper} {t e : TypeId} {k : Nat} (r0 : XA n l dt m D i) (ht : P.underlying t = some (.slice e)) (hz : ∀ {b : BB} {f : FF} {w : World} {c : Colr} {v : Value}, Kx dt w0 c0 CB Fs i b f w c → r0.r.T V w c v → ∃ A cp, r0.r.W v = .slice A k cp) (hi : nthL l i = some o := by rfl) (hop : o.op = .call { callee := .builtin .len, args := #[r0.r.opd], argTypes := #[t] } := by rfl) (hd : o.dst = some d := by rfl) (hA : Fs.filter (aff [] i (some d)) = [] := by rfl) (hV : V d = TyC.eq (.int .i64 k) := by rfl) (hg : Gd l n dt V i o.guard := by first | exact trivial | exact ⟨rfl, _, ⟨rfl, rfl⟩, rfl⟩) : OpStep P l dt Q n a m D CB Fs V w0 c0 i := by
  intro b f w c x o' hJ hout hF hE ho K
  obtain rfl : o = o' := Option.some.inj (hi.symm.trans ho)
  obtain ⟨v0, ev0, sv0⟩ := r0.ev hJ hout hF hE K
  obtain ⟨A, cp, hv⟩ := hz K sv0
  exact .pure d (hg.wanted hJ hF hE K) hd (by rw [hA]; trivial) hJ.gi (ex_len hop ht (ev0.trans hv)) (by rw [hV]; rfl)
/-- A literal of plain cells. -/
theorem sLP0 (d : Nat) {o : Oper} {ty e : TypeId} {τ : TyC} (hrun : ∀ w : World, (Instr.buildSlice ty 0 #[]).run P w = .ok (.slice (some ⟨w.heap.size, 0, none⟩) 0 0) (w.alloc (.cells #[] e))) (hτ : ∀ (w : World) (c : Colr), τ.sat (.slice (some ⟨w.heap.size, 0, none⟩) 0 0) (w.alloc (.cells #[] e)) (ext0 c w.heap.size)) (hi : nthL l i = some o := by rfl) (hop : o.op = .buildSlice ty 0 #[] := by rfl) (hd : o.dst = some d := by rfl) (hA : Fs.filter (aff [] i (some d)) = [] := by rfl) (hV : V d = τ := by rfl) (hg : Gd l n dt V i o.guard := by first | exact trivial | exact ⟨rfl, _, ⟨rfl, rfl⟩, rfl⟩) : OpStep P l dt Q n a m D CB Fs V w0 c0 i := by
  intro b f w c x o' hJ hout hF hE ho K
  obtain rfl : o = o' := Option.some.inj (hi.symm.trans ho)
  have he' : (execOp x.eval o).run P w = .ok (.value (.slice (some ⟨w.heap.size, 0, none⟩) 0 0)) (w.alloc (.cells #[] e)) := by
    simp [execOp, hop, hrun, Result.andThen]
  refine .run [] (some d) (hg.wanted hJ hF hE K) hd rfl (wp_val he' ⟨_, _, rfl, Ext.allocP hJ.gi, fun d' e => ?_, ?_⟩)
  · injection e with e
    subst e
    rw [hV]
    exact hτ w c
  · rw [hA]
    trivial
/-- A literal of plain cells. -/
theorem sLP1 (d : Nat) {o : Oper} {ty e : TypeId} {u0 : Value} {τ : TyC} (r0 : XA n l dt m D i) (z0 : ∀ {b : BB} {f : FF} {w : World} {c : Colr} {v : Value}, Kx dt w0 c0 CB Fs i b f w c → r0.r.T V w c v → r0.r.W v = u0) (hrun : ∀ w : World, (Instr.buildSlice ty 1 #[(0, u0)]).run P w = .ok (.slice (some ⟨w.heap.size, 0, none⟩) 1 1) (w.alloc (.cells #[u0] e))) (hτ : ∀ (w : World) (c : Colr), τ.sat (.slice (some ⟨w.heap.size, 0, none⟩) 1 1) (w.alloc (.cells #[u0] e)) (ext0 c w.heap.size)) (hi : nthL l i = some o := by rfl) (hop : o.op = .buildSlice ty 1 #[(0, r0.r.opd)] := by rfl) (hd : o.dst = some d := by rfl) (hA : Fs.filter (aff [] i (some d)) = [] := by rfl) (hV : V d = τ := by rfl) (hg : Gd l n dt V i o.guard := by first | exact trivial | exact ⟨rfl, _, ⟨rfl, rfl⟩, rfl⟩) : OpStep P l dt Q n a m D CB Fs V w0 c0 i := by
  intro b f w c x o' hJ hout hF hE ho K
  obtain rfl : o = o' := Option.some.inj (hi.symm.trans ho)
  obtain ⟨v0, ev0, sv0⟩ := r0.ev hJ hout hF hE K
  have ez0 := ev0.trans (z0 K sv0)
  have he' : (execOp x.eval o).run P w = .ok (.value (.slice (some ⟨w.heap.size, 0, none⟩) 1 1)) (w.alloc (.cells #[u0] e)) := by
    simp [execOp, hop, ez0, hrun, Result.andThen]
  refine .run [] (some d) (hg.wanted hJ hF hE K) hd rfl (wp_val he' ⟨_, _, rfl, Ext.allocP hJ.gi, fun d' e => ?_, ?_⟩)
  · injection e with e
    subst e
    rw [hV]
    exact hτ w c
  · rw [hA]
    trivial
/-- A literal of plain cells. -/
theorem sLP2 (d : Nat) {o : Oper} {ty e : TypeId} {u0 : Value} {u1 : Value} {τ : TyC} (r0 : XA n l dt m D i) (r1 : XA n l dt m D i) (z0 : ∀ {b : BB} {f : FF} {w : World} {c : Colr} {v : Value}, Kx dt w0 c0 CB Fs i b f w c → r0.r.T V w c v → r0.r.W v = u0) (z1 : ∀ {b : BB} {f : FF} {w : World} {c : Colr} {v : Value}, Kx dt w0 c0 CB Fs i b f w c → r1.r.T V w c v → r1.r.W v = u1) (hrun : ∀ w : World, (Instr.buildSlice ty 2 #[(0, u0), (1, u1)]).run P w = .ok (.slice (some ⟨w.heap.size, 0, none⟩) 2 2) (w.alloc (.cells #[u0, u1] e))) (hτ : ∀ (w : World) (c : Colr), τ.sat (.slice (some ⟨w.heap.size, 0, none⟩) 2 2) (w.alloc (.cells #[u0, u1] e)) (ext0 c w.heap.size)) (hi : nthL l i = some o := by rfl) (hop : o.op = .buildSlice ty 2 #[(0, r0.r.opd), (1, r1.r.opd)] := by rfl) (hd : o.dst = some d := by rfl) (hA : Fs.filter (aff [] i (some d)) = [] := by rfl) (hV : V d = τ := by rfl) (hg : Gd l n dt V i o.guard := by first | exact trivial | exact ⟨rfl, _, ⟨rfl, rfl⟩, rfl⟩) : OpStep P l dt Q n a m D CB Fs V w0 c0 i := by
  intro b f w c x o' hJ hout hF hE ho K
  obtain rfl : o = o' := Option.some.inj (hi.symm.trans ho)
  obtain ⟨v0, ev0, sv0⟩ := r0.ev hJ hout hF hE K
  have ez0 := ev0.trans (z0 K sv0)
  obtain ⟨v1, ev1, sv1⟩ := r1.ev hJ hout hF hE K
  have ez1 := ev1.trans (z1 K sv1)
  have he' : (execOp x.eval o).run P w = .ok (.value (.slice (some ⟨w.heap.size, 0, none⟩) 2 2)) (w.alloc (.cells #[u0, u1] e)) := by
    simp [execOp, hop, ez0, ez1, hrun, Result.andThen]
  refine .run [] (some d) (hg.wanted hJ hF hE K) hd rfl (wp_val he' ⟨_, _, rfl, Ext.allocP hJ.gi, fun d' e => ?_, ?_⟩)
  · injection e with e
    subst e
    rw [hV]
    exact hτ w c
  · rw [hA]
    trivial
/-- A literal of plain cells. -/
theorem sLP3 (d : Nat) {o : Oper} {ty e : TypeId} {u0 : Value} {u1 : Value} {u2 : Value} {τ : TyC} (r0 : XA n l dt m D i) (r1 : XA n l dt m D i) (r2 : XA n l dt m D i) (z0 : ∀ {b : BB} {f : FF} {w : World} {c : Colr} {v : Value}, Kx dt w0 c0 CB Fs i b f w c → r0.r.T V w c v → r0.r.W v = u0) (z1 : ∀ {b : BB} {f : FF} {w : World} {c : Colr} {v : Value}, Kx dt w0 c0 CB Fs i b f w c → r1.r.T V w c v → r1.r.W v = u1) (z2 : ∀ {b : BB} {f : FF} {w : World} {c : Colr} {v : Value}, Kx dt w0 c0 CB Fs i b f w c → r2.r.T V w c v → r2.r.W v = u2) (hrun : ∀ w : World, (Instr.buildSlice ty 3 #[(0, u0), (1, u1), (2, u2)]).run P w = .ok (.slice (some ⟨w.heap.size, 0, none⟩) 3 3) (w.alloc (.cells #[u0, u1, u2] e))) (hτ : ∀ (w : World) (c : Colr), τ.sat (.slice (some ⟨w.heap.size, 0, none⟩) 3 3) (w.alloc (.cells #[u0, u1, u2] e)) (ext0 c w.heap.size)) (hi : nthL l i = some o := by rfl) (hop : o.op = .buildSlice ty 3 #[(0, r0.r.opd), (1, r1.r.opd), (2, r2.r.opd)] := by rfl) (hd : o.dst = some d := by rfl) (hA : Fs.filter (aff [] i (some d)) = [] := by rfl) (hV : V d = τ := by rfl) (hg : Gd l n dt V i o.guard := by first | exact trivial | exact ⟨rfl, _, ⟨rfl, rfl⟩, rfl⟩) : OpStep P l dt Q n a m D CB Fs V w0 c0 i := by
  intro b f w c x o' hJ hout hF hE ho K
  obtain rfl : o = o' := Option.some.inj (hi.symm.trans ho)
  obtain ⟨v0, ev0, sv0⟩ := r0.ev hJ hout hF hE K
  have ez0 := ev0.trans (z0 K sv0)
  obtain ⟨v1, ev1, sv1⟩ := r1.ev hJ hout hF hE K
  have ez1 := ev1.trans (z1 K sv1)
  obtain ⟨v2, ev2, sv2⟩ := r2.ev hJ hout hF hE K
  have ez2 := ev2.trans (z2 K sv2)
  have he' : (execOp x.eval o).run P w = .ok (.value (.slice (some ⟨w.heap.size, 0, none⟩) 3 3)) (w.alloc (.cells #[u0, u1, u2] e)) := by
    simp [execOp, hop, ez0, ez1, ez2, hrun, Result.andThen]
  refine .run [] (some d) (hg.wanted hJ hF hE K) hd rfl (wp_val he' ⟨_, _, rfl, Ext.allocP hJ.gi, fun d' e => ?_, ?_⟩)
  · injection e with e
    subst e
    rw [hV]
    exact hτ w c
  · rw [hA]
    trivial
end
theorem byC_lit {w : World} {c : Colr} (l : List UInt8) {e : TypeId} : (byC l).sat (.slice (some ⟨w.heap.size, 0, none⟩) l.length l.length) (w.alloc (.cells (bs l).toArray e)) (ext0 c w.heap.size) := by
  refine ⟨_, _, rfl, ⟨by simp, fun _ => ⟨_, rfl, fun j u hu => ?_⟩⟩, Nat.le_refl _, fun ad hA => ?_⟩
  · rw [Addr.add_lit, Nat.zero_add]
    exact (Blk.new w e _).cell j (by simpa using hu)
  · injection hA with hA
    subst hA
    exact ⟨by simp, by simp [ext0]⟩
theorem byC_len {l : List UInt8} {k : Nat} {v : Value} {w : World} {c : Colr} (h : (byC l).sat v w c) (e : l.length = k) : ∃ A cp, v = .slice A k cp := by
  subst e
  obtain ⟨A, cp, rfl, _⟩ := h
  exact ⟨A, cp, rfl⟩
theorem run_eqpn {P : Program} {w : World} {t te : TypeId} (hp : P.underlying t = some (.pointer te)) : (binOp .eql t (.pointer none) (.pointer none)).run P w = .ok (.bool true) w := by
  have h : ∀ d : Nat, (Op.equalIn (d + 1) t (.pointer none) (.pointer none)).run P w = .ok true w := fun d => by
    simp [Op.equalIn, run_underlying hp]
  simp only [binOp]
  simp [Op.equal, Op.maxDepth, h 9999]
theorem eqg_ptr {P : Program} {w : World} (op : BinOp) (t : TypeId) (x y : Operand) (i j : Option Addr) : (eqGuard op t x y (.pointer i) (.pointer j)).run P w = .ok () w := by
  unfold eqGuard
  split <;> simp [go_sem]
theorem run_eqp {P : Program} {w : World} {t te : TypeId} (hp : P.underlying t = some (.pointer te)) (g : Nat) : (binOp .eql t (.pointer (some ⟨g, 0, none⟩)) (.pointer none)).run P w = .ok (.bool false) w := by
  have h : ∀ d : Nat, (Op.equalIn (d + 1) t (.pointer (some ⟨g, 0, none⟩)) (.pointer none)).run P w = .ok false w := fun d => by
    simp [Op.equalIn, run_underlying hp]
  simp only [binOp]
  simp [Op.equal, Op.maxDepth, h 9999]
theorem run_eqK {P : Program} {w : World} (t : TypeId) (k : IntKind) {x y : Int} (h : x = y) : (binOp .eql t (.int k x) (.int k y)).run P w = .ok (.bool true) w := by
  subst h
  simp [binOp, go_sem]
theorem own_cast' {τ σ : TyO} {v : Value} {w : World} {c : Colr} (e : τ = σ) (h : τ.sat v w c) : σ.sat v w c := e ▸ h
end Go.Col

namespace Go.Col
set_option linter.unusedVariables false
open Go.RowKit Go.Mem

def FP : List Fact → World → Colr → Prop
  | [], _, _ => True
  | F :: L, w, c => F.P w c ∧ FP L w c
/-- A fact that is changed now; the changes above it come later. -/
def stM (dt : List (List Nat)) (i : Nat) : RF → List (List Nat) → Fact → Prop
  | .st j F1 F0, [], F => j = i ∧ F1 = F
  | .st j F1 F0, P :: us, F => pathO dt i P = some j ∧ (j == i) = false ∧ stM dt i F0 us F
  | _, _, _ => False
/-- The facts that a call touches: slots that are not written yet, and what it changes. -/
def unM (l : List Oper) (dt : List (List Nat)) (i d : Nat) : List RF → List (List Nat) → List (List (List Nat) × Fact) → Prop
  | [], [], [] => True
  | .own p σ :: r, P :: u, fs => (!(p == d) && (match pathO dt i P with | some j => dstOf l j == some p | none => false)) = true ∧ unM l dt i d r u fs
  | .st j F1 F0 :: r, u, q :: fs => stM dt i (.st j F1 F0) q.1 q.2 ∧ unM l dt i d r u fs
  | _, _, _ => False
/-- A call that changes blocks of some colours. -/
theorem Ext.of_gen {S : Nat → Prop} {CL : List Nat} {w w' : World} {c c' : Colr} (g : GI w c) (hn : (CL.contains 0 || CL.contains 1) = false) (h : Chg S w w') (hc : ∀ k, S k → k < w.heap.size → CL.contains (c k) = true)
    (hold : ∀ k, k < w.heap.size → c' k = c k) (hnew : ∀ k, w.heap.size ≤ k → k < w'.heap.size → c' k = 0 ∨ CL.contains (c' k) = true)
    (hb : ∀ k, (k < w.heap.size ∧ S k) ∨ (w.heap.size ≤ k ∧ c' k ≠ 0) → ∀ cs t x, w'.heap[k]? = some (.cells cs t x) → ∀ v ∈ cs.toList, NB v = false) : Ext CL w c w' c' := by
  refine ⟨hn, ⟨h.os, h.tape, h.output, h.size, fun k hk hs => h.block k hk (fun hS => hs (hc k hS hk))⟩, hold, fun k h1 h2 => ?_, ?_⟩
  · rcases hnew k h1 h2 with h3 | h3
    · exact .inl h3
    · exact .inr (.inr h3)
  · intro k cs t x hk hck v hv
    by_cases hlt : k < w.heap.size
    · by_cases hS : S k
      · exact hb k (.inl ⟨hlt, hS⟩) cs t x hk v hv
      · rw [h.block k hlt hS] at hk
        rw [hold k hlt] at hck
        exact g k cs t x hk hck v hv
    · exact hb k (.inr ⟨by omega, hck⟩) cs t x hk v hv
section
variable {P : Program} {l : List Oper} {dt : List (List Nat)} {Q : Exit → Act → World → Prop} {n : Nat} {a : Act} {m : Nat → Option Value} {D CB : List Nat} {Fs : List RF} {V : Nat → TyC} {w0 : World} {c0 : Colr} {i : Nat}
theorem stM_P {b : BB} {f f' : FF} {w w' : World} {c c' : Colr} (K : Kx dt w0 c0 CB Fs i b f w c) : ∀ (F0 : RF) (us : List (List Nat)) (F : Fact), stM dt i F0 us F → F.P w' c' → F0.P (bup b i) f' w' c'
  | .st j F1 F0, [], F, h, hp => by
    obtain ⟨h1, h2⟩ := h
    subst h1 h2
    exact st_now' hp
  | .st j F1 F0, P :: us, F, h, hp => by
    obtain ⟨h1, h2, h3⟩ := h
    have hb : bup b i j = false := (bup_ne h2).trans (pathO_nyet K.has P i j K.self h1)
    exact ⟨fun h => (by rw [hb] at h; cases h), fun _ => stM_P K F0 us F h3 hp⟩
  | .s _, _, _, h, _ => by simp [stM] at h
  | .new _ _ _ _ _ _, _, _, h, _ => by simp [stM] at h
  | .own _ _, _, _, h, _ => by simp [stM] at h
theorem unM_all {b : BB} {f : FF} {w w' : World} {c c' : Colr} {d : Nat} {v : Value} (hJ : J l.toArray w0 c0 CB Fs V b f w c) (K : Kx dt w0 c0 CB Fs i b f w c) : ∀ (r : List RF) (u : List (List Nat)) (fs : List (List (List Nat) × Fact)), unM l dt i d r u fs → FP (fs.map Prod.snd) w' c' → All r (bup b i) (upF (some d) v f) w' c'
  | [], [], [], _, _ => trivial
  | .own p σ :: r, P :: u, fs, h, hp => by
    obtain ⟨h12, h3⟩ := h
    simp only [Bool.and_eq_true, Bool.not_eq_true'] at h12
    obtain ⟨h1, h2⟩ := h12
    cases hp' : pathO dt i P with
    | none => rw [hp'] at h2; cases h2
    | some j =>
      rw [hp'] at h2
      exact ⟨own_nyet h1 (unset_of hJ (pathO_nyet K.has P i j K.self hp') (by simpa using h2)), unM_all hJ K r u fs h3 hp⟩
  | .st j F1 F0 :: r, u, q :: fs, h, hp => ⟨stM_P K _ q.1 q.2 h.1 hp.1, unM_all hJ K r u fs h.2 hp.2⟩
  | .own _ _ :: _, [], _, h, _ => by cases h
  | [], _ :: _, _, h, _ => by cases h
  | [], [], _ :: _, h, _ => by cases h
  | .st _ _ _ :: _, _, [], h, _ => by simp [unM] at h
  | .s _ :: _, _, _, h, _ => by simp [unM] at h
  | .new _ _ _ _ _ _ :: _, _, _, h, _ => by simp [unM] at h
/-- A call that changes objects. -/
theorem sMM2 (nc : List Nat) (d : Nat) (un : List (List Nat)) (fs : List (List (List Nat) × Fact)) {o : Oper} {fn : Nat} {tys : Array TypeId} {fd : Func} {G : List RF} (r0 : XA n l dt m D i) (r1 : XA n l dt m D i) (L : ∀ {b : BB} {f : FF} {w : World} {c : Colr} {v0 v1 : Value}, Kx dt w0 c0 CB Fs i b f w c → r0.r.T V w c v0 → r1.r.T V w c v1 → CE P fn #[r0.r.W v0, r1.r.W v1] w c nc (fun v w' c' => (V d).sat v w' c' ∧ FP (fs.map Prod.snd) w' c')) (hfn : P.funcs[fn]? = some fd) (hG : Fs.filter (aff nc i (some d)) = G) (hun : unM l dt i d G un fs) (hi : nthL l i = some o := by rfl) (hop : o.op = .call { callee := .value (.func fn), args := #[r0.r.opd, r1.r.opd], argTypes := tys } := by rfl) (hd : o.dst = some d := by rfl) (hCB : nc.all (CB.contains ·) = true := by rfl) (hnb : (fd.name == "runtime.NumGoroutine" || fd.body.isNone) = false := by rfl) (hg : Gd l n dt V i o.guard := by first | exact trivial | exact ⟨rfl, _, ⟨rfl, rfl⟩, rfl⟩) : OpStep P l dt Q n a m D CB Fs V w0 c0 i := by
  intro b f w c x o' hJ hout hF hE ho K
  obtain rfl : o = o' := Option.some.inj (hi.symm.trans ho)
  obtain ⟨v0, ev0, sv0⟩ := r0.ev hJ hout hF hE K
  obtain ⟨v1, ev1, sv1⟩ := r1.ev hJ hout hF hE K
  exact .callE d nc (hg.wanted hJ hF hE K) hd hCB hJ.gi hop (vs := #[r0.r.W v0, r1.r.W v1]) (by simp [ev0, ev1]) (enter_of hfn hnb _) (L K sv0 sv1) (fun v w' c' h _ => ⟨h.1, by rw [hG]; exact unM_all hJ K G un fs hun h.2⟩)
/-- A call that makes an object and changes others. -/
theorem sOM2 (nc : List Nat) (d : Nat) (un : List (List Nat)) (fs : List (List (List Nat) × Fact)) {o : Oper} {fn : Nat} {tys : Array TypeId} {fd : Func} {σ : TyO} {G : List RF} (r0 : XA n l dt m D i) (r1 : XA n l dt m D i) (L : ∀ {b : BB} {f : FF} {w : World} {c : Colr} {v0 v1 : Value}, Kx dt w0 c0 CB Fs i b f w c → r0.r.T V w c v0 → r1.r.T V w c v1 → CE P fn #[r0.r.W v0, r1.r.W v1] w c nc (fun v w' c' => σ.sat v w' c' ∧ FP (fs.map Prod.snd) w' c')) (hfn : P.funcs[fn]? = some fd) (hG : Fs.filter (aff nc i (some d)) = .own d σ :: G) (hun : unM l dt i d G un fs) (hi : nthL l i = some o := by rfl) (hop : o.op = .call { callee := .value (.func fn), args := #[r0.r.opd, r1.r.opd], argTypes := tys } := by rfl) (hd : o.dst = some d := by rfl) (hV : V d = TyC.any := by rfl) (hCB : nc.all (CB.contains ·) = true := by rfl) (hnb : (fd.name == "runtime.NumGoroutine" || fd.body.isNone) = false := by rfl) (hg : Gd l n dt V i o.guard := by first | exact trivial | exact ⟨rfl, _, ⟨rfl, rfl⟩, rfl⟩) : OpStep P l dt Q n a m D CB Fs V w0 c0 i := by
  intro b f w c x o' hJ hout hF hE ho K
  obtain rfl : o = o' := Option.some.inj (hi.symm.trans ho)
  obtain ⟨v0, ev0, sv0⟩ := r0.ev hJ hout hF hE K
  obtain ⟨v1, ev1, sv1⟩ := r1.ev hJ hout hF hE K
  exact .callE d nc (hg.wanted hJ hF hE K) hd hCB hJ.gi hop (vs := #[r0.r.W v0, r1.r.W v1]) (by simp [ev0, ev1]) (enter_of hfn hnb _) (L K sv0 sv1) (fun v w' c' h _ => ⟨by rw [hV]; trivial, by rw [hG]; exact ⟨own_now h.1, unM_all hJ K G un fs hun h.2⟩⟩)
end
end Go.Col
