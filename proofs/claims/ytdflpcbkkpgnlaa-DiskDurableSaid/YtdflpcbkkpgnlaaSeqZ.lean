/- Slices whose elements are structs, by types. No program is named here. -/
import Derived.Test.YtdflpcbkkpgnlaaB0
import Derived.Test.YtdflpcbkkpgnlaaColZ
namespace Go.Col
set_option linter.unusedVariables false
open Go.RowKit Go.Mem

/-- A pointer to cells that are, in a row, a struct of a type; they lie in a plain block. -/
def refC (sz : Nat) (τ : TyC) : TyC := ⟨fun v w c => ∃ (ad : Addr) (cs : Array Value), v = .pointer (some ad) ∧ (0 < sz → c ad.block = 0) ∧ cs.size = sz ∧ τ.sat (.agg cs) w c ∧ ∀ j u, cs[j]? = some u → w.cell? (ad.add j) = some u,
  fun ⟨ad, cs, h1, h2, h3, h4, h5⟩ g e => ⟨ad, cs, h1, fun hs => by
      have hj := h5 0 cs[0] (Array.getElem?_eq_getElem (by omega))
      have hlt := World.block_lt_of_cell? _ _ hj
      rw [block_add] at hlt
      rw [e.col _ hlt]; exact h2 hs, h3, τ.stab h4 g e, fun j u hu => by
    have hsz : 0 < sz := by
      have := (Array.getElem?_eq_some_iff.1 hu).1
      omega
    have hc := h5 j u hu
    refine e.chg.cell hc ?_
    rw [block_add, h2 hsz, e.z]
    simp⟩⟩
/-- A slice of structs. -/
def seqC (sz : Nat) (L : List TyC) : TyC := ⟨fun v w c => ∃ A cp, v = .slice A L.length cp ∧ L.length ≤ cp ∧ ∀ k τ, L[k]? = some τ → ∃ ad, A = some ad ∧ (refC sz τ).sat (.pointer (some (ad.add (k * sz)))) w c,
  fun ⟨A, cp, h1, h2, h3⟩ g e => ⟨A, cp, h1, h2, fun k τ hk => by
    obtain ⟨ad, q1, q2⟩ := h3 k τ hk
    exact ⟨ad, q1, (refC sz τ).stab q2 g e⟩⟩⟩
/-- Cells that are structs in a row. -/
def catK (sz : Nat) (L : List TyC) : CTyC := ⟨fun cs w c => ∀ k τ, L[k]? = some τ → ∃ u : Array Value, u.size = sz ∧ τ.sat (.agg u) w c ∧ ∀ j x, u[j]? = some x → cs[k * sz + j]? = some x,
  fun h g e k τ hk => by
    obtain ⟨u, h1, h2, h3⟩ := h k τ hk
    exact ⟨u, h1, τ.stab h2 g e, h3⟩⟩
section
variable {P : Program} {w : World} {c : Colr} {v : Value} {sz : Nat} {L : List TyC} {τ : TyC} {g : Nat} {t e : TypeId}
theorem seq_of_row (h : (Fact.row g t (catK sz L)).P w c) {n : Nat} (hn : n = L.length) : (seqC sz L).sat (.slice (some ⟨g, 0, none⟩) n n) w c := by
  obtain ⟨h1, cs, h2, h3⟩ := h
  subst hn
  refine ⟨_, _, rfl, Nat.le_refl _, fun k τ hk => ⟨_, rfl, ?_⟩⟩
  obtain ⟨u, q1, q2, q3⟩ := h2 k τ hk
  refine ⟨_, u, rfl, fun _ => ?_, q1, q2, fun j x hx => ?_⟩
  · rw [block_add]; exact h1
  · rw [add_add', Addr.add_lit, Nat.zero_add]
    exact h3.cell _ (q3 j x hx)
theorem seq_index {k : Nat} {kd : IntKind} (ht : P.underlying t = some (.slice e)) (hz : (P.info? e).map (·.size) = some sz) (h : (seqC sz L).sat v w c) (hk : L[k]? = some τ) : ∃ ad, (Instr.indexAt t v (.int kd (k : Nat))).run P w = .ok ad w ∧ (refC sz τ).sat ad w c := by
  obtain ⟨A, cp, rfl, h2, h3⟩ := h
  obtain ⟨ad, rfl, q⟩ := h3 k τ hk
  refine ⟨_, ?_, q⟩
  have hi : k < L.length := (List.getElem?_eq_some_iff.1 hk).1
  have : (k : Int) < (L.length : Int) := by omega
  cases hq : P.info? e with
  | none => rw [hq] at hz; cases hz
  | some d =>
    rw [hq] at hz
    injection hz with hz
    simp [Instr.indexAt, asIntOf, run_underlying ht, this, hi, sizeOf, typeInfo, hq, hz, Result.andThen, go_sem]
theorem ref_load {ty : TypeId} (hA : Agg P ty sz) (h : (refC sz τ).sat v w c) : ∃ ad u, v = .pointer (some ad) ∧ (loadVar ty ad).run P w = .ok u w ∧ τ.sat u w c := by
  obtain ⟨ad, cs, rfl, h2, h3, h4, h5⟩ := h
  refine ⟨ad, _, rfl, load_cells (n := sz) hA cs.toList (by simpa using h3) (fun j u hu => h5 j u (by simpa using hu)), h4⟩
theorem seq_len {t e : TypeId} {o : Oper} {a : Act} {x : Operand} (h : o.op = .call { callee := .builtin .len, args := #[x], argTypes := #[t] }) (ht : P.underlying t = some (.slice e)) (hx : a.eval x = v) (hs : (seqC sz L).sat v w c) : (execOp a.eval o).run P w = .ok (.value (.int .i64 L.length)) w := by
  obtain ⟨A, cp, rfl, h2, h3⟩ := hs
  exact ex_len h ht hx
end
theorem rd_index {P : Program} {w : World} {A : Option Addr} {n cp k : Nat} {xs : List Value} {t e : TypeId} {kd : IntKind} (ht : P.underlying t = some (.slice e)) (hz : (P.info? e).map (·.size) = some 1) (h : Rd w A n xs) (hk : k < n) : ∃ ad, A = some ad ∧ (Instr.indexAt t (.slice A n cp) (.int kd (k : Nat))).run P w = .ok (.pointer (some (ad.add k))) w := by
  obtain ⟨ad, u, rfl, hu, hc⟩ := h.at_ hk
  refine ⟨ad, rfl, ?_⟩
  have : (k : Int) < (n : Int) := by omega
  cases hq : P.info? e with
  | none => rw [hq] at hz; cases hz
  | some d =>
    rw [hq] at hz
    injection hz with hz
    simp [Instr.indexAt, asIntOf, run_underlying ht, this, hk, sizeOf, typeInfo, hq, hz, Result.andThen, go_sem]
/-- A literal: a row of its own of just that many structs. -/
def litC (sz : Nat) (t : TypeId) (L : List TyC) : TyC := ⟨fun v w c => ∃ g cs, v = .slice (some ⟨g, 0, none⟩) L.length L.length ∧ c g = 0 ∧ Blk w g t cs ∧ cs.size = L.length * sz ∧ (catK sz L).sat cs w c,
  fun ⟨g, cs, h1, h2, h3, h4, h5⟩ gi e => by
    obtain ⟨q1, q2⟩ := blk_ext h3 h2 e e.z
    exact ⟨g, cs, h1, q2, q1, h4, (catK sz L).stab h5 gi e⟩⟩
section
variable {P : Program} {ops : Array Oper} {Q : Exit → Act → World → Prop} {CB : List Nat} {Fs : List RF} {V : Nat → TyC} {b : BB} {f : FF} {w : World} {c : Colr} {a : Act} {i : Nat} {o : Oper} {v v' : Value} {sz : Nat} {L : List TyC} {t e : TypeId} {τ : TyC}
theorem lit_seq (h : (litC sz t L).sat v w c) : (seqC sz L).sat v w c := by
  obtain ⟨g, cs, rfl, h2, h3, h4, h5⟩ := h
  exact seq_of_row (t := t) ⟨h2, cs, h5, h3⟩ rfl
theorem map_getD {α : Type} {d : α} {f : α → TyC} {xs : List α} {k : Nat} (h : k < xs.length) : (xs.map f)[k]? = some (f (xs.getD k d)) := by
  simp [List.getElem?_map, List.getElem?_eq_getElem h, List.getD]
theorem cat_app {cs ds zs : Array Value} (h : (catK sz L).sat cs w c) (hs : cs.size = L.length * sz) (h' : (catK sz [τ]).sat ds w c) (hd : ds.size = sz) : (catK sz (L ++ [τ])).sat (cs ++ ds ++ zs) w c := by
  intro k σ hk
  by_cases hl : k < L.length
  · rw [List.getElem?_append_left hl] at hk
    obtain ⟨u, q1, q2, q3⟩ := h k σ hk
    refine ⟨u, q1, q2, fun j x hx => ?_⟩
    have := q3 j x hx
    have hlt := (Array.getElem?_eq_some_iff.1 this).1
    rw [Array.append_assoc, Array.getElem?_append_left hlt]
    exact this
  · rw [List.getElem?_append_right (by omega)] at hk
    obtain ⟨m, rfl⟩ : ∃ m, k = L.length + m := ⟨k - L.length, by omega⟩
    rw [Nat.add_sub_cancel_left] at hk
    match m, hk with
    | 0, hk =>
      obtain ⟨u, q1, q2, q3⟩ := h' 0 σ hk
      refine ⟨u, q1, q2, fun j x hx => ?_⟩
      have h3 := q3 j x hx
      have hlt := (Array.getElem?_eq_some_iff.1 h3).1
      rw [Nat.zero_mul, Nat.zero_add] at h3 hlt
      rw [Nat.add_zero, Array.append_assoc, Array.getElem?_append_right (by omega), Array.getElem?_append_left (by omega)]
      rw [show L.length * sz + j - cs.size = j by omega]
      exact h3
    | m + 1, hk => simp at hk
/-- One more behind a literal: a new row. -/
theorem Step.app1 (d : Nat) {x y : Operand} {inf : TypeInfo} {z : Value} (hw : Region.wanted o (yielded ops a.tmps) = true) (hd : o.dst = some d) (hF : Fs.filter (aff [] i (some d)) = []) (hg : GI w c) (ho : o.op = .call { callee := .builtin .append, args := #[x, y], argTypes := #[t, t] }) (hx : a.eval x = v) (hy : a.eval y = v')
    (ht : P.underlying t = some (.slice e)) (hi : P.info? e = some inf) (hz : inf.zero = some z) (hsz : inf.size = sz) (h1 : (litC sz e L).sat v w c) (h2 : (litC sz e [τ]).sat v' w c) {m : Nat} (hm : L.length = m) (hfit : Builtin.nextslicecap (m + 1) m * inf.bytes ≤ 281474976710656) (hL : m ≤ 1000000) (hV : V d = seqC sz (L ++ [τ])) :
    Step P ops Q CB Fs V b f w c a i o := by
  subst hm
  obtain ⟨g, cs, rfl, q2, q3, q4, q5⟩ := h1
  obtain ⟨g', ds, rfl, r2, r3, r4, r5⟩ := h2
  have hrun := run_append_grow (P := P) w t o.type e inf z ht hi hz ⟨g, 0, none⟩ L.length L.length cs.toList (by rw [hsz]; simpa using q4) (fun j u hu => by rw [Addr.add_lit, Nat.zero_add]; exact q3.cell j (by simpa using hu)) ⟨g', 0, none⟩ 1 1 ds.toList (by rw [hsz]; simpa using r4) (fun j u hu => by rw [Addr.add_lit, Nat.zero_add]; exact r3.cell j (by simpa using hu)) (by omega) (by omega) hfit
  obtain ⟨W, hW⟩ : ∃ W, W = w.drew.alloc (.cells (cs.toList.toArray ++ ds.toList.toArray ++ Builtin.zeroCells z.cells (grownCap w (L.length + 1) L.length e - (L.length + 1))) e) := ⟨_, rfl⟩
  rw [← hW] at hrun
  have hn : New w W := by rw [hW]; exact ((Chg.refl _ w).drew).alloc _
  have hgr : L.length + 1 ≤ grownCap w (L.length + 1) L.length e := grownCap_ge _ _ _ _
  have he : (execOp a.eval o).run P w = .ok (.value (.slice (some ⟨w.heap.size, 0, none⟩) (L.length + 1) (grownCap w (L.length + 1) L.length e))) W := by
    simp [execOp, ho, resolve, invoke, builtin, hx, hy, hrun, Result.andThen]
  refine .run [] (some d) hw hd rfl (wp_val he ⟨_, _, rfl, Ext.of_new hn hg, fun d' h => ?_, by rw [hF]; trivial⟩)
  injection h with h
  subst h
  rw [hV]
  have hx := Ext.of_new hn hg
  have hb : Blk W w.heap.size e (cs ++ ds ++ Builtin.zeroCells z.cells (grownCap w (L.length + 1) L.length e - (L.length + 1))) := by
    rw [hW]
    exact Blk.new _ _ _
  have hc : ext0 c w.heap.size w.heap.size = 0 := by simp [ext0]
  have hk : (catK sz (L ++ [τ])).sat (cs ++ ds ++ Builtin.zeroCells z.cells (grownCap w (L.length + 1) L.length e - (L.length + 1))) W (ext0 c w.heap.size) := (catK sz _).stab (cat_app q5 q4 r5 (by simpa using r4)) hg hx
  have hlen : (L ++ [τ]).length = L.length + 1 := by simp
  refine ⟨_, _, by rw [hlen], by rw [hlen]; exact hgr, fun k σ hkk => ⟨_, rfl, ?_⟩⟩
  obtain ⟨u, p1, p2, p3⟩ := hk k σ hkk
  refine ⟨_, u, rfl, fun _ => ?_, p1, p2, fun j x hx => ?_⟩
  · rw [block_add]; exact hc
  · rw [add_add', Addr.add_lit, Nat.zero_add]
    exact hb.cell _ (p3 j x hx)
/-- A literal is laid. -/
theorem Step.litv (p : Nat) {n : Nat} {ty : TypeId} {ps : Array (Nat × Operand)} {vs : Array (Nat × Value)} {cs : Array Value} (hw : Region.wanted o (yielded ops a.tmps) = true) (hd : o.dst = some p) (hF : Fs.filter (aff [] i (some p)) = []) (hg : GI w c) (ho : o.op = .buildSlice ty n ps) (hp : ps.map (fun x => (x.1, a.eval x.2)) = vs)
    (hr : (Instr.buildSlice ty n vs).run P w = .ok (.slice (some ⟨w.heap.size, 0, none⟩) n n) (w.alloc (.cells cs t))) (hn : L.length = n) (hcs : cs.size = L.length * sz) (hk : (catK sz L).sat cs w c) (hV : V p = litC sz t L) : Step P ops Q CB Fs V b f w c a i o := by
  subst hn
  refine .run [] (some p) hw hd rfl (wp_val (ex_lit ho hp hr) ⟨_, _, rfl, Ext.allocP hg, fun d e => ?_, by rw [hF]; trivial⟩)
  injection e with e; subst e; rw [hV]
  exact ⟨_, cs, rfl, by simp [ext0], Blk.new _ _ _, hcs, (catK sz L).stab hk hg (Ext.allocP hg)⟩
end
end Go.Col
