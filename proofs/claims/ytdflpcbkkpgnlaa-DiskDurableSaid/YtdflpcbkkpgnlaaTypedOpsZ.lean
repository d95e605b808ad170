/- What each operation does, for regions by types. No program is named here. -/
import Derived.Test.YtdflpcbkkpgnlaaB0
import Derived.Test.YtdflpcbkkpgnlaaTypedZ
namespace Go.Mem
set_option linter.unusedVariables false
open Go.RowKit
section
variable {P : Program} {o : Oper} {a : Act} {w w' : World} {K : Act → World → Prop} {Q : Exit → Act → World → Prop} {v : Value}
theorem wp_val (h : (execOp a.eval o).run P w = .ok (.value v) w') (hk : K (a.put o.dst v) w') : o.wp P a w K Q := by
  unfold Oper.wp
  rw [h]
  exact hk
theorem wp_skp (h : (execOp a.eval o).run P w = .ok .skip w') (hk : K (a.put o.dst undef) w') : o.wp P a w K Q := by
  unfold Oper.wp
  rw [h]
  exact hk
theorem ex_move {x : Operand} (h : o.op = .move x ∨ o.op = .assign x) (hx : a.eval x = v) : (execOp a.eval o).run P w = .ok (.value v) w := by
  rcases h with h | h <;> simp [execOp, h, hx, Sem.run_pure]
theorem ex_load {ty : TypeId} {x : Operand} {ad : Addr} (h : o.op = .load ty x) (hx : a.eval x = .pointer (some ad)) (hl : (loadVar ty ad).run P w = .ok v w) : (execOp a.eval o).run P w = .ok (.value v) w := by
  simp [execOp, h, Instr.loadAt, Instr.sureAddr, hx, hl, Result.andThen]
theorem ex_store {ty : TypeId} {x y : Operand} {ad : Addr} (h : o.op = .store ty x y) (hx : a.eval x = .pointer (some ad)) (hy : a.eval y = v) (hl : (storeVar ty ad v).run P w = .ok () w') : (execOp a.eval o).run P w = .ok .skip w' := by
  simp [execOp, h, Instr.storeAt, Instr.sureAddr, hx, hy, hl, Result.andThen]
theorem ex_alloc {ty : TypeId} {z : Value} (h : o.op = .alloc ty) (hz : (zeroValue ty).run P w = .ok z w) : (execOp a.eval o).run P w = .ok (.value (.pointer (some ⟨w.heap.size, 0, none⟩))) (w.alloc (.cells z.cells ty)) := by
  simp [execOp, h, Instr.alloc, hz, newVar, newRow, Result.andThen]
theorem ex_box {ty : TypeId} {x : Operand} (h : o.op = .box ty x) (hx : a.eval x = v) : (execOp a.eval o).run P w = .ok (.value (.pointer (some ⟨w.heap.size, 0, none⟩))) (w.alloc (.cells v.cells ty)) := by
  simp [execOp, h, Instr.box, hx, newVar, newRow, Result.andThen]
theorem ex_extract {x : Operand} {i : Nat} {vs : Array Value} (h : o.op = .extract x i) (hx : a.eval x = .tuple vs) (hv : vs[i]? = some v) : (execOp a.eval o).run P w = .ok (.value v) w := by
  simp [execOp, h, Instr.extract, hx, hv, Result.andThen]
theorem ex_build {ty : TypeId} {ps : Array (Nat × Operand)} {vs : Array (Nat × Value)} (h : o.op = .build ty ps) (hp : ps.map (fun x => (x.1, a.eval x.2)) = vs) (hr : (Instr.build ty vs).run P w = .ok v w) : (execOp a.eval o).run P w = .ok (.value v) w := by
  simp [execOp, h, hp, hr, Result.andThen]
theorem ex_lit {ty : TypeId} {n : Nat} {ps : Array (Nat × Operand)} {vs : Array (Nat × Value)} (h : o.op = .buildSlice ty n ps) (hp : ps.map (fun x => (x.1, a.eval x.2)) = vs) (hr : (Instr.buildSlice ty n vs).run P w = .ok v w') : (execOp a.eval o).run P w = .ok (.value v) w' := by
  simp [execOp, h, hp, hr, Result.andThen]
theorem ex_field {s : TypeId} {x : Operand} {f : Nat} {p : Value} (h : o.op = .fieldAddr s x f) (hx : a.eval x = p) (hr : (Instr.fieldAt s p f).run P w = .ok v w) : (execOp a.eval o).run P w = .ok (.value v) w := by
  simp [execOp, h, hx, hr, Result.andThen]
theorem ex_index {t : TypeId} {x y : Operand} {p i : Value} (h : o.op = .indexAddr t x y) (hx : a.eval x = p) (hy : a.eval y = i) (hr : (Instr.indexAt t p i).run P w = .ok v w) : (execOp a.eval o).run P w = .ok (.value v) w := by
  simp [execOp, h, hx, hy, hr, Result.andThen]
theorem wp_callT {f : Nat} {args : Array Operand} {tys : Array TypeId} {vs : Array Value} {τ : Ty} (h : o.op = .call { callee := .value (.func f), args := args, argTypes := tys }) (ha : args.map a.eval = vs) (he : ∀ w, (callFunc f vs).run P w = .ok (.enter f vs) w)
    (hc : CT P f vs w τ) : o.wp P a w (fun a' w' => ∃ v, a' = a.put o.dst v ∧ New w w' ∧ τ.sat v w') Q := by
  unfold Oper.wp execOp
  rw [h]
  have hev : a.eval (.func f) = .func (.func f) #[] #[] := rfl
  simp [resolve, invoke, hev, ha, he, Oper.upon, go_sem]
  refine hc.mono ?_
  rintro e w' ⟨v, rfl, h1, h2⟩
  exact ⟨v, rfl, h2, h1⟩
/-- A store of a whole struct into a box. -/
theorem store_agg {ty t : TypeId} {g : Nat} {old cs : Array Value} {n : Nat} (hA : Agg P ty n) (hb : Blk w g t old) (ho : old.size = n) (hc : cs.size = n) (h1 : cs.all (·.oneCell') = true) :
    ∃ w', (storeVar ty ⟨g, 0, none⟩ (.agg cs)).run P w = .ok () w' ∧ Chg (fun k => k = g) w w' ∧ Blk w' g t cs := by
  obtain ⟨d, hu, hd, hi⟩ := hA
  have hr := run_storeVar_row (P := P) w g t ty old cs hb (by rw [hi, hc]) (by rw [ho, hc]) h1
  refine ⟨_, hr, ⟨rfl, rfl, rfl, by simp [World.setRow], fun k hk hne => setRow_other w g k cs hne⟩, ?_⟩
  exact setRow_heap w g old cs t (0, 0) hb
end
end Go.Mem
