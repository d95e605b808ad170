/- Entering a function, binary operations, addresses of fields and elements: run laws. No program is named here. -/
import Derived.Test.YtdflpcbkkpgnlaaB0
import Derived.Test.YtdflpcbkkpgnlaaTyWZ
import Derived.IntWalk
import Derived.LoopN
namespace Go.Mem
set_option linter.unusedVariables false
open Go.RowKit
section
variable {P : Program} {o : Oper} {a : Act} {w w' : World} {v : Value}
theorem enter_of {f : Nat} {fn : Func} (hf : P.funcs[f]? = some fn) (h : (fn.name == "runtime.NumGoroutine" || fn.body.isNone) = false) (args : Array Value) (w : World) : (callFunc f args).run P w = .ok (.enter f args) w := by
  rw [Bool.or_eq_false_iff] at h
  have h1 : ¬ fn.name = "runtime.NumGoroutine" := by simpa using h.1
  have h2 : ¬ fn.body = none := fun e => by rw [e] at h; cases h.2
  simp [callFunc, hf, h1, h2, go_sem]
theorem eqg_int (op : BinOp) (t : TypeId) (x y : Operand) (k k' : IntKind) (i j : Int) : (eqGuard op t x y (.int k i) (.int k' j)).run P w = .ok () w := by
  unfold eqGuard
  split <;> simp [go_sem]
theorem eqg_str (op : BinOp) (t : TypeId) (x y : Operand) (i j : ByteArray) : (eqGuard op t x y (.string i) (.string j)).run P w = .ok () w := by
  unfold eqGuard
  split <;> simp [go_sem]
theorem eqg_bool (op : BinOp) (t : TypeId) (x y : Operand) (i j : Bool) : (eqGuard op t x y (.bool i) (.bool j)).run P w = .ok () w := by
  unfold eqGuard
  split <;> simp [go_sem]
theorem ex_bin {op : BinOp} {t u : TypeId} {x y : Operand} {vx vy : Value} (h : o.op = .binOp op t x y u) (hx : a.eval x = vx) (hy : a.eval y = vy) (hg : (eqGuard op t x y vx vy).run P w = .ok () w) (hr : (binOp op t vx vy).run P w = .ok v w) : (execOp a.eval o).run P w = .ok (.value v) w := by
  simp [execOp, h, hx, hy, hg, hr, Result.andThen]
theorem ex_pick {x y z : Operand} {b : Bool} (h : o.op = .pick x y z) (hx : a.eval x = .bool b) (hy : (if b then a.eval y else a.eval z) = v) : (execOp a.eval o).run P w = .ok (.value v) w := by
  cases b <;> simp_all [execOp, asBool, go_sem]
theorem eval_const (x : Value) : a.eval (.const x) = x := rfl
/-- The address of a field. -/
theorem run_field {s : TypeId} {g f off sz : Nat} {fs : Array Field} {fd : Field} (hs : P.underlying s = some (.struct fs)) (hf : fs[f]? = some fd) (ho : fd.offset = off) (hz : (P.info? fd.type).map (·.size) = some sz) (hz0 : (sz == 0) = false) : (Instr.fieldAt s (.pointer (some ⟨g, 0, none⟩)) f).run P w = .ok (.pointer (some ⟨g, off, none⟩)) w := by
  subst ho
  have hz0' : ¬ sz = 0 := by simpa using hz0
  cases hq : P.info? fd.type with
  | none => rw [hq] at hz; cases hz
  | some d =>
    rw [hq] at hz
    injection hz with hz
    simp [Instr.fieldAt, run_underlying hs, hf, Instr.sureAddr, fieldPlace, sizeOf, typeInfo, hq, hz, hz0', Addr.add_lit, Result.andThen, go_sem]
/-- The address of an element of a slice. -/
theorem run_index {t e : TypeId} {g n c i sz : Nat} {k : IntKind} (ht : P.underlying t = some (.slice e)) (hz : (P.info? e).map (·.size) = some sz) (hi : i < n) : (Instr.indexAt t (.slice (some ⟨g, 0, none⟩) n c) (.int k i)).run P w = .ok (.pointer (some ⟨g, i * sz, none⟩)) w := by
  have : (i : Int) < (n : Int) := by omega
  cases hq : P.info? e with
  | none => rw [hq] at hz; cases hz
  | some d =>
    rw [hq] at hz
    injection hz with hz
    simp [Instr.indexAt, asIntOf, run_underlying ht, this, hi, sizeOf, typeInfo, hq, hz, Addr.add_lit, Result.andThen, go_sem]
/-- Some cells in a row, as a struct. -/
theorem load_cells {ty : TypeId} {n : Nat} {ad : Addr} (hA : Agg P ty n) (cs : List Value) (hn : cs.length = n) (h : ∀ j u, cs[j]? = some u → w.cell? (ad.add j) = some u) : (loadVar ty ad).run P w = .ok (.agg cs.toArray) w := by
  obtain ⟨d, hu, hd, hi⟩ := hA
  have hl := run_loadCells_list (P := P) (w := w) ad cs h
  rw [hn] at hl
  cases hq : P.info? ty with
  | none => rw [hq] at hi; cases hi
  | some i =>
    rw [hq] at hi
    injection hi with hi
    cases d <;> simp_all [loadVar, isAgg, run_underlying hu, sizeOf, typeInfo, Result.andThen, go_sem]
/-- Cells of a block from one place on. -/
theorem blk_cells {g k : Nat} {t : TypeId} {cs : Array Value} (hb : Blk w g t cs) (ds : List Value) (h : ∀ j u, ds[j]? = some u → cs[k + j]? = some u) : ∀ j u, ds[j]? = some u → w.cell? ((⟨g, k, none⟩ : Addr).add j) = some u := fun j u hu => by
  rw [Addr.add_lit]
  exact hb.cell (k + j) (h j u hu)
theorem load_str {ty t : TypeId} {g n : Nat} {τ : Ty} {u : Value} {w1 : World} (hA : Agg P ty n) (hs : τ.str n) (T : τ.sat u w1) (K : Blk w g t u.cells) : (loadVar ty ⟨g, 0, none⟩).run P w = .ok u w := by
  obtain ⟨cs, rfl, h3, _⟩ := hs u w1 T
  subst h3
  exact Agg.load hA K
def Ty.noi (τ : Ty) : Prop := ∀ v w, τ.sat v w → NoInt v.cells.toList
theorem noInt_str {τ : Ty} {u : Value} {w1 : World} (h : τ.noi) (T : τ.sat u w1) : NoInt u.cells.toList := h u w1 T
theorem size_str {τ : Ty} {n : Nat} {u : Value} {w1 : World} (hs : τ.str n) (T : τ.sat u w1) : u.cells.size = n := by
  obtain ⟨cs, rfl, h3, _⟩ := hs u w1 T
  exact h3
theorem far_at {B : List Bx} {f : Nat → Option Value} (h : B.Pairwise (fun x y => ∀ g, x.at f = some g → y.at f ≠ some g)) (i j : Nat) (hij : i < j) {x y : Bx} {g : Nat} (hi : B[i]? = some x) (hj : B[j]? = some y) (h1 : x.at f = some g) (h2 : y.at f = some g) : False := by
  obtain ⟨li, ei⟩ := List.getElem?_eq_some_iff.1 hi
  obtain ⟨lj, ej⟩ := List.getElem?_eq_some_iff.1 hj
  have := List.pairwise_iff_getElem.1 h i j li lj hij g
  rw [ei, ej] at this
  exact this h1 h2
theorem own_cb {w0 w1 w2 : World} {S : Nat → Prop} (h : New w0 w1) (hc : Chg S w1 w2) (hs : ∀ k, S k → w0.heap.size ≤ k) : New w0 w2 := Chg.owned h hc hs
theorem run_eql (t : TypeId) (k : IntKind) (x y : Int) : (binOp .eql t (.int k x) (.int k y)).run P w = .ok (.bool (x == y)) w := by
  simp [binOp, go_sem]
theorem run_neq (t : TypeId) (k : IntKind) (x y : Int) : (binOp .neq t (.int k x) (.int k y)).run P w = .ok (.bool (!(x == y))) w := by
  simp [binOp, go_sem]
  rfl
theorem run_lss (t : TypeId) (k : IntKind) (x y : Int) : (binOp .lss t (.int k x) (.int k y)).run P w = .ok (.bool (decide (x < y))) w := by
  simp [binOp, go_sem]
theorem run_leq (t : TypeId) (k : IntKind) (x y : Int) : (binOp .leq t (.int k x) (.int k y)).run P w = .ok (.bool (decide (x ≤ y))) w := by
  simp [binOp, go_sem]
theorem run_gtr (t : TypeId) (k : IntKind) (x y : Int) : (binOp .gtr t (.int k x) (.int k y)).run P w = .ok (.bool (decide (y < x))) w := by
  simp [binOp, go_sem]
theorem run_geq (t : TypeId) (k : IntKind) (x y : Int) : (binOp .geq t (.int k x) (.int k y)).run P w = .ok (.bool (decide (y ≤ x))) w := by
  simp [binOp, go_sem]
theorem run_as {v v' : Value} {e : Sem Value} (h : e.run P w = .ok v w) (hv : v = v') : e.run P w = .ok v' w := hv ▸ h
theorem enter_size {a : Act} {args : Array Value} {n N : Nat} (ha : a = { tmps := args ++ Array.replicate n undef, defers := [] }) (h : args.size + n = N) : a.tmps.size = N := by
  subst ha
  simpa using h
theorem enter_ev {a : Act} {args : Array Value} {n : Nat} (ha : a = { tmps := args ++ Array.replicate n undef, defers := [] }) {i : Nat} {v : Value} (h : args[i]? = some v) : a.eval (.tmp i) = v := by
  subst ha
  show (args ++ Array.replicate n undef).getD i undef = v
  rw [Array.getD_eq_getD_getElem?, Array.getElem?_append_left (Array.getElem?_eq_some_iff.1 h).1, h]
  rfl
theorem enter_defers {a : Act} {args : Array Value} {n : Nat} (ha : a = { tmps := args ++ Array.replicate n undef, defers := [] }) : a.defers = [] := by rw [ha]
theorem enter_wp {f : Nat} {fn : Func} {c : Code} {args : Array Value} {w : World} {R : Ending → World → Prop} {n : Nat} (hf : P.funcs[f]? = some fn) (hb : fn.body = some c) (hn : fn.ntmps = n)
    (h : ∀ a : Act, a = { tmps := args ++ Array.replicate (n - args.size) undef, defers := [] } → c.wp P (bodyPost P fn R) a w) : Calls P f args w R := by
  refine calls_of_wp hf hb ?_
  rw [hn]
  exact h _ rfl
theorem ex_len {x : Operand} {t e : TypeId} {A : Option Addr} {n c : Nat} (h : o.op = .call { callee := .builtin .len, args := #[x], argTypes := #[t] }) (ht : P.underlying t = some (.slice e)) (hx : a.eval x = .slice A n c) : (execOp a.eval o).run P w = .ok (.value (.int .i64 n)) w := by
  simp [execOp, h, resolve, invoke, builtin, hx, Builtin.len_, run_underlying ht, goInt, Result.andThen]
theorem inBlock_exit {Q : Exit → Act → World → Prop} {id : Nat} (h : Q .normal a w) : Exit.inBlock id Q (.exit id) a w := by
  simpa [Exit.inBlock] using h
theorem then_exit {Q : Exit → Act → World → Prop} {n : Act → World → Prop} {id : Nat} (h : Q (.exit id) a w) : Exit.then n Q (.exit id) a w := h
theorem inBlock_ret {Q : Exit → Act → World → Prop} {id : Nat} (h : Q .ret a w) : Exit.inBlock id Q .ret a w := h
theorem run_addi (x y z : Int) (t : TypeId) (h : x + y = z) (hz : -9223372036854775808 ≤ z ∧ z ≤ 9223372036854775807) (hr : (binOp .add t (.int .i64 x) (.int .i64 y)).run P w = .ok (.int .i64 (IntKind.i64.wrap (x + y))) w) : (binOp .add t (.int .i64 x) (.int .i64 y)).run P w = .ok (.int .i64 z) w := by
  rw [hr, h, IntWalk.i64_in _ hz]
theorem run_add' (x y : Int) (t : TypeId) : (binOp .add t (.int .i64 x) (.int .i64 y)).run P w = .ok (.int .i64 (IntKind.i64.wrap (x + y))) w := by
  simp [binOp, go_sem]
theorem run_sub' (x y : Int) (t : TypeId) : (binOp .sub t (.int .i64 x) (.int .i64 y)).run P w = .ok (.int .i64 (IntKind.i64.wrap (x - y))) w := by
  simp [binOp, go_sem]
theorem run_mul' (x y : Int) (t : TypeId) : (binOp .mul t (.int .i64 x) (.int .i64 y)).run P w = .ok (.int .i64 (IntKind.i64.wrap (x * y))) w := by
  simp [binOp, go_sem]
end
end Go.Mem
