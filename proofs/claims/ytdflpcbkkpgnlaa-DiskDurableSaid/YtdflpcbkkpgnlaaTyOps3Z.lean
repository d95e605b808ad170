/- Loops by a ghost, one-place operations. No program is named here. -/
import Derived.Test.YtdflpcbkkpgnlaaB0
import Derived.Test.YtdflpcbkkpgnlaaTyOps2Z
namespace Go.Mem
set_option linter.unusedVariables false
open Go.RowKit
section
variable {P : Program} {o : Oper} {a : Act} {w w' : World} {v : Value}
/-- A loop by a ghost that falls. -/
theorem loop_ghost {Q : Exit → Act → World → Prop} {c : Code} (I : Nat → Act → World → Prop) (n : Nat) (h0 : I n a w) (round : ∀ n a w, I n a w → c.wp P (Exit.then (fun a' w' => ∃ m, m < n ∧ I m a' w') Q) a w) : (Code.loop c).wp P Q a w := by
  have key : ∀ N n, n < N → ∀ a w, I n a w → Code.rounds P c Q N a w := by
    intro N
    induction N with
    | zero => intro n h; omega
    | succ N ih =>
      intro n hn a w hI
      rw [rounds_succ]
      refine wp_mono (round n a w hI) (fun e a' w' h => ?_)
      cases e with
      | normal =>
        obtain ⟨m, hm, hI'⟩ := h
        exact ih m (by omega) a' w' hI'
      | _ => exact h
  exact wp_loop_rounds (n + 1) (key (n + 1) n (by omega) a w h0)
theorem ex_un {op : UnOp} {t : TypeId} {x : Operand} {vx : Value} (h : o.op = .unOp op t x) (hx : a.eval x = vx) (hr : (Op.unary op vx).run P w = .ok v w) : (execOp a.eval o).run P w = .ok (.value v) w := by
  simp [execOp, h, hx, hr, Result.andThen]
theorem run_negi (x : Int) : (Op.unary .neg (.int .i64 x)).run P w = .ok (.int .i64 (IntKind.i64.wrap (-x))) w := by
  simp [Op.unary, go_sem]
theorem then_normal {Q : Exit → Act → World → Prop} {n : Act → World → Prop} (h : n a w) : Exit.then n Q .normal a w := h
theorem inBlock_normal {Q : Exit → Act → World → Prop} {id : Nat} (h : Q .normal a w) : Exit.inBlock id Q .normal a w := h
end
end Go.Mem
