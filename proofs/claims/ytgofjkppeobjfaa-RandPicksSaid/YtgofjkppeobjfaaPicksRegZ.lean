/- The lists of RandPicks: one region that draws its order, by an invariant. -/
import Derived.Test.YtgofjkppeobjfaaB5
import Derived.Test.YtgofjkppeobjfaaRegInvZ
namespace Go.Proofs.Ytgofjkppeobjfaa
set_option linter.unusedVariables false
open Go.RowKit Go.Mem

/-- Operation i writes slot d, and waits for others. -/
def IsOp (ops : Array Oper) (i d : Nat) (x : Op) (deps : List Nat) : Prop := ∃ o, ops[i]? = some o ∧ o.op = x ∧ o.dst = some d ∧ o.guard = none ∧ ∀ k ∈ deps, ∃ e ∈ o.after, Region.binds .any e = true ∧ e.on = k
section
variable {P : Program} {o : Oper} {a : Act} {w : World} {K : Act → World → Prop} {Q : Exit → Act → World → Prop}
theorem wp_move {x : Operand} (h : o.op = .move x) (hk : K (a.put o.dst (a.eval x)) w) : o.wp P a w K Q := by
  unfold Oper.wp execOp
  rw [h]
  simpa [Oper.upon, Sem.run_pure] using hk
theorem wp_assign {x : Operand} (h : o.op = .assign x) (hk : K (a.put o.dst (a.eval x)) w) : o.wp P a w K Q := by
  unfold Oper.wp execOp
  rw [h]
  simpa [Oper.upon, Sem.run_pure] using hk
theorem wp_make {t : TypeId} {l c : Operand} {vl vc : Value} {v : Value} {w' : World} (h : o.op = .makeSlice t l c) (hl : a.eval l = vl) (hc : a.eval c = vc) (hr : (Instr.makeSlice t vl vc).run P w = .ok v w') (hk : K (a.put o.dst v) w') : o.wp P a w K Q := by
  unfold Oper.wp execOp
  rw [h]
  simp [hl, hc, hr, Oper.upon]
  exact hk
theorem wp_call {f : Nat} {args : Array Operand} {tys : Array TypeId} {vs : Array Value} (h : o.op = .call { callee := .value (.func f), args := args, argTypes := tys }) (ha : args.map a.eval = vs) (he : ∀ w, (callFunc f vs).run P w = .ok (.enter f vs) w)
    (hc : Calls P f vs w fun e w' => ∃ v, e = .returned v ∧ K (a.put o.dst v) w') : o.wp P a w K Q := by
  unfold Oper.wp execOp
  rw [h]
  have hev : a.eval (.func f) = .func (.func f) #[] #[] := rfl
  simp [resolve, invoke, hev, ha, he, Oper.upon, go_sem]
  refine hc.mono ?_
  rintro e w' ⟨v, rfl, hk⟩
  exact hk
theorem wp_lit {t : TypeId} {n : Nat} {ps : Array (Nat × Operand)} {vs : Array (Nat × Value)} {v : Value} {w' : World} (h : o.op = .buildSlice t n ps) (hp : ps.map (fun x => (x.1, a.eval x.2)) = vs) (hr : (Instr.buildSlice t n vs).run P w = .ok v w') (hk : K (a.put o.dst v) w') : o.wp P a w K Q := by
  unfold Oper.wp execOp
  rw [h]
  simp [hp, hr, Oper.upon]
  exact hk
theorem wp_add {x y : Operand} {t u : TypeId} {vx vy v : Value} (h : o.op = .binOp .add t x y u) (hx : a.eval x = vx) (hy : a.eval y = vy) (hr : (binOp .add t vx vy).run P w = .ok v w) (hk : K (a.put o.dst v) w) : o.wp P a w K Q := by
  unfold Oper.wp execOp
  rw [h]
  simp [hx, hy, hr, Oper.upon, eqGuard]
  exact hk
theorem wp_app {t e : TypeId} {z : Value} {bytes base : Nat} (hE : Elem P t e z bytes) {s x : Operand} (h : o.op = .call { callee := .builtin .append, args := #[s, x], argTypes := #[t, t] })
    {A0 : Option Addr} {n c0 : Nat} {xs : List Value} (hs : a.eval s = .slice A0 n c0) (hown : w.ownsRow base e 1 (.slice A0 n c0) n xs)
    {A : Option Addr} {m c : Nat} {news : List Value} (hx : a.eval x = .slice A m c) (hr : Rd w A m news) (h1 : ∀ u ∈ news, u.oneCell' = true)
    (h63 : n + m ≤ maxLen) (hbytes : (n + m) * bytes ≤ 140737488355328) (hbase : base ≤ w.heap.size)
    (hk : ∀ A' c' w', w'.ownsRow base e 1 (.slice A' (n + m) c') (n + m) (xs ++ news) → w.grownBy w' (blk A0) → K (a.put o.dst (.slice A' (n + m) c')) w') : o.wp P a w K Q := by
  obtain ⟨A', c', w', hrun, h2, h3, h4⟩ := run_app (P := P) hE o.type hown hr h1 h63 hbytes hbase
  unfold Oper.wp execOp
  simp only [h, resolve, invoke, builtin, Sem.run_bind, Sem.run_pure, Result.andThen_ok, List.map_toArray, List.map_cons, List.map_nil, hs, hx]
  rw [hrun]
  exact hk A' c' w' h2 h3
end

/-- What has come to be, by the operations that have run. -/
def J10 (Wb : World) (vW vX : Value) (at_ : Int) (d3 d12 D : Nat) (R : Value → World → Prop) (b : Nat → Bool) (f : Nat → Option Value) (w : World) : Prop :=
  New Wb w ∧ (b 0 = true → f 56 = some vW) ∧ (b 1 = true → f 57 = some vX) ∧ (b 2 = true → f 58 = some (.int .i64 at_)) ∧ (b 3 = true → f 59 = some (.int .i64 d3)) ∧ (b 5 = true → f 61 = some (.int .i64 at_)) ∧ (b 6 = true → f 62 = some (.int .i64 d12)) ∧ (b 7 = true → f 63 = some (.int .i64 D)) ∧
  (∀ i, i ∉ [15, 56, 57, 58, 59, 60, 61, 62, 63, 64, 65, 66, 67] → f i = none) ∧
  (b 11 = true → b 10 = true ∧ b 4 = true ∧ ∃ v, f 67 = some v ∧ R v w) ∧ (b 12 = true → b 11 = true ∧ f 15 = f 67 ∧ f 15 ≠ none) ∧
  (b 10 = true → b 8 = true ∧ b 9 = true ∧ ∃ A c, f 66 = some (.slice A (D + 1) c) ∧ Rd w A (D + 1) (is (List.replicate D 0 ++ [1]))) ∧
  (b 9 = true → ∃ g, f 65 = some (.slice (some ⟨g, 0, none⟩) 1 1) ∧ (b 10 = false → Rd w (some ⟨g, 0, none⟩) 1 (is [1]))) ∧
  ∃ g4 g8 : Nat, (b 4 = true → f 60 = some (.slice (some ⟨g4, 0, none⟩) d3 d3) ∧ g4 < w.heap.size ∧ Rd w (some ⟨g4, 0, none⟩) d3 (is (List.replicate d3 0))) ∧
    (b 8 = true → f 64 = some (.slice (some ⟨g8, 0, none⟩) D D) ∧ Wb.heap.size ≤ g8 ∧ g8 < w.heap.size ∧ (b 10 = false → w.ownsRow Wb.heap.size 3 1 (.slice (some ⟨g8, 0, none⟩) D D) D (is (List.replicate D 0)))) ∧
    (b 4 = true → b 8 = true → b 10 = false → g4 ≠ g8)
/-- What only makes new memory keeps it. -/
theorem J10.new {Wb : World} {vW vX : Value} {at_ : Int} {d3 d12 D : Nat} {R : Value → World → Prop} (hR : ∀ v w w', R v w → New w w' → R v w') {b : Nat → Bool} {f : Nat → Option Value} {w w' : World} (h : J10 Wb vW vX at_ d3 d12 D R b f w) (hn : New w w') : J10 Wb vW vX at_ d3 d12 D R b f w' := by
  obtain ⟨h0, h1, h2, h3, h4, h5, h6, h7, h8, h9, h10, h11, h12, g4, g8, k4, k8, k48⟩ := h
  refine ⟨h0.new hn, h1, h2, h3, h4, h5, h6, h7, h8, fun hb => ?_, h10, fun hb => ?_, fun hb => ?_, g4, g8, fun hb => ?_, fun hb => ?_, k48⟩
  · obtain ⟨p, q, v, r, s⟩ := h9 hb; exact ⟨p, q, v, r, hR _ _ _ s hn⟩
  · obtain ⟨p, q, A, c, r, s⟩ := h11 hb; exact ⟨p, q, A, c, r, s.new hn⟩
  · obtain ⟨g, p, q⟩ := h12 hb; exact ⟨g, p, fun h => (q h).new hn⟩
  · obtain ⟨p, q, r⟩ := k4 hb; exact ⟨p, Nat.lt_of_lt_of_le q hn.size, r.new hn⟩
  · obtain ⟨p, q, r, s⟩ := k8 hb; exact ⟨p, q, Nat.lt_of_lt_of_le r hn.size, fun h => own_chg (s h) hn (fun _ _ h => h)⟩
end Go.Proofs.Ytgofjkppeobjfaa
