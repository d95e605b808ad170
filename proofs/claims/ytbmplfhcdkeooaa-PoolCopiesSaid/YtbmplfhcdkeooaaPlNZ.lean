/- A pool that the call has made: contracts; the example (lives). -/
import Derived.Test.YtbmplfhcdkeooaaPlLZ
import Derived.Test.YtbmplfhcdkeooaaPlJZ
set_option linter.unusedSimpArgs false
set_option linter.unusedVariables false
namespace Go.Proofs.Ytbmplfhcdkeooaa
set_option linter.unusedVariables false
open Go.RowKit Go.Mem Go.Pl

theorem plAsk_any (g m : Nat) (dv : Value) (V : Int → Loc) (T : Nat → Prop) (s : S) (w : World) (h : PI w g m dv V T s) (worker tick : Int) (hN : s.tries.length ≤ 1000000000) :
    Calls Try.prog 14 #[.pointer (some ⟨g, 0, none⟩), .int .i64 worker, .int .i64 tick] w fun e w' => AskP w w' g m dv V T s (Pl.ask s worker tick) e := by
  by_cases h1 : check s worker tick = 0
  · cases h2 : s.alive.getD worker.toNat false with
    | false => exact plAsk_bad g m dv V T s w h worker tick (.inr (.inl h2))
    | true =>
      cases h3 : works s worker tick with
      | true => exact plAsk_bad g m dv V T s w h worker tick (.inr (.inr h3))
      | false => exact plAsk_go g m dv V T s w h worker tick h1 h2 h3 hN
  · exact plAsk_bad g m dv V T s w h worker tick (.inl h1)

/-- The pool at g is the call's own; its blocks are O. -/
def PN (w w' : World) (O : Nat → Prop) (g : Nat) (s : S) : Prop := New w w' ∧ (∀ k, O k → w.heap.size ≤ k) ∧ ∃ m dv V T, O = ownP g m dv V s ∧ PI w' g m dv V T s ∧ (∀ k, T k → w.heap.size ≤ k)
/-- What a call that changes it leaves. -/
structure PStep (w w' : World) (O O' : Nat → Prop) : Prop where
  chg : Chg O w w'
  own : ∀ k, O' k → O k ∨ w.heap.size ≤ k
/-- A block beside it. -/
def Box (w : World) (O : Nat → Prop) (b : Nat) (t : TypeId) (cs : Array Value) : Prop := Blk w b t cs ∧ ¬ O b
section
variable {w w1 w2 : World} {g b : Nat} {s : S} {O O' : Nat → Prop} {t : TypeId} {cs : Array Value}
theorem PN.new (h : PN w w1 O g s) (hn : New w1 w2) : PN w w2 O g s := by
  obtain ⟨h1, h0, m, dv, V, T, e, h2, h4⟩ := h
  exact ⟨h1.trans hn (fun _ _ h => h), h0, m, dv, V, T, e, h2.new hn, h4⟩
theorem PN.wf (h : PN w w1 O g s) : WF s := by
  obtain ⟨_, _, m, dv, V, T, _, h, _⟩ := h
  exact h.wf
theorem PN.was (h : PN w w1 O g s) : New w w1 := h.1
theorem PN.lt (h : PN w w1 O g s) {k : Nat} (hk : O k) : k < w1.heap.size := by
  obtain ⟨_, _, m, dv, V, T, rfl, h2, _⟩ := h
  exact h2.lt hk
theorem PN.did {m : Nat} {dv : Value} {V V' : Int → Loc} {T : Nat → Prop} {s' : S} (h1 : New w w1) (h0 : ∀ k, ownP g m dv V s k → w.heap.size ≤ k) (h4 : ∀ k, T k → w.heap.size ≤ k) (h5 : PI w2 g m dv V' (TP w1 w2 g m dv V' T s') s') (h6 : DidP w1 w2 g m dv V V' s s') : PN w w2 (ownP g m dv V' s') g s' ∧ PStep w1 w2 (ownP g m dv V s) (ownP g m dv V' s') :=
  ⟨⟨h1.trans h6.chg (fun k hk ho => by have := h0 k ho; omega), fun k hk => by
      rcases h6.own k hk with h | h
      · exact h0 k h
      · exact Nat.le_trans h1.size h, m, dv, V', _, rfl, h5, fun k hk => by
    rcases hk with h | ⟨h, _⟩
    · exact h4 k h
    · exact Nat.le_trans h1.size h⟩, ⟨h6.chg, h6.own⟩⟩
theorem Box.step (h : Box w1 O b t cs) (hs : PStep w1 w2 O O') : Box w2 O' b t cs := ⟨h.1.chg hs.chg h.2, fun ho => by
  rcases hs.own b ho with h1 | h1
  · exact h.2 h1
  · have := h.1.lt; omega⟩
theorem Box.new (h : Box w1 O b t cs) (hn : New w1 w2) : Box w2 O b t cs := ⟨h.1.chg hn (fun h => h), h.2⟩
/-- A new block is beside it. -/
theorem Box.made (h : PN w w1 O g s) (t : TypeId) (cs : Array Value) : Box (w1.alloc (.cells cs t)) O w1.heap.size t cs := ⟨Blk.new _ _ _, fun ho => by have := h.lt ho; omega⟩
theorem PStep.of_new (h : New w1 w2) : PStep w1 w2 O O := ⟨h.mono (fun _ _ hf => hf.elim), fun k hk => .inl hk⟩
theorem pnNew (n : Nat) (timeout : Int) (hn : 1 ≤ n ∧ n ≤ 8) (ht : 1 ≤ timeout ∧ timeout ≤ 1099511627776) (w w0 : World) (hw : New w w0) :
    Calls Try.prog 10 #[.int .i64 (n : Int), .int .i64 timeout] w0 fun e w' => ∃ g O, e = .returned (.tuple #[.pointer (some ⟨g, 0, none⟩), .int .i64 0]) ∧ PN w w' O g (new n timeout) ∧ New w0 w' ∧ ∀ k, O k → w0.heap.size ≤ k := by
  refine (plNew_any n timeout hn ht (fun _ => ⟨0, .slice none 0 0, .slice none 0 0, .slice none 0 0⟩) w0).mono ?_
  rintro e w' ⟨g, m, dv, rfl, h1, h2, h3⟩
  have hp := h1 (fun _ => False) (fun k hk => hk.elim)
  exact ⟨g, _, rfl, ⟨hw.trans h2 (fun _ _ h => h), fun k hk => Nat.le_trans hw.size (h3 k hk), m, dv, _, fun _ => False, rfl, hp, fun k hk => hk.elim⟩, h2, h3⟩
theorem pnAdd (h : PN w w1 O g s) (id : Int) (hid : Go.Mem.I64 id) (A : Option Addr) (n c : Nat) (l : List UInt8) (hr : Rd w1 A n (bs l)) (hn : n ≤ 1000000000) :
    Calls Try.prog 12 #[.pointer (some ⟨g, 0, none⟩), .agg #[.int .i64 id, .slice A n c]] w1 fun e w' => e = .returned (.int .i64 (add s id l).2) ∧ ∃ O', PN w w' O' g (add s id l).1 ∧ PStep w1 w' O O' := by
  obtain ⟨h1, h0, m, dv, V, T, rfl, h2, h4⟩ := h
  refine (plAdd_any g m dv V T s w1 h2 id hid A n c l hr hn).mono ?_
  rintro e w' ⟨rfl, V', h5, h6⟩
  exact ⟨rfl, _, PN.did h1 h0 h4 h5 h6⟩
theorem pnAsk (h : PN w w1 O g s) (worker tick : Int) (hN : s.tries.length ≤ 1000000000) :
    Calls Try.prog 14 #[.pointer (some ⟨g, 0, none⟩), .int .i64 worker, .int .i64 tick] w1 fun e w' => ∃ A c, e = .returned (.tuple #[.agg #[.int .i64 (Pl.ask s worker tick).2.id, .slice A (Pl.ask s worker tick).2.body.length c], .int .i64 (Pl.ask s worker tick).2.num, .bool (Pl.ask s worker tick).2.is, .int .i64 (Pl.ask s worker tick).2.err]) ∧
      ByT w' (fun k => w1.heap.size ≤ k) (.slice A (Pl.ask s worker tick).2.body.length c) (Pl.ask s worker tick).2.body ∧ ∃ O', PN w w' O' g (Pl.ask s worker tick).1 ∧ PStep w1 w' O O' ∧ ∀ k, Go.Mem.blk A = some k → ¬ O' k := by
  obtain ⟨h1, h0, m, dv, V, T, rfl, h2, h4⟩ := h
  refine (plAsk_any g m dv V T s w1 h2 worker tick hN).mono ?_
  rintro e w' ⟨A, c, rfl, V', ⟨A', c', hv, r1, r2, r3, r4⟩, h5, h6⟩
  injection hv with hA hn hc
  subst hA hc
  obtain ⟨q1, q2⟩ := PN.did h1 h0 h4 h5 h6
  exact ⟨A, c, rfl, ⟨A, c, rfl, r1, r2, r3, fun k hk => ⟨(r4 k hk).1, (r4 k hk).2.1⟩⟩, _, q1, q2, fun k hk => (r4 k hk).2.2⟩
theorem pnAnswer (h : PN w w1 O g s) (task worker num tick : Int) (htask : Go.Mem.I64 task) (hnum : Go.Mem.I64 num) (A : Option Addr) (n c : Nat) (l : List UInt8) (hr : Rd w1 A n (bs l)) (hn : n ≤ 1000000000) (hA : ∀ k, Go.Mem.blk A = some k → ¬ O k) :
    Calls Try.prog 15 #[.pointer (some ⟨g, 0, none⟩), .agg #[.int .i64 task, .int .i64 worker, .int .i64 num, .slice A n c], .int .i64 tick] w1 fun e w' => e = .returned (.tuple #[.bool (answer s task worker num l tick).2.1, .int .i64 (answer s task worker num l tick).2.2]) ∧ ∃ O', PN w w' O' g (answer s task worker num l tick).1 ∧ PStep w1 w' O O' := by
  obtain ⟨h1, h0, m, dv, V, T, rfl, h2, h4⟩ := h
  refine (plAnswer_any g m dv V T s w1 h2 task worker num tick htask hnum A n c l hr hn hA).mono ?_
  rintro e w' ⟨rfl, V', h5, h6⟩
  exact ⟨rfl, _, PN.did h1 h0 h4 h5 h6⟩
theorem pnAnswer0 (h : PN w w1 O g s) (task worker num tick : Int) (htask : Go.Mem.I64 task) (hnum : Go.Mem.I64 num) :
    Calls Try.prog 15 #[.pointer (some ⟨g, 0, none⟩), .agg #[.int .i64 task, .int .i64 worker, .int .i64 num, .slice none 0 0], .int .i64 tick] w1 fun e w' => e = .returned (.tuple #[.bool (answer s task worker num [] tick).2.1, .int .i64 (answer s task worker num [] tick).2.2]) ∧ ∃ O', PN w w' O' g (answer s task worker num [] tick).1 ∧ PStep w1 w' O O' :=
  pnAnswer h task worker num tick htask hnum none 0 0 [] (Rd.nil _ _) (by omega) (fun k hk => by cases hk)
theorem pnOpen (h : PN w w1 O g s) : Calls Try.prog 13 #[.pointer (some ⟨g, 0, none⟩)] w1 fun e w' => ∃ A c, e = .returned (.slice A (opens s).length c) ∧ w'.ownsRow w1.heap.size 3 1 (.slice A (opens s).length c) (opens s).length (is (opens s)) ∧ PN w w' O g s ∧ New w1 w' := by
  have h9 := h
  obtain ⟨h1, h0, m, dv, V, T, rfl, h2, h4⟩ := h
  refine (plOpen_any g m dv V T s w1 h2).mono ?_
  rintro e w' ⟨A, c, rfl, h5, h6⟩
  exact ⟨A, c, rfl, h5, h9.new h6, h6⟩
end
end Go.Proofs.Ytbmplfhcdkeooaa
