/- The append law and small facts for walks inside a fence (range over a function). -/
import Derived.Test.YtffehmfjcglalaaMem
import Derived.RangeFuncNested
import Derived.RangeFuncBound
import Derived.RangeFuncCalls
import Derived.RangeFuncLeaves
import Derived.Shelf.Abstract
import Derived.Shelf.RegionOpen
import Derived.WalkKit
import Derived.OwnWalkIn
import Derived.TacticsInMore
import Derived.LoopNIn
import Derived.LoopIn
import Derived.Lib.ConvBytes
namespace Go.Mem
open Go.RowKit Go.Shelf

theorem wpListIn_app {F : Fence} {d : Nat} {P : Program} {w : World} {base : Nat} {t e : TypeId} {z : Value} {bytes : Nat} (hE : Elem P t e z bytes) {ops : Array Oper} {rest : List Oper} {o : Oper} {a : Act} {Q : Exit → Act → World → Prop} (hgd : o.guard = none) (s x : Operand)
    (ho : o.op = .call { callee := .builtin .append, args := #[s, x], argTypes := #[t, t] })
    {A0 : Option Addr} {n c0 : Nat} {xs : List Value} (hs : a.eval s = .slice A0 n c0) (hown : w.ownsRow base e 1 (.slice A0 n c0) n xs)
    {A : Option Addr} {m c : Nat} {news : List Value} (hx : a.eval x = .slice A m c) (hr : Rd w A m news) (h1 : ∀ u ∈ news, u.oneCell' = true)
    (h63 : n + m ≤ maxLen) (hbytes : (n + m) * bytes ≤ 140737488355328) (hbase : base ≤ w.heap.size)
    (h : ∀ A' c' w', w'.ownsRow base e 1 (.slice A' (n + m) c') (n + m) (xs ++ news) → w.grownBy w' (blk A0) → (blk A' = blk A0 ∨ blk A' = some w.heap.size) → wpListIn F d P ops Q rest (a.put o.dst (.slice A' (n + m) c')) w') :
    wpListIn F d P ops Q (o :: rest) a w := by
  refine wpListIn_plain hgd fun K hK => ?_
  obtain ⟨A', c', w', hrun, h2, h3, h4⟩ := run_app (P := P) hE o.type hown hr h1 h63 hbytes hbase
  unfold Oper.wpIn
  refine ⟨?_, ?_⟩
  · simp [Oper.about, ho, resolve, Target.leads, Sem.run_pure]
  · rw [Oper.semAt_plain F _ _ (by rw [ho]; intro c hc'; cases hc')]
    simp only [execOp, ho, resolve, invoke, builtin, Sem.run_bind, Sem.run_pure, Result.andThen_ok, List.map_toArray, List.map_cons, List.map_nil, hs, hx]
    rw [hrun]
    exact hK _ _ (h A' c' w' h2 h3 h4)

theorem blk_kept {W W' : World} {row : Option Nat} {g : Nat} {t : TypeId} {cs : Array Value} (hs : Blk W g t cs) (hg : W.grownBy W' row) (hr : ∀ r, row = some r → ∃ o : Obj, W.heap[r]? = some o ∧ o.isCells = false) : Blk W' g t cs :=
  hs.grown hg (fun e => by
    obtain ⟨o, ho, hc⟩ := hr g e
    unfold Blk at hs
    rw [hs] at ho
    cases ho
    simp [Obj.isCells] at hc)
theorem own_blk (g : Nat) (t : TypeId) {β : Type} (cs : β → Array Value) : Own (fun (x : β) W => Blk W g t (cs x)) := fun _ _ _ _ hs hg hr => blk_kept hs hg hr
theorem row_kept {W W' : World} {row : Option Nat} {base n c : Nat} {e : TypeId} {A : Option Addr} {xs : List Value} (hs : W.ownsRow base e 1 (.slice A n c) n xs) (hg : W.grownBy W' row) (hr : ∀ r, row = some r → ∃ o : Obj, W.heap[r]? = some o ∧ o.isCells = false) : W'.ownsRow base e 1 (.slice A n c) n xs := by
  refine ⟨hs.1, ?_⟩
  rcases hs.2 with h0 | ⟨g, cap, cur, hv, hb, hh, r⟩
  · exact .inl h0
  · refine .inr ⟨g, cap, cur, hv, hb, ?_, r⟩
    refine (hg.block g (Array.getElem?_eq_some_iff.1 hh).1 (fun e => ?_)).trans hh
    obtain ⟨o, ho, hc⟩ := hr g e.symm
    rw [hh] at ho
    cases ho
    simp [Obj.isCells] at hc
theorem rd_kept {W W' : World} {row : Option Nat} {n : Nat} {A : Option Addr} {xs : List Value} (hs : Rd W A n xs) (hg : W.grownBy W' row) (hr : ∀ r, row = some r → ∃ o : Obj, W.heap[r]? = some o ∧ o.isCells = false) : Rd W' A n xs :=
  ⟨hs.1, fun hn => by
    obtain ⟨ad, rfl, hc⟩ := hs.2 hn
    exact ⟨ad, rfl, fun j u hu => cell_kept (hc j u hu) hg hr⟩⟩

theorem conv_new (w : World) (e : TypeId) (s : ByteArray) : New w (Lib.bytesWorld w e s) :=
  ⟨rfl, rfl, rfl, by rw [Lib.bytesWorld_size]; omega, fun k hk _ => Lib.bytesWorld_at_old w e s k hk⟩
theorem conv_rd (w : World) (e : TypeId) (s : ByteArray) : Rd (Lib.bytesWorld w e s) (some ⟨w.heap.size, 0, none⟩) s.size (bs s.data.toList) := by
  refine ⟨by simp, fun _ => ⟨_, rfl, fun j u hu => ?_⟩⟩
  obtain ⟨c, hc, rfl⟩ := bs_at hu
  rw [Addr.add_lit, Nat.zero_add]
  have hj : j < s.size := by have := (List.getElem?_eq_some_iff.1 hc).1; simpa using this
  rw [Lib.bytesWorld_cell w e s j hj, List.getD_eq_getElem?_getD, hc]
  rfl

/-- The blocks of K are as they were. -/
def Keep (K : Nat → Prop) (W W' : World) : Prop := ∀ k, K k → W'.heap[k]? = W.heap[k]?
theorem Keep.refl (K : Nat → Prop) (W : World) : Keep K W W := fun _ _ => rfl
theorem Keep.trans {K : Nat → Prop} {A B C : World} (h : Keep K A B) (h' : Keep K B C) : Keep K A C := fun k hk => (h' k hk).trans (h k hk)
theorem Keep.cell {K : Nat → Prop} {W W' : World} (h : Keep K W W') {p : Addr} (hp : K p.block) : W'.cell? p = W.cell? p := World.cell?_of_block (h p.block hp)
theorem Keep.rd {K : Nat → Prop} {W W' : World} (h : Keep K W W') {A : Option Addr} {n : Nat} {xs : List Value} (hr : Rd W A n xs) (hA : ∀ k, blk A = some k → K k) : Rd W' A n xs :=
  ⟨hr.1, fun hn => by
    obtain ⟨ad, rfl, hc⟩ := hr.2 hn
    refine ⟨ad, rfl, fun j u hu => ?_⟩
    rw [h.cell (by rw [block_add]; exact hA _ rfl)]
    exact hc j u hu⟩
theorem Keep.of_chg {K S : Nat → Prop} {W W' : World} (h : Chg S W W') (hk : ∀ k, K k → k < W.heap.size ∧ ¬ S k) : Keep K W W' := fun k hK => h.block k (hk k hK).1 (hk k hK).2
/-- What only changes cells keeps everything else. -/
theorem KeepsOthers.of_grown {W W' : World} {row : Option Nat} {g : Nat} {t : TypeId} {cs : Array Value} {fz : Nat × Nat} (hg : W.grownBy W' row) (hrow : row = some g) (hb : W.heap[g]? = some (.cells cs t fz)) : KeepsOthers W W' :=
  ⟨hg.size, fun k o hk ho => (hg.block k (Array.getElem?_eq_some_iff.1 hk).1 (fun e => by
    rw [hrow] at e
    cases e
    rw [hb] at hk
    cases hk
    simp [Obj.isCells] at ho)).trans hk⟩
theorem KeepsOthers.of_app {W W' : World} {base n c : Nat} {e : TypeId} {A : Option Addr} {xs : List Value} (hs : W.ownsRow base e 1 (.slice A n c) n xs) (hg : W.grownBy W' (blk A)) : KeepsOthers W W' := by
  rcases hs.2 with ⟨hv, _⟩ | ⟨g, cap, cur, hv, hb, hh, r⟩
  · injection hv with hv
    subst hv
    exact ⟨hg.size, fun k o hk _ => (hg.block k (Array.getElem?_eq_some_iff.1 hk).1 (by simp [blk])).trans hk⟩
  · injection hv with hv
    subst hv
    exact KeepsOthers.of_grown hg rfl hh
end Go.Mem
