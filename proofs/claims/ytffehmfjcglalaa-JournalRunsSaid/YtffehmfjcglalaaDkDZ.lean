/- Contracts of disk.New, Read, Append. -/
import Derived.Test.YtffehmfjcglalaaDkCZ
set_option linter.unusedSimpArgs false
set_option linter.unusedVariables false
namespace Go.Proofs.Ytffehmfjcglalaa
set_option linter.unusedVariables false
open Go.RowKit Go.Mem Go.Dk

section
variable {w w' : World} {g m : Nat} {V V' : Nat → Value} {s : S}
/-- What a call that changes a disk changes. -/
structure Did (w w' : World) (g m : Nat) (V V' : Nat → Value) : Prop where
  chg : Chg (ownD g m V) w w'
  own : ∀ k, ownD g m V' k → ownD g m V k ∨ w.heap.size ≤ k
theorem Did.of_new (h : New w w') : Did w w' g m V V := ⟨h.mono (fun _ _ hf => hf.elim), fun k hk => .inl hk⟩
theorem Did.trans {w'' : World} {V'' : Nat → Value} (h : Did w w' g m V V') (h' : Did w' w'' g m V' V'') : Did w w'' g m V V'' :=
  ⟨h.chg.trans h'.chg (fun k hk ho => by
    rcases h.own k ho with h1 | h1
    · exact h1
    · omega), fun k hk => by
    rcases h'.own k hk with h1 | h1
    · exact h.own k h1
    · exact .inr (Nat.le_trans h.chg.size h1)⟩
theorem ownD_upd {i : Nat} {v : Value} {k : Nat} (h : ownD g m (upd V i v) k) : ownD g m V k ∨ blkV v = some k := by
  rcases h with h | h | ⟨j, hj⟩
  · exact .inl (.inl h)
  · exact .inl (.inr (.inl h))
  · by_cases e : j = i
    · subst e
      rw [upd_same] at hj
      exact .inr hj
    · rw [upd_other _ _ e] at hj
      exact .inl (.inr (.inr ⟨j, hj⟩))
/-- A file's row has changed. -/
theorem DI.put_row (h : DI w g m V s) {i d : Nat} {l : List UInt8} {v : Value} (hc : Chg (fun k => k = g ∨ k = m ∨ blkV (V i) = some k) w w') (hd : DC w' g m (upd V i v) (put s i l d)) (hr : RowV w' 5 IsU8 v (bs l)) (hb : ∀ k, blkV v = some k → blkV (V i) = some k ∨ w.heap.size ≤ k) (hw : WF (put s i l d)) :
    DI w' g m (upd V i v) (put s i l d) ∧ Did w w' g m V (upd V i v) := by
  have hch : Chg (ownD g m V) w w' := hc.mono (fun k _ hk => by
    rcases hk with h1 | h1 | h1
    · exact .inl h1
    · exact .inr (.inl h1)
    · exact .inr (.inr ⟨i, h1⟩))
  refine ⟨⟨hd, fun j => ?_, fun j1 j2 k h1 h2 => ?_, hw⟩, hch, fun k hk => ?_⟩
  · by_cases e : j = i
    · subst e
      simpa [put, upd_same] using hr
    · simp only [put, upd_other _ _ e]
      refine (h.rows j).chg hc (fun k hk hS => ?_)
      rcases hS with rfl | rfl | hS
      · exact (h.core.row_ne (h.rows j) hk).1 rfl
      · exact (h.core.row_ne (h.rows j) hk).2 rfl
      · exact e (h.apart j i k hk hS)
  · have one : ∀ j, j ≠ i → blkV (V j) = some k → blkV v = some k → False := fun j hj e1 e2 => by
      rcases hb k e2 with h3 | h3
      · exact hj (h.apart j i k e1 h3)
      · have := (h.rows j).lt e1; omega
    by_cases e1 : j1 = i <;> by_cases e2 : j2 = i
    · rw [e1, e2]
    · subst e1
      rw [upd_same] at h1
      rw [upd_other _ _ e2] at h2
      exact (one j2 e2 h2 h1).elim
    · subst e2
      rw [upd_same] at h2
      rw [upd_other _ _ e1] at h1
      exact (one j1 e1 h1 h2).elim
    · rw [upd_other _ _ e1] at h1
      rw [upd_other _ _ e2] at h2
      exact h.apart j1 j2 k h1 h2
  · rcases ownD_upd hk with h1 | h1
    · exact .inl h1
    · rcases hb k h1 with h2 | h2
      · exact .inl (.inr (.inr ⟨i, h2⟩))
      · exact .inr h2
/-- The plain cells have changed. -/
theorem DI.cells {s' : S} (h : DI w g m V s) (hf : s'.f = s.f ∧ s'.firm = s.firm) (hb : Blk w' g 68 (dCells s' m)) (hc : Chg (fun k => k = g) w w') (hw : WF s') : DI w' g m V s' ∧ Did w w' g m V V := by
  have he : entL V s' = entL V s := by unfold entL files; rw [hf.1, hf.2]
  refine ⟨⟨⟨hb, by rw [he]; exact h.core.map.chg hc (fun e => h.core.ne e.symm), fun i hi => ?_⟩, fun i => ?_, h.apart, hw⟩, hc.mono (fun k _ e => .inl e), fun k hk => .inl hk⟩
  · rw [hf.1] at hi
    rw [hf.2]
    exact h.core.nil i hi
  · rw [hf.1]
    exact (h.rows i).chg hc (fun k hk e => (h.core.row_ne (h.rows i) hk).1 e)
/-- A file's slice. -/
theorem DI.slice (h : DI w g m V s) (i : Nat) : ∃ A c, V i = .slice A (s.f i).length c ∧ (s.f i).length ≤ c ∧ c ≤ maxLen := by
  obtain ⟨A, c, h1, h2, h3⟩ := (h.rows i).shape
  rw [bs_length] at h1 h2
  exact ⟨A, c, h1, h2, h3⟩
end
section
variable (w : World) {m : Nat} {ops : Array Oper} {rest : List Oper} {o : Oper} {a : Act} {Q : Exit → Act → World → Prop}
/-- A file's content is looked up. -/
theorem wpList_file (hg : o.guard = none) (y x : Operand) (hop : o.op = Op.lookup 66 y x false) {V : Nat → Value} {s : S} {w0 : World} {g : Nat} (h : DC w0 g m V s) (hm : a.eval y = .map (some m)) (hmi : MI w Try.prog 3 m (entL V s)) {i : Nat} (hi : i < 64) (hx : a.eval x = .int .i64 (i : Int)) {A : Option Addr} {n c d : Nat} (hv : V i = .slice A n c) (hd : s.firm i = d)
    (hK : wpList Try.prog ops Q rest (a.put o.dst (.agg #[.slice A n c, .int .i64 (d : Int)])) w) : wpList Try.prog ops Q (o :: rest) a w := by
  refine wpList_lookI w hg y x false hop keyInt Try.underlying66 (zeroCt w) hm hmi (i64_file hi) hx ?_
  have := h.lk hi
  rw [hv, hd] at this
  simp only [Bool.false_eq_true, if_false]
  rw [this]
  exact hK
end

set_option maxHeartbeats 1000000 in
set_option maxRecDepth 100000 in
theorem dNew_any (room : Int) (hr : 0 ≤ room ∧ room ≤ 16777216) (w : World) :
    Calls Try.prog 30 #[.int .i64 room] w fun e w' => ∃ g m, e = .returned (.tuple #[.pointer (some ⟨g, 0, none⟩), .int .i64 0]) ∧ DI w' g m (fun _ => .slice none 0 0) (Dk.new room.toNat) ∧ New w w' ∧ w.heap.size ≤ g ∧ w.heap.size ≤ m := by
  obtain ⟨n, rfl⟩ := Int.eq_ofNat_of_zero_le hr.1
  have h1 : ((n : Int) < 0) = False := by simp
  have h2 : (16777216 < (n : Int)) = False := by simp; omega
  go_enter Try.func30, Try.ntmps30
  have hmk : ∀ w : World, (Instr.makeMap 66 none).run Try.prog w = .ok (.map (some w.heap.size)) (w.alloc (.map #[] 0)) := fun w => by kernel_rfl
  go_wp2
  go_ret2
  have h3 : Blk ((w.alloc (.map #[] 0)).alloc (.cells #[Value.int IntKind.i64 ↑n, Value.map (some w.heap.size), Value.bool false, Value.bool false, Value.int IntKind.i64 0] 68)) (w.heap.size + 1) 68 (dCells (Dk.new (n : Int).toNat) w.heap.size) := by
    have := Blk.new (w.alloc (.map #[] 0)) 68 #[Value.int IntKind.i64 ↑n, Value.map (some w.heap.size), Value.bool false, Value.bool false, Value.int IntKind.i64 0]
    simpa [dCells, Dk.new, show max (-1 : Int) 0 = 0 by decide] using this
  have h4 : MI ((w.alloc (.map #[] 0)).alloc (.cells #[Value.int IntKind.i64 ↑n, Value.map (some w.heap.size), Value.bool false, Value.bool false, Value.int IntKind.i64 0] 68)) Try.prog 3 w.heap.size (entL (fun _ => .slice none 0 0) (Dk.new (n : Int).toNat)) := by
    have he : entL (fun _ => Value.slice none 0 0) (Dk.new (n : Int).toNat) = [] := by
      refine List.eq_nil_iff_forall_not_mem.2 (fun p hp => ?_)
      obtain ⟨i, _, h, _⟩ := mem_entL.1 hp
      exact h rfl
    rw [he]
    exact (MI.made w Try.prog 3).chg ((Chg.refl (fun _ => False) _).alloc _) (fun h => h)
  exact ⟨w.heap.size + 1, w.heap.size, by rfl, ⟨⟨h3, h4, fun i _ => ⟨rfl, rfl⟩⟩, fun i => RowV.nil _ _ _, (fun i j k hk _ => by cases hk), WF.new (by omega)⟩, ((Chg.refl _ w).alloc _).alloc _, by omega, Nat.le_refl _⟩
end Go.Proofs.Ytffehmfjcglalaa
