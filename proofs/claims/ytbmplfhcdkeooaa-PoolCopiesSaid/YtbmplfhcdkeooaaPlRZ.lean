/- A pool that the call has made, with what lies beside it and may change: contracts; a row of replies beside it. -/
import Derived.Test.YtbmplfhcdkeooaaPlQZ
set_option linter.unusedSimpArgs false
set_option linter.unusedVariables false
namespace Go.Proofs.Ytbmplfhcdkeooaa
set_option linter.unusedVariables false
open Go.RowKit Go.Mem Go.Pl

/-- The pool at g is the call's own; O: the blocks that it changes; Z: these and the bytes that it keeps. -/
def P2 (w w' : World) (O Z : Nat → Prop) (g : Nat) (s : S) : Prop := New w w' ∧ (∀ k, Z k → w.heap.size ≤ k) ∧ ∃ m dv V T, O = ownP g m dv V s ∧ Z = (fun k => ownP g m dv V s k ∨ T k) ∧ PI w' g m dv V T s
/-- What a call that changes it leaves. -/
structure P2Step (w w' : World) (O Z Z' : Nat → Prop) : Prop where
  chg : Chg O w w'
  sub : ∀ k, O k → Z k
  own : ∀ k, Z' k → Z k ∨ w.heap.size ≤ k
section
variable {w w1 w2 : World} {g b : Nat} {s : S} {O O' Z Z' : Nat → Prop} {t : TypeId} {cs : Array Value}
theorem P2.was (h : P2 w w1 O Z g s) : New w w1 := h.1
theorem P2.sub (h : P2 w w1 O Z g s) : ∀ k, O k → Z k := by
  obtain ⟨_, _, m, dv, V, T, rfl, rfl, _⟩ := h
  exact fun k hk => .inl hk
theorem P2.lt (h : P2 w w1 O Z g s) {k : Nat} (hk : Z k) : k < w1.heap.size := by
  obtain ⟨_, _, m, dv, V, T, rfl, rfl, h2⟩ := h
  rcases hk with hk | hk
  · exact h2.lt hk
  · exact (h2.sep k hk).1
theorem P2.chg {U : Nat → Prop} (h : P2 w w1 O Z g s) (hc : Chg U w1 w2) (hw : ∀ k, U k → w.heap.size ≤ k) (hU : ∀ k, Z k → ¬ U k) : P2 w w2 O Z g s := by
  obtain ⟨h1, h0, m, dv, V, T, rfl, rfl, h2⟩ := h
  exact ⟨h1.trans hc (fun k hk hu => by have := hw k hu; omega), h0, m, dv, V, T, rfl, rfl, h2.chg hc (fun k hk => hU k (.inl hk)) (fun k hk => hU k (.inr hk))⟩
theorem P2.new (h : P2 w w1 O Z g s) (hn : New w1 w2) : P2 w w2 O Z g s := h.chg hn (fun _ hf => hf.elim) (fun _ _ hf => hf)
theorem P2.did {m : Nat} {dv : Value} {V V' : Int → Loc} {T : Nat → Prop} {s' : S} (h1 : New w w1) (h0 : ∀ k, (ownP g m dv V s k ∨ T k) → w.heap.size ≤ k) (h5 : PI w2 g m dv V' (TP w1 w2 g m dv V' T s') s') (h6 : DidP w1 w2 g m dv V V' s s') :
    P2 w w2 (ownP g m dv V' s') (fun k => ownP g m dv V' s' k ∨ TP w1 w2 g m dv V' T s' k) g s' ∧ P2Step w1 w2 (ownP g m dv V s) (fun k => ownP g m dv V s k ∨ T k) (fun k => ownP g m dv V' s' k ∨ TP w1 w2 g m dv V' T s' k) := by
  have hz : ∀ k, (ownP g m dv V' s' k ∨ TP w1 w2 g m dv V' T s' k) → (ownP g m dv V s k ∨ T k) ∨ w1.heap.size ≤ k := fun k hk => by
    rcases hk with hk | hk | ⟨hk, _⟩
    · rcases h6.own k hk with h | h
      · exact .inl (.inl h)
      · exact .inr h
    · exact .inl (.inr hk)
    · exact .inr hk
  exact ⟨⟨h1.trans h6.chg (fun k hk ho => by have := h0 k (.inl ho); omega), fun k hk => by
      rcases hz k hk with h | h
      · exact h0 k h
      · exact Nat.le_trans h1.size h, m, dv, V', _, rfl, rfl, h5⟩, h6.chg, fun k hk => .inl hk, hz⟩
theorem P2Step.of_new (h : P2 w w1 O Z g s) (hn : New w1 w2) : P2Step w1 w2 O Z Z := ⟨hn.mono (fun _ _ hf => hf.elim), h.sub, fun k hk => .inl hk⟩
theorem P2Step.box (hs : P2Step w1 w2 O Z Z') (h : Box w1 Z b t cs) : Box w2 Z' b t cs := ⟨h.1.chg hs.chg (fun ho => h.2 (hs.sub _ ho)), fun ho => by
  rcases hs.own b ho with h1 | h1
  · exact h.2 h1
  · have := h.1.lt; omega⟩
theorem p2New (n : Nat) (timeout : Int) (hn : 1 ≤ n ∧ n ≤ 8) (ht : 1 ≤ timeout ∧ timeout ≤ 1099511627776) (w w0 : World) (hw : New w w0) :
    Calls Try.prog 10 #[.int .i64 (n : Int), .int .i64 timeout] w0 fun e w' => ∃ g O Z, e = .returned (.tuple #[.pointer (some ⟨g, 0, none⟩), .int .i64 0]) ∧ P2 w w' O Z g (new n timeout) ∧ New w0 w' := by
  refine (plNew_any n timeout hn ht (fun _ => ⟨0, .slice none 0 0, .slice none 0 0, .slice none 0 0⟩) w0).mono ?_
  rintro e w' ⟨g, m, dv, rfl, h1, h2, h3⟩
  have hp := h1 (fun _ => False) (fun k hk => hk.elim)
  exact ⟨g, _, _, rfl, ⟨hw.trans h2 (fun _ _ h => h), fun k hk => by
    rcases hk with hk | hk
    · exact Nat.le_trans hw.size (h3 k hk)
    · exact hk.elim, m, dv, _, fun _ => False, rfl, rfl, hp⟩, h2⟩
theorem p2Add (h : P2 w w1 O Z g s) (id : Int) (hid : Go.Mem.I64 id) (A : Option Addr) (n c : Nat) (l : List UInt8) (hr : Rd w1 A n (bs l)) (hn : n ≤ 1000000000) :
    Calls Try.prog 12 #[.pointer (some ⟨g, 0, none⟩), .agg #[.int .i64 id, .slice A n c]] w1 fun e w' => e = .returned (.int .i64 (add s id l).2) ∧ ∃ O' Z', P2 w w' O' Z' g (add s id l).1 ∧ P2Step w1 w' O Z Z' := by
  obtain ⟨h1, h0, m, dv, V, T, rfl, rfl, h2⟩ := h
  refine (plAdd_any g m dv V T s w1 h2 id hid A n c l hr hn).mono ?_
  rintro e w' ⟨rfl, V', h5, h6⟩
  exact ⟨rfl, _, _, P2.did h1 h0 h5 h6⟩
theorem p2Ask (h : P2 w w1 O Z g s) (worker tick : Int) (hN : s.tries.length ≤ 1000000000) :
    Calls Try.prog 14 #[.pointer (some ⟨g, 0, none⟩), .int .i64 worker, .int .i64 tick] w1 fun e w' => ∃ A c, e = .returned (.tuple #[.agg #[.int .i64 (Pl.ask s worker tick).2.id, .slice A (Pl.ask s worker tick).2.body.length c], .int .i64 (Pl.ask s worker tick).2.num, .bool (Pl.ask s worker tick).2.is, .int .i64 (Pl.ask s worker tick).2.err]) ∧
      ByT w' (fun k => w1.heap.size ≤ k) (.slice A (Pl.ask s worker tick).2.body.length c) (Pl.ask s worker tick).2.body ∧ ∃ O' Z', P2 w w' O' Z' g (Pl.ask s worker tick).1 ∧ P2Step w1 w' O Z Z' := by
  obtain ⟨h1, h0, m, dv, V, T, rfl, rfl, h2⟩ := h
  refine (plAsk_any g m dv V T s w1 h2 worker tick hN).mono ?_
  rintro e w' ⟨A, c, rfl, V', ⟨A', c', hv, r1, r2, r3, r4⟩, h5, h6⟩
  injection hv with hA hn hc
  subst hA hc
  obtain ⟨q1, q2⟩ := P2.did h1 h0 h5 h6
  exact ⟨A, c, rfl, ⟨A, c, rfl, r1, r2, r3, fun k hk => ⟨(r4 k hk).1, (r4 k hk).2.1⟩⟩, _, _, q1, q2⟩
theorem p2Answer (h : P2 w w1 O Z g s) (task worker num tick : Int) (htask : Go.Mem.I64 task) (hnum : Go.Mem.I64 num) (A : Option Addr) (n c : Nat) (l : List UInt8) (hr : Rd w1 A n (bs l)) (hn : n ≤ 1000000000) (hA : ∀ k, Go.Mem.blk A = some k → ¬ Z k) :
    Calls Try.prog 15 #[.pointer (some ⟨g, 0, none⟩), .agg #[.int .i64 task, .int .i64 worker, .int .i64 num, .slice A n c], .int .i64 tick] w1 fun e w' => e = .returned (.tuple #[.bool (answer s task worker num l tick).2.1, .int .i64 (answer s task worker num l tick).2.2]) ∧ ∃ O' Z', P2 w w' O' Z' g (answer s task worker num l tick).1 ∧ P2Step w1 w' O Z Z' := by
  obtain ⟨h1, h0, m, dv, V, T, rfl, rfl, h2⟩ := h
  refine (plAnswer_any g m dv V T s w1 h2 task worker num tick htask hnum A n c l hr hn (fun k hk ho => hA k hk (.inl ho))).mono ?_
  rintro e w' ⟨rfl, V', h5, h6⟩
  exact ⟨rfl, _, _, P2.did h1 h0 h5 h6⟩
theorem p2Die (h : P2 w w1 O Z g s) (worker tick : Int) :
    Calls Try.prog 24 #[.pointer (some ⟨g, 0, none⟩), .int .i64 worker, .int .i64 tick] w1 fun e w' => e = .returned (.int .i64 (Pl.die s worker tick).2) ∧ P2 w w' O Z g (Pl.die s worker tick).1 ∧ P2Step w1 w' O Z Z := by
  obtain ⟨h1, h0, m, dv, V, T, rfl, rfl, h2⟩ := h
  refine (plDie_any g m dv V T s w1 h2 worker tick).mono ?_
  rintro e w' ⟨rfl, h5, h6⟩
  have hj : (Pl.die s worker tick).1.jobs = s.jobs := by
    by_cases hc : check s worker tick = 0
    · cases ha : s.alive.getD worker.toNat false with
      | true => rw [die_ok hc ha]
      | false => rw [die_dead hc ha]
    · rw [die_bad hc]
  have ho : ownP g m dv V s = ownP g m dv V (Pl.die s worker tick).1 := by funext x; unfold ownP; rw [hj]
  have hc : Chg (ownP g m dv V s) w1 w' := h6.mono (fun x _ e => by
    rcases e with e | e | ⟨i, hi, e⟩
    · exact .inl e
    · exact .inr (.inr (.inl e))
    · exact .inr (.inr (.inr ⟨i, hi, .inr e⟩)))
  exact ⟨rfl, ⟨h1.trans hc (fun k hk e => by have := h0 k (.inl e); omega), h0, m, dv, V, T, ho, by rw [ho], h5⟩, hc, fun k hk => .inl hk, fun k hk => .inl hk⟩
theorem p2Revive (h : P2 w w1 O Z g s) (worker : Int) :
    Calls Try.prog 26 #[.pointer (some ⟨g, 0, none⟩), .int .i64 worker] w1 fun e w' => e = .returned (.int .i64 (revive s worker).2) ∧ ∃ O' Z', P2 w w' O' Z' g (revive s worker).1 ∧ P2Step w1 w' O Z Z' := by
  obtain ⟨h1, h0, m, dv, V, T, rfl, rfl, h2⟩ := h
  refine (plRevive_any g m dv V T s w1 h2 worker).mono ?_
  rintro e w' ⟨rfl, h5, h6⟩
  exact ⟨rfl, _, _, P2.did h1 h0 h5 h6⟩
theorem p2Open (h : P2 w w1 O Z g s) : Calls Try.prog 13 #[.pointer (some ⟨g, 0, none⟩)] w1 fun e w' => ∃ A c, e = .returned (.slice A (opens s).length c) ∧ w'.ownsRow w1.heap.size 3 1 (.slice A (opens s).length c) (opens s).length (is (opens s)) ∧ P2 w w' O Z g s ∧ New w1 w' := by
  have h9 := h
  obtain ⟨h1, h0, m, dv, V, T, rfl, rfl, h2⟩ := h
  refine (plOpen_any g m dv V T s w1 h2).mono ?_
  rintro e w' ⟨A, c, rfl, h5, h6⟩
  exact ⟨A, c, rfl, h5, h9.new h6, h6⟩
theorem p2Done (h : P2 w w1 O Z g s) : Calls Try.prog 28 #[.pointer (some ⟨g, 0, none⟩)] w1 fun e w' => ∃ A c, e = .returned (.slice A (dones s).length c) ∧ RepsV w' w1.heap.size (.slice A (dones s).length c) (dones s) ∧ P2 w w' O Z g s ∧ New w1 w' := by
  have h9 := h
  obtain ⟨h1, h0, m, dv, V, T, rfl, rfl, h2⟩ := h
  refine (plDone_any g m dv V T s w1 h2).mono ?_
  rintro e w' ⟨v, rfl, h5, h6⟩
  obtain ⟨css, q1, q2⟩ := h5
  obtain ⟨A, c, rfl, _⟩ := ownN_shape q1
  exact ⟨A, c, rfl, ⟨css, q1, q2⟩, h9.new h6, h6⟩
theorem flatten4 {css : List (List Value)} (hl : ∀ y ∈ css, y.length = 4) {j i : Nat} {cs : List Value} {x : Value} (hj : css[j]? = some cs) (hi : i < 4) (hx : cs[i]? = some x) : css.flatten[j * 4 + i]? = some x := by
  induction css generalizing j with
  | nil => simp at hj
  | cons y r ih =>
    have hy := hl y (by simp)
    rw [List.flatten_cons]
    cases j with
    | zero =>
      have e : y = cs := by simpa using hj
      subst e
      rw [List.getElem?_append_left (by omega), Nat.zero_mul, Nat.zero_add]
      exact hx
    | succ j =>
      rw [List.getElem?_append_right (by omega), hy, show (j + 1) * 4 + i - 4 = j * 4 + i by omega]
      exact ih (fun z hz => hl z (by simp [hz])) (by simpa using hj)
/-- A row of replies beside the pool. -/
def LateV (w : World) (Z : Nat → Prop) (v : Value) (ds : List (Int × Ans)) : Prop :=
  ∃ css : List (List Value), w.ownsRow 0 38 4 v ds.length css.flatten ∧ css.length = ds.length ∧ (∀ (j : Nat) d, ds[j]? = some d → ∃ cs, css[j]? = some cs ∧ RepC w (fun k => ¬ Z k ∧ v.ownBlock ≠ some k) cs d) ∧ ∀ k, v.ownBlock = some k → ¬ Z k
variable {v : Value} {ds : List (Int × Ans)} {d : Int × Ans} {cl : List Value}
theorem LateV.nil (w : World) (Z : Nat → Prop) : LateV w Z (.slice none 0 0) [] := ⟨[], World.ownsRow_nil w 0 _ _, rfl, fun j o h => by simp at h, fun k hk => by cases hk⟩
theorem LateV.lt (h : LateV w Z v ds) {k : Nat} (hk : v.ownBlock = some k) : k < w.heap.size := by
  obtain ⟨css, h1, _⟩ := h
  exact (ownN_lt h1 hk).2
theorem LateV.shape (h : LateV w Z v ds) : ∃ A c, v = .slice A ds.length c ∧ ds.length ≤ c ∧ c ≤ maxLen := by
  obtain ⟨css, h1, _⟩ := h
  obtain ⟨A, c, q1, q2, q3, _⟩ := ownN_shape h1
  exact ⟨A, c, q1, q2, q3⟩
theorem P2Step.late (hs : P2Step w1 w2 O Z Z') (h : LateV w1 Z v ds) : LateV w2 Z' v ds := by
  have h9 := h
  obtain ⟨css, h1, h2, h3, h4⟩ := h
  have hz : ∀ k, k < w1.heap.size → ¬ Z k → ¬ Z' k := fun k hk hn ho => by
    rcases hs.own k ho with h | h
    · exact hn h
    · omega
  refine ⟨css, ownN_chg h1 hs.chg (fun k hk ho => h4 k hk (hs.sub k ho)), h2, fun j o ho => ?_, fun k hk => hz k (h9.lt hk) (h4 k hk)⟩
  obtain ⟨cs, q1, q2⟩ := h3 j o ho
  exact ⟨cs, q1, q2.chg hs.chg (fun k _ hk ho => hk.1 (hs.sub k ho)) (fun k hkl hk => ⟨hz k hkl hk.1, hk.2⟩)⟩
theorem LateV.new (h : LateV w1 Z v ds) (hn : New w1 w2) : LateV w2 Z v ds := by
  obtain ⟨css, h1, h2, h3, h4⟩ := h
  refine ⟨css, ownN_chg h1 hn (fun _ _ h => h), h2, fun j o ho => ?_, h4⟩
  obtain ⟨cs, q1, q2⟩ := h3 j o ho
  exact ⟨cs, q1, q2.chg hn (fun _ _ _ h => h) (fun _ _ h => h)⟩
/-- One of them: its cells, its bytes. -/
theorem LateV.at_ (h : LateV w Z v ds) {j : Nat} (hj : ds[j]? = some d) : ∃ ga c A ca, v = .slice (some ⟨ga, 0, none⟩) ds.length c ∧ w.cell? ⟨ga, j * 4, none⟩ = some (.int .i64 d.1) ∧ w.cell? ⟨ga, j * 4 + 1, none⟩ = some (.int .i64 d.2.worker) ∧ w.cell? ⟨ga, j * 4 + 2, none⟩ = some (.int .i64 d.2.num) ∧ w.cell? ⟨ga, j * 4 + 3, none⟩ = some (.slice A d.2.body.length ca) ∧
    Rd w A d.2.body.length (bs d.2.body) ∧ ∀ k, Go.Mem.blk A = some k → k < w.heap.size ∧ ¬ Z k := by
  obtain ⟨css, h1, h2, h3, h4⟩ := h
  obtain ⟨cs, q1, u, rfl, A, ca, rfl, q2, _, _, q3⟩ := h3 j d hj
  have hfl : ∀ (i : Nat) (x : Value), i < 4 → ([.int .i64 d.1, .int .i64 d.2.worker, .int .i64 d.2.num, .slice A d.2.body.length ca] : List Value)[i]? = some x → css.flatten[j * 4 + i]? = some x := fun i x hi hx => flatten4 (fun y hy => by
    obtain ⟨q, hq⟩ := List.getElem?_of_mem hy
    have hql := (List.getElem?_eq_some_iff.1 hq).1
    obtain ⟨d', hd'⟩ : ∃ d', ds[q]? = some d' := ⟨_, List.getElem?_eq_getElem (by omega)⟩
    obtain ⟨cs', p1, p2⟩ := h3 q d' hd'
    rw [hq] at p1
    injection p1 with p1
    rw [p1]
    exact p2.len) q1 hi hx
  obtain ⟨A0, c, hv, _⟩ := ownN_shape h1
  subst hv
  obtain ⟨ga, rfl, c0, _⟩ := ownN_cell h1 (hfl 0 _ (by omega) rfl)
  obtain ⟨_, e1, c1, _⟩ := ownN_cell h1 (hfl 1 _ (by omega) rfl)
  obtain ⟨_, e2, c2, _⟩ := ownN_cell h1 (hfl 2 _ (by omega) rfl)
  obtain ⟨_, e3, c3, _⟩ := ownN_cell h1 (hfl 3 _ (by omega) rfl)
  injection e1 with e1; injection e1 with e1; subst e1
  injection e2 with e2; injection e2 with e2; subst e2
  injection e3 with e3; injection e3 with e3; subst e3
  exact ⟨ga, c, A, ca, rfl, c0, c1, c2, c3, q2, fun k hk => ⟨(q3 k hk).1, (q3 k hk).2.1⟩⟩
/-- One more reply. -/
theorem LateV.app (h : LateV w Z v ds) (hZ : ∀ k, Z k → k < w.heap.size) {gb : Nat} (hc : RepC w (fun k => ¬ Z k ∧ v.ownBlock ≠ some k) cl d) (hg : ∀ j u, cl[j]? = some u → w.cell? ⟨gb, j, none⟩ = some u) (hn : ds.length ≤ 2000) :
    ∃ v' w', (Builtin.append_ #[59, 59] 59 #[v, .slice (some ⟨gb, 0, none⟩) 1 1]).run Try.prog w = .ok v' w' ∧ LateV w' Z v' (ds ++ [d]) ∧ Chg (fun k => v.ownBlock = some k) w w' ∧ ∀ k, v'.ownBlock = some k → v.ownBlock = some k ∨ k = w.heap.size := by
  have h9 := h
  obtain ⟨css, h1, h2, h3, h0⟩ := h
  have hl4 := hc.len
  obtain ⟨v', w', hr, ho, hgb, _, hbk⟩ := run_append_own_at (P := Try.prog) w 0 59 59 38 ((Try.prog.info? 38).get!) (((Try.prog.info? 38).get!).zero.get!) 4 48
    Try.underlying59 (by kernel_rfl) (by kernel_rfl) (by kernel_rfl) (by kernel_rfl) (by kernel_rfl) (by decide) v ds.length css.flatten h1 ⟨gb, 0, none⟩ 1 1 cl (by rw [hl4])
    (fun j u hu => by rw [Addr.add_lit, Nat.zero_add]; exact hg j u hu) (by obtain ⟨u, rfl, A, c, rfl, _⟩ := hc; simp [Value.oneCell']) (by simp only [maxLen]; omega) (by omega) (Nat.zero_le _)
  have hch : Chg (fun k => v.ownBlock = some k) w w' := (Chg.refl (fun k => v.ownBlock = some k) w).grown hgb (fun k hk _ => hk)
  have hbk' : ∀ k, v'.ownBlock = some k → v.ownBlock = some k ∨ k = w.heap.size := fun k hk => by
    rcases hbk with e | e
    · exact .inl (e ▸ hk)
    · rw [e] at hk; injection hk with hk; exact .inr hk.symm
  refine ⟨v', w', hr, ⟨css ++ [cl], by simpa using ho, by simp [h2], fun j o2 ho2 => ?_, fun k hk hz => ?_⟩, hch, hbk'⟩
  · by_cases hj : j < ds.length
    · rw [List.getElem?_append_left hj] at ho2
      obtain ⟨cs2, q1, q2⟩ := h3 j o2 ho2
      refine ⟨cs2, by rw [List.getElem?_append_left (by omega)]; exact q1, q2.chg hch (fun k _ hk => hk.2) (fun k hkl hk => ⟨hk.1, fun e => ?_⟩)⟩
      rcases hbk' k e with e | e
      · exact hk.2 e
      · omega
    · have e : j = ds.length := by
        have := (List.getElem?_eq_some_iff.1 ho2).1
        simp at this
        omega
      subst e
      have e2 : d = o2 := by simpa using ho2
      subst e2
      refine ⟨cl, by rw [← h2]; simp, hc.chg hch (fun k _ hk e => hk.2 e) (fun k hkl hk => ⟨hk.1, fun e => ?_⟩)⟩
      rcases hbk' k e with e | e
      · exact hk.2 e
      · omega
  · rcases hbk' k hk with e | e
    · exact h0 k e hz
    · have := hZ k hz; omega
end
end Go.Proofs.Ytbmplfhcdkeooaa
