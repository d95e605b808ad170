/- The steps of PoolOnce: the pool, the rows of tries and answers beside it, boxes. -/
import Derived.Test.YtbmplfhcdkeooaaPlR
import Derived.Test.YtbmplfhcdkeooaaPurePl5
import Derived.Test.YtbmplfhcdkeooaaScrB
namespace Go.Proofs.Ytbmplfhcdkeooaa
set_option linter.unusedVariables false
open Go.RowKit Go.Mem Go.Pl

abbrev Bxs := List (Nat × TypeId × Array Value)
def rows4 (lim : Int) (ts : List Tr) : List Value := is (ts.flatMap (onRow lim))
def rowA (al : List Nat) : List Value := is (al.map (fun x : Nat => (x : Int)))
/-- Within the loop of PoolOnce: the pool s at g; the row v of the tries ts, the row av of the answers al, boxes bx; the script lies between lo and w2. -/
structure OSz (O Z : Nat → Prop) (w w2 : World) (lo g : Nat) (lim : Int) (v av : Value) (bx : Bxs) (ts : List Tr) (al : List Nat) (s : S) (wr : World) : Prop where
  on : On lim s
  pl : P2 w wr O Z g s
  tr : wr.ownsRow w2.heap.size 58 4 v ts.length (rows4 lim ts)
  an : wr.ownsRow w2.heap.size 3 1 av 16 (rowA al)
  vz : ∀ k, v.ownBlock = some k → ¬ Z k
  az : ∀ k, av.ownBlock = some k → ¬ Z k
  zl : ∀ k, Z k → k < lo ∨ w2.heap.size ≤ k
  scr : Chg (fun k => k < lo) w2 wr
  sz : w.heap.size ≤ w2.heap.size
  lo_ : lo ≤ w2.heap.size
  bxs : ∀ b ∈ bx, Blk wr b.1 b.2.1 b.2.2 ∧ ¬ Z b.1 ∧ v.ownBlock ≠ some b.1 ∧ av.ownBlock ≠ some b.1
def OS (w w2 : World) (lo g : Nat) (lim : Int) (v av : Value) (bx : Bxs) (ts : List Tr) (al : List Nat) (s : S) (wr : World) : Prop := ∃ O Z, OSz O Z w w2 lo g lim v av bx ts al s wr
section
variable {w w1 w2 : World} {lo g : Nat} {lim : Int} {v av : Value} {bx : Bxs} {ts : List Tr} {al : List Nat} {s s' : S}
theorem OSz.step {O Z O' Z' : Nat → Prop} {w' : World} (h : OSz O Z w w2 lo g lim v av bx ts al s w1) (h1 : On lim s') (h2 : P2 w w' O' Z' g s') (hs : P2Step w1 w' O Z Z') : OSz O' Z' w w2 lo g lim v av bx ts al s' w' := by
  have hz : ∀ k, k < w1.heap.size → ¬ Z k → ¬ Z' k := fun k hk hn ho => by
    rcases hs.own k ho with h | h
    · exact hn h
    · omega
  refine ⟨h1, h2, ownN_chg h.tr hs.chg (fun k hk ho => h.vz k hk (hs.sub k ho)), ownN_chg h.an hs.chg (fun k hk ho => h.az k hk (hs.sub k ho)), fun k hk => hz k (ownN_lt h.tr hk).2 (h.vz k hk), fun k hk => hz k (ownN_lt h.an hk).2 (h.az k hk), fun k hk => ?_, h.scr.trans hs.chg (fun k hk ho => ?_), h.sz, h.lo_, fun b hb => ?_⟩
  · rcases hs.own k hk with h3 | h3
    · exact h.zl k h3
    · exact .inr (Nat.le_trans h.scr.size h3)
  · have := h.zl k (hs.sub k ho)
    omega
  · obtain ⟨q1, q2, q3⟩ := h.bxs b hb
    exact ⟨q1.chg hs.chg (fun ho => q2 (hs.sub _ ho)), hz _ q1.lt q2, q3⟩
theorem OSz.new {O Z : Nat → Prop} {w' : World} (h : OSz O Z w w2 lo g lim v av bx ts al s w1) (hn : New w1 w') : OSz O Z w w2 lo g lim v av bx ts al s w' := h.step h.on (h.pl.new hn) (P2Step.of_new h.pl hn)
theorem OS.new {w' : World} (h : OS w w2 lo g lim v av bx ts al s w1) (hn : New w1 w') : OS w w2 lo g lim v av bx ts al s w' := by
  obtain ⟨O, Z, h⟩ := h
  exact ⟨O, Z, h.new hn⟩
theorem OS.on (h : OS w w2 lo g lim v av bx ts al s w1) : On lim s := by obtain ⟨O, Z, h⟩ := h; exact h.on
theorem OS.was (h : OS w w2 lo g lim v av bx ts al s w1) : New w w1 := by obtain ⟨O, Z, h⟩ := h; exact h.pl.was
theorem OS.scr (h : OS w w2 lo g lim v av bx ts al s w1) : Chg (fun k => k < lo) w2 w1 := by obtain ⟨O, Z, h⟩ := h; exact h.scr
theorem OS.shape (h : OS w w2 lo g lim v av bx ts al s w1) : ∃ A c, v = .slice A ts.length c := by
  obtain ⟨O, Z, h⟩ := h
  obtain ⟨A, c, q1, _⟩ := ownN_shape h.tr
  exact ⟨A, c, q1⟩
theorem OS.bx_at (h : OS w w2 lo g lim v av bx ts al s w1) {b : Nat × TypeId × Array Value} (hb : b ∈ bx) : Blk w1 b.1 b.2.1 b.2.2 := by
  obtain ⟨O, Z, h⟩ := h
  exact (h.bxs b hb).1
/-- A box is made. -/
theorem OS.box (h : OS w w2 lo g lim v av bx ts al s w1) (t : TypeId) (cs : Array Value) : OS w w2 lo g lim v av ((w1.heap.size, t, cs) :: bx) ts al s (w1.alloc (.cells cs t)) := by
  have hn : New w1 (w1.alloc (.cells cs t)) := (Chg.refl _ _).alloc _
  obtain ⟨O, Z, h⟩ := h
  have h' := h.new hn
  refine ⟨O, Z, h'.on, h'.pl, h'.tr, h'.an, h'.vz, h'.az, h'.zl, h'.scr, h'.sz, h'.lo_, fun b hb => ?_⟩
  rcases List.mem_cons.1 hb with rfl | hb
  · refine ⟨Blk.new _ _ _, fun hz => ?_, fun e => ?_, fun e => ?_⟩
    · have := h.pl.lt hz; omega
    · have := (ownN_lt h.tr e).2; omega
    · have := (ownN_lt h.an e).2; omega
  · exact h'.bxs b hb
theorem OS.drop (h : OS w w2 lo g lim v av bx ts al s w1) (bx' : Bxs) (hs : ∀ b ∈ bx', b ∈ bx) : OS w w2 lo g lim v av bx' ts al s w1 := by
  obtain ⟨O, Z, h⟩ := h
  exact ⟨O, Z, h.on, h.pl, h.tr, h.an, h.vz, h.az, h.zl, h.scr, h.sz, h.lo_, fun b hb => h.bxs b (hs b hb)⟩
theorem rows4_at {l : List Tr} {k i : Nat} {t : Tr} {x : Int} (hk : l[k]? = some t) (hi : i < 4) (hx : (onRow lim t)[i]? = some x) : (rows4 lim l)[k * 4 + i]? = some (.int .i64 x) := by
  unfold rows4 is
  rw [List.getElem?_map]
  have : (l.flatMap (onRow lim))[k * 4 + i]? = some x := by
    induction l generalizing k with
    | nil => simp at hk
    | cons y r ih =>
      have hy : (onRow lim y).length = 4 := rfl
      rw [List.flatMap_cons]
      cases k with
      | zero =>
        have e : y = t := by simpa using hk
        subst e
        rw [List.getElem?_append_left (by omega), Nat.zero_mul, Nat.zero_add]
        exact hx
      | succ k =>
        rw [List.getElem?_append_right (by rw [Nat.succ_mul]; omega), hy, show (k + 1) * 4 + i - 4 = k * 4 + i by omega]
        exact ih (by simpa using hk)
  rw [this]
  rfl
/-- A row of the tries. -/
theorem OS.tr_at (h : OS w w2 lo g lim v av bx ts al s w1) {k : Nat} {t : Tr} (hk : ts[k]? = some t) : ∃ ga c, v = .slice (some ⟨ga, 0, none⟩) ts.length c ∧ w1.cell? ⟨ga, k * 4, none⟩ = some (.int .i64 t.task) ∧ w1.cell? ⟨ga, k * 4 + 1, none⟩ = some (.int .i64 t.worker) ∧ w1.cell? ⟨ga, k * 4 + 2, none⟩ = some (.int .i64 t.num) ∧ w1.cell? ⟨ga, k * 4 + 3, none⟩ = some (.int .i64 (if t.over then 0 else t.tick + lim)) ∧ w1.frozen? ⟨ga, k * 4 + 3, none⟩ = false := by
  obtain ⟨O, Z, h⟩ := h
  have h3 := h.tr
  obtain ⟨A0, c, hv, _⟩ := ownN_shape h3
  subst hv
  obtain ⟨ga, rfl, c0, _⟩ := ownN_cell h3 (rows4_at (i := 0) hk (by omega) rfl)
  obtain ⟨_, e1, c1, _⟩ := ownN_cell h3 (rows4_at (i := 1) hk (by omega) rfl)
  obtain ⟨_, e2, c2, _⟩ := ownN_cell h3 (rows4_at (i := 2) hk (by omega) rfl)
  obtain ⟨_, e3, c3, f3⟩ := ownN_cell h3 (rows4_at (i := 3) hk (by omega) rfl)
  injection e1 with e1; injection e1 with e1; subst e1
  injection e2 with e2; injection e2 with e2; subst e2
  injection e3 with e3; injection e3 with e3; subst e3
  exact ⟨ga, c, rfl, c0, c1, c2, c3, f3⟩
/-- An answer. -/
theorem OS.an_at (h : OS w w2 lo g lim v av bx ts al s w1) {k : Nat} {x : Nat} (hk : al[k]? = some x) : ∃ ga c, av = .slice (some ⟨ga, 0, none⟩) 16 c ∧ w1.cell? ⟨ga, k, none⟩ = some (.int .i64 (x : Int)) ∧ w1.frozen? ⟨ga, k, none⟩ = false := by
  obtain ⟨O, Z, h⟩ := h
  have h3 := h.an
  obtain ⟨A0, c, hv, _⟩ := ownN_shape h3
  subst hv
  have : (rowA al)[k]? = some (.int .i64 (x : Int)) := by unfold rowA is; rw [List.getElem?_map, List.getElem?_map, hk]; rfl
  obtain ⟨ga, rfl, c0, f0⟩ := ownN_cell h3 this
  exact ⟨ga, c, rfl, c0, f0⟩
theorem OS.alen (h : OS w w2 lo g lim v av bx ts al s w1) : al.length = 16 := by
  obtain ⟨O, Z, h⟩ := h
  have := h.an.1
  simpa [rowA, is] using this
/-- The start. -/
theorem OS.start {O Z : Nat → Prop} {w' : World} (hl : On lim s) (hp : P2 w w1 O Z g s) (hn : New w1 w2) (hw : New w2 w') (ha : w'.ownsRow w2.heap.size 3 1 av 16 (rowA al)) : OS w w2 w1.heap.size g lim (.slice none 0 0) av [] [] al s w' := by
  have h2 := (hp.new hn).new hw
  exact ⟨O, Z, hl, h2, World.ownsRow_nil _ _ _ _, ha, fun k hk => by (cases hk), fun k hk hz => by (have := hp.lt hz; have := (ownN_lt ha hk).1; have := hn.size; omega), fun k hk => .inl (hp.lt hk), hw.mono (fun _ _ h => h.elim), Nat.le_trans hp.was.size hn.size, hn.size, fun b hb => by simp at hb⟩
/-! ### the calls -/
theorem OS.add (h : OS w w2 lo g lim v av bx (s.tries) (ansL s) s w1) (id : Int) (hi : -1 ≤ id ∧ id ≤ 12) : Calls Try.prog 12 #[.pointer (some ⟨g, 0, none⟩), .agg #[.int .i64 id, .slice none 0 0]] w1 fun e w' => (∃ r, e = .returned (.int .i64 r)) ∧ ∃ s', OS w w2 lo g lim v av bx s'.tries (ansL s') s' w' ∧ s'.tick = s.tick ∧ s'.tries = s.tries := by
  obtain ⟨O, Z, h⟩ := h
  refine (p2Add h.pl id (by unfold Go.Mem.I64; omega) none 0 0 [] (Rd.nil _ _) (by omega)).mono ?_
  rintro e w' ⟨rfl, O', Z', q1, q2⟩
  obtain ⟨d1, d2, d3, d4⟩ := h.on.add hi.2
  exact ⟨⟨_, rfl⟩, _, ⟨_, _, by rw [d2, d3]; exact h.step d1 q1 q2⟩, d4, d3⟩
theorem OS.die (h : OS w w2 lo g lim v av bx ts al s w1) (worker now : Int) : Calls Try.prog 24 #[.pointer (some ⟨g, 0, none⟩), .int .i64 worker, .int .i64 now] w1 fun e w' => e = .returned (.int .i64 (Pl.die s worker now).2) ∧ OS w w2 lo g lim v av bx ts al (Pl.die s worker now).1 w' := by
  obtain ⟨O, Z, h⟩ := h
  refine (p2Die h.pl worker now).mono ?_
  rintro e w' ⟨rfl, q1, q2⟩
  exact ⟨rfl, _, _, h.step (h.on.die worker now).1 q1 q2⟩
theorem OS.revive (h : OS w w2 lo g lim v av bx s.tries (ansL s) s w1) (worker : Int) : Calls Try.prog 26 #[.pointer (some ⟨g, 0, none⟩), .int .i64 worker] w1 fun e w' => (∃ r, e = .returned (.int .i64 r)) ∧ ∃ s', OS w w2 lo g lim v av bx s'.tries (ansL s') s' w' ∧ s'.tick = s.tick ∧ s'.tries = s.tries := by
  obtain ⟨O, Z, h⟩ := h
  refine (p2Revive h.pl worker).mono ?_
  rintro e w' ⟨rfl, O', Z', q1, q2⟩
  obtain ⟨d1, d2, d3, d4⟩ := h.on.revive worker
  exact ⟨⟨_, rfl⟩, _, ⟨_, _, by rw [d2, d4]; exact h.step d1 q1 q2⟩, d3, d4⟩
theorem OS.ask (h : OS w w2 lo g lim v av bx ts al s w1) (worker now : Int) (hN : s.tries.length ≤ 1000) : Calls Try.prog 14 #[.pointer (some ⟨g, 0, none⟩), .int .i64 worker, .int .i64 now] w1 fun e w' => ∃ A n c, e = .returned (.tuple #[.agg #[.int .i64 (Pl.ask s worker now).2.id, .slice A n c], .int .i64 (Pl.ask s worker now).2.num, .bool (Pl.ask s worker now).2.is, .int .i64 (Pl.ask s worker now).2.err]) ∧ OS w w2 lo g lim v av bx ts al (Pl.ask s worker now).1 w' := by
  obtain ⟨O, Z, h⟩ := h
  refine (p2Ask h.pl worker now (by omega)).mono ?_
  rintro e w' ⟨A, c, rfl, _, O', Z', q1, q2⟩
  exact ⟨A, _, c, rfl, _, _, h.step (h.on.ask worker now).1 q1 q2⟩
theorem OS.answer (h : OS w w2 lo g lim v av bx ts al s w1) {t : Tr} (ht : t ∈ s.tries) {now : Int} (hn : s.tick ≤ now ∧ now ≤ 1000000) {u : UInt8} (hu : 1 ≤ u.toNat ∧ u.toNat ≤ 40) (hN : s.tries.length ≤ 1000) {w3 : World} (hw : New w1 w3) {gb : Nat} (hg : w1.heap.size ≤ gb) (hb : Rd w3 (some ⟨gb, 0, none⟩) 1 (bs [u])) :
    Calls Try.prog 15 #[.pointer (some ⟨g, 0, none⟩), .agg #[.int .i64 t.task, .int .i64 t.worker, .int .i64 t.num, .slice (some ⟨gb, 0, none⟩) 1 1], .int .i64 now] w3 fun e w' => e = .returned (.tuple #[.bool (decide (ansOf s t.task = 0)), .int .i64 0]) ∧ OS w w2 lo g lim v av bx ts al (Pl.answer s t.task t.worker t.num [u] now).1 w' := by
  obtain ⟨O, Z, h⟩ := h
  have h3 := h.new hw
  obtain ⟨d0, d1, d2, d3, _⟩ := h.on.answer ht hn hu hN
  obtain ⟨⟨j, hj, ej⟩, _⟩ := h.on.wf.tr t ht
  have hnum : Go.Mem.I64 t.num := by
    have hmem : t ∈ triesOf s j.id := List.mem_filter.2 ⟨ht, by simp [ej]⟩
    obtain ⟨k, hk⟩ := List.getElem?_of_mem hmem
    have h1 := (h.on.wf.num j hj).2 k t hk
    have h2 := (List.getElem?_eq_some_iff.1 hk).1
    have h4 : (triesOf s j.id).length ≤ s.tries.length := List.length_filter_le _ _
    unfold Go.Mem.I64
    omega
  refine (p2Answer h3.pl t.task t.worker t.num now (by unfold Go.Mem.I64; omega) hnum (some ⟨gb, 0, none⟩) 1 1 [u] hb (by omega) (fun k hk hz => by have := h.pl.lt hz; injection hk with hk; have hk : gb = k := hk; omega)).mono ?_
  rintro e w' ⟨rfl, O', Z', q1, q2⟩
  exact ⟨by rw [d1, d2], _, _, h3.step d3 q1 q2⟩
/-- One more try. -/
theorem OS.app (h : OS w w2 lo g lim v av bx ts al s w1) (t : Tr) (hto : t.over = false) {gb : Nat} {w3 : World} (hw3 : w3 = w1.alloc (.cells #[.int .i64 t.task, .int .i64 t.worker, .int .i64 t.num, .int .i64 (t.tick + lim)] 58)) (hgb : gb = w1.heap.size) (hl : ts.length ≤ 2000) :
    ∃ v' w', (Builtin.append_ #[57, 57] 57 #[v, .slice (some ⟨gb, 0, none⟩) 1 1]).run Try.prog w3 = .ok v' w' ∧ OS w w2 lo g lim v' av bx (ts ++ [t]) al s w' ∧ (∃ A' c', v' = .slice A' (ts.length + 1) c') ∧ New w w' := by
  have hn : New w1 w3 := by rw [hw3]; exact (Chg.refl _ _).alloc _
  obtain ⟨O, Z, h⟩ := h
  have h3 := h.new hn
  have hb : Blk w3 gb 58 #[.int .i64 t.task, .int .i64 t.worker, .int .i64 t.num, .int .i64 (t.tick + lim)] := by rw [hw3, hgb]; exact Blk.new _ _ _
  obtain ⟨v', w', hr, ho, hgr, _, hbk⟩ := run_append_own_at (P := Try.prog) w3 w2.heap.size 57 57 58 ((Try.prog.info? 58).get!) (((Try.prog.info? 58).get!).zero.get!) 4 32
    Try.underlying57 (by kernel_rfl) (by kernel_rfl) (by kernel_rfl) (by kernel_rfl) (by kernel_rfl) (by decide) v ts.length (rows4 lim ts) h3.tr ⟨gb, 0, none⟩ 1 1 (rows4 lim [t]) (by simp [rows4, is, onRow])
    (fun j u hu => by rw [Addr.add_lit, Nat.zero_add]; refine hb.cell j ?_; simpa [rows4, is, onRow, hto] using hu) (by simp [rows4, is, onRow, Value.oneCell']) (by simp only [maxLen]; omega) (by omega) (h3.scr.size)
  have hch : Chg (fun k => v.ownBlock = some k) w3 w' := (Chg.refl (fun k => v.ownBlock = some k) w3).grown hgr (fun k hk _ => hk)
  have hbk' : ∀ k, v'.ownBlock = some k → v.ownBlock = some k ∨ k = w3.heap.size := fun k hk => by
    rcases hbk with e | e
    · exact .inl (e ▸ hk)
    · rw [e] at hk; injection hk with hk; exact .inr hk.symm
  have hvb : ∀ k, v.ownBlock = some k → w2.heap.size ≤ k := fun k hk => (ownN_lt h.tr hk).1
  have hpl := h3.pl.chg hch (fun k hk => Nat.le_trans h.sz (hvb k hk)) (fun k hz hk => h.vz k hk hz)
  have hav : ∀ k, v.ownBlock = some k → av.ownBlock ≠ some k := fun k hk => by
    obtain ⟨cs, hbk⟩ := ownN_blk h.tr hk
    exact ownN_ne h.an hbk (by decide)
  have ho' : w'.ownsRow w2.heap.size 58 4 v' (ts ++ [t]).length (rows4 lim (ts ++ [t])) := by
    have e : rows4 lim (ts ++ [t]) = rows4 lim ts ++ rows4 lim [t] := by simp [rows4, is]
    rw [e, List.length_append, List.length_singleton]
    exact ho
  obtain ⟨A', c', hv', _⟩ := ownN_shape ho'
  rw [List.length_append, List.length_singleton] at hv'
  refine ⟨v', w', hr, ⟨O, Z, h.on, hpl, ho', ownN_chg h3.an hch (fun k hk e => hav k e hk), fun k hk hz => ?_, h.az, h.zl, h3.scr.trans hch (fun k hk e => by have := hvb k e; omega), h.sz, h.lo_, fun b hb => ?_⟩, ⟨A', c', hv'⟩, hpl.was⟩
  · rcases hbk' k hk with e | e
    · exact h.vz k e hz
    · have := h3.pl.lt hz; omega
  · obtain ⟨q1, q2, q3, q4⟩ := h3.bxs b hb
    refine ⟨q1.chg hch q3, q2, fun e => ?_, q4⟩
    rcases hbk' _ e with e | e
    · exact q3 e
    · have := q1.lt; omega
theorem rows4_set {l : List Tr} {k : Nat} {t : Tr} (hk : l[k]? = some t) : (rows4 lim l).set (k * 4 + 3) (.int .i64 0) = rows4 lim (l.set k { t with over := true }) := by
  induction l generalizing k with
  | nil => simp at hk
  | cons y r ih =>
    have e : ∀ (z : Tr) (q : List Tr), rows4 lim (z :: q) = .int .i64 z.task :: .int .i64 z.worker :: .int .i64 z.num :: .int .i64 (if z.over then 0 else z.tick + lim) :: rows4 lim q := fun z q => by simp [rows4, is, onRow]
    cases k with
    | zero =>
      have e2 : y = t := by simpa using hk
      subst e2
      rw [List.set_cons_zero, e, e]
      simp
    | succ k =>
      rw [List.set_cons_succ, e, e, ← ih (by simpa using hk), show (k + 1) * 4 + 3 = k * 4 + 3 + 1 + 1 + 1 + 1 by omega]
      simp
/-- A try is marked. -/
theorem OS.mark (h : OS w w2 lo g lim v av bx ts al s w1) {k : Nat} {t : Tr} (hk : ts[k]? = some t) {ga c : Nat} (hv : v = .slice (some ⟨ga, 0, none⟩) ts.length c) : OS w w2 lo g lim v av bx (ts.set k { t with over := true }) al s (w1.setCell ⟨ga, k * 4 + 3, none⟩ (.int .i64 0)) := by
  obtain ⟨O, Z, h⟩ := h
  have hkl := (List.getElem?_eq_some_iff.1 hk).1
  have hvb : v.ownBlock = some ga := by rw [hv]; rfl
  have hch : Chg (fun k => k = ga) w1 (w1.setCell ⟨ga, k * 4 + 3, none⟩ (.int .i64 0)) := (Chg.refl (fun k => k = ga) w1).setCell (p := ⟨ga, k * 4 + 3, none⟩) (fun _ => rfl) _
  have hg2 := (ownN_lt h.tr hvb).1
  obtain ⟨cs, hbk⟩ := ownN_blk h.tr hvb
  have hav : av.ownBlock ≠ some ga := ownN_ne h.an hbk (by decide)
  have htr := h.tr
  rw [hv] at htr
  have ho := ownN_set htr (i := k * 4 + 3) (by omega) (.int .i64 0)
  rw [rows4_set hk] at ho
  refine ⟨O, Z, h.on, h.pl.chg hch (fun k e => by have := h.sz; omega) (fun k hz e => h.vz k (by rw [e]; exact hvb) hz), by rw [hv, List.length_set]; exact ho, ownN_chg h.an hch (fun k hk e => hav (e ▸ hk)), h.vz, h.az, h.zl, h.scr.trans hch (fun k hk e => by omega), h.sz, h.lo_, fun b hb => ?_⟩
  obtain ⟨q1, q2, q3, q4⟩ := h.bxs b hb
  exact ⟨q1.chg hch (fun e => q3 (by rw [e]; exact hvb)), q2, q3, q4⟩
/-- An answer is kept. -/
theorem OS.keep (h : OS w w2 lo g lim v av bx ts al s w1) {k : Nat} (hk : k < 16) (x : Nat) {ga c : Nat} (hv : av = .slice (some ⟨ga, 0, none⟩) 16 c) : OS w w2 lo g lim v av bx ts (al.set k x) s (w1.setCell ⟨ga, k, none⟩ (.int .i64 (x : Int))) := by
  obtain ⟨O, Z, h⟩ := h
  have hvb : av.ownBlock = some ga := by rw [hv]; rfl
  have hch : Chg (fun k => k = ga) w1 (w1.setCell ⟨ga, k, none⟩ (.int .i64 (x : Int))) := (Chg.refl (fun k => k = ga) w1).setCell (p := ⟨ga, k, none⟩) (fun _ => rfl) _
  have hg2 := (ownN_lt h.an hvb).1
  obtain ⟨cs, hbk⟩ := ownN_blk h.an hvb
  have hav : v.ownBlock ≠ some ga := ownN_ne h.tr hbk (by decide)
  have han := h.an
  rw [hv] at han
  have ho := ownN_set han (i := k) (by omega) (.int .i64 (x : Int))
  have e : (rowA al).set k (.int .i64 (x : Int)) = rowA (al.set k x) := by simp [rowA, is, List.map_set]
  rw [e] at ho
  refine ⟨O, Z, h.on, h.pl.chg hch (fun k e => by have := h.sz; omega) (fun k hz e => h.az k (by rw [e]; exact hvb) hz), ownN_chg h.tr hch (fun k hk e => hav (e ▸ hk)), by rw [hv]; exact ho, h.vz, h.az, h.zl, h.scr.trans hch (fun k hk e => by omega), h.sz, h.lo_, fun b hb => ?_⟩
  obtain ⟨q1, q2, q3, q4⟩ := h.bxs b hb
  exact ⟨q1.chg hch (fun e => q4 (by rw [e]; exact hvb)), q2, q3, q4⟩
/-- What Done returns in the end. -/
theorem OS.done (h : OS w w2 lo g lim v av bx ts al s w1) : Calls Try.prog 28 #[.pointer (some ⟨g, 0, none⟩)] w1 fun e w' => ∃ A c, e = .returned (.slice A (dones s).length c) ∧ LateV w' (fun _ => False) (.slice A (dones s).length c) (dones s) ∧ OS w w2 lo g lim v av bx ts al s w' := by
  obtain ⟨O, Z, h⟩ := h
  refine (p2Done h.pl).mono ?_
  rintro e w' ⟨A, c, rfl, q1, q2, q3⟩
  obtain ⟨css, h1, h2, h3⟩ := q1
  refine ⟨A, c, rfl, ⟨css, ownN_base h1 (Nat.zero_le _), h2, fun j d hd => ?_, fun _ _ h => h⟩, O, Z, h.new q3⟩
  obtain ⟨cs, r1, r2⟩ := h3 j d hd
  exact ⟨cs, r1, r2.chg (Chg.refl (fun _ => False) _) (fun _ _ _ h => h) (fun k _ hk => ⟨fun h => h, hk.2⟩)⟩
end
end Go.Proofs.Ytbmplfhcdkeooaa
