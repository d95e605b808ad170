/- Contract of pool: Ask. -/
import Derived.Test.YtbmplfhcdkeooaaPlKZ
import Derived.Test.YtbmplfhcdkeooaaBridge
set_option linter.unusedSimpArgs false
set_option linter.unusedVariables false
namespace Go.Mem
theorem step_appN {P : Program} {o : Oper} {a : Act} {K : Act → World → Prop} {Q : Exit → Act → World → Prop} {w w' : World} (hgd : o.guard = none) (s x : Operand) (t : TypeId) (ho : o.op = .call { callee := .builtin .append, args := #[s, x], argTypes := #[t, t] }) {v y v' : Value} (hsv : a.eval s = v) (hyv : a.eval x = y)
    (hrun : (Builtin.append_ #[t, t] o.type #[v, y]).run P w = .ok v' w') (h : K (a.put o.dst v') w') : Oper.wp P o a w K Q := by
  unfold Oper.wp execOp
  simp only [ho, resolve, invoke, builtin, Sem.run_bind, Sem.run_pure, Result.andThen_ok, List.map_toArray, List.map_cons, List.map_nil, hsv, hyv]
  rw [hrun]
  exact h
end Go.Mem
namespace Go.Proofs.Ytbmplfhcdkeooaa
set_option linter.unusedVariables false
open Go.RowKit Go.Shelf Go.Mem Go.Pl
attribute [local go_sem] Oper.semAt_some

theorem DidP.trans {w w1 w2 : World} {g m : Nat} {dv : Value} {V V1 V2 : Int → Loc} {s s1 s2 : S} (h : DidP w w1 g m dv V V1 s s1) (h' : DidP w1 w2 g m dv V1 V2 s1 s2) : DidP w w2 g m dv V V2 s s2 :=
  ⟨h.chg.trans h'.chg (fun k hk ho => by
      rcases h.own k ho with h1 | h1
      · exact h1
      · omega), fun k hk => by
    rcases h'.own k hk with h1 | h1
    · exact h.own k h1
    · exact .inr (Nat.le_trans h.chg.size h1)⟩
theorem PI.tp_trans {w w1 w2 : World} {g m : Nat} {dv : Value} {V V1 V2 : Int → Loc} {T : Nat → Prop} {s s1 s2 : S} (h0 : PI w g m dv V T s) (hd : DidP w w1 g m dv V V1 s s1) (h : PI w2 g m dv V2 (TP w1 w2 g m dv V2 (TP w w1 g m dv V1 T s1) s2) s2) (hd' : DidP w1 w2 g m dv V1 V2 s1 s2) : PI w2 g m dv V2 (TP w w2 g m dv V2 T s2) s2 :=
  h.up (fun k hk hT => by
    have hns := (h.sep k hT).2
    rcases hT with (h1 | ⟨h1, h2, h3⟩) | ⟨h1, h2, h3⟩
    · exact .inl h1
    · exact .inr ⟨h1, hk, hns⟩
    · exact .inr ⟨Nat.le_trans hd.chg.size h1, hk, hns⟩) (DidP.sep h0 (hd.trans hd'))
/-- A try is given out: the task's tries grow. -/
theorem PI.gave {w w' : World} {g m : Nat} {dv : Value} {V : Int → Loc} {T : Nat → Prop} {s : S} (h : PI w g m dv V T s) {k : Nat} {j : Job} (hj : s.jobs[k]? = some j) {worker tick : Int} {tv : Value} (htk : s.tick = tick) (hwf : WF (giveOut s worker tick k j)) (hc : Chg (fun x => x = (V j.id).tb ∨ (V j.id).tv.ownBlock = some x) w w')
    (ht : Blk w' (V j.id).tb 94 (tCells j { V j.id with tv := tv })) (hr : w'.ownsRow 0 100 3 tv (j.n + 1) (trsV (triesOf s j.id ++ [⟨j.id, (j.n : Int), worker, tick, false⟩]))) (hrn : ∀ x, tv.ownBlock = some x → (V j.id).tv.ownBlock = some x ∨ w.heap.size ≤ x) :
    ∃ V', PI w' g m dv V' (TP w w' g m dv V' T (giveOut s worker tick k j)) (giveOut s worker tick k j) ∧ DidP w w' g m dv V V' s (giveOut s worker tick k j) := by
  have hjm := List.mem_of_getElem? hj
  obtain ⟨a1, a2, a3⟩ := h.apart
  have hng : ¬ (g = (V j.id).tb ∨ (V j.id).tv.ownBlock = some g) := fun e => by
    rcases e with e | e
    · exact (a1 j hjm).1 e.symm
    · exact (a1 j hjm).2.1 e
  have hnT : ∀ x, T x → ¬ (x = (V j.id).tb ∨ (V j.id).tv.ownBlock = some x) := fun x hx e => (h.sep x hx).2 (.inr (.inr (.inr ⟨j, hjm, e⟩)))
  obtain ⟨V', hv, q1, q2⟩ := h.put (s' := giveOut s worker tick k j) (j' := { j with n := j.n + 1 }) (L' := { V j.id with tv := tv }) hj rfl rfl rfl (fun i hi => by rw [triesOf_giveOut, if_neg (fun e => hi e.symm), List.append_nil]) hwf (hc.mono (fun x _ e => .inr e)) (by
      have := h.blk.chg hc hng
      unfold pCells at this ⊢
      rw [htk] at this
      exact this) rfl ht (((h.body j hjm).chg hc hnT).up (fun x _ hx => .inl hx)) (by rw [triesOf_giveOut, if_pos rfl]; exact hr) hrn (((h.ans j hjm).chg hc hnT).up (fun x _ hx => .inl hx))
  exact ⟨V', q1, q2⟩
/-- What lies there when a try was given out. -/
def AskX (w W : World) (g m : Nat) (dv : Value) (V : Int → Loc) (T : Nat → Prop) (s s1 : S) (worker tick : Int) : Prop :=
  ∃ k j Ab cb V', s1.jobs[k]? = some j ∧ next s1 tick = some k ∧ Blk W (w.heap.size + 1 + 1 + 1) 30 #[.int .i64 j.id, .slice Ab j.body.length cb] ∧ Blk W (w.heap.size + 1 + 1 + 1 + 1) 3 #[.int .i64 (j.n : Int)] ∧ Blk W (w.heap.size + 1 + 1 + 1 + 1 + 1) 4 #[.bool true] ∧ Blk W (w.heap.size + 1 + 1 + 1 + 1 + 1 + 1) 23 #[.int .i64 0] ∧
    ByT W (fun b => w.heap.size ≤ b ∧ ¬ ownP g m dv V' (giveOut s1 worker tick k j) b) (.slice Ab j.body.length cb) j.body ∧ PI W g m dv V' (TP w W g m dv V' T (giveOut s1 worker tick k j)) (giveOut s1 worker tick k j) ∧ DidP w W g m dv V V' s (giveOut s1 worker tick k j)
theorem AskX.stab {w : World} {g m B : Nat} {dv : Value} {V : Int → Loc} {T : Nat → Prop} {s s1 : S} {worker tick : Int} (hp : PI w g m dv V T s) (hB : w.heap.size ≤ B) : Stab B (fun W => AskX w W g m dv V T s s1 worker tick) := by
  rintro W W' row ⟨k, j, Ab, cb, V', h1, h2, h3, h4, h5, h6, h7, h8, h9⟩ hg hr
  have hm : m < B := Nat.lt_of_lt_of_le hp.map.lt hB
  have hk : ∀ r, row = some r → ∃ o : Obj, W.heap[r]? = some o ∧ o.isCells = false := fun r e => (hr r e).2
  have hd : DidP w W' g m dv V V' s (giveOut s1 worker tick k j) := ⟨h9.chg.grown hg (fun r e hlt => by have := (hr r e).1; omega), h9.own⟩
  obtain ⟨A', c', hv, q1, q2, q3, q4⟩ := h7
  exact ⟨k, j, Ab, cb, V', h1, h2, blk_kept h3 hg hk, blk_kept h4 hg hk, blk_kept h5 hg hk, blk_kept h6 hg hk, ⟨A', c', hv, rd_kept q1 hg hk, q2, q3, fun b hb => ⟨Nat.lt_of_lt_of_le (q4 b hb).1 hg.size, (q4 b hb).2⟩⟩,
    (h8.kept hg hr hm).up (fun b _ hb => by
      rcases hb with hb | ⟨b1, b2, b3⟩
      · exact .inl hb
      · exact .inr ⟨b1, Nat.lt_of_lt_of_le b2 hg.size, b3⟩) (DidP.sep hp hd), hd⟩
set_option maxHeartbeats 8000000 in
set_option maxRecDepth 100000 in
theorem plAsk_go (g m : Nat) (dv : Value) (V : Int → Loc) (T : Nat → Prop) (s : S) (w : World) (h : PI w g m dv V T s) (worker tick : Int) (hck : check s worker tick = 0) (hal : s.alive.getD worker.toNat false = true) (hwk : works s worker tick = false) (hN : s.tries.length ≤ 1000000000) :
    Calls Try.prog 14 #[.pointer (some ⟨g, 0, none⟩), .int .i64 worker, .int .i64 tick] w fun e w' => AskP w w' g m dv V T s (Pl.ask s worker tick) e := by
  have HH := Lib.hid h
  have HCK := Lib.hid (show ∀ W, New w W → Calls Try.prog 47 #[.pointer (some ⟨g, 0, none⟩), .int .i64 worker, .int .i64 tick] W fun e w' => e = .returned (.int .i64 0) ∧ W = w' from fun W hW => hck ▸ plChecked_any g m dv V T s W (h.new hW) worker tick)
  have HWK := Lib.hid (show ∀ W, New w W → Calls Try.prog 48 #[.pointer (some ⟨g, 0, none⟩), .int .i64 worker, .int .i64 tick] W fun e w' => e = .returned (.bool false) ∧ New W w' from fun W hW => hwk ▸ plWorks_any g m dv V T s W (h.new hW) worker tick)
  obtain ⟨hw, ht, htk⟩ := check_zero hck
  obtain ⟨gd, c, hdv, hdc, hcm⟩ := h.dv
  have hc0 := h.blk.cell 0 (u := dv) rfl
  rw [hdv] at hc0
  have hgl := h.blk.lt
  obtain ⟨k, rfl, hk, hka⟩ := alive_at (s := s) (worker := worker) (by omega)
  obtain ⟨d0, d1⟩ := dead_at (hdv ▸ h) hka
  rw [hal] at d0
  have hgdl : gd < w.heap.size := World.block_lt_of_cell? _ _ d0
  have hk' : (k : Int) < (s.alive.length : Int) := by omega
  obtain ⟨N, hNN⟩ : ∃ N, s.alive.length = N := ⟨_, rfl⟩
  rw [hNN] at hc0 hk hk' hdc
  unfold maxLen at hcm
  obtain ⟨W0, hW0, hN0, hz0, x0, x1, x2, x3, x4, x5, x6⟩ := askBoxes w g (k : Int) tick
  have c0 := x0.cell 0 (u := .pointer (some ⟨g, 0, none⟩)) rfl
  have c1 := x1.cell 0 (u := .int .i64 (k : Int)) rfl
  have c2 := x2.cell 0 (u := .int .i64 tick) rfl
  have hc0' := hN0.cell hc0 (fun h => h)
  have d0' := hN0.cell d0 (fun h => h)
  have HW0 := Lib.hid hW0
  have HN0 := Lib.hid hN0
  have hgd0 : gd < W0.heap.size := by omega
  have hg0 : g < W0.heap.size := by omega
  have HX := Lib.hid (And.intro x0 (And.intro x1 (And.intro x2 (And.intro x3 (And.intro x4 (And.intro x5 x6))))))
  have HS := Lib.hid (And.intro hck (And.intro hal hwk))
  have HTK := Lib.hid htk
  clear h hck hal hwk hka hdv hNN hc0 d0 hW0 hN0 x0 x1 x2 x3 x4 x5 x6 d1 htk
  refine (callsIn_wide (n := 10)).1 ?_
  refine callsIn_of_wp_marks Try.func14 rfl trivial ?_ rfl
  simp only [Try.ntmps14, List.size_toArray, List.length_cons, List.length_nil, Nat.reduceAdd, Nat.reduceSub, Array.replicate_succ, Array.replicate_zero, List.push_toArray, List.append_toArray, List.nil_append, List.cons_append]
  gi_wp2_with (refine ⟨trivial, ?_⟩; gi_at_call 47; rw [HW0.out]; refine (callsIn_wide.2 (HCK.out _ HN0.out)).mono ?_; rintro e w2 ⟨rfl, rfl⟩)
  refine wpIn_wide.2 ?_
  go_quiet (fail)
  gi_wp2_with fail
  refine ⟨trivial, (callsIn_wide.2 (HWK.out _ (HN0.out.drewN _))).mono ?_⟩
  rintro e w2 ⟨rfl, hn2⟩
  have hN2 : New w w2 := (HN0.out.drewN _).trans hn2 (fun _ _ h => h)
  have hN02 : New W0 w2 := ((Chg.refl _ W0).drewN _).trans hn2 (fun _ _ h => h)
  have hp2 := HH.out.new hN2
  have x0 := HX.out.1.chg hN02 (fun h => h)
  have x1 := HX.out.2.1.chg hN02 (fun h => h)
  have x2 := HX.out.2.2.1.chg hN02 (fun h => h)
  have c0 := x0.cell 0 (u := .pointer (some ⟨g, 0, none⟩)) rfl
  have c1 := x1.cell 0 (u := .int .i64 (k : Int)) rfl
  have c2 := x2.cell 0 (u := .int .i64 tick) rfl
  have g2 := hp2.blk.cell 2 (u := .int .i64 s.tick) rfl
  have gf2 := hp2.blk.frozen 2
  have gl2 := hp2.blk.lt
  have hng : g ≠ w.heap.size := by omega
  have H2 := Lib.hid (And.intro hN2 (And.intro hN02 hp2))
  clear hn2 hN2 hN02 hp2 x0 x1 x2
  gi_wp2_with fail
  obtain ⟨w3, hw3⟩ : ∃ w3, w2.setCell ⟨g, 2, none⟩ (.int .i64 tick) = w3 := ⟨_, rfl⟩
  rw [hw3]
  refine ⟨trivial, (callsIn_wide.2 (all_any g w3)).mono ?_⟩
  rintro e w4 ⟨rfl, hBs, hn4, hs4⟩
  obtain ⟨hN2, hN02, hp2⟩ := H2.out
  have hcg : Chg (fun x => x = g) w2 w3 := by rw [← hw3]; exact (Chg.refl (fun x => x = g) w2).setCell (p := ⟨g, 2, none⟩) (fun _ => rfl) _
  have hcg0 : Chg (fun x => x = g) w w3 := (hN2.mono (fun _ _ hf => hf.elim) : Chg (fun x => x = g) w w2).trans hcg (fun _ _ h => h)
  have hbg : Blk w3 g 89 (pCells { s with tick := tick } dv m) := by rw [← hw3]; exact hp2.blk.set_ 2 _
  obtain ⟨hp3, hd3⟩ := HH.out.flagsT (s' := { s with tick := tick }) rfl rfl (HH.out.wf.tick ht.1 ht.2) (hcg0.mono (fun _ _ e => .inl e)) hbg (HH.out.dead.chg hcg0 (fun x hx e => HH.out.apart.2.1 (by subst e; exact hx)))
  have hcx : Chg (fun x => x = g) W0 w4 := ((hN02.mono (fun _ _ hf => hf.elim) : Chg (fun x => x = g) W0 w2).trans hcg (fun _ _ h => h)).new hn4
  have hp4 := hp3.new hn4
  have x0 := HX.out.1.chg hcx (fun e => by omega)
  have x1 := HX.out.2.1.chg hcx (fun e => by omega)
  have x2 := HX.out.2.2.1.chg hcx (fun e => by omega)
  have x3 := HX.out.2.2.2.1.chg hcx (fun e => by omega)
  have x4 := HX.out.2.2.2.2.1.chg hcx (fun e => by omega)
  have x5 := HX.out.2.2.2.2.2.1.chg hcx (fun e => by omega)
  have x6 := HX.out.2.2.2.2.2.2.chg hcx (fun e => by omega)
  obtain ⟨s1, hs1⟩ : ∃ s1 : S, { s with tick := tick } = s1 := ⟨_, rfl⟩
  rw [hs1] at hp3 hp4 hd3 hbg
  have hz3 : w.heap.size + 7 ≤ w3.heap.size := by have := hN02.size; have := hcg.size; omega
  obtain ⟨Bp, hBp⟩ : ∃ Bp, w3.heap.size = Bp := ⟨_, rfl⟩
  rw [hBp] at hBs hs4 hz3 ⊢
  have H4 := Lib.hid (And.intro hp4 (And.intro hd3 (And.intro hn4 (And.intro x0 (And.intro x1 (And.intro x2 (And.intro x3 (And.intro x4 (And.intro x5 x6)))))))))
  have HS1 := Lib.hid hs1
  have HCG := Lib.hid hcg0
  clear hw3 hN2 hN02 hp2 hcg hcg0 hbg hp3 hp4 hd3 hcx hn4 x0 x1 x2 x3 x4 x5 x6 hs1
  gi_wp2_with fail
  have hw4 : w.heap.size + 7 ≤ w4.heap.size := by omega
  refine wpIn_rangeN rfl (by omega) (gf := 70) (lb := #[.pointer (some ⟨Bp, 0, none⟩)]) rfl trivial (enters_of Try.func70 (by kernel_rfl) rfl)
    (all_seq 9 (by omega) g m Bp dv V T (fun _ => False) s1 w4 H4.out.1 (fun _ _ h => h) (fun h => h) hBs (fun _ h => h.elim)) (fun h h' => KpN.trans h h') (fun x W l o o' hl ho hoc => KpN.put _ _ W l o o' hl ho hoc) (fun _ => rfl) (fun pre x => FxA.stab _ _ _ _ _) (fun _ => Stab.const _ _) (fun _ => Stab.const _ _)
    (fun pre W => New w4 W ∧ ∀ i, i < pre.length → ∀ x, s1.jobs[i]? = some x → free s1 tick x = false)
    (fun cd pre W => cd = .ret ∧ AskX w W g m dv V T s s1 (k : Int) tick) ?hI (fun _ _ => Stab.and (Stab.const _ _) (AskX.stab HH.out (by omega))) ⟨Chg.refl _ _, fun i hi => by simp at hi⟩ ?a1 ?assign ?body ?done ?stop
  case assign =>
    intro l' x W K hK
    gi_wp2
    exact hK
  case hI =>
    rintro pre W W' row ⟨h1, h2⟩ hg hr
    exact ⟨h1.grown hg (fun r e hlt => by have := (hr r e).1; omega), h2⟩
  case stop =>
    rintro D cd pre W hD _ ⟨rfl, hX⟩ hK
    have HXX := Lib.hid hX
    have HK := Lib.hid hK
    clear hX hK
    gi_wp2
    have hgp : W.grownBy (W.putObj D (.deferred none)) (some D) := grownBy_putObj' W D (.deferred none)
    have hkp : ∀ r, some D = some r → w4.heap.size ≤ r ∧ ∃ o : Obj, W.heap[r]? = some o ∧ o.isCells = false := fun r e => by cases e; exact ⟨hD, _, HK.out, rfl⟩
    obtain ⟨kk, j, Ab, cb, V', h1, h2, h3, h4, h5, h6, h7, h8, h9⟩ := AskX.stab HH.out (B := w4.heap.size) (by omega) W _ _ HXX.out hgp hkp
    have q30 := h3.cell 0 (u := .int .i64 j.id) rfl
    have q31 := h3.cell 1 (u := .slice Ab j.body.length cb) rfl
    have q4 := h4.cell 0 (u := .int .i64 (j.n : Int)) rfl
    have q5 := h5.cell 0 (u := .bool true) rfl
    have q6 := h6.cell 0 (u := .int .i64 0) rfl
    have hgo : giveOut s (k : Int) tick kk j = giveOut s1 (k : Int) tick kk j := by rw [← HS1.out]; rfl
    have ea : Pl.ask s (k : Int) tick = (giveOut s1 (k : Int) tick kk j, ⟨j.id, j.body, (j.n : Int), true, 0⟩) := by
      rw [ask_some HS.out.1 HS.out.2.1 HS.out.2.2 (by rw [← HS1.out] at h2; exact h2) (by rw [← HS1.out] at h1; exact h1), hgo]
    refine ⟨by simp, .inl ⟨_, _, rfl, run_takeDeferred HK.out, ?_⟩⟩
    rw [ea]
    exact ⟨.tuple #[.agg #[.int .i64 j.id, .slice Ab j.body.length cb], .int .i64 (j.n : Int), .bool true, .int .i64 0], by simp [results, Try.results14, go_sem, q30, q31, q4, q5, q6], Ab, cb, rfl, V', h7, h8, h9⟩
  case body =>
    rintro l' pre x W ⟨hnw, hfree⟩ ⟨hx1, hx2, hx3, hx4, hx5⟩
    obtain ⟨Nn, i⟩ := x
    dsimp only at hx1 hx2 hx3 hx4 hx5
    obtain ⟨j, hj⟩ : ∃ j, s1.jobs[i]? = some j := ⟨_, List.getElem?_eq_getElem hx2⟩
    have hjm := List.mem_of_getElem? hj
    obtain ⟨hp4, hd3, hn4, x0, x1, x2, x3, x4, x5, x6⟩ := H4.out
    have hpW := hp4.new hnw
    have htkb := hpW.task j hjm
    have c6 := htkb.cell 6 (u := .bool j.ans.isSome) rfl
    have hwf1 := hp4.wf
    have hbtw : (V j.id).tb < w.heap.size := HH.out.lt (.inr (.inr (.inr ⟨j, by rw [← HS1.out] at hjm; exact hjm, .inl rfl⟩)))
    have hbtW : (V j.id).tb < W.heap.size := htkb.lt
    have y0 := x0.chg hnw (fun h => h)
    have y1 := x1.chg hnw (fun h => h)
    have y2 := x2.chg hnw (fun h => h)
    have y3 := x3.chg hnw (fun h => h)
    have y4 := x4.chg hnw (fun h => h)
    have y5 := x5.chg hnw (fun h => h)
    have y6 := x6.chg hnw (fun h => h)
    have e0 := y0.cell 0 (u := .pointer (some ⟨g, 0, none⟩)) rfl
    have e1 := y1.cell 0 (u := .int .i64 (k : Int)) rfl
    have e2 := y2.cell 0 (u := .int .i64 tick) rfl
    have HGV := Lib.hid (show ∀ W', New W W' → Calls Try.prog 49 #[.pointer (some ⟨g, 0, none⟩), .pointer (some ⟨(V j.id).tb, 0, none⟩), .int .i64 tick] W' fun e w' => e = .returned (.bool (given s1 j.id tick)) ∧ New W' w' from fun W' hW => by
      rw [given_at hwf1 hjm]
      exact plGiven_any g m dv V T s1 W' (hpW.new hW) j hjm tick)
    have HNW := Lib.hid hnw
    have HFR := Lib.hid hfree
    have HPW := Lib.hid hpW
    have HJ := Lib.hid (And.intro hj hjm)
    have HX1 := Lib.hid hx1
    have HY := Lib.hid (And.intro y3 (And.intro y4 (And.intro y5 y6)))
    have HTK1 := Lib.hid htkb
    have hWsz : w4.heap.size ≤ W.heap.size := hnw.size
    have hI : free s1 tick j = false → (KeepsFrom w4.heap.size W W) ∧ KpN (fun _ => False) w4.heap.size Nn W W ∧ New w4 W ∧ ∀ i', i' < (pre ++ [(Nn, i)]).length → ∀ x, s1.jobs[i']? = some x → free s1 tick x = false := fun hf => ⟨(KeepsOthers.refl _).from _, KpN.refl _ _ _ _, hnw, fun i' hi' x hx => by
      rw [List.length_append, List.length_singleton] at hi'
      rcases Nat.lt_or_ge i' pre.length with h1 | h1
      · exact hfree i' h1 x hx
      · obtain rfl : i' = i := by omega
        rw [hj] at hx
        injection hx with hx
        rw [← hx]; exact hf⟩
    have HI := Lib.hid hI
    clear hp4 hd3 hn4 x0 x1 x2 x3 x4 x5 x6 hpW htkb hwf1 y0 y1 y2 y3 y4 y5 y6 hnw hfree hI hx1
    unfold encA
    rw [idA_at hj]
    dsimp only
    obtain ⟨tb, htb⟩ : ∃ tb, (V j.id).tb = tb := ⟨_, rfl⟩
    rw [htb] at c6 hbtw hbtW HGV HTK1 ⊢
    have HTB := Lib.hid htb
    clear htb hj hjm
    cases hd : j.ans.isSome with
    | true =>
      rw [hd] at c6
      have hfr : free s1 tick j = false := by unfold free; rw [show j.ans.isNone = false by cases hq : j.ans <;> simp_all]; rfl
      have HF := Lib.hid (HI.out hfr)
      clear hd hfr
      gi_wp2
      refine ⟨trivial, ?_⟩
      gi_wp2
      exact ⟨HF.out.1, HF.out.2.1, HF.out.2.2.1, HF.out.2.2.2⟩
    | false =>
      rw [hd] at c6
      have hin : j.ans.isNone = true := by cases hq : j.ans <;> simp_all
      cases hg : given s1 j.id tick with
      | true =>
        have hfr : free s1 tick j = false := by unfold free; rw [hin, hg]; rfl
        rw [hg] at HGV
        have HF := Lib.hid hfr
        clear hd hfr hin hg
        gi_wp2_with (refine ⟨trivial, ?_⟩; gi_at_call 49; refine (CallsIn.inRound l' (callsIn_wide.2 (HGV.out _ (Chg.refl _ _)))).mono ?_; rintro e w5 ⟨rfl, hn5⟩)
        obtain ⟨_, _, _, hal⟩ := HI.out HF.out
        exact ⟨(KeepsOthers.of_new hn5).from _, KpN.new _ hn5 hWsz, HNW.out.trans hn5 (fun _ _ h => h), hal⟩
      | false =>
        have hfr : free s1 tick j = true := by unfold free; rw [hin, hg]; rfl
        have hjw : (triesOf s1 j.id).length ≤ 1000000000 := by
          unfold triesOf
          exact Nat.le_trans (List.length_filter_le _ _) (by rw [← HS1.out]; exact hN)
        rw [hg] at HGV
        have HF := Lib.hid hfr
        clear hd hfr hin hg
        gi_wp2_with (refine ⟨trivial, ?_⟩; gi_at_call 49; refine (CallsIn.inRound l' (callsIn_wide.2 (HGV.out _ (Chg.refl _ _)))).mono ?_; rintro e w5 ⟨rfl, hn5⟩)
        have hn45 : New w4 w5 := HNW.out.trans hn5 (fun _ _ h => h)
        have hp5 := HPW.out.new hn5
        obtain ⟨A5, c5, hv5, hnc5, hcm5, hob5⟩ := ownN_shape (hp5.tries j HJ.out.2)
        have hrow5 := hp5.tries j HJ.out.2
        have htk5 := hp5.task j HJ.out.2
        rw [HTB.out] at htk5
        have t1 := htk5.cell 1 (u := (V j.id).tv) rfl
        rw [hv5] at t1 hrow5
        have tf1 := htk5.frozen 1
        have tl5 := htk5.lt
        have hjn : j.n ≤ 1000000000 := by rw [← (hp5.wf.num j HJ.out.2).1]; exact hjw
        obtain ⟨x0, x1, x2, _⟩ := H4.out.2.2.2
        have b1 := (x1.chg hn45 (fun h => h)).cell 0 (u := .int .i64 (k : Int)) rfl
        have b2 := (x2.chg hn45 (fun h => h)).cell 0 (u := .int .i64 tick) rfl
        have bl1 := (x1.chg hn45 (fun h => h)).lt
        have bl2 := (x2.chg hn45 (fun h => h)).lt
        have hlitc : ∀ q u, [Value.int .i64 (k : Int), .int .i64 tick, .bool false][q]? = some u → (w5.drew.alloc (.cells #[.int .i64 (k : Int), .int .i64 tick, .bool false] 100)).cell? (Addr.add ⟨w5.heap.size, 0, none⟩ q) = some u := fun q u hu => by
          rw [Addr.add_lit, Nat.zero_add]
          exact (Blk.new w5.drew _ _).cell q (by simpa using hu)
        obtain ⟨v7, w7, hrun, hrow7, hgb7, _, hbk7⟩ := run_append_own_at (P := Try.prog) (w5.drew.alloc (.cells #[.int .i64 (k : Int), .int .i64 tick, .bool false] 100)) 0 92 92 100 ((Try.prog.info? 100).get!) (((Try.prog.info? 100).get!).zero.get!) 3 24
          Try.underlying92 (by kernel_rfl) (by kernel_rfl) (by kernel_rfl) (by kernel_rfl) (by kernel_rfl) (by decide) (.slice A5 j.n c5) j.n (trsV (triesOf s1 j.id)) (ownN_chg hrow5 ((Chg.refl (fun _ => False) w5).drew.alloc _) (fun _ _ h => h)) ⟨w5.heap.size, 0, none⟩ 1 1 [.int .i64 (k : Int), .int .i64 tick, .bool false] rfl hlitc (by simp [Value.oneCell']) (by unfold maxLen; omega) (by omega) (Nat.zero_le _)
        obtain ⟨A7, c7, hv7, hnc7, hcm7, hob7⟩ := ownN_shape hrow7
        subst hv7
        have y1 := x1.chg hn45 (fun h => h)
        have y2 := x2.chg hn45 (fun h => h)
        have hown6 := ownN_chg hrow5 ((Chg.refl (fun _ => False) w5).drew.alloc (.cells #[.int .i64 (k : Int), .int .i64 tick, .bool false] 100)) (fun _ _ h => h)
        have ht6 := (htk5.drew).alloc (.cells #[.int .i64 (k : Int), .int .i64 tick, .bool false] 100)
        have ht7 := ht6.grown hgb7 (ownN_ne hown6 ht6 (by decide))
        have y17 := ((y1.drew).alloc (.cells #[.int .i64 (k : Int), .int .i64 tick, .bool false] 100)).grown hgb7 (ownN_ne hown6 ((y1.drew).alloc _) (by decide))
        have y27 := ((y2.drew).alloc (.cells #[.int .i64 (k : Int), .int .i64 tick, .bool false] 100)).grown hgb7 (ownN_ne hown6 ((y2.drew).alloc _) (by decide))
        have u1 := ht7.cell 1 (u := (V j.id).tv) rfl
        rw [hv5] at u1
        have uf1 := ht7.frozen 1
        have ul := ht7.lt
        have htb1 : tb ≠ w.heap.size + 1 := by omega
        have htb2 : tb ≠ w.heap.size + 1 + 1 := by omega
        have hS5 : w5.drew.cell? ⟨w.heap.size + 1, 0, none⟩ = some (.int .i64 (k : Int)) ∧ w5.drew.cell? ⟨w.heap.size + 1 + 1, 0, none⟩ = some (.int .i64 tick) := ⟨b1, b2⟩
        have hS6 : (w5.drew.alloc (.cells #[.int .i64 (k : Int), .int .i64 tick, .bool false] 100)).cell? ⟨w.heap.size + 1, 0, none⟩ = some (.int .i64 (k : Int)) ∧ (w5.drew.alloc (.cells #[.int .i64 (k : Int), .int .i64 tick, .bool false] 100)).cell? ⟨w.heap.size + 1 + 1, 0, none⟩ = some (.int .i64 tick) := ⟨((y1.drew).alloc _).cell 0 rfl, ((y2.drew).alloc _).cell 0 rfl⟩
        have hS7 : w7.cell? ⟨w.heap.size + 1, 0, none⟩ = some (.int .i64 (k : Int)) ∧ w7.cell? ⟨w.heap.size + 1 + 1, 0, none⟩ = some (.int .i64 tick) := ⟨y17.cell 0 rfl, y27.cell 0 rfl⟩
        have hS8 : (w7.setCell ⟨tb, 1, none⟩ (.slice A7 (j.n + 1) c7)).cell? ⟨w.heap.size + 1, 0, none⟩ = some (.int .i64 (k : Int)) ∧ (w7.setCell ⟨tb, 1, none⟩ (.slice A7 (j.n + 1) c7)).cell? ⟨w.heap.size + 1 + 1, 0, none⟩ = some (.int .i64 tick) := ⟨(y17.far (fun e => htb1 e.symm) _).cell 0 rfl, (y27.far (fun e => htb2 e.symm) _).cell 0 rfl⟩
        have H7 := Lib.hid (And.intro hn45 (And.intro hp5 (And.intro hrow5 (And.intro hrow7 (And.intro hgb7 (And.intro hbk7 (And.intro ht7 (And.intro hown6 hn5))))))))
        have HV5 := Lib.hid hv5
        have HO5 := Lib.hid (And.intro hob5 hob7)
        obtain ⟨jn, hjne⟩ : ∃ jn, j.n = jn := ⟨_, rfl⟩
        have HJN := Lib.hid hjne
        rw [hjne] at t1 hrun u1 hS8 hjn hnc5 hnc7
        clear hn45 hp5 hrow5 htk5 x0 x1 x2 hlitc hrow7 hgb7 hbk7 hob5 hob7 y1 y2 hown6 ht6 ht7 y17 y27 hv5 hjne hn5
        -- region 13
        refine wpIn_region_held_drew (S := fun w' => w'.cell? ⟨w.heap.size + 1, 0, none⟩ = some (.int .i64 (k : Int)) ∧ w'.cell? ⟨w.heap.size + 1 + 1, 0, none⟩ = some (.int .i64 tick)) (by kernel_rfl) (by kernel_rfl) (hS5) (fun hHeld => ?_)
        refine heldW (i := 0) (v := ?av0) rfl (by kernel_rfl) (by kernel_rfl) (by kernel_rfl) (fun _ _ _ h => h) (by rfl) ?ahy0 hHeld ?arest0
        case ahy0 => (intro w hSw; (try dsimp only at hSw); go_simp; try with_reducible rfl)
        simp only [Act.put, List.setIfInBounds_toArray, List.set_cons_zero, List.set_cons_succ]
        refine heldW (i := 1) (v := ?av1) rfl (by kernel_rfl) (by kernel_rfl) (by kernel_rfl) (fun _ _ _ h => h) (by rfl) ?ahy1 hHeld ?arest1
        case ahy1 => (intro w hSw; (try dsimp only at hSw); go_simp; try with_reducible rfl)
        simp only [Act.put, List.setIfInBounds_toArray, List.set_cons_zero, List.set_cons_succ]
        refine heldW (i := 2) (v := ?av2) rfl (by kernel_rfl) (by kernel_rfl) (by kernel_rfl) (fun _ _ _ h => h) (by rfl) ?ahy2 hHeld ?arest2
        case ahy2 => (intro w hSw; (try dsimp only at hSw); go_simp; try with_reducible rfl)
        simp only [Act.put, List.setIfInBounds_toArray, List.set_cons_zero, List.set_cons_succ]
        refine heldW (i := 3) (v := ?av3) rfl (by kernel_rfl) (by kernel_rfl) (by kernel_rfl) (fun _ _ _ h => h) (by rfl) ?ahy3 hHeld ?arest3
        case ahy3 => (intro w hSw; (try dsimp only at hSw); go_simp; try with_reducible rfl)
        simp only [Act.put, List.setIfInBounds_toArray, List.set_cons_zero, List.set_cons_succ]
        refine heldW (i := 5) (v := ?av5) rfl (by kernel_rfl) (by kernel_rfl) (by kernel_rfl) (fun _ _ _ h => h) (by rfl) ?ahy5 hHeld ?arest5
        case ahy5 => (intro w hSw; (try dsimp only at hSw); go_simp; try with_reducible rfl)
        simp only [Act.put, List.setIfInBounds_toArray, List.set_cons_zero, List.set_cons_succ]
        refine heldW (i := 6) (v := ?av6) rfl (by kernel_rfl) (by kernel_rfl) (by kernel_rfl) (fun _ _ _ h => h) (by rfl) ?ahy6 hHeld ?arest6
        case ahy6 => (intro w hSw; (try dsimp only at hSw); go_simp; try with_reducible rfl)
        simp only [Act.put, List.setIfInBounds_toArray, List.set_cons_zero, List.set_cons_succ]
        refine heldW (i := 7) (v := ?av7) rfl (by kernel_rfl) (by kernel_rfl) (by kernel_rfl) (fun _ _ _ h => h) (by rfl) ?ahy7 hHeld ?arest7
        case ahy7 => (intro w hSw; (try dsimp only at hSw); go_simp; try with_reducible rfl)
        simp only [Act.put, List.setIfInBounds_toArray, List.set_cons_zero, List.set_cons_succ]
        refine wpAnyH_ready (rs := [4, 8]) (by kernel_rfl) (by simp) (AllReadyH.cons rfl (fun K hK => ?brA) (AllReadyH.cons rfl (fun K hK => ?brB) AllReadyH.nil))
        case' brA =>
          rw [if_pos (by rfl)]
          go_simp
          refine hK.out _ _ (hS5) (fun hHeld2 => ?_)
          clear hK K hHeld
          have hHeld := hHeld2
          clear hHeld2
          (try simp only [Act.put, List.setIfInBounds_toArray, List.set_cons_zero, List.set_cons_succ])
          refine heldC (i := 8) rfl (by kernel_rfl) (by rfl) (fun K hK => ?_)
          go_simp
          refine hK.out _ _ (hS6) (fun hHeld2 => ?_)
          clear hK K hHeld
          have hHeld := hHeld2
          clear hHeld2
          (try simp only [Act.put, List.setIfInBounds_toArray, List.set_cons_zero, List.set_cons_succ])
          refine heldC (i := 9) rfl (by kernel_rfl) (by rfl) (fun K hK => ?_)
          refine step_appN rfl _ _ _ rfl rfl rfl hrun ?_
          refine hK.out _ _ (hS7) (fun hHeld2 => ?_)
          clear hK K hHeld
          have hHeld := hHeld2
          clear hHeld2
          (try simp only [Act.put, List.setIfInBounds_toArray, List.set_cons_zero, List.set_cons_succ])
          refine heldW (i := 10) (v := ?bv10) rfl (by kernel_rfl) (by kernel_rfl) (by kernel_rfl) (fun _ _ _ h => h) (by rfl) ?bhy10 hHeld ?brest10
          case bhy10 => (intro w hSw; (try dsimp only at hSw); go_simp; try with_reducible rfl)
          simp only [Act.put, List.setIfInBounds_toArray, List.set_cons_zero, List.set_cons_succ]
          refine heldW (i := 11) (v := ?bv11) rfl (by kernel_rfl) (by kernel_rfl) (by kernel_rfl) (fun _ _ _ h => h) (by rfl) ?bhy11 hHeld ?brest11
          case bhy11 => (intro w hSw; (try dsimp only at hSw); go_simp; try with_reducible rfl)
          simp only [Act.put, List.setIfInBounds_toArray, List.set_cons_zero, List.set_cons_succ]
          refine wpAnyH_ready (rs := [12]) (by kernel_rfl) (by simp) (AllReadyH.cons rfl (fun K hK => ?_) AllReadyH.nil)
          rw [if_pos (by rfl)]
          go_simp
          refine hK.out _ _ (hS8) (fun hHeld2 => ?_)
          clear hK K hHeld
          have hHeld := hHeld2
          clear hHeld2
          (try simp only [Act.put, List.setIfInBounds_toArray, List.set_cons_zero, List.set_cons_succ])
          refine wpAnyH_done (by kernel_rfl) ?_ _
        case' brB =>
          rw [if_pos (by rfl)]
          go_simp
          refine hK.out _ _ (hS6) (fun hHeld2 => ?_)
          clear hK K hHeld
          have hHeld := hHeld2
          clear hHeld2
          (try simp only [Act.put, List.setIfInBounds_toArray, List.set_cons_zero, List.set_cons_succ])
          refine heldC (i := 4) rfl (by kernel_rfl) (by rfl) (fun K hK => ?_)
          go_simp
          refine hK.out _ _ (hS6) (fun hHeld2 => ?_)
          clear hK K hHeld
          have hHeld := hHeld2
          clear hHeld2
          (try simp only [Act.put, List.setIfInBounds_toArray, List.set_cons_zero, List.set_cons_succ])
          refine heldC (i := 9) rfl (by kernel_rfl) (by rfl) (fun K hK => ?_)
          refine step_appN rfl _ _ _ rfl rfl rfl hrun ?_
          refine hK.out _ _ (hS7) (fun hHeld2 => ?_)
          clear hK K hHeld
          have hHeld := hHeld2
          clear hHeld2
          (try simp only [Act.put, List.setIfInBounds_toArray, List.set_cons_zero, List.set_cons_succ])
          refine heldW (i := 10) (v := ?cv10) rfl (by kernel_rfl) (by kernel_rfl) (by kernel_rfl) (fun _ _ _ h => h) (by rfl) ?chy10 hHeld ?crest10
          case chy10 => (intro w hSw; (try dsimp only at hSw); go_simp; try with_reducible rfl)
          simp only [Act.put, List.setIfInBounds_toArray, List.set_cons_zero, List.set_cons_succ]
          refine heldW (i := 11) (v := ?cv11) rfl (by kernel_rfl) (by kernel_rfl) (by kernel_rfl) (fun _ _ _ h => h) (by rfl) ?chy11 hHeld ?crest11
          case chy11 => (intro w hSw; (try dsimp only at hSw); go_simp; try with_reducible rfl)
          simp only [Act.put, List.setIfInBounds_toArray, List.set_cons_zero, List.set_cons_succ]
          refine wpAnyH_ready (rs := [12]) (by kernel_rfl) (by simp) (AllReadyH.cons rfl (fun K hK => ?_) AllReadyH.nil)
          rw [if_pos (by rfl)]
          go_simp
          refine hK.out _ _ (hS8) (fun hHeld2 => ?_)
          clear hK K hHeld
          have hHeld := hHeld2
          clear hHeld2
          (try simp only [Act.put, List.setIfInBounds_toArray, List.set_cons_zero, List.set_cons_succ])
          refine wpAnyH_done (by kernel_rfl) ?_ _
        · simp only [OnlyN]
          obtain ⟨hn45, hp5, hrow5, hrow7, hgb7, hbk7, ht7, hown6, hn5⟩ := H7.out
          obtain ⟨w8, hw8⟩ : ∃ w8, w7.setCell ⟨tb, 1, none⟩ (.slice A7 (jn + 1) c7) = w8 := ⟨_, rfl⟩
          rw [hw8]
          have hch58 : Chg (fun x => x = (V j.id).tb ∨ (V j.id).tv.ownBlock = some x) w5 w8 := by
            rw [← hw8]
            refine ((((Chg.refl (fun x => x = (V j.id).tb ∨ (V j.id).tv.ownBlock = some x) w5).drew.alloc _).grown hgb7 (fun b hb _ => .inr (by rw [HV5.out]; exact hb)))).setCell (p := ⟨tb, 1, none⟩) (fun _ => .inl HTB.out.symm) _
          have ht8 : Blk w8 (V j.id).tb 94 (tCells j { V j.id with tv := .slice A7 (jn + 1) c7 }) := by
            rw [HTB.out, ← hw8]
            exact ht7.set_ 1 _
          have hr8 : w8.ownsRow 0 100 3 (.slice A7 (jn + 1) c7) (j.n + 1) (trsV (triesOf s1 j.id ++ [⟨j.id, (j.n : Int), (k : Int), tick, false⟩])) := by
            rw [trsV_app, ← hw8, ← HJN.out]
            refine ownN_chg hrow7 ((Chg.refl (fun b => b = tb) w7).setCell (p := ⟨tb, 1, none⟩) (fun _ => rfl) _) (fun b hb e => ?_)
            subst e
            exact ownN_ne hrow7 ht7 (by decide) hb
          have hnx : next s1 tick = some i := next_of HJ.out.1 HF.out (fun i' hi' x hx => HFR.out i' (by rw [← HX1.out]; exact hi') x hx)
          have hck1 : check s1 (k : Int) tick = 0 := by
            rw [← HS1.out]
            have h1 := HS.out.1
            unfold check at h1 ⊢
            split at h1
            · cases h1
            · rename_i hc1
              rw [if_neg hc1, if_neg (show ¬ tick < tick by omega)]
          have hwf2 := hp5.wf.giveOut HJ.out.1 hck1
          obtain ⟨V8, hp8, hd8⟩ := hp5.gave HJ.out.1 (by rw [← HS1.out]) hwf2 hch58 ht8 hr8 (fun b hb => by
            rcases hbk7 with e | e
            · left; rw [HV5.out, ← e, HJN.out]; exact hb
            · right
              rw [HJN.out] at e
              rw [e] at hb; injection hb with hb; simp at hb; omega)
          obtain ⟨Ab, cb, hbv, hrb, hlb, hcb, htb8⟩ := hp5.body j HJ.out.2
          have hbl8 := hp5.wf.bl j HJ.out.2
          obtain ⟨nb, hnb⟩ : ∃ nb, j.body.length = nb := ⟨_, rfl⟩
          rw [hnb] at hbv hrb hlb hbl8
          have hrb8 : Rd w8 Ab nb (bs j.body) := hrb.chg hch58 (fun b hb _ e => (hp5.sep b (htb8 b hb).2).2 (.inr (.inr (.inr ⟨j, HJ.out.2, e⟩))))
          have HQ14 := Lib.hid (show ∀ W', New w8 W' → Calls Try.prog 45 #[.slice Ab nb cb] W' fun e w' => ∃ A' c', e = .returned (.slice A' nb c') ∧ ByT w' (fun b => W'.heap.size ≤ b) (.slice A' nb c') j.body ∧ New W' w' from fun W' hW => plCopied_any Ab nb cb j.body W' (hrb8.new hW) (by omega))
          rw [HTB.out] at ht8
          unfold tCells at ht8
          dsimp only at ht8
          rw [hbv] at ht8
          have HSK := Lib.hid (show ∀ W', Chg (fun b => w.heap.size + 1 ≤ b ∧ b ≤ w.heap.size + 1 + 1 + 1 + 1 + 1 + 1) w8 W' → W'.cell? ⟨tb, 0, none⟩ = some (.slice Ab nb cb) ∧ W'.cell? ⟨tb, 1, none⟩ = some (.slice A7 (jn + 1) c7) from fun W' hW => ⟨(ht8.chg hW (fun e => by omega)).cell 0 rfl, (ht8.chg hW (fun e => by omega)).cell 1 rfl⟩)
          have HB8 : ∀ b t cs, w.heap.size ≤ b → b < W0.heap.size → Blk w4 b t cs → t ≠ 100 → Blk w8 b t cs := fun b t cs hb1 hb2 hb3 hne => (hb3.chg hn45 (fun h => h)).chg hch58 (fun e => by
            rcases e with e | e
            · rw [HTB.out] at e; omega
            · rw [HV5.out] at e
              exact ownN_ne hrow5 (hb3.chg hn45 (fun h => h)) hne e)
          obtain ⟨_, _, _, x3, x4, x5, x6⟩ := H4.out.2.2.2
          have B8 := Lib.hid (And.intro (HB8 _ _ _ (by omega) (by omega) x3 (by decide)) (And.intro (HB8 _ _ _ (by omega) (by omega) x4 (by decide)) (And.intro (HB8 _ _ _ (by omega) (by omega) x5 (by decide)) (HB8 _ _ _ (by omega) (by omega) x6 (by decide)))))
          have hge3 : w.heap.size + 1 ≤ w.heap.size + 1 + 1 + 1 ∧ w.heap.size + 1 + 1 + 1 ≤ w.heap.size + 1 + 1 + 1 + 1 + 1 + 1 := by omega
          have hge4 : w.heap.size + 1 ≤ w.heap.size + 1 + 1 + 1 + 1 ∧ w.heap.size + 1 + 1 + 1 + 1 ≤ w.heap.size + 1 + 1 + 1 + 1 + 1 + 1 := by omega
          have hge5 : w.heap.size + 1 ≤ w.heap.size + 1 + 1 + 1 + 1 + 1 ∧ w.heap.size + 1 + 1 + 1 + 1 + 1 ≤ w.heap.size + 1 + 1 + 1 + 1 + 1 + 1 := by omega
          have hge6 : w.heap.size + 1 ≤ w.heap.size + 1 + 1 + 1 + 1 + 1 + 1 ∧ w.heap.size + 1 + 1 + 1 + 1 + 1 + 1 ≤ w.heap.size + 1 + 1 + 1 + 1 + 1 + 1 := by omega
          have hk8 : KeepsOthers W w8 := by
            rw [← hw8]
            exact ((KeepsOthers.of_new hn5).trans (KeepsOthers.of_new ((Chg.refl (fun _ => False) w5).drew.alloc _))).trans ((KeepsOthers.of_appN hown6 hgb7).trans (KeepsOthers.setCell _ _ _))
          have H8 := Lib.hid (And.intro hp8 (And.intro hd8 (And.intro hn45 (And.intro hch58 (And.intro hnx (And.intro hnb hk8))))))
          have hwrap : IntKind.i64.wrap (jn : Int) = (jn : Int) := IntWalk.i64_in _ (by omega)
          clear hw8 hk8 hn45 hp5 hrow5 hrow7 hgb7 hbk7 ht7 hown6 hn5 hch58 ht8 hr8 hnx hck1 hwf2 hp8 hd8 hbv hrb hrb8 htb8 HB8 x3 x4 x5 x6 hrun t1 u1 uf1 hS5 hS6 hS7 hS8 b1 b2 hHeld hnb
          gi_wp2_with fail
          refine wpIn_region_held_drew (S := fun w' => w'.cell? ⟨tb, 0, none⟩ = some (.slice Ab nb cb) ∧ w'.cell? ⟨tb, 1, none⟩ = some (.slice A7 (jn + 1) c7)) (by kernel_rfl) (by kernel_rfl) (HSK.out _ (Chg.refl _ _).drew) (fun hHeld => ?_)
          refine heldW (i := 0) (v := ?dv0) rfl (by kernel_rfl) (by kernel_rfl) (by kernel_rfl) (fun _ _ _ h => h) (by rfl) ?dhy0 hHeld ?drest0
          case dhy0 => (intro w hSw; (try dsimp only at hSw); go_simp; try with_reducible rfl)
          simp only [Act.put, List.setIfInBounds_toArray, List.set_cons_zero, List.set_cons_succ]
          refine heldW (i := 1) (v := ?dv1) rfl (by kernel_rfl) (by kernel_rfl) (by kernel_rfl) (fun _ _ _ h => h) (by rfl) ?dhy1 hHeld ?drest1
          case dhy1 => (intro w hSw; (try dsimp only at hSw); go_simp; try with_reducible rfl)
          simp only [Act.put, List.setIfInBounds_toArray, List.set_cons_zero, List.set_cons_succ]
          refine heldW (i := 2) (v := ?dv2) rfl (by kernel_rfl) (by kernel_rfl) (by kernel_rfl) (fun _ _ _ h => h) (by rfl) ?dhy2 hHeld ?drest2
          case dhy2 => (intro w hSw; (try dsimp only at hSw); go_simp; try with_reducible rfl)
          simp only [Act.put, List.setIfInBounds_toArray, List.set_cons_zero, List.set_cons_succ]
          refine heldW (i := 3) (v := ?dv3) rfl (by kernel_rfl) (by kernel_rfl) (by kernel_rfl) (fun _ _ _ h => h) (by rfl) ?dhy3 hHeld ?drest3
          case dhy3 => (intro w hSw; (try dsimp only at hSw); go_simp; try with_reducible rfl)
          simp only [Act.put, List.setIfInBounds_toArray, List.set_cons_zero, List.set_cons_succ]
          refine heldW (i := 4) (v := ?dv4) rfl (by kernel_rfl) (by kernel_rfl) (by kernel_rfl) (fun _ _ _ h => h) (by rfl) ?dhy4 hHeld ?drest4
          case dhy4 => (intro w hSw; (try dsimp only at hSw); go_simp; try with_reducible rfl)
          simp only [Act.put, List.setIfInBounds_toArray, List.set_cons_zero, List.set_cons_succ]
          refine heldW (i := 7) (v := ?dv7) rfl (by kernel_rfl) (by kernel_rfl) (by kernel_rfl) (fun _ _ _ h => h) (by rfl) ?dhy7 hHeld ?drest7
          case dhy7 => (intro w hSw; (try dsimp only at hSw); go_simp; try with_reducible rfl)
          simp only [Act.put, List.setIfInBounds_toArray, List.set_cons_zero, List.set_cons_succ]
          refine heldW (i := 8) (v := ?dv8) rfl (by kernel_rfl) (by kernel_rfl) (by kernel_rfl) (fun _ _ _ h => h) (by rfl) ?dhy8 hHeld ?drest8
          case dhy8 => (intro w hSw; (try dsimp only at hSw); go_simp; try with_reducible rfl)
          simp only [Act.put, List.setIfInBounds_toArray, List.set_cons_zero, List.set_cons_succ]
          refine heldW (i := 9) (v := ?dv9) rfl (by kernel_rfl) (by kernel_rfl) (by kernel_rfl) (fun _ _ _ h => h) (by rfl) ?dhy9 hHeld ?drest9
          case dhy9 => (intro w hSw; (try dsimp only at hSw); go_simp; try with_reducible rfl)
          simp only [Act.put, List.setIfInBounds_toArray, List.set_cons_zero, List.set_cons_succ]
          refine heldW (i := 10) (v := ?dv10) rfl (by kernel_rfl) (by kernel_rfl) (by kernel_rfl) (fun _ _ _ h => h) (by rfl) ?dhy10 hHeld ?drest10
          case dhy10 => (intro w hSw; (try dsimp only at hSw); go_simp; try with_reducible rfl)
          simp only [Act.put, List.setIfInBounds_toArray, List.set_cons_zero, List.set_cons_succ]
          refine heldW (i := 11) (v := ?dv11) rfl (by kernel_rfl) (by kernel_rfl) (by kernel_rfl) (fun _ _ _ h => h) (by rfl) ?dhy11 hHeld ?drest11
          case dhy11 => (intro w hSw; (try dsimp only at hSw); go_simp; try with_reducible rfl)
          simp only [Act.put, List.setIfInBounds_toArray, List.set_cons_zero, List.set_cons_succ]
          refine heldW (i := 12) (v := ?dv12) rfl (by kernel_rfl) (by kernel_rfl) (by kernel_rfl) (fun _ _ _ h => h) (by rfl) ?dhy12 hHeld ?drest12
          case dhy12 => (intro w hSw; (try dsimp only at hSw); go_simp; try with_reducible rfl)
          simp only [Act.put, List.setIfInBounds_toArray, List.set_cons_zero, List.set_cons_succ]
          refine heldC (i := 5) rfl (by kernel_rfl) (by rfl) (fun K hK => ?_)
          go_simp
          refine (HQ14.out _ ((Chg.refl _ w8).drew)).mono ?_
          rintro e w9 ⟨A9, c9, rfl, hby9, hn9⟩
          have hn89 : New w8 w9 := ((Chg.refl (fun _ => False) w8).drew).new hn9
          have z3 := (B8.out.1).chg hn89 (fun h => h)
          have z4 := (B8.out.2.1).chg hn89 (fun h => h)
          have z5 := (B8.out.2.2.1).chg hn89 (fun h => h)
          have z6 := (B8.out.2.2.2).chg hn89 (fun h => h)
          have c30 := z3.cell 0 (u := .int .i64 0) rfl
          have c31 := z3.cell 1 (u := .slice none 0 0) rfl
          have c40 := z4.cell 0 (u := .int .i64 0) rfl
          have c50 := z5.cell 0 (u := .bool false) rfl
          have c60 := z6.cell 0 (u := .int .i64 0) rfl
          have f30 := z3.frozen 0
          have f31 := z3.frozen 1
          have f40 := z4.frozen 0
          have f50 := z5.frozen 0
          have f60 := z6.frozen 0
          have l3 := z3.lt
          have l4 := z4.lt
          have l5 := z5.lt
          have l6 := z6.lt
          have HZ := Lib.hid (And.intro z3 (And.intro z4 (And.intro z5 (And.intro z6 (And.intro hby9 hn89)))))
          clear z3 z4 z5 z6 hby9
          refine hK.out _ _ (HSK.out _ (hn89.mono (fun _ _ hf => hf.elim))) (fun hHeld2 => ?_)
          clear hK K hHeld
          have hHeld := hHeld2
          clear hHeld2
          (try simp only [Act.put, List.setIfInBounds_toArray, List.set_cons_zero, List.set_cons_succ])
          refine heldW (i := 6) (v := ?dv6) rfl (by kernel_rfl) (by kernel_rfl) (by kernel_rfl) (fun _ _ _ h => h) (by rfl) ?dhy6 hHeld ?drest6
          case dhy6 => (intro w hSw; (try dsimp only at hSw); go_simp; try with_reducible rfl)
          simp only [Act.put, List.setIfInBounds_toArray, List.set_cons_zero, List.set_cons_succ]
          refine wpAnyH_ready (rs := [13]) (by kernel_rfl) (by simp) (AllReadyH.cons rfl (fun K hK => ?_) AllReadyH.nil)
          rw [if_pos (by rfl)]
          go_simp
          refine hK.out _ _ (HSK.out _ (((HZ.out.2.2.2.2.2.mono (fun _ _ hf => hf.elim)).setCell (p := ⟨w.heap.size + 1 + 1 + 1, 0, none⟩) (fun _ => hge3) _).setCell (p := ⟨w.heap.size + 1 + 1 + 1, 1, none⟩) (fun _ => hge3) _)) (fun hHeld2 => ?_)
          clear hK K hHeld
          have hHeld := hHeld2
          clear hHeld2
          (try simp only [Act.put, List.setIfInBounds_toArray, List.set_cons_zero, List.set_cons_succ])
          refine wpAnyH_ready (rs := [14]) (by kernel_rfl) (by simp) (AllReadyH.cons rfl (fun K hK => ?_) AllReadyH.nil)
          rw [if_pos (by rfl)]
          go_simp
          refine hK.out _ _ (HSK.out _ ((((HZ.out.2.2.2.2.2.mono (fun _ _ hf => hf.elim)).setCell (p := ⟨w.heap.size + 1 + 1 + 1, 0, none⟩) (fun _ => hge3) _).setCell (p := ⟨w.heap.size + 1 + 1 + 1, 1, none⟩) (fun _ => hge3) _).setCell (p := ⟨w.heap.size + 1 + 1 + 1 + 1, 0, none⟩) (fun _ => hge4) _)) (fun hHeld2 => ?_)
          clear hK K hHeld
          have hHeld := hHeld2
          clear hHeld2
          (try simp only [Act.put, List.setIfInBounds_toArray, List.set_cons_zero, List.set_cons_succ])
          refine wpAnyH_ready (rs := [15]) (by kernel_rfl) (by simp) (AllReadyH.cons rfl (fun K hK => ?_) AllReadyH.nil)
          rw [if_pos (by rfl)]
          go_simp
          refine hK.out _ _ (HSK.out _ (((((HZ.out.2.2.2.2.2.mono (fun _ _ hf => hf.elim)).setCell (p := ⟨w.heap.size + 1 + 1 + 1, 0, none⟩) (fun _ => hge3) _).setCell (p := ⟨w.heap.size + 1 + 1 + 1, 1, none⟩) (fun _ => hge3) _).setCell (p := ⟨w.heap.size + 1 + 1 + 1 + 1, 0, none⟩) (fun _ => hge4) _).setCell (p := ⟨w.heap.size + 1 + 1 + 1 + 1 + 1, 0, none⟩) (fun _ => hge5) _)) (fun hHeld2 => ?_)
          clear hK K hHeld
          have hHeld := hHeld2
          clear hHeld2
          (try simp only [Act.put, List.setIfInBounds_toArray, List.set_cons_zero, List.set_cons_succ])
          refine wpAnyH_ready (rs := [16]) (by kernel_rfl) (by simp) (AllReadyH.cons rfl (fun K hK => ?_) AllReadyH.nil)
          rw [if_pos (by rfl)]
          go_simp
          refine hK.out _ _ (HSK.out _ ((((((HZ.out.2.2.2.2.2.mono (fun _ _ hf => hf.elim)).setCell (p := ⟨w.heap.size + 1 + 1 + 1, 0, none⟩) (fun _ => hge3) _).setCell (p := ⟨w.heap.size + 1 + 1 + 1, 1, none⟩) (fun _ => hge3) _).setCell (p := ⟨w.heap.size + 1 + 1 + 1 + 1, 0, none⟩) (fun _ => hge4) _).setCell (p := ⟨w.heap.size + 1 + 1 + 1 + 1 + 1, 0, none⟩) (fun _ => hge5) _).setCell (p := ⟨w.heap.size + 1 + 1 + 1 + 1 + 1 + 1, 0, none⟩) (fun _ => hge6) _)) (fun hHeld2 => ?_)
          clear hK K hHeld
          have hHeld := hHeld2
          clear hHeld2
          (try simp only [Act.put, List.setIfInBounds_toArray, List.set_cons_zero, List.set_cons_succ])
          refine wpAnyH_done (by kernel_rfl) ?_ _
          simp only [OnlyN]
          gi_wp2
          obtain ⟨hp8, hd8, hn45, hch58, hnx, hnb, hk8⟩ := H8.out
          obtain ⟨z3, z4, z5, z6, hby9, hn89⟩ := HZ.out
          obtain ⟨hp4, hd3, hn4, _⟩ := H4.out
          obtain ⟨W5, hW5⟩ : ∃ W5, (((((w9.setCell ⟨w.heap.size + 1 + 1 + 1, 0, none⟩ (.int .i64 j.id)).setCell ⟨w.heap.size + 1 + 1 + 1, 1, none⟩ (.slice A9 nb c9)).setCell ⟨w.heap.size + 1 + 1 + 1 + 1, 0, none⟩ (.int .i64 (jn : Int))).setCell ⟨w.heap.size + 1 + 1 + 1 + 1 + 1, 0, none⟩ (.bool true)).setCell ⟨w.heap.size + 1 + 1 + 1 + 1 + 1 + 1, 0, none⟩ (.int .i64 0)) = W5 := ⟨_, rfl⟩
          have hcB : Chg (fun b => w.heap.size + 1 ≤ b ∧ b ≤ w.heap.size + 1 + 1 + 1 + 1 + 1 + 1) w9 W5 := by
            rw [← hW5]
            exact (((((Chg.refl _ w9).setCell (p := ⟨w.heap.size + 1 + 1 + 1, 0, none⟩) (fun _ => hge3) _).setCell (p := ⟨w.heap.size + 1 + 1 + 1, 1, none⟩) (fun _ => hge3) _).setCell (p := ⟨w.heap.size + 1 + 1 + 1 + 1, 0, none⟩) (fun _ => hge4) _).setCell (p := ⟨w.heap.size + 1 + 1 + 1 + 1 + 1, 0, none⟩) (fun _ => hge5) _).setCell (p := ⟨w.heap.size + 1 + 1 + 1 + 1 + 1 + 1, 0, none⟩) (fun _ => hge6) _
          have hkB : KeepsOthers w9 W5 := by
            rw [← hW5]
            exact ((((KeepsOthers.setCell _ _ _).trans (KeepsOthers.setCell _ _ _)).trans (KeepsOthers.setCell _ _ _)).trans (KeepsOthers.setCell _ _ _)).trans (KeepsOthers.setCell _ _ _)
          have q3 : Blk W5 (w.heap.size + 1 + 1 + 1) 30 #[.int .i64 j.id, .slice A9 j.body.length c9] := by
            rw [hnb]
            have h := ((((z3.set_ 0 (.int .i64 j.id)).set_ 1 (.slice A9 nb c9)).far (p := ⟨w.heap.size + 1 + 1 + 1 + 1, 0, none⟩) (by dsimp only; omega) (.int .i64 (jn : Int))).far (p := ⟨w.heap.size + 1 + 1 + 1 + 1 + 1, 0, none⟩) (by dsimp only; omega) (.bool true)).far (p := ⟨w.heap.size + 1 + 1 + 1 + 1 + 1 + 1, 0, none⟩) (by dsimp only; omega) (.int .i64 0)
            rw [hW5] at h
            exact h
          have q4 : Blk W5 (w.heap.size + 1 + 1 + 1 + 1) 3 #[.int .i64 (j.n : Int)] := by
            rw [HJN.out]
            have h := ((((z4.far (p := ⟨w.heap.size + 1 + 1 + 1, 0, none⟩) (by dsimp only; omega) (.int .i64 j.id)).far (p := ⟨w.heap.size + 1 + 1 + 1, 1, none⟩) (by dsimp only; omega) (.slice A9 nb c9)).set_ 0 (.int .i64 (jn : Int))).far (p := ⟨w.heap.size + 1 + 1 + 1 + 1 + 1, 0, none⟩) (by dsimp only; omega) (.bool true)).far (p := ⟨w.heap.size + 1 + 1 + 1 + 1 + 1 + 1, 0, none⟩) (by dsimp only; omega) (.int .i64 0)
            rw [hW5] at h
            exact h
          have q5 : Blk W5 (w.heap.size + 1 + 1 + 1 + 1 + 1) 4 #[.bool true] := by
            have h := ((((z5.far (p := ⟨w.heap.size + 1 + 1 + 1, 0, none⟩) (by dsimp only; omega) (.int .i64 j.id)).far (p := ⟨w.heap.size + 1 + 1 + 1, 1, none⟩) (by dsimp only; omega) (.slice A9 nb c9)).far (p := ⟨w.heap.size + 1 + 1 + 1 + 1, 0, none⟩) (by dsimp only; omega) (.int .i64 (jn : Int))).set_ 0 (.bool true)).far (p := ⟨w.heap.size + 1 + 1 + 1 + 1 + 1 + 1, 0, none⟩) (by dsimp only; omega) (.int .i64 0)
            rw [hW5] at h
            exact h
          have q6 : Blk W5 (w.heap.size + 1 + 1 + 1 + 1 + 1 + 1) 23 #[.int .i64 0] := by
            have h := ((((z6.far (p := ⟨w.heap.size + 1 + 1 + 1, 0, none⟩) (by dsimp only; omega) (.int .i64 j.id)).far (p := ⟨w.heap.size + 1 + 1 + 1, 1, none⟩) (by dsimp only; omega) (.slice A9 nb c9)).far (p := ⟨w.heap.size + 1 + 1 + 1 + 1, 0, none⟩) (by dsimp only; omega) (.int .i64 (jn : Int))).far (p := ⟨w.heap.size + 1 + 1 + 1 + 1 + 1, 0, none⟩) (by dsimp only; omega) (.bool true)).set_ 0 (.int .i64 0)
            rw [hW5] at h
            exact h
          rw [hW5]
          have hcW5 : Chg (fun b => b = g) w w5 := (HCG.out.new hn4).new hn45
          have hown1 : ∀ b, ownP g m dv V s1 b → ownP g m dv V s b := fun b hb => by rw [← HS1.out] at hb; exact hb
          have hd5 : DidP w w5 g m dv V V s s1 := ⟨hcW5.mono (fun b _ e => .inl e), fun b hb => .inl (hown1 b hb)⟩
          have hd58 := hd5.trans hd8
          have hs45 := hn45.size
          have hs58 := hch58.size
          have hs89 := hn89.size
          have hownlt : ∀ b, ownP g m dv V8 (giveOut s1 (k : Int) tick i j) b → b < w.heap.size ∨ w5.heap.size ≤ b := fun b hb => by
            rcases hd8.own b hb with h1 | h1
            · exact .inl (HH.out.lt (hown1 b h1))
            · exact .inr h1
          have hdf : DidP w W5 g m dv V V8 s (giveOut s1 (k : Int) tick i j) := ⟨(hd58.chg.new hn89).trans hcB (fun b hb e => by omega), hd58.own⟩
          have hp9 := hp8.new hn89
          have hpf := hp9.chg hcB (fun b hb e => by
            have := hownlt b hb
            omega) (fun b hb e => by
            rcases hb with hb | ⟨hb, _, _⟩
            · have := (HH.out.sep b hb).1
              omega
            · omega)
          have hpf2 := hpf.up (T' := TP w W5 g m dv V8 T (giveOut s1 (k : Int) tick i j)) (fun b hb hT => by
            rcases hT with hT | ⟨h1, h2, h3⟩
            · exact .inl hT
            · exact .inr ⟨by have := hcW5.size; omega, hb, h3⟩) (DidP.sep HH.out hdf)
          obtain ⟨A', c', hv', r1, r2, r3, r4⟩ := hby9
          rw [hnb] at hv' r1 r2
          have hr4 : ∀ b, Go.Mem.blk A' = some b → w8.heap.size ≤ b := fun b hb => (r4 b hb).2
          refine ⟨((hk8.trans (KeepsOthers.of_new hn89)).trans hkB).from _, rfl, i, j, A9, c9, V8, HJ.out.1, hnx, q3, q4, q5, q6, ⟨A', c', by rw [hnb]; exact hv', by rw [hnb]; exact r1.chg hcB (fun b hb _ e => by have := hr4 b hb; omega), by rw [hnb]; exact r2, r3, fun b hb => ⟨Nat.lt_of_lt_of_le (r4 b hb).1 hcB.size, by have := hr4 b hb; have := hcW5.size; omega, fun ho => by have := hr4 b hb; have := hp8.lt ho; omega⟩⟩, hpf2, hdf⟩
        · simp only [OnlyN]
          obtain ⟨hn45, hp5, hrow5, hrow7, hgb7, hbk7, ht7, hown6, hn5⟩ := H7.out
          obtain ⟨w8, hw8⟩ : ∃ w8, w7.setCell ⟨tb, 1, none⟩ (.slice A7 (jn + 1) c7) = w8 := ⟨_, rfl⟩
          rw [hw8]
          have hch58 : Chg (fun x => x = (V j.id).tb ∨ (V j.id).tv.ownBlock = some x) w5 w8 := by
            rw [← hw8]
            refine ((((Chg.refl (fun x => x = (V j.id).tb ∨ (V j.id).tv.ownBlock = some x) w5).drew.alloc _).grown hgb7 (fun b hb _ => .inr (by rw [HV5.out]; exact hb)))).setCell (p := ⟨tb, 1, none⟩) (fun _ => .inl HTB.out.symm) _
          have ht8 : Blk w8 (V j.id).tb 94 (tCells j { V j.id with tv := .slice A7 (jn + 1) c7 }) := by
            rw [HTB.out, ← hw8]
            exact ht7.set_ 1 _
          have hr8 : w8.ownsRow 0 100 3 (.slice A7 (jn + 1) c7) (j.n + 1) (trsV (triesOf s1 j.id ++ [⟨j.id, (j.n : Int), (k : Int), tick, false⟩])) := by
            rw [trsV_app, ← hw8, ← HJN.out]
            refine ownN_chg hrow7 ((Chg.refl (fun b => b = tb) w7).setCell (p := ⟨tb, 1, none⟩) (fun _ => rfl) _) (fun b hb e => ?_)
            subst e
            exact ownN_ne hrow7 ht7 (by decide) hb
          have hnx : next s1 tick = some i := next_of HJ.out.1 HF.out (fun i' hi' x hx => HFR.out i' (by rw [← HX1.out]; exact hi') x hx)
          have hck1 : check s1 (k : Int) tick = 0 := by
            rw [← HS1.out]
            have h1 := HS.out.1
            unfold check at h1 ⊢
            split at h1
            · cases h1
            · rename_i hc1
              rw [if_neg hc1, if_neg (show ¬ tick < tick by omega)]
          have hwf2 := hp5.wf.giveOut HJ.out.1 hck1
          obtain ⟨V8, hp8, hd8⟩ := hp5.gave HJ.out.1 (by rw [← HS1.out]) hwf2 hch58 ht8 hr8 (fun b hb => by
            rcases hbk7 with e | e
            · left; rw [HV5.out, ← e, HJN.out]; exact hb
            · right
              rw [HJN.out] at e
              rw [e] at hb; injection hb with hb; simp at hb; omega)
          obtain ⟨Ab, cb, hbv, hrb, hlb, hcb, htb8⟩ := hp5.body j HJ.out.2
          have hbl8 := hp5.wf.bl j HJ.out.2
          obtain ⟨nb, hnb⟩ : ∃ nb, j.body.length = nb := ⟨_, rfl⟩
          rw [hnb] at hbv hrb hlb hbl8
          have hrb8 : Rd w8 Ab nb (bs j.body) := hrb.chg hch58 (fun b hb _ e => (hp5.sep b (htb8 b hb).2).2 (.inr (.inr (.inr ⟨j, HJ.out.2, e⟩))))
          have HQ14 := Lib.hid (show ∀ W', New w8 W' → Calls Try.prog 45 #[.slice Ab nb cb] W' fun e w' => ∃ A' c', e = .returned (.slice A' nb c') ∧ ByT w' (fun b => W'.heap.size ≤ b) (.slice A' nb c') j.body ∧ New W' w' from fun W' hW => plCopied_any Ab nb cb j.body W' (hrb8.new hW) (by omega))
          rw [HTB.out] at ht8
          unfold tCells at ht8
          dsimp only at ht8
          rw [hbv] at ht8
          have HSK := Lib.hid (show ∀ W', Chg (fun b => w.heap.size + 1 ≤ b ∧ b ≤ w.heap.size + 1 + 1 + 1 + 1 + 1 + 1) w8 W' → W'.cell? ⟨tb, 0, none⟩ = some (.slice Ab nb cb) ∧ W'.cell? ⟨tb, 1, none⟩ = some (.slice A7 (jn + 1) c7) from fun W' hW => ⟨(ht8.chg hW (fun e => by omega)).cell 0 rfl, (ht8.chg hW (fun e => by omega)).cell 1 rfl⟩)
          have HB8 : ∀ b t cs, w.heap.size ≤ b → b < W0.heap.size → Blk w4 b t cs → t ≠ 100 → Blk w8 b t cs := fun b t cs hb1 hb2 hb3 hne => (hb3.chg hn45 (fun h => h)).chg hch58 (fun e => by
            rcases e with e | e
            · rw [HTB.out] at e; omega
            · rw [HV5.out] at e
              exact ownN_ne hrow5 (hb3.chg hn45 (fun h => h)) hne e)
          obtain ⟨_, _, _, x3, x4, x5, x6⟩ := H4.out.2.2.2
          have B8 := Lib.hid (And.intro (HB8 _ _ _ (by omega) (by omega) x3 (by decide)) (And.intro (HB8 _ _ _ (by omega) (by omega) x4 (by decide)) (And.intro (HB8 _ _ _ (by omega) (by omega) x5 (by decide)) (HB8 _ _ _ (by omega) (by omega) x6 (by decide)))))
          have hge3 : w.heap.size + 1 ≤ w.heap.size + 1 + 1 + 1 ∧ w.heap.size + 1 + 1 + 1 ≤ w.heap.size + 1 + 1 + 1 + 1 + 1 + 1 := by omega
          have hge4 : w.heap.size + 1 ≤ w.heap.size + 1 + 1 + 1 + 1 ∧ w.heap.size + 1 + 1 + 1 + 1 ≤ w.heap.size + 1 + 1 + 1 + 1 + 1 + 1 := by omega
          have hge5 : w.heap.size + 1 ≤ w.heap.size + 1 + 1 + 1 + 1 + 1 ∧ w.heap.size + 1 + 1 + 1 + 1 + 1 ≤ w.heap.size + 1 + 1 + 1 + 1 + 1 + 1 := by omega
          have hge6 : w.heap.size + 1 ≤ w.heap.size + 1 + 1 + 1 + 1 + 1 + 1 ∧ w.heap.size + 1 + 1 + 1 + 1 + 1 + 1 ≤ w.heap.size + 1 + 1 + 1 + 1 + 1 + 1 := by omega
          have hk8 : KeepsOthers W w8 := by
            rw [← hw8]
            exact ((KeepsOthers.of_new hn5).trans (KeepsOthers.of_new ((Chg.refl (fun _ => False) w5).drew.alloc _))).trans ((KeepsOthers.of_appN hown6 hgb7).trans (KeepsOthers.setCell _ _ _))
          have H8 := Lib.hid (And.intro hp8 (And.intro hd8 (And.intro hn45 (And.intro hch58 (And.intro hnx (And.intro hnb hk8))))))
          have hwrap : IntKind.i64.wrap (jn : Int) = (jn : Int) := IntWalk.i64_in _ (by omega)
          clear hw8 hk8 hn45 hp5 hrow5 hrow7 hgb7 hbk7 ht7 hown6 hn5 hch58 ht8 hr8 hnx hck1 hwf2 hp8 hd8 hbv hrb hrb8 htb8 HB8 x3 x4 x5 x6 hrun t1 u1 uf1 hS5 hS6 hS7 hS8 b1 b2 hHeld hnb
          gi_wp2_with fail
          refine wpIn_region_held_drew (S := fun w' => w'.cell? ⟨tb, 0, none⟩ = some (.slice Ab nb cb) ∧ w'.cell? ⟨tb, 1, none⟩ = some (.slice A7 (jn + 1) c7)) (by kernel_rfl) (by kernel_rfl) (HSK.out _ (Chg.refl _ _).drew) (fun hHeld => ?_)
          refine heldW (i := 0) (v := ?ev0) rfl (by kernel_rfl) (by kernel_rfl) (by kernel_rfl) (fun _ _ _ h => h) (by rfl) ?ehy0 hHeld ?erest0
          case ehy0 => (intro w hSw; (try dsimp only at hSw); go_simp; try with_reducible rfl)
          simp only [Act.put, List.setIfInBounds_toArray, List.set_cons_zero, List.set_cons_succ]
          refine heldW (i := 1) (v := ?ev1) rfl (by kernel_rfl) (by kernel_rfl) (by kernel_rfl) (fun _ _ _ h => h) (by rfl) ?ehy1 hHeld ?erest1
          case ehy1 => (intro w hSw; (try dsimp only at hSw); go_simp; try with_reducible rfl)
          simp only [Act.put, List.setIfInBounds_toArray, List.set_cons_zero, List.set_cons_succ]
          refine heldW (i := 2) (v := ?ev2) rfl (by kernel_rfl) (by kernel_rfl) (by kernel_rfl) (fun _ _ _ h => h) (by rfl) ?ehy2 hHeld ?erest2
          case ehy2 => (intro w hSw; (try dsimp only at hSw); go_simp; try with_reducible rfl)
          simp only [Act.put, List.setIfInBounds_toArray, List.set_cons_zero, List.set_cons_succ]
          refine heldW (i := 3) (v := ?ev3) rfl (by kernel_rfl) (by kernel_rfl) (by kernel_rfl) (fun _ _ _ h => h) (by rfl) ?ehy3 hHeld ?erest3
          case ehy3 => (intro w hSw; (try dsimp only at hSw); go_simp; try with_reducible rfl)
          simp only [Act.put, List.setIfInBounds_toArray, List.set_cons_zero, List.set_cons_succ]
          refine heldW (i := 4) (v := ?ev4) rfl (by kernel_rfl) (by kernel_rfl) (by kernel_rfl) (fun _ _ _ h => h) (by rfl) ?ehy4 hHeld ?erest4
          case ehy4 => (intro w hSw; (try dsimp only at hSw); go_simp; try with_reducible rfl)
          simp only [Act.put, List.setIfInBounds_toArray, List.set_cons_zero, List.set_cons_succ]
          refine heldW (i := 7) (v := ?ev7) rfl (by kernel_rfl) (by kernel_rfl) (by kernel_rfl) (fun _ _ _ h => h) (by rfl) ?ehy7 hHeld ?erest7
          case ehy7 => (intro w hSw; (try dsimp only at hSw); go_simp; try with_reducible rfl)
          simp only [Act.put, List.setIfInBounds_toArray, List.set_cons_zero, List.set_cons_succ]
          refine heldW (i := 8) (v := ?ev8) rfl (by kernel_rfl) (by kernel_rfl) (by kernel_rfl) (fun _ _ _ h => h) (by rfl) ?ehy8 hHeld ?erest8
          case ehy8 => (intro w hSw; (try dsimp only at hSw); go_simp; try with_reducible rfl)
          simp only [Act.put, List.setIfInBounds_toArray, List.set_cons_zero, List.set_cons_succ]
          refine heldW (i := 9) (v := ?ev9) rfl (by kernel_rfl) (by kernel_rfl) (by kernel_rfl) (fun _ _ _ h => h) (by rfl) ?ehy9 hHeld ?erest9
          case ehy9 => (intro w hSw; (try dsimp only at hSw); go_simp; try with_reducible rfl)
          simp only [Act.put, List.setIfInBounds_toArray, List.set_cons_zero, List.set_cons_succ]
          refine heldW (i := 10) (v := ?ev10) rfl (by kernel_rfl) (by kernel_rfl) (by kernel_rfl) (fun _ _ _ h => h) (by rfl) ?ehy10 hHeld ?erest10
          case ehy10 => (intro w hSw; (try dsimp only at hSw); go_simp; try with_reducible rfl)
          simp only [Act.put, List.setIfInBounds_toArray, List.set_cons_zero, List.set_cons_succ]
          refine heldW (i := 11) (v := ?ev11) rfl (by kernel_rfl) (by kernel_rfl) (by kernel_rfl) (fun _ _ _ h => h) (by rfl) ?ehy11 hHeld ?erest11
          case ehy11 => (intro w hSw; (try dsimp only at hSw); go_simp; try with_reducible rfl)
          simp only [Act.put, List.setIfInBounds_toArray, List.set_cons_zero, List.set_cons_succ]
          refine heldW (i := 12) (v := ?ev12) rfl (by kernel_rfl) (by kernel_rfl) (by kernel_rfl) (fun _ _ _ h => h) (by rfl) ?ehy12 hHeld ?erest12
          case ehy12 => (intro w hSw; (try dsimp only at hSw); go_simp; try with_reducible rfl)
          simp only [Act.put, List.setIfInBounds_toArray, List.set_cons_zero, List.set_cons_succ]
          refine heldC (i := 5) rfl (by kernel_rfl) (by rfl) (fun K hK => ?_)
          go_simp
          refine (HQ14.out _ ((Chg.refl _ w8).drew)).mono ?_
          rintro e w9 ⟨A9, c9, rfl, hby9, hn9⟩
          have hn89 : New w8 w9 := ((Chg.refl (fun _ => False) w8).drew).new hn9
          have z3 := (B8.out.1).chg hn89 (fun h => h)
          have z4 := (B8.out.2.1).chg hn89 (fun h => h)
          have z5 := (B8.out.2.2.1).chg hn89 (fun h => h)
          have z6 := (B8.out.2.2.2).chg hn89 (fun h => h)
          have c30 := z3.cell 0 (u := .int .i64 0) rfl
          have c31 := z3.cell 1 (u := .slice none 0 0) rfl
          have c40 := z4.cell 0 (u := .int .i64 0) rfl
          have c50 := z5.cell 0 (u := .bool false) rfl
          have c60 := z6.cell 0 (u := .int .i64 0) rfl
          have f30 := z3.frozen 0
          have f31 := z3.frozen 1
          have f40 := z4.frozen 0
          have f50 := z5.frozen 0
          have f60 := z6.frozen 0
          have l3 := z3.lt
          have l4 := z4.lt
          have l5 := z5.lt
          have l6 := z6.lt
          have HZ := Lib.hid (And.intro z3 (And.intro z4 (And.intro z5 (And.intro z6 (And.intro hby9 hn89)))))
          clear z3 z4 z5 z6 hby9
          refine hK.out _ _ (HSK.out _ (hn89.mono (fun _ _ hf => hf.elim))) (fun hHeld2 => ?_)
          clear hK K hHeld
          have hHeld := hHeld2
          clear hHeld2
          (try simp only [Act.put, List.setIfInBounds_toArray, List.set_cons_zero, List.set_cons_succ])
          refine heldW (i := 6) (v := ?ev6) rfl (by kernel_rfl) (by kernel_rfl) (by kernel_rfl) (fun _ _ _ h => h) (by rfl) ?ehy6 hHeld ?erest6
          case ehy6 => (intro w hSw; (try dsimp only at hSw); go_simp; try with_reducible rfl)
          simp only [Act.put, List.setIfInBounds_toArray, List.set_cons_zero, List.set_cons_succ]
          refine wpAnyH_ready (rs := [13]) (by kernel_rfl) (by simp) (AllReadyH.cons rfl (fun K hK => ?_) AllReadyH.nil)
          rw [if_pos (by rfl)]
          go_simp
          refine hK.out _ _ (HSK.out _ (((HZ.out.2.2.2.2.2.mono (fun _ _ hf => hf.elim)).setCell (p := ⟨w.heap.size + 1 + 1 + 1, 0, none⟩) (fun _ => hge3) _).setCell (p := ⟨w.heap.size + 1 + 1 + 1, 1, none⟩) (fun _ => hge3) _)) (fun hHeld2 => ?_)
          clear hK K hHeld
          have hHeld := hHeld2
          clear hHeld2
          (try simp only [Act.put, List.setIfInBounds_toArray, List.set_cons_zero, List.set_cons_succ])
          refine wpAnyH_ready (rs := [14]) (by kernel_rfl) (by simp) (AllReadyH.cons rfl (fun K hK => ?_) AllReadyH.nil)
          rw [if_pos (by rfl)]
          go_simp
          refine hK.out _ _ (HSK.out _ ((((HZ.out.2.2.2.2.2.mono (fun _ _ hf => hf.elim)).setCell (p := ⟨w.heap.size + 1 + 1 + 1, 0, none⟩) (fun _ => hge3) _).setCell (p := ⟨w.heap.size + 1 + 1 + 1, 1, none⟩) (fun _ => hge3) _).setCell (p := ⟨w.heap.size + 1 + 1 + 1 + 1, 0, none⟩) (fun _ => hge4) _)) (fun hHeld2 => ?_)
          clear hK K hHeld
          have hHeld := hHeld2
          clear hHeld2
          (try simp only [Act.put, List.setIfInBounds_toArray, List.set_cons_zero, List.set_cons_succ])
          refine wpAnyH_ready (rs := [15]) (by kernel_rfl) (by simp) (AllReadyH.cons rfl (fun K hK => ?_) AllReadyH.nil)
          rw [if_pos (by rfl)]
          go_simp
          refine hK.out _ _ (HSK.out _ (((((HZ.out.2.2.2.2.2.mono (fun _ _ hf => hf.elim)).setCell (p := ⟨w.heap.size + 1 + 1 + 1, 0, none⟩) (fun _ => hge3) _).setCell (p := ⟨w.heap.size + 1 + 1 + 1, 1, none⟩) (fun _ => hge3) _).setCell (p := ⟨w.heap.size + 1 + 1 + 1 + 1, 0, none⟩) (fun _ => hge4) _).setCell (p := ⟨w.heap.size + 1 + 1 + 1 + 1 + 1, 0, none⟩) (fun _ => hge5) _)) (fun hHeld2 => ?_)
          clear hK K hHeld
          have hHeld := hHeld2
          clear hHeld2
          (try simp only [Act.put, List.setIfInBounds_toArray, List.set_cons_zero, List.set_cons_succ])
          refine wpAnyH_ready (rs := [16]) (by kernel_rfl) (by simp) (AllReadyH.cons rfl (fun K hK => ?_) AllReadyH.nil)
          rw [if_pos (by rfl)]
          go_simp
          refine hK.out _ _ (HSK.out _ ((((((HZ.out.2.2.2.2.2.mono (fun _ _ hf => hf.elim)).setCell (p := ⟨w.heap.size + 1 + 1 + 1, 0, none⟩) (fun _ => hge3) _).setCell (p := ⟨w.heap.size + 1 + 1 + 1, 1, none⟩) (fun _ => hge3) _).setCell (p := ⟨w.heap.size + 1 + 1 + 1 + 1, 0, none⟩) (fun _ => hge4) _).setCell (p := ⟨w.heap.size + 1 + 1 + 1 + 1 + 1, 0, none⟩) (fun _ => hge5) _).setCell (p := ⟨w.heap.size + 1 + 1 + 1 + 1 + 1 + 1, 0, none⟩) (fun _ => hge6) _)) (fun hHeld2 => ?_)
          clear hK K hHeld
          have hHeld := hHeld2
          clear hHeld2
          (try simp only [Act.put, List.setIfInBounds_toArray, List.set_cons_zero, List.set_cons_succ])
          refine wpAnyH_done (by kernel_rfl) ?_ _
          simp only [OnlyN]
          gi_wp2
          obtain ⟨hp8, hd8, hn45, hch58, hnx, hnb, hk8⟩ := H8.out
          obtain ⟨z3, z4, z5, z6, hby9, hn89⟩ := HZ.out
          obtain ⟨hp4, hd3, hn4, _⟩ := H4.out
          obtain ⟨W5, hW5⟩ : ∃ W5, (((((w9.setCell ⟨w.heap.size + 1 + 1 + 1, 0, none⟩ (.int .i64 j.id)).setCell ⟨w.heap.size + 1 + 1 + 1, 1, none⟩ (.slice A9 nb c9)).setCell ⟨w.heap.size + 1 + 1 + 1 + 1, 0, none⟩ (.int .i64 (jn : Int))).setCell ⟨w.heap.size + 1 + 1 + 1 + 1 + 1, 0, none⟩ (.bool true)).setCell ⟨w.heap.size + 1 + 1 + 1 + 1 + 1 + 1, 0, none⟩ (.int .i64 0)) = W5 := ⟨_, rfl⟩
          have hcB : Chg (fun b => w.heap.size + 1 ≤ b ∧ b ≤ w.heap.size + 1 + 1 + 1 + 1 + 1 + 1) w9 W5 := by
            rw [← hW5]
            exact (((((Chg.refl _ w9).setCell (p := ⟨w.heap.size + 1 + 1 + 1, 0, none⟩) (fun _ => hge3) _).setCell (p := ⟨w.heap.size + 1 + 1 + 1, 1, none⟩) (fun _ => hge3) _).setCell (p := ⟨w.heap.size + 1 + 1 + 1 + 1, 0, none⟩) (fun _ => hge4) _).setCell (p := ⟨w.heap.size + 1 + 1 + 1 + 1 + 1, 0, none⟩) (fun _ => hge5) _).setCell (p := ⟨w.heap.size + 1 + 1 + 1 + 1 + 1 + 1, 0, none⟩) (fun _ => hge6) _
          have hkB : KeepsOthers w9 W5 := by
            rw [← hW5]
            exact ((((KeepsOthers.setCell _ _ _).trans (KeepsOthers.setCell _ _ _)).trans (KeepsOthers.setCell _ _ _)).trans (KeepsOthers.setCell _ _ _)).trans (KeepsOthers.setCell _ _ _)
          have q3 : Blk W5 (w.heap.size + 1 + 1 + 1) 30 #[.int .i64 j.id, .slice A9 j.body.length c9] := by
            rw [hnb]
            have h := ((((z3.set_ 0 (.int .i64 j.id)).set_ 1 (.slice A9 nb c9)).far (p := ⟨w.heap.size + 1 + 1 + 1 + 1, 0, none⟩) (by dsimp only; omega) (.int .i64 (jn : Int))).far (p := ⟨w.heap.size + 1 + 1 + 1 + 1 + 1, 0, none⟩) (by dsimp only; omega) (.bool true)).far (p := ⟨w.heap.size + 1 + 1 + 1 + 1 + 1 + 1, 0, none⟩) (by dsimp only; omega) (.int .i64 0)
            rw [hW5] at h
            exact h
          have q4 : Blk W5 (w.heap.size + 1 + 1 + 1 + 1) 3 #[.int .i64 (j.n : Int)] := by
            rw [HJN.out]
            have h := ((((z4.far (p := ⟨w.heap.size + 1 + 1 + 1, 0, none⟩) (by dsimp only; omega) (.int .i64 j.id)).far (p := ⟨w.heap.size + 1 + 1 + 1, 1, none⟩) (by dsimp only; omega) (.slice A9 nb c9)).set_ 0 (.int .i64 (jn : Int))).far (p := ⟨w.heap.size + 1 + 1 + 1 + 1 + 1, 0, none⟩) (by dsimp only; omega) (.bool true)).far (p := ⟨w.heap.size + 1 + 1 + 1 + 1 + 1 + 1, 0, none⟩) (by dsimp only; omega) (.int .i64 0)
            rw [hW5] at h
            exact h
          have q5 : Blk W5 (w.heap.size + 1 + 1 + 1 + 1 + 1) 4 #[.bool true] := by
            have h := ((((z5.far (p := ⟨w.heap.size + 1 + 1 + 1, 0, none⟩) (by dsimp only; omega) (.int .i64 j.id)).far (p := ⟨w.heap.size + 1 + 1 + 1, 1, none⟩) (by dsimp only; omega) (.slice A9 nb c9)).far (p := ⟨w.heap.size + 1 + 1 + 1 + 1, 0, none⟩) (by dsimp only; omega) (.int .i64 (jn : Int))).set_ 0 (.bool true)).far (p := ⟨w.heap.size + 1 + 1 + 1 + 1 + 1 + 1, 0, none⟩) (by dsimp only; omega) (.int .i64 0)
            rw [hW5] at h
            exact h
          have q6 : Blk W5 (w.heap.size + 1 + 1 + 1 + 1 + 1 + 1) 23 #[.int .i64 0] := by
            have h := ((((z6.far (p := ⟨w.heap.size + 1 + 1 + 1, 0, none⟩) (by dsimp only; omega) (.int .i64 j.id)).far (p := ⟨w.heap.size + 1 + 1 + 1, 1, none⟩) (by dsimp only; omega) (.slice A9 nb c9)).far (p := ⟨w.heap.size + 1 + 1 + 1 + 1, 0, none⟩) (by dsimp only; omega) (.int .i64 (jn : Int))).far (p := ⟨w.heap.size + 1 + 1 + 1 + 1 + 1, 0, none⟩) (by dsimp only; omega) (.bool true)).set_ 0 (.int .i64 0)
            rw [hW5] at h
            exact h
          rw [hW5]
          have hcW5 : Chg (fun b => b = g) w w5 := (HCG.out.new hn4).new hn45
          have hown1 : ∀ b, ownP g m dv V s1 b → ownP g m dv V s b := fun b hb => by rw [← HS1.out] at hb; exact hb
          have hd5 : DidP w w5 g m dv V V s s1 := ⟨hcW5.mono (fun b _ e => .inl e), fun b hb => .inl (hown1 b hb)⟩
          have hd58 := hd5.trans hd8
          have hs45 := hn45.size
          have hs58 := hch58.size
          have hs89 := hn89.size
          have hownlt : ∀ b, ownP g m dv V8 (giveOut s1 (k : Int) tick i j) b → b < w.heap.size ∨ w5.heap.size ≤ b := fun b hb => by
            rcases hd8.own b hb with h1 | h1
            · exact .inl (HH.out.lt (hown1 b h1))
            · exact .inr h1
          have hdf : DidP w W5 g m dv V V8 s (giveOut s1 (k : Int) tick i j) := ⟨(hd58.chg.new hn89).trans hcB (fun b hb e => by omega), hd58.own⟩
          have hp9 := hp8.new hn89
          have hpf := hp9.chg hcB (fun b hb e => by
            have := hownlt b hb
            omega) (fun b hb e => by
            rcases hb with hb | ⟨hb, _, _⟩
            · have := (HH.out.sep b hb).1
              omega
            · omega)
          have hpf2 := hpf.up (T' := TP w W5 g m dv V8 T (giveOut s1 (k : Int) tick i j)) (fun b hb hT => by
            rcases hT with hT | ⟨h1, h2, h3⟩
            · exact .inl hT
            · exact .inr ⟨by have := hcW5.size; omega, hb, h3⟩) (DidP.sep HH.out hdf)
          obtain ⟨A', c', hv', r1, r2, r3, r4⟩ := hby9
          rw [hnb] at hv' r1 r2
          have hr4 : ∀ b, Go.Mem.blk A' = some b → w8.heap.size ≤ b := fun b hb => (r4 b hb).2
          refine ⟨((hk8.trans (KeepsOthers.of_new hn89)).trans hkB).from _, rfl, i, j, A9, c9, V8, HJ.out.1, hnx, q3, q4, q5, q6, ⟨A', c', by rw [hnb]; exact hv', by rw [hnb]; exact r1.chg hcB (fun b hb _ e => by have := hr4 b hb; omega), by rw [hnb]; exact r2, r3, fun b hb => ⟨Nat.lt_of_lt_of_le (r4 b hb).1 hcB.size, by have := hr4 b hb; have := hcW5.size; omega, fun ho => by have := hr4 b hb; have := hp8.lt ho; omega⟩⟩, hpf2, hdf⟩
        -- behind region 13
  case done =>
    rintro D ys W hD hlen ⟨hnw, hfree⟩ hK
    have hnx : next s1 tick = none := next_all (fun j hj => by
      obtain ⟨i, hi⟩ := List.getElem?_of_mem hj
      exact hfree i (by rw [hlen]; exact (List.getElem?_eq_some_iff.1 hi).1) j hi)
    obtain ⟨hp4, hd3, hn4, x0, x1, x2, x3, x4, x5, x6⟩ := H4.out
    have y3 := x3.chg hnw (fun h => h)
    have y4 := x4.chg hnw (fun h => h)
    have y5 := x5.chg hnw (fun h => h)
    have y6 := x6.chg hnw (fun h => h)
    have c30 := y3.cell 0 (u := .int .i64 0) rfl
    have c31 := y3.cell 1 (u := .slice none 0 0) rfl
    have c4 := y4.cell 0 (u := .int .i64 0) rfl
    have c5 := y5.cell 0 (u := .bool false) rfl
    have c6 := y6.cell 0 (u := .int .i64 0) rfl
    have f30 := y3.frozen 0
    have f31 := y3.frozen 1
    have f4 := y4.frozen 0
    have f5 := y5.frozen 0
    have f6 := y6.frozen 0
    have l3 := y3.lt
    have l4 := y4.lt
    have l5 := y5.lt
    have l6 := y6.lt
    have HY := Lib.hid (And.intro y3 (And.intro y4 (And.intro y5 (And.intro y6 (And.intro hnw hnx)))))
    have HK := Lib.hid hK
    clear hp4 hd3 hn4 x0 x1 x2 x3 x4 x5 x6 y3 y4 y5 y6 hnw hfree hK hlen hnx
    gi_wp2
    obtain ⟨y3, y4, y5, y6, hnw, hnx⟩ := HY.out
    obtain ⟨hp4, hd3, hn4, _⟩ := H4.out
    obtain ⟨W5, hW5⟩ : ∃ W5, (((((W.setCell ⟨w.heap.size + 1 + 1 + 1, 0, none⟩ (.int .i64 0)).setCell ⟨w.heap.size + 1 + 1 + 1, 1, none⟩ (.slice none 0 0)).setCell ⟨w.heap.size + 1 + 1 + 1 + 1, 0, none⟩ (.int .i64 0)).setCell ⟨w.heap.size + 1 + 1 + 1 + 1 + 1, 0, none⟩ (.bool false)).setCell ⟨w.heap.size + 1 + 1 + 1 + 1 + 1 + 1, 0, none⟩ (.int .i64 0)) = W5 := ⟨_, rfl⟩
    have hcB : Chg (fun b => w.heap.size ≤ b) W W5 := by
      rw [← hW5]
      exact (((((Chg.refl _ W).setCell (p := ⟨w.heap.size + 1 + 1 + 1, 0, none⟩) (fun _ => by dsimp only; omega) _).setCell (p := ⟨w.heap.size + 1 + 1 + 1, 1, none⟩) (fun _ => by dsimp only; omega) _).setCell (p := ⟨w.heap.size + 1 + 1 + 1 + 1, 0, none⟩) (fun _ => by dsimp only; omega) _).setCell (p := ⟨w.heap.size + 1 + 1 + 1 + 1 + 1, 0, none⟩) (fun _ => by dsimp only; omega) _).setCell (p := ⟨w.heap.size + 1 + 1 + 1 + 1 + 1 + 1, 0, none⟩) (fun _ => by dsimp only; omega) _
    have hkB : KeepsOthers W W5 := by
      rw [← hW5]
      exact ((((KeepsOthers.setCell _ _ _).trans (KeepsOthers.setCell _ _ _)).trans (KeepsOthers.setCell _ _ _)).trans (KeepsOthers.setCell _ _ _)).trans (KeepsOthers.setCell _ _ _)
    have z3 : Blk W5 (w.heap.size + 1 + 1 + 1) 30 #[.int .i64 0, .slice none 0 0] := by
      have h := ((((y3.set_ 0 (.int .i64 0)).set_ 1 (.slice none 0 0)).far (p := ⟨w.heap.size + 1 + 1 + 1 + 1, 0, none⟩) (by dsimp only; omega) (.int .i64 0)).far (p := ⟨w.heap.size + 1 + 1 + 1 + 1 + 1, 0, none⟩) (by dsimp only; omega) (.bool false)).far (p := ⟨w.heap.size + 1 + 1 + 1 + 1 + 1 + 1, 0, none⟩) (by dsimp only; omega) (.int .i64 0)
      rw [hW5] at h
      exact h
    have z4 : Blk W5 (w.heap.size + 1 + 1 + 1 + 1) 3 #[.int .i64 0] := by
      have h := ((((y4.far (p := ⟨w.heap.size + 1 + 1 + 1, 0, none⟩) (by dsimp only; omega) (.int .i64 0)).far (p := ⟨w.heap.size + 1 + 1 + 1, 1, none⟩) (by dsimp only; omega) (.slice none 0 0)).set_ 0 (.int .i64 0)).far (p := ⟨w.heap.size + 1 + 1 + 1 + 1 + 1, 0, none⟩) (by dsimp only; omega) (.bool false)).far (p := ⟨w.heap.size + 1 + 1 + 1 + 1 + 1 + 1, 0, none⟩) (by dsimp only; omega) (.int .i64 0)
      rw [hW5] at h
      exact h
    have z5 : Blk W5 (w.heap.size + 1 + 1 + 1 + 1 + 1) 4 #[.bool false] := by
      have h := ((((y5.far (p := ⟨w.heap.size + 1 + 1 + 1, 0, none⟩) (by dsimp only; omega) (.int .i64 0)).far (p := ⟨w.heap.size + 1 + 1 + 1, 1, none⟩) (by dsimp only; omega) (.slice none 0 0)).far (p := ⟨w.heap.size + 1 + 1 + 1 + 1, 0, none⟩) (by dsimp only; omega) (.int .i64 0)).set_ 0 (.bool false)).far (p := ⟨w.heap.size + 1 + 1 + 1 + 1 + 1 + 1, 0, none⟩) (by dsimp only; omega) (.int .i64 0)
      rw [hW5] at h
      exact h
    have z6 : Blk W5 (w.heap.size + 1 + 1 + 1 + 1 + 1 + 1) 23 #[.int .i64 0] := by
      have h := ((((y6.far (p := ⟨w.heap.size + 1 + 1 + 1, 0, none⟩) (by dsimp only; omega) (.int .i64 0)).far (p := ⟨w.heap.size + 1 + 1 + 1, 1, none⟩) (by dsimp only; omega) (.slice none 0 0)).far (p := ⟨w.heap.size + 1 + 1 + 1 + 1, 0, none⟩) (by dsimp only; omega) (.int .i64 0)).far (p := ⟨w.heap.size + 1 + 1 + 1 + 1 + 1, 0, none⟩) (by dsimp only; omega) (.bool false)).set_ 0 (.int .i64 0)
      rw [hW5] at h
      exact h
    have hK5 : W5.heap[D]? = some (.deferred (some [])) := hkB.same D _ HK.out rfl
    rw [hW5]
    have hgp : W5.grownBy (W5.putObj D (.deferred none)) (some D) := grownBy_putObj' W5 D (.deferred none)
    have hkp : ∀ r, some D = some r → ∃ o : Obj, W5.heap[r]? = some o ∧ o.isCells = false := fun r e => by cases e; exact ⟨_, hK5, rfl⟩
    have q30 := (blk_kept z3 hgp hkp).cell 0 (u := .int .i64 0) rfl
    have q31 := (blk_kept z3 hgp hkp).cell 1 (u := .slice none 0 0) rfl
    have q4 := (blk_kept z4 hgp hkp).cell 0 (u := .int .i64 0) rfl
    have q5 := (blk_kept z5 hgp hkp).cell 0 (u := .bool false) rfl
    have q6 := (blk_kept z6 hgp hkp).cell 0 (u := .int .i64 0) rfl
    have hcW : Chg (fun b => b = g) w (W5.putObj D (.deferred none)) := (((HCG.out.new hn4).new hnw).trans hcB (fun b hb e => by omega)).grown hgp (fun r e hlt => by cases e; omega)
    have hpf : PI (W5.putObj D (.deferred none)) g m dv V T s1 := by
      have h1 := (hp4.new hnw).of_same hcB.size (fun b hb => hcB.block b (by
        rcases hb with hb | hb
        · exact (hp4.new hnw).lt hb
        · exact ((hp4.new hnw).sep b hb).1) (fun e => by
        have : b < w.heap.size := by
          rcases hb with hb | hb
          · exact HH.out.lt (by rw [← HS1.out] at hb; exact hb)
          · exact (HH.out.sep b hb).1
        omega))
      exact h1.kept hgp (B := w4.heap.size) (fun r e => by cases e; exact ⟨hD, _, hK5, rfl⟩) (by have := HH.out.map.lt; omega)
    have hdf : DidP w (W5.putObj D (.deferred none)) g m dv V V s s1 := ⟨hcW.mono (fun b _ e => .inl e), fun b hb => .inl (by rw [← HS1.out] at hb; exact hb)⟩
    have ea : Pl.ask s (k : Int) tick = (s1, ⟨0, [], 0, false, 0⟩) := by
      rw [ask_none HS.out.1 HS.out.2.1 HS.out.2.2 (by rw [← HS1.out] at hnx; exact hnx), HS1.out]
    refine ⟨by simp, .inl ⟨_, _, rfl, run_takeDeferred hK5, ?_⟩⟩
    rw [ea]
    refine ⟨.tuple #[.agg #[.int .i64 0, .slice none 0 0], .int .i64 0, .bool false, .int .i64 0], by simp [results, Try.results14, go_sem, q30, q31, q4, q5, q6], none, 0, rfl, V, ByT.nil _ _, hpf.up (fun b _ hb => .inl hb) (DidP.sep HH.out hdf), hdf⟩
end Go.Proofs.Ytbmplfhcdkeooaa
