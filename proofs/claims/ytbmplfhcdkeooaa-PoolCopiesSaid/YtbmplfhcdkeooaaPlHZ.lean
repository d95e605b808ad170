/- Contract of pool: Done. -/
import Derived.Test.YtbmplfhcdkeooaaPlGZ
set_option linter.unusedSimpArgs false
set_option linter.unusedVariables false
namespace Go.Mem
open Go.RowKit
theorem wpListIn_appRun {F : Fence} {d : Nat} {P : Program} {ops : Array Oper} {rest : List Oper} {o : Oper} {a : Act} {Q : Exit → Act → World → Prop} {w w' : World} (hgd : o.guard = none) (s x : Operand) (t : TypeId) (ho : o.op = .call { callee := .builtin .append, args := #[s, x], argTypes := #[t, t] }) {v y v' : Value} (hs : a.eval s = v) (hx : a.eval x = y)
    (hrun : (Builtin.append_ #[t, t] o.type #[v, y]).run P w = .ok v' w') (h : wpListIn F d P ops Q rest (a.put o.dst v') w') : wpListIn F d P ops Q (o :: rest) a w := by
  refine wpListIn_plain hgd fun K hK => ?_
  unfold Oper.wpIn
  refine ⟨?_, ?_⟩
  · simp [Oper.about, ho, resolve, Target.leads, Sem.run_pure]
  · rw [Oper.semAt_plain F _ _ (by rw [ho]; intro c hc'; cases hc')]
    simp only [execOp, ho, resolve, invoke, builtin, Sem.run_bind, Sem.run_pure, Result.andThen_ok, List.map_toArray, List.map_cons, List.map_nil, hs, hx]
    rw [hrun]
    exact hK _ _ h
theorem ownN_kept {W W' : World} {row : Option Nat} {base sz n : Nat} {e : TypeId} {v : Value} {xs : List Value} (hs : W.ownsRow base e sz v n xs) (hg : W.grownBy W' row) (hr : ∀ r, row = some r → ∃ o : Obj, W.heap[r]? = some o ∧ o.isCells = false) : W'.ownsRow base e sz v n xs :=
  ownN_chg hs (grown_chg hg) (fun k hk e => by
    obtain ⟨cs, hb⟩ := ownN_blk hs hk
    obtain ⟨o, ho, hc⟩ := hr k e.symm
    unfold Blk at hb
    rw [hb] at ho
    cases ho
    simp [Obj.isCells] at hc)
theorem ownN_lt {w : World} {base sz n : Nat} {e : TypeId} {v : Value} {xs : List Value} (h : w.ownsRow base e sz v n xs) {k : Nat} (hk : v.ownBlock = some k) : base ≤ k ∧ k < w.heap.size := h.lt k hk
theorem ownN_base {w : World} {base base' sz n : Nat} {e : TypeId} {v : Value} {xs : List Value} (h : w.ownsRow base e sz v n xs) (hb : base' ≤ base) : w.ownsRow base' e sz v n xs := by
  refine ⟨h.1, ?_⟩
  rcases h.2 with h0 | ⟨g, cap, cur, hv, hg, r⟩
  · exact .inl h0
  · exact .inr ⟨g, cap, cur, hv, by omega, r⟩
theorem KeepsOthers.of_appN {W W' : World} {base n sz : Nat} {e : TypeId} {v : Value} {xs : List Value} (hs : W.ownsRow base e sz v n xs) (hg : W.grownBy W' v.ownBlock) : KeepsOthers W W' :=
  KeepsOthers.of_grownBy hg (fun r o hr ho => by
    obtain ⟨cs, hb⟩ := ownN_blk hs hr
    unfold Blk at hb
    rw [hb] at ho
    cases ho
    rfl)
theorem KeepsOthers.of_new {W W' : World} (h : New W W') : KeepsOthers W W' := ⟨h.size, fun k o hk _ => h.heap hk (fun h => h)⟩
end Go.Mem
namespace Go.Proofs.Ytbmplfhcdkeooaa
set_option linter.unusedVariables false
open Go.RowKit Go.Shelf Go.Mem Go.Pl
attribute [local go_sem] Oper.semAt_some

/-- The cells of an answer; its bytes lie in blocks of T. -/
def RepC (w : World) (T : Nat → Prop) (cs : List Value) (d : Int × Ans) : Prop := ∃ v, cs = [.int .i64 d.1, .int .i64 d.2.worker, .int .i64 d.2.num, v] ∧ ByT w T v d.2.body
/-- A row of answers, the call's own. -/
def RepsV (w : World) (lo : Nat) (v : Value) (ds : List (Int × Ans)) : Prop :=
  ∃ css : List (List Value), w.ownsRow lo 38 4 v ds.length css.flatten ∧ css.length = ds.length ∧ ∀ (j : Nat) d, ds[j]? = some d → ∃ cs, css[j]? = some cs ∧ RepC w (fun k => lo ≤ k ∧ v.ownBlock ≠ some k) cs d
section
variable {w w' : World} {T T' : Nat → Prop} {cs : List Value} {d : Int × Ans} {lo : Nat} {v : Value} {ds : List (Int × Ans)}
theorem RepC.chg {S : Nat → Prop} (h : RepC w T cs d) (hc : Chg S w w') (hs : ∀ k, k < w.heap.size → T k → ¬ S k) (ht : ∀ k, k < w.heap.size → T k → T' k) : RepC w' T' cs d := by
  obtain ⟨v, h1, A, c, rfl, h2, h3, h4, h5⟩ := h
  exact ⟨_, h1, A, c, rfl, h2.chg hc (fun k hk _ => hs k (h5 k hk).1 (h5 k hk).2), h3, h4, fun k hk => ⟨Nat.lt_of_lt_of_le (h5 k hk).1 hc.size, ht k (h5 k hk).1 (h5 k hk).2⟩⟩
theorem RepC.len (h : RepC w T cs d) : cs.length = 4 := by
  obtain ⟨v, rfl, _⟩ := h
  rfl
theorem RepsV.nil (w : World) (lo : Nat) : RepsV w lo (.slice none 0 0) [] := ⟨[], World.ownsRow_nil w lo _ _, rfl, fun j o h => by simp at h⟩
theorem RepsV.chg {S : Nat → Prop} (h : RepsV w lo v ds) (hc : Chg S w w') (hs : ∀ k, S k → k < lo) : RepsV w' lo v ds := by
  obtain ⟨css, h1, h2, h3⟩ := h
  refine ⟨css, ownN_chg h1 hc (fun k hk e => by have := (ownN_lt h1 hk).1; have := hs k e; omega), h2, fun j o ho => ?_⟩
  obtain ⟨cs, h4, h5⟩ := h3 j o ho
  exact ⟨cs, h4, h5.chg hc (fun k _ hk e => by have := hs k e; omega) (fun k _ hk => hk)⟩
theorem RepsV.kept {row : Option Nat} (h : RepsV w lo v ds) (hg : w.grownBy w' row) (hr : ∀ r, row = some r → ∃ o : Obj, w.heap[r]? = some o ∧ o.isCells = false) : RepsV w' lo v ds := by
  obtain ⟨css, h1, h2, h3⟩ := h
  refine ⟨css, ownN_kept h1 hg hr, h2, fun j o ho => ?_⟩
  obtain ⟨cs, h4, u, q0, A, c, rfl, q2, q3, q4, q5⟩ := h3 j o ho
  exact ⟨cs, h4, _, q0, A, c, rfl, rd_kept q2 hg hr, q3, q4, fun k hk => ⟨Nat.lt_of_lt_of_le (q5 k hk).1 hg.size, (q5 k hk).2⟩⟩
theorem RepsV.base {lo' : Nat} (h : RepsV w lo v ds) (hb : lo' ≤ lo) : RepsV w lo' v ds := by
  obtain ⟨css, h1, h2, h3⟩ := h
  refine ⟨css, ownN_base h1 hb, h2, fun j o ho => ?_⟩
  obtain ⟨cs, h4, u, q0, A, c, rfl, q2, q3, q4, q5⟩ := h3 j o ho
  exact ⟨cs, h4, _, q0, A, c, rfl, q2, q3, q4, fun k hk => ⟨(q5 k hk).1, by have := (q5 k hk).2.1; omega, (q5 k hk).2.2⟩⟩
theorem RepsV.lt (h : RepsV w lo v ds) {k : Nat} (hk : v.ownBlock = some k) : lo ≤ k ∧ k < w.heap.size := by
  obtain ⟨css, h1, _⟩ := h
  exact ownN_lt h1 hk
theorem RepsV.ne {t : TypeId} {cs : Array Value} {g : Nat} (h : RepsV w lo v ds) (hb : Blk w g t cs) (hne : t ≠ 38) : v.ownBlock ≠ some g := by
  obtain ⟨css, h1, _⟩ := h
  exact ownN_ne h1 hb hne
theorem RepsV.shape (h : RepsV w lo v ds) : ∃ A c, v = .slice A ds.length c ∧ ds.length ≤ c ∧ c ≤ maxLen := by
  obtain ⟨css, h1, _⟩ := h
  obtain ⟨A, c, q1, q2, q3, _⟩ := ownN_shape h1
  exact ⟨A, c, q1, q2, q3⟩
/-- One more answer. -/
theorem RepsV.app (h : RepsV w lo v ds) (hlo : lo ≤ w.heap.size) {g : Nat} {B : Nat} (hc : RepC w (fun k => B ≤ k) cs d) (hB : ∀ k, v.ownBlock = some k → k < B) (hB2 : lo ≤ B) (hg : ∀ j u, cs[j]? = some u → w.cell? ⟨g, j, none⟩ = some u) (hn : ds.length ≤ 2000) :
    ∃ v' w', (Builtin.append_ #[59, 59] 59 #[v, .slice (some ⟨g, 0, none⟩) 1 1]).run Try.prog w = .ok v' w' ∧ RepsV w' lo v' (ds ++ [d]) ∧ w.grownBy w' v.ownBlock ∧ (v'.ownBlock = v.ownBlock ∨ v'.ownBlock = some w.heap.size) := by
  obtain ⟨css, h1, h2, h3⟩ := h
  have hl4 := hc.len
  obtain ⟨v', w', hr, ho, hgb, _, hbk⟩ := run_append_own_at (P := Try.prog) w lo 59 59 38 ((Try.prog.info? 38).get!) (((Try.prog.info? 38).get!).zero.get!) 4 48
    Try.underlying59 (by kernel_rfl) (by kernel_rfl) (by kernel_rfl) (by kernel_rfl) (by kernel_rfl) (by decide) v ds.length css.flatten h1 ⟨g, 0, none⟩ 1 1 cs (by rw [hl4])
    (fun j u hu => by rw [Addr.add_lit, Nat.zero_add]; exact hg j u hu) (by obtain ⟨u, rfl, A, c, rfl, _⟩ := hc; simp [Value.oneCell']) (by simp only [maxLen]; omega) (by omega) hlo
  have hch : Chg (fun k => v.ownBlock = some k) w w' := (Chg.refl (fun k => v.ownBlock = some k) w).grown hgb (fun k hk _ => hk)
  have hbk' : ∀ k, v'.ownBlock = some k → v.ownBlock = some k ∨ k = w.heap.size := fun k hk => by
    rcases hbk with e | e
    · exact .inl (e ▸ hk)
    · rw [e] at hk; injection hk with hk; exact .inr hk.symm
  refine ⟨v', w', hr, ⟨css ++ [cs], ?_, by simp [h2], fun j o2 ho2 => ?_⟩, hgb, hbk⟩
  · simpa using ho
  · by_cases hj : j < ds.length
    · rw [List.getElem?_append_left hj] at ho2
      obtain ⟨cs2, q1, q2⟩ := h3 j o2 ho2
      refine ⟨cs2, by rw [List.getElem?_append_left (by omega)]; exact q1, q2.chg hch (fun k _ hk => hk.2) (fun k hkl hk => ⟨hk.1, fun e => ?_⟩)⟩
      rcases hbk' k e with e | e
      · exact hk.2 e
      · omega
    · have e : j = ds.length := by
        have := (List.getElem?_eq_some_iff.1 ho2).1
        simp at this
        omega
      subst e
      have e2 : d = o2 := by simpa using ho2
      subst e2
      refine ⟨cs, by rw [← h2]; simp, hc.chg hch (fun k _ hk e => by have := hB k e; omega) (fun k hkl hk => ⟨by omega, fun e => ?_⟩)⟩
      rcases hbk' k e with e | e
      · have := hB k e; omega
      · omega
end
/-- The answers of the first tasks. -/
def donesTo (s : S) (k : Nat) : List (Int × Ans) := (s.jobs.take k).filterMap (fun j => j.ans.map (fun a => (j.id, a)))
theorem donesTo_none {s : S} {k : Nat} {j : Job} (h : s.jobs[k]? = some j) (hn : j.ans = none) : donesTo s (k + 1) = donesTo s k := by
  unfold donesTo
  rw [List.take_add_one, h, List.filterMap_append]
  simp [hn]
theorem donesTo_some {s : S} {k : Nat} {j : Job} {a : Ans} (h : s.jobs[k]? = some j) (hn : j.ans = some a) : donesTo s (k + 1) = donesTo s k ++ [(j.id, a)] := by
  unfold donesTo
  rw [List.take_add_one, h, List.filterMap_append]
  simp [hn]
theorem donesTo_len (s : S) (k : Nat) : (donesTo s k).length ≤ k := by
  unfold donesTo
  exact Nat.le_trans (List.length_filterMap_le _ _) (by rw [List.length_take]; omega)
theorem donesTo_all (s : S) : donesTo s s.jobs.length = dones s := by unfold donesTo dones; rw [List.take_length]
set_option maxRecDepth 100000 in
set_option maxHeartbeats 4000000 in
theorem plDone_any (g m : Nat) (dv : Value) (V : Int → Loc) (T : Nat → Prop) (s : S) (w : World) (h : PI w g m dv V T s) :
    Calls Try.prog 28 #[.pointer (some ⟨g, 0, none⟩)] w fun e w' => ∃ v, e = .returned v ∧ RepsV w' w.heap.size v (dones s) ∧ New w w' := by
  have HH := Lib.hid h
  have hjl := h.wf.len
  clear h
  refine (callsIn_wide (n := 10)).1 ?_
  refine callsIn_of_wp_marks Try.func28 rfl trivial ?_ rfl
  simp only [Try.ntmps28, List.size_toArray, List.length_cons, List.length_nil, Nat.reduceAdd, Nat.reduceSub, Array.replicate_succ, Array.replicate_zero, List.push_toArray, List.append_toArray, List.nil_append, List.cons_append]
  gi_wp2_with (refine ⟨trivial, ?_⟩; gi_at_call 46; refine (callsIn_wide.2 (all_any _ _)).mono ?_; rintro e w' ⟨rfl, hBs, hnew, hsz⟩)
  have hb1 : Blk w' w.heap.size 59 #[.slice none 0 0] := (Blk.new w 59 #[.slice none 0 0]).chg hnew (fun h => h)
  have hn1 : New w w' := ((Chg.refl _ w).alloc _).new hnew
  simp only [World.size_alloc] at hBs hsz ⊢
  have hp := HH.out.new hn1
  clear hnew
  refine wpIn_rangeN rfl (by omega) (gf := 70) (lb := #[.pointer (some ⟨w.heap.size + 1, 0, none⟩)]) rfl trivial (enters_of Try.func70 (by kernel_rfl) rfl)
    (all_seq 9 (by omega) g m (w.heap.size + 1) dv V T (fun k => k = w.heap.size) s w' hp (fun k hk e => by
      have := hk.elim (fun h => HH.out.lt h) (fun h => (HH.out.sep k h).1)
      omega) (by omega) hBs (fun k e => by omega)) (fun h h' => KpN.trans h h') (fun x W l o o' hl ho hoc => KpN.put _ _ W l o o' hl ho hoc) (fun _ => rfl) (fun pre x => FxA.stab _ _ _ _ _) (fun _ => Stab.const _ _) (fun _ => Stab.const _ _)
    (fun pre W => ∃ v, Blk W w.heap.size 59 #[v] ∧ (∀ N, (∀ y ∈ pre, y.1 = N) → RepsV W N v (donesTo s pre.length)) ∧ (∃ N, w'.heap.size ≤ N ∧ ∀ y ∈ pre, y.1 = N) ∧ Below w.heap.size w W)
    (fun _ _ _ => False) ?hI (fun _ _ => Stab.const _ _) ⟨_, hb1, fun N _ => by simpa [donesTo] using RepsV.nil _ _, ⟨w'.heap.size, Nat.le_refl _, by simp⟩, New.below hn1⟩ ?a1 ?assign ?body ?done ?stop
  case assign =>
    intro l' x W K hK
    gi_wp2
    exact hK
  case hI =>
    rintro pre W W' row ⟨v, h1, h3, h4, h5⟩ hg hr
    exact ⟨v, blk_kept h1 hg (fun r e => (hr r e).2), fun N hN => (h3 N hN).kept hg (fun r e => (hr r e).2), h4, h5.grown hg h5.size (fun k e => by have := (hr k e).1; have := hn1.size; omega)⟩
  case stop =>
    rintro D c pre W _ _ h _
    exact h.elim
  case body =>
    rintro l' pre x W ⟨v, hb, hown, hN0, hB⟩ ⟨hx1, hx2, hx3, hx4, hx5⟩
    obtain ⟨N, k⟩ := x
    dsimp only at hx1 hx2 hx3 hx4 hx5
    obtain ⟨j, hj⟩ : ∃ j, s.jobs[k]? = some j := ⟨_, List.getElem?_eq_getElem hx2⟩
    have hjm := List.mem_of_getElem? hj
    have hpW := HH.out.new (New.of_below hB)
    have htk := hpW.task j hjm
    have hc6 := htk.cell 6 (u := .bool j.ans.isSome) rfl
    have htl := htk.lt
    have htw := (HH.out.task j hjm).lt
    have hcs := hb.cell 0 (u := v) rfl
    have hfs := hb.frozen 0
    have hgl := hb.lt
    have ho := hown N hx3
    rw [← hx1] at ho
    have hl2 := donesTo_len s k
    have hsz1 : w.heap.size ≤ W.heap.size := hB.size
    have hwsz : w.heap.size + 2 ≤ w'.heap.size := by omega
    have HB := Lib.hid hb
    have HO := Lib.hid ho
    have HBB := Lib.hid hB
    have HX := Lib.hid hx1
    have HX3 := Lib.hid hx3
    have hpb := hpW
    clear hb ho hB hown hpW hp hb1 hn1 hBs hx1 hx3 hN0
    unfold encA
    rw [idA_at hj]
    dsimp only
    have hne : w.heap.size ≠ (V j.id).tb := by omega
    cases hd : j.ans with
    | none =>
      rw [hd] at hc6
      have HST := Lib.hid (donesTo_none hj hd)
      generalize (V j.id).tb = tb at *
      clear hd htk
      gi_wp2
      refine ⟨(KeepsOthers.refl _).from _, KpN.refl _ _ _ _, v, HB.out, fun N' hN' => ?_, ⟨N, hx4, fun y hy => ?_⟩, HBB.out⟩
      · obtain rfl : N = N' := hN' (N, k) (by simp)
        rw [List.length_append, ← HX.out, List.length_singleton, HST.out]; exact HO.out
      · rcases List.mem_append.1 hy with hy | hy
        · exact HX3.out y hy
        · simp at hy; rw [hy]
    | some a =>
      have hst := donesTo_some hj hd
      have hba := hpb.ans j hjm
      rw [show ansB j = a.body by unfold ansB; rw [hd]] at hba
      obtain ⟨Av, cv, hav, hrv, hlv, hcv, _⟩ := hba
      have hbl := (HH.out.wf.an j hjm a hd).1
      obtain ⟨nb, hnb⟩ : ∃ nb, a.body.length = nb := ⟨_, rfl⟩
      rw [hnb] at hav hrv hlv hbl
      have htk' : Blk W (V j.id).tb 94 #[(V j.id).bv, (V j.id).tv, .int .i64 j.id, .int .i64 a.worker, .int .i64 a.num, .slice Av nb cv, .bool true] := by
        have h1 := htk
        unfold tCells ansT ansW ansN at h1
        rw [hd, hav] at h1
        exact h1
      have t2 := htk'.cell 2 (u := .int .i64 j.id) rfl
      have t3 := htk'.cell 3 (u := .int .i64 a.worker) rfl
      have t4 := htk'.cell 4 (u := .int .i64 a.num) rfl
      have t5 := htk'.cell 5 (u := .slice Av nb cv) rfl
      have t6 := htk'.cell 6 (u := .bool true) rfl
      have HQ := Lib.hid (show ∀ W', New W W' → Calls Try.prog 45 #[.slice Av nb cv] W' fun e w' => ∃ A' c', e = .returned (.slice A' nb c') ∧ ByT w' (fun k => W'.heap.size ≤ k) (.slice A' nb c') a.body ∧ New W' w' from fun W' hW => plCopied_any Av nb cv a.body W' (hrv.new hW) (by omega))
      have HST := Lib.hid hst
      obtain ⟨ds, hds⟩ : ∃ ds, donesTo s k = ds := ⟨_, rfl⟩
      rw [hds] at hl2
      have HDS := Lib.hid hds
      have HNB := Lib.hid hnb
      generalize (V j.id).tb = tb at *
      clear hd htk htk' hst hc6 hav hrv hpb hds hnb
      obtain ⟨jid, hjid⟩ : ∃ jid, j.id = jid := ⟨_, rfl⟩
      obtain ⟨aw, haw⟩ : ∃ aw, a.worker = aw := ⟨_, rfl⟩
      obtain ⟨an, han⟩ : ∃ an, a.num = an := ⟨_, rfl⟩
      rw [hjid] at t2 ⊢
      rw [haw] at t3
      rw [han] at t4
      have HJ := Lib.hid (And.intro hjid (And.intro haw han))
      clear hjid haw han
      gi_wp2_with fail
      refine ⟨trivial, (CallsIn.inRound l' (callsIn_wide.2 (HQ.out _ ((Chg.refl _ W).alloc _)))).mono ?_⟩
      rintro e w2 ⟨A2, c2, rfl, hby2, hn2⟩
      have hN2 : New W w2 := ((Chg.refl _ W).alloc _).trans hn2 (fun _ _ h => h)
      have hbx : Blk w2 W.heap.size 38 #[.int .i64 jid, .int .i64 aw, .int .i64 an, .slice Av nb cv] := (Blk.new W _ _).chg hn2 (fun h => h)
      have x0 := hbx.cell 0 (u := .int .i64 jid) rfl
      have x1 := hbx.cell 1 (u := .int .i64 aw) rfl
      have x2 := hbx.cell 2 (u := .int .i64 an) rfl
      have x3 := hbx.cell 3 (u := .slice Av nb cv) rfl
      have xf := hbx.frozen 3
      have xl := hbx.lt
      have hb2 := HB.out.chg hN2 (fun h => h)
      have y0 := hb2.cell 0 (u := v) rfl
      have yf := hb2.frozen 0
      have yl := hb2.lt
      have ynx : w.heap.size ≠ W.heap.size := by omega
      obtain ⟨w3, hw3⟩ : ∃ w3, (w2.setCell ⟨W.heap.size, 3, none⟩ (.slice A2 nb c2)).alloc (.cells #[.int .i64 jid, .int .i64 aw, .int .i64 an, .slice A2 nb c2] 38) = w3 := ⟨_, rfl⟩
      have hN3 : New W w3 := by rw [← hw3]; exact (chg_setNew hN2 (Nat.le_refl _) _).alloc _
      have hlit : Blk w3 w2.heap.size 38 #[.int .i64 jid, .int .i64 aw, .int .i64 an, .slice A2 nb c2] := by
        rw [← hw3]
        have := Blk.new (w2.setCell ⟨W.heap.size, 3, none⟩ (.slice A2 nb c2)) 38 #[.int .i64 jid, .int .i64 aw, .int .i64 an, .slice A2 nb c2]
        simpa using this
      have hby3 : ByT w3 (fun k => W.heap.size + 1 ≤ k) (.slice A2 nb c2) a.body := by
        obtain ⟨A3, c3, hv, q1, q2, q3, q4⟩ := hby2
        refine ⟨A3, c3, hv, ?_, q2, q3, fun k hk => ?_⟩
        · refine q1.chg (S := fun k => k = W.heap.size) (by rw [← hw3]; exact (((Chg.refl (fun k => k = W.heap.size) w2).setCell (p := ⟨W.heap.size, 3, none⟩) (fun _ => rfl) _).alloc _)) (fun k hk _ e => ?_)
          have h1 : (W.alloc (Obj.cells #[.int .i64 jid, .int .i64 aw, .int .i64 an, .slice Av nb cv] 38)).heap.size ≤ k := (q4 k hk).2
          rw [World.size_alloc] at h1; omega
        · have h1 : (W.alloc (Obj.cells #[.int .i64 jid, .int .i64 aw, .int .i64 an, .slice Av nb cv] 38)).heap.size ≤ k := (q4 k hk).2
          rw [World.size_alloc] at h1
          refine ⟨Nat.lt_of_lt_of_le (q4 k hk).1 ?_, h1⟩
          rw [← hw3]; simp [World.setCell]
      obtain ⟨v4, w4, hrun, hrep4, hgb4, hbk4⟩ := (HO.out.chg hN3 (fun k h => h.elim)).app (d := (j.id, a)) (Nat.le_trans hx5 hN3.size) (g := w2.heap.size) (B := W.heap.size + 1) (cs := [.int .i64 jid, .int .i64 aw, .int .i64 an, .slice A2 nb c2]) ⟨_, by rw [← HJ.out.1, ← HJ.out.2.1, ← HJ.out.2.2], hby3⟩ (fun k hk => by have := (HO.out.lt hk).2; omega) (by omega) (fun q u hu => hlit.cell q (by simpa using hu)) (by rw [HDS.out]; omega)
      rw [← hw3] at hrun
      obtain ⟨A4, c4, rfl, _⟩ := hrep4.shape
      generalize (donesTo s k ++ [(j.id, a)]).length = n4 at *
      have hne4 := (HO.out.chg hN3 (fun k h => h.elim)).ne (HB.out.chg hN3 (fun h => h)) (by decide)
      have hb4 := (HB.out.chg hN3 (fun h => h)).grown hgb4 hne4
      have z0 := hb4.cell 0 (u := v) rfl
      have zf := hb4.frozen 0
      have zl := hb4.lt
      have H4 := Lib.hid (And.intro hrep4 (And.intro hgb4 (And.intro hbk4 (And.intro hN3 (And.intro hb4 hne4)))))
      clear hby2 hn2 hN2 hbx hb2 hw3 hN3 hlit hby3 hrep4 hgb4 hbk4 hb4 hne4
      gi_wp2_with (gi_at_builtin; refine wpListIn_appRun rfl _ _ _ rfl rfl rfl hrun ?_)
      obtain ⟨hrep4, hgb4, hbk4, hN3, hb4, hne4⟩ := H4.out
      have hchg : Chg (fun b => b = w.heap.size ∨ v.ownBlock = some b) W (w4.setCell ⟨w.heap.size, 0, none⟩ (.slice A4 n4 c4)) := ((hN3.mono (fun _ _ hf => hf.elim) : Chg (fun b => b = w.heap.size ∨ v.ownBlock = some b) W w3).grown hgb4 (fun b hb _ => .inr hb)).setCell (fun _ => .inl rfl) _
      have hkeep : KeepsOthers W (w4.setCell ⟨w.heap.size, 0, none⟩ (.slice A4 n4 c4)) := by
        obtain ⟨css, q1, _⟩ := HO.out.chg hN3 (fun k h => h.elim)
        exact (KeepsOthers.of_new hN3).trans ((KeepsOthers.of_appN q1 hgb4).trans (KeepsOthers.setCell _ _ _))
      refine ⟨hkeep.from _, KpN.chg hchg (Nat.le_trans hx4 hx5) hx5 (fun b hb => ?_), .slice A4 n4 c4, hb4.set_ 0 _, fun N' hN' => ?_, ⟨N, hx4, fun y hy => ?_⟩, HBB.out.trans (hchg.below (fun b hb => ?_) HBB.out.size)⟩
      · rcases hb with hb | hb
        · exact .inl hb
        · have := HO.out.lt hb; exact .inr ⟨this.1, by omega⟩
      · obtain rfl : N = N' := hN' (N, k) (by simp)
        rw [List.length_append, ← HX.out, List.length_singleton, HST.out]
        exact hrep4.chg ((Chg.refl (fun b => b = w.heap.size) w4).setCell (p := ⟨w.heap.size, 0, none⟩) (fun _ => rfl) _) (fun b e => by omega)
      · rcases List.mem_append.1 hy with hy | hy
        · exact HX3.out y hy
        · simp at hy; rw [hy]
      · rcases hb with hb | hb
        · omega
        · have := HO.out.lt hb; omega
  case done =>
    rintro D ys W hD hlen ⟨v, hb, hown, ⟨N, hN1, hN2⟩, hB⟩ hK
    have ho := hown N hN2
    have e1 : donesTo s ys.length = dones s := by rw [hlen]; exact donesTo_all s
    rw [e1] at ho
    have hcs := hb.cell 0 (u := v) rfl
    have HO := Lib.hid ho
    have HBB := Lib.hid hB
    have HK := Lib.hid hK
    clear hb ho hB hK hown e1 hlen
    gi_wp2
    have hfin := HO.out.kept (grownBy_putObj' W D (.deferred none)) (fun r e => by cases e; exact ⟨_, HK.out, rfl⟩)
    refine ⟨by simp, .inl ⟨_, _, rfl, run_takeDeferred HK.out, ?_⟩⟩
    have hsz2 := hn1.size
    exact ⟨_, results_tmp rfl _ _ _, v, rfl, hfin.base (by omega), New.of_below (HBB.out.trans (belowK_b (w := w) (Nat.le_refl _) _ D _ _ (by omega) HK.out rfl rfl))⟩
end Go.Proofs.Ytbmplfhcdkeooaa
