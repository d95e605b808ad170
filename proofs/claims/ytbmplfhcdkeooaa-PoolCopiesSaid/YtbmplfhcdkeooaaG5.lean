/- The parts PlV, PlW, PmG of the proof, in one text. -/
import Derived.Test.YtbmplfhcdkeooaaRpHZ
import Derived.Test.YtbmplfhcdkeooaaG7
import Derived.Test.YtbmplfhcdkeooaaPmCZ
import Derived.Test.YtbmplfhcdkeooaaG6
set_option linter.unusedSimpArgs false
set_option linter.unusedVariables false

namespace Go.Mem
set_option linter.unusedVariables false
open Go.RowKit
section
variable {P : Program} {w w' : World} {t e : TypeId} {sz bytes : Nat}
/-- copy of a whole slice over a whole row of the same length. -/
theorem run_cpN (hE : ElemN P t e sz bytes) (ty : TypeId) {g n c c' : Nat} {cur : Array Value} (hg : w.heap[g]? = some (.cells cur e (0, 0))) (hcs : cur.size = n * sz) {A : Option Addr} {xs : List Value} (hr : RdN w A sz n xs) (h1 : ∀ u ∈ xs, u.oneCell' = true) :
    (Builtin.copy_ #[t, t] ty #[.slice (some ⟨g, 0, none⟩) n c, .slice A n c']).run P w = .ok (goInt n) (w.setRow g xs.toArray) := by
  obtain ⟨ht, ⟨i, z, hi, hz, hsize, hby, hzs⟩, hsz⟩ := hE
  have hl := hr.1
  have hst := run_storeCells_at P g 0 e xs 0 cur w hg (by omega) h1
  have e1 : cur.toList.take (0 + 0) ++ xs ++ cur.toList.drop (0 + 0 + xs.length) = xs := by
    have : cur.toList.drop (0 + 0 + xs.length) = [] := List.drop_eq_nil_of_le (by simp; omega)
    rw [this]
    simp
  rw [e1] at hst
  rcases Nat.eq_zero_or_pos n with h0 | h0
  · have hx : xs = [] := List.eq_nil_of_length_eq_zero (by rw [hl, h0, Nat.zero_mul])
    subst hx
    subst h0
    have e2 : w.setRow g #[] = w := by
      have : cur = #[] := Array.eq_empty_of_size_eq_zero (by rw [hcs, Nat.zero_mul])
      subst this
      exact setRow_self w g #[] e (0, 0) hg
    cases A with
    | none => simp [Builtin.copy_, run_underlying ht, Builtin.lenOf, Builtin.firstCells, sizeOf, typeInfo, hi, storeCells, e2]
    | some ad => simp [Builtin.copy_, run_underlying ht, Builtin.lenOf, Builtin.firstCells, sizeOf, typeInfo, hi, storeCells, loadCells, loadCellsFrom, e2]
  · obtain ⟨ad, rfl, hc⟩ := hr.2 h0
    have hld := run_loadCells_list (P := P) w ad xs hc
    simp [Builtin.copy_, run_underlying ht, Builtin.lenOf, Builtin.firstCells, sizeOf, typeInfo, hi, hsize, ← hl, hld, hst]
theorem step_cpN {ops : Array Oper} {o : Oper} {a : Act} {K : Act → World → Prop} {Q : Exit → Act → World → Prop} {E : Prop} (hgd : o.guard = none) (d s : Operand) (t t' : TypeId)
    (ho : o.op = .call { callee := .builtin .copy, args := #[d, s], argTypes := #[t, t'] }) {v u : Value} (hd : a.eval d = v) (hs : a.eval s = u) {v' : Value}
    (hr : (Builtin.copy_ #[t, t'] o.type #[v, u]).run P w = .ok v' w') (h : K (a.put o.dst v') w') : if Region.wanted o (yielded ops a.tmps) = true then Oper.wp P o a w K Q else E := by
  have hw : Region.wanted o (yielded ops a.tmps) = true := by simp [Region.wanted, hgd]
  rw [if_pos hw]
  unfold Oper.wp execOp
  simp only [ho, resolve, invoke, builtin, Sem.run_bind, Sem.run_pure, Result.andThen_ok, List.map_toArray, List.map_cons, List.map_nil, hd, hs, hr]
  exact h
theorem setRow_chg (w : World) (g : Nat) (cs : Array Value) : Chg (fun k => k = g) w (w.setRow g cs) := ⟨rfl, rfl, rfl, by simp [World.setRow], fun k hk hn => setRow_other w g k cs hn⟩
end
end Go.Mem
namespace Go.Proofs.Ytbmplfhcdkeooaa
set_option linter.unusedVariables false
open Go.RowKit Go.Mem Go.Pl

/-- The entries that have been copied. -/
def entC (V : Int → Loc) (s : S) (left : Int → Bool) : List Ent := (s.jobs.filter (fun j => !left j.id)).map (fun j => (j.id, .pointer (some ⟨(V j.id).tb, 0, none⟩)))
theorem mem_entC {V : Int → Loc} {s : S} {left : Int → Bool} {x : Ent} : x ∈ entC V s left ↔ ∃ j ∈ s.jobs, left j.id = false ∧ x = (j.id, .pointer (some ⟨(V j.id).tb, 0, none⟩)) := by
  unfold entC
  rw [List.mem_map]
  constructor
  · rintro ⟨j, hj, rfl⟩
    obtain ⟨h1, h2⟩ := List.mem_filter.1 hj
    exact ⟨j, h1, by simpa using h2, rfl⟩
  · rintro ⟨j, hj, hl, rfl⟩
    exact ⟨j, List.mem_filter.2 ⟨hj, by simp [hl]⟩, rfl⟩
theorem entC_rise (V : Int → Loc) {s : S} (h : WF s) (left : Int → Bool) : Rise (entC V s left) := by
  unfold Rise entC
  rw [List.pairwise_map]
  exact (h.rise.filter _)
theorem entC_len (V : Int → Loc) (s : S) (left : Int → Bool) : (entC V s left).length ≤ s.jobs.length := by
  unfold entC
  rw [List.length_map]
  exact List.length_filter_le _ _
/-- A part of a copy: block G, map M, flags dv; the tasks that are not left lie at V2. Its blocks are of the kind Y. -/
structure CpI (Y : Nat → Prop) (w : World) (G M : Nat) (dv : Value) (V V2 : Int → Loc) (s : S) (left : Int → Bool) : Prop where
  blk : Blk w G 89 (pCells s dv M)
  map : MI w Try.prog 3 M (entC V2 s left)
  dead : RowV w 4 IsBo dv (s.alive.map (fun b => .bool (!b)))
  task : ∀ j ∈ s.jobs, left j.id = false → Blk w (V2 j.id).tb 94 (tCells j (V2 j.id))
  tries : ∀ j ∈ s.jobs, left j.id = false → w.ownsRow 0 100 3 (V2 j.id).tv j.n (trsV (triesOf s j.id))
  same : ∀ j ∈ s.jobs, left j.id = false → (V2 j.id).bv = (V j.id).bv ∧ (V2 j.id).av = (V j.id).av
  own : ∀ j ∈ s.jobs, left j.id = false → Y (V2 j.id).tb ∧ ∀ k, (V2 j.id).tv.ownBlock = some k → Y k
  apT : ∀ i ∈ s.jobs, ∀ j ∈ s.jobs, left i.id = false → left j.id = false → (V2 i.id).tb = (V2 j.id).tb → i.id = j.id
  apR : ∀ i ∈ s.jobs, ∀ j ∈ s.jobs, left i.id = false → left j.id = false → ∀ k, (V2 i.id).tv.ownBlock = some k → (V2 j.id).tv.ownBlock = some k → i.id = j.id
  base : Y G ∧ Y M ∧ ∀ k, blkV dv = some k → Y k
section
variable {Y U : Nat → Prop} {w w' : World} {g m G M : Nat} {dv dv2 : Value} {V V2 : Int → Loc} {T : Nat → Prop} {s : S} {left : Int → Bool}
theorem CpI.chg (h : CpI Y w G M dv V V2 s left) (hc : Chg U w w') (hs : ∀ k, Y k → ¬ U k) : CpI Y w' G M dv V V2 s left :=
  ⟨h.blk.chg hc (hs _ h.base.1), h.map.chg hc (hs _ h.base.2.1), h.dead.chg hc (fun k hk => hs k (h.base.2.2 k hk)), fun j hj hl => (h.task j hj hl).chg hc (hs _ (h.own j hj hl).1), fun j hj hl => ownN_chg (h.tries j hj hl) hc (fun k hk => hs k ((h.own j hj hl).2 k hk)), h.same, h.own, h.apT, h.apR, h.base⟩
theorem CpI.step (h : CpI Y w G M dv V V2 s left) (hwf : WF s) {j : Job} (hj : j ∈ s.jobs) (hl : left j.id = true) {L : Loc} (hc : Chg (fun k => k = M) w w')
    (hm : MI w' Try.prog 3 M (pt (entC V2 s left) j.id (.pointer (some ⟨L.tb, 0, none⟩)))) (ht : Blk w' L.tb 94 (tCells j L)) (hr : w'.ownsRow 0 100 3 L.tv j.n (trsV (triesOf s j.id))) (hb : L.bv = (V j.id).bv ∧ L.av = (V j.id).av)
    (hy : Y L.tb ∧ ∀ k, L.tv.ownBlock = some k → Y k) (h1 : ∀ i ∈ s.jobs, left i.id = false → (V2 i.id).tb ≠ L.tb) (h2 : ∀ i ∈ s.jobs, left i.id = false → ∀ k, (V2 i.id).tv.ownBlock = some k → L.tv.ownBlock ≠ some k) : CpI Y w' G M dv V (updL V2 j.id L) s (fun x => left x && !(x == j.id)) := by
  obtain ⟨V', hV'⟩ : ∃ V', updL V2 j.id L = V' := ⟨_, rfl⟩
  have hv1 : V' j.id = L := by rw [← hV']; exact updL_same _ _ _
  have hv2 : ∀ i, i ≠ j.id → V' i = V2 i := fun i hi => by rw [← hV']; exact updL_other _ _ hi
  have key : ∀ i ∈ s.jobs, (left i.id && !(i.id == j.id)) = false → i = j ∨ (left i.id = false ∧ i.id ≠ j.id) := fun i hi hf => by
    by_cases e : i.id = j.id
    · exact .inl (rise_uniq hwf.rise hi hj e)
    · refine .inr ⟨?_, e⟩
      rcases Bool.eq_false_or_eq_true (left i.id) with h0 | h0
      · rw [h0] at hf; simp [e] at hf
      · exact h0
  rw [hV']
  have hMG : G ≠ M := fun e => MI.not_blk h.map h.blk e
  have hdM : ∀ k, blkV dv = some k → ¬ (k = M) := fun k hk e => by
    obtain ⟨cs, hb, _⟩ := h.dead.kind hk
    exact MI.not_blk h.map hb e
  have htM : ∀ i ∈ s.jobs, left i.id = false → (V2 i.id).tb ≠ M := fun i hi hf => MI.not_blk h.map (h.task i hi hf)
  have hrM : ∀ i ∈ s.jobs, left i.id = false → ∀ k, (V2 i.id).tv.ownBlock = some k → ¬ (k = M) := fun i hi hf k hk e => by
    obtain ⟨cs, hb⟩ := ownN_blk (h.tries i hi hf) hk
    exact MI.not_blk h.map hb e
  refine ⟨h.blk.chg hc hMG, ?_, h.dead.chg hc hdM, fun i hi hf => ?_, fun i hi hf => ?_, fun i hi hf => ?_, fun i hi hf => ?_, fun i hi k hk hf hg e => ?_, fun i hi k hk hf hg x e1 e2 => ?_, h.base⟩
  · have : entC V' s (fun x => left x && !(x == j.id)) = pt (entC V2 s left) j.id (.pointer (some ⟨L.tb, 0, none⟩)) := by
      refine (entC_rise _ hwf _).ext ((entC_rise _ hwf _).pt _ _) (fun x => ?_)
      rw [mem_entC, mem_pt, mem_entC]
      constructor
      · rintro ⟨i, hi, hf, rfl⟩
        rcases key i hi hf with rfl | ⟨hf, hne⟩
        · left; rw [hv1]
        · right; exact ⟨⟨i, hi, hf, by rw [hv2 _ hne]⟩, hne⟩
      · rintro (rfl | ⟨⟨i, hi, hf, rfl⟩, hne⟩)
        · exact ⟨j, hj, by simp, by rw [hv1]⟩
        · exact ⟨i, hi, by simp [hf], by rw [hv2 _ hne]⟩
    rw [this]; exact hm
  · rcases key i hi hf with rfl | ⟨hf, hne⟩
    · rw [hv1]; exact ht
    · rw [hv2 _ hne]; exact (h.task i hi hf).chg hc (htM i hi hf)
  · rcases key i hi hf with rfl | ⟨hf, hne⟩
    · rw [hv1]; exact hr
    · rw [hv2 _ hne]; exact ownN_chg (h.tries i hi hf) hc (hrM i hi hf)
  · rcases key i hi hf with rfl | ⟨hf, hne⟩
    · rw [hv1]; exact hb
    · rw [hv2 _ hne]; exact h.same i hi hf
  · rcases key i hi hf with rfl | ⟨hf, hne⟩
    · rw [hv1]; exact hy
    · rw [hv2 _ hne]; exact h.own i hi hf
  · rcases key i hi hf with rfl | ⟨hf', hne⟩ <;> rcases key k hk hg with rfl | ⟨hg', hne2⟩
    · rfl
    · rw [hv1, hv2 _ hne2] at e; exact absurd e.symm (h1 k hk hg')
    · rw [hv1, hv2 _ hne] at e; exact absurd e (h1 i hi hf')
    · rw [hv2 _ hne, hv2 _ hne2] at e; exact h.apT i hi k hk hf' hg' e
  · rcases key i hi hf with rfl | ⟨hf', hne⟩ <;> rcases key k hk hg with rfl | ⟨hg', hne2⟩
    · rfl
    · rw [hv1] at e1; rw [hv2 _ hne2] at e2; exact absurd e1 (h2 k hk hg' x e2)
    · rw [hv1] at e2; rw [hv2 _ hne] at e1; exact absurd e2 (h2 i hi hf' x e1)
    · rw [hv2 _ hne] at e1; rw [hv2 _ hne2] at e2; exact h.apR i hi k hk hf' hg' x e1 e2
theorem CpI.start (hb : Blk w G 89 (pCells s dv M)) (hm : MI w Try.prog 3 M []) (hd : RowV w 4 IsBo dv (s.alive.map (fun b => .bool (!b)))) (hl : ∀ j ∈ s.jobs, left j.id = true) (hy : Y G ∧ Y M ∧ ∀ k, blkV dv = some k → Y k) : CpI Y w G M dv V V2 s left := by
  have no : ∀ j ∈ s.jobs, left j.id = false → False := fun j hj h => by rw [hl j hj] at h; cases h
  have he : entC V2 s left = [] := by
    unfold entC
    rw [List.map_eq_nil_iff, List.filter_eq_nil_iff]
    intro j hj
    simp [hl j hj]
  exact ⟨hb, by rw [he]; exact hm, hd, fun j hj h => (no j hj h).elim, fun j hj h => (no j hj h).elim, fun j hj h => (no j hj h).elim, fun j hj h => (no j hj h).elim, fun i hi j hj h => (no i hi h).elim, fun i hi j hj h => (no i hi h).elim, hy⟩
/-- All has been copied. -/
theorem CpI.done (h : CpI Y w' G M dv2 V V2 s left) (hp : PI w g m dv V T s) (hn : New w w') (hy : ∀ k, Y k → w.heap.size ≤ k) (hl : ∀ i, left i = false) : PI w' G M dv2 V2 T s ∧ ∀ k, ownP G M dv2 V2 s k → w.heap.size ≤ k := by
  have hown : ∀ k, ownP G M dv2 V2 s k → w.heap.size ≤ k := fun k hk => by
    rcases hk with rfl | rfl | hk | ⟨j, hj, rfl | hk⟩
    · exact hy _ h.base.1
    · exact hy _ h.base.2.1
    · exact hy _ (h.base.2.2 k hk)
    · exact hy _ (h.own j hj (hl _)).1
    · exact hy _ ((h.own j hj (hl _)).2 k hk)
  have hent : entC V2 s left = entP V2 s := by
    unfold entC entP
    rw [List.filter_eq_self.2 (fun j _ => by simp [hl])]
  have hm := h.map
  rw [hent] at hm
  refine ⟨⟨h.blk, hm, h.dead, fun j hj => h.task j hj (hl _), fun j hj => ?_, fun j hj => h.tries j hj (hl _), fun j hj => ?_, fun i hi j hj => h.apT i hi j hj (hl _) (hl _), fun i hi j hj => h.apR i hi j hj (hl _) (hl _), hp.wf, fun k hk => ⟨Nat.lt_of_lt_of_le (hp.sep k hk).1 hn.size, fun ho => ?_⟩⟩, hown⟩
  · rw [(h.same j hj (hl _)).1]; exact (hp.body j hj).chg hn (fun _ _ hf => hf)
  · rw [(h.same j hj (hl _)).2]; exact (hp.ans j hj).chg hn (fun _ _ hf => hf)
  · have := hown k ho
    have := (hp.sep k hk).1
    omega
end
end Go.Proofs.Ytbmplfhcdkeooaa

namespace Go.Proofs.Ytbmplfhcdkeooaa
set_option linter.unusedVariables false
open Go.RowKit Go.Mem Go.Pl

theorem elemTryN : ElemN Try.prog 92 100 3 24 := ElemN.mk' Try.underlying92 (by kernel_rfl) (by omega)
theorem alive_bo (l : List Bool) : ∀ u ∈ l.map (fun b => Value.bool (!b)), IsBo u := fun u hu => by
  obtain ⟨b, _, rfl⟩ := List.mem_map.1 hu
  exact ⟨_, rfl⟩
theorem alive_one (l : List Bool) : ∀ u ∈ l.map (fun b => Value.bool (!b)), u.oneCell' = true := fun u hu => by
  obtain ⟨b, _, rfl⟩ := List.mem_map.1 hu
  rfl
/-- The copy's block and map. -/
theorem copy_pre {g m gd c N : Nat} {V : Int → Loc} {T : Nat → Prop} {s : S} {w w2 : World} {tmo tck : Int} {bl : List Value} {A' : Option Addr} {c' : Nat} (h : PI w g m (.slice (some ⟨gd, 0, none⟩) s.alive.length c) V T s) (htmo : s.timeout = tmo) (htck : s.tick = tck) (hbl : s.alive.map (fun b => Value.bool (!b)) = bl)
    (hg2 : World.grownBy ((w.alloc (Obj.cells #[.slice (some ⟨gd, 0, none⟩) N c, .int .i64 tmo, .int .i64 tck, .map (some m)] 89)).alloc (Obj.cells #[] 4)) w2 (some (w.heap.size + 1))) (hat : blk A' = some (w.heap.size + 1) ∨ ∃ k, blk A' = some k ∧ w.heap.size < k) (hown2 : RowV w2 4 IsBo (.slice A' N c') ([] ++ bl)) :
    ∃ w3 w4, w2.setCell ⟨w.heap.size, 0, none⟩ (.slice A' N c') = w3 ∧ (w3.setCell ⟨w.heap.size, 3, none⟩ (.map (some w3.heap.size))).alloc (.map #[] 0) = w4 ∧
      w2.cell? ⟨w.heap.size, 0, none⟩ = some (.slice (some ⟨gd, 0, none⟩) N c) ∧ w2.frozen? ⟨w.heap.size, 0, none⟩ = false ∧ w.heap.size < w2.heap.size ∧
      w3.cell? ⟨w.heap.size, 3, none⟩ = some (.map (some m)) ∧ w3.frozen? ⟨w.heap.size, 3, none⟩ = false ∧ w.heap.size < w3.heap.size ∧
      (w3.alloc (.map #[] 0)).cell? ⟨w.heap.size, 3, none⟩ = some (.map (some m)) ∧ (w3.alloc (.map #[] 0)).frozen? ⟨w.heap.size, 3, none⟩ = false ∧
      w4.cell? ⟨g, 3, none⟩ = some (.map (some m)) ∧ g < w4.heap.size ∧
      Hid (New w w4 ∧ ∀ (V2 : Int → Loc) (left : Int → Bool), (∀ j ∈ s.jobs, left j.id = true) → CpI (fun k => w.heap.size ≤ k ∧ k ≠ w4.heap.size) w4 w.heap.size w3.heap.size (.slice A' N c') V V2 s left) := by
  have hbx := ((Blk.new w 89 #[.slice (some ⟨gd, 0, none⟩) N c, .int .i64 tmo, .int .i64 tck, .map (some m)]).alloc (Obj.cells #[] 4)).grown hg2 (fun e => by injection e with e; omega)
  have hn2 : New w w2 := (((Chg.refl (fun _ => False) w).alloc _).alloc _).grown hg2 (fun k hk hlt => by injection hk with hk; omega)
  obtain ⟨w3, hw3⟩ : ∃ w3, w2.setCell ⟨w.heap.size, 0, none⟩ (.slice A' N c') = w3 := ⟨_, rfl⟩
  have hb3 := hbx.set_ 0 (.slice A' N c')
  rw [hw3] at hb3
  obtain ⟨w4, hw4⟩ : ∃ w4, (w3.setCell ⟨w.heap.size, 3, none⟩ (.map (some w3.heap.size))).alloc (.map #[] 0) = w4 := ⟨_, rfl⟩
  have hn4 : New w w4 := by rw [← hw4, ← hw3]; exact (chg_setNew (chg_setNew hn2 (Nat.le_refl _) _) (Nat.le_refl _) _).alloc _
  have hb4 : Blk w4 w.heap.size 89 (pCells s (.slice A' N c') w3.heap.size) := by
    rw [← hw4]
    have := (hb3.set_ 3 (.map (some w3.heap.size))).alloc (.map #[] 0)
    unfold pCells
    rw [htmo, htck]
    exact this
  have hz : (w3.setCell ⟨w.heap.size, 3, none⟩ (.map (some w3.heap.size))).heap.size = w3.heap.size := by simp
  have hz4 : w4.heap.size = w3.heap.size + 1 := by rw [← hw4, World.size_alloc, hz]
  have hm4 : MI w4 Try.prog 3 w3.heap.size [] := by
    have := MI.made (w3.setCell ⟨w.heap.size, 3, none⟩ (.map (some w3.heap.size))) Try.prog 3
    rw [hw4, hz] at this
    exact this
  have hz3 : w3.heap.size = w2.heap.size := by rw [← hw3]; simp
  have hg : ∀ k, blk A' = some k → w.heap.size < k := fun k hk => by
    rcases hat with e | ⟨k', e, h1⟩
    · rw [e] at hk; injection hk with hk; omega
    · rw [e] at hk; injection hk with hk; omega
  have hd4 : RowV w4 4 IsBo (.slice A' N c') (s.alive.map (fun b => .bool (!b))) := by
    rw [hbl]
    have hch : Chg (fun k => k = w.heap.size) w2 w4 := by
      rw [← hw4, ← hw3]
      exact (((Chg.refl (fun k => k = w.heap.size) w2).setCell (p := ⟨w.heap.size, 0, none⟩) (fun _ => rfl) _).setCell (p := ⟨w.heap.size, 3, none⟩) (fun _ => rfl) _).alloc _
    have := hown2.chg hch (fun k hk e => by have := hg k hk; omega)
    rwa [List.nil_append] at this
  have hl2 := hbx.lt
  have hl3 := hb3.lt
  exact ⟨w3, w4, hw3, hw4, hbx.cell 0 rfl, hbx.frozen 0, hl2, hb3.cell 3 rfl, hb3.frozen 3, hl3, (hb3.alloc (.map #[] 0)).cell 3 rfl, (hb3.alloc (.map #[] 0)).frozen 3, hn4.cell (h.blk.cell 3 rfl) (fun h => h), Nat.lt_of_lt_of_le h.blk.lt hn4.size,
    hn4, fun V2 left hl => CpI.start hb4 hm4 hd4 hl ⟨⟨Nat.le_refl _, by omega⟩, ⟨by omega, by omega⟩, fun k hk => ⟨Nat.le_of_lt (hg k hk), by have := hown2.lt hk; omega⟩⟩⟩
set_option maxRecDepth 100000 in
theorem make_tries (n : Nat) (hn : n ≤ 1000000000) (W : World) : (Instr.makeSlice 92 (.int .i64 (n : Int)) (.int .i64 (n : Int))).run Try.prog W = .ok (.slice (some ⟨W.heap.size, 0, none⟩) n n) (W.alloc (.cells (madeCells #[.int .i64 0, .int .i64 0, .bool false] (n * 3)) 100)) := by
  have hr := run_make (P := Try.prog) (w := W) 92 100 ((Try.prog.info? 100).get!) ((Try.prog.info? 100).get!.zero.get!) Try.underlying92 (by kernel_rfl) (by kernel_rfl) .i64 .i64 (n : Int) (n : Int) (by omega) (by omega) (by rw [show ((Try.prog.info? 100).get!).bytes = 24 from by kernel_rfl]; omega) (by omega)
  simp only [Int.toNat_natCast] at hr
  rw [show ((Try.prog.info? 100).get!).size = 3 from by kernel_rfl, show ((Try.prog.info? 100).get!.zero.get!).cells = #[.int .i64 0, .int .i64 0, .bool false] from by kernel_rfl] at hr
  exact hr
theorem trs_len {s : S} (h : WF s) {j : Job} (hj : j ∈ s.jobs) : (trsV (triesOf s j.id)).length = j.n * 3 := by rw [trsV_len, (h.num j hj).1]
/-- A task is copied. -/
theorem copy_step {Y : Nat → Prop} {g m G M bt n lb la cb ca ct tb : Nat} {dv dv2 : Value} {V V2 : Int → Loc} {T : Nat → Prop} {s : S} {wn w1 : World} {left : Int → Bool} {j : Job} {Ab Aa At : Option Addr} {a2 a3 a4 : Int} {a6 : Bool} (hpn : PI wn g m dv V T s) (hcpn : CpI Y wn G M dv2 V V2 s left) (hY : ∀ k, wn.heap.size ≤ k → Y k) (hj : j ∈ s.jobs) (hl : left j.id = true)
    (hbv : (V j.id).bv = .slice Ab lb cb) (hav : (V j.id).av = .slice Aa la ca) (htv : (V j.id).tv = .slice At n ct) (hn : j.n = n) (ha2 : ansT j = a2) (ha3 : ansW j = a3) (ha4 : ansN j = a4) (ha6 : j.ans.isSome = a6) (htb : (V j.id).tb = tb) (hnm : n ≤ 1000000000)
    (hw1 : wn.alloc (.cells #[.slice Ab lb cb, .slice At n ct, .int .i64 a2, .int .i64 a3, .int .i64 a4, .slice Aa la ca, .bool a6] 94) = w1) (hbt : wn.heap.size = bt) :
    ∃ w6 w7, ((w1.setCell ⟨bt, 1, none⟩ (.slice (some ⟨w1.heap.size, 0, none⟩) n n)).alloc (.cells (madeCells #[.int .i64 0, .int .i64 0, .bool false] (n * 3)) 100)) = w6 ∧ w6.cell? ⟨bt, 1, none⟩ = some (.slice (some ⟨w1.heap.size, 0, none⟩) n n) ∧ w6.cell? ⟨tb, 1, none⟩ = some (.slice At n ct) ∧
      (∀ ty, (Builtin.copy_ #[92, 92] ty #[.slice (some ⟨w1.heap.size, 0, none⟩) n n, .slice At n ct]).run Try.prog w6.drew = .ok (goInt n) w7) ∧ w7.cell? ⟨G, 3, none⟩ = some (.map (some M)) ∧ G < w7.heap.size ∧ w6.heap.size = w7.heap.size ∧ bt < w6.heap.size ∧ tb < w6.heap.size ∧
      Hid (MI w7 Try.prog 3 M (entC V2 s left) ∧ (entC V2 s left).length < maxLen ∧ Go.Mem.I64 j.id ∧ New wn w7 ∧ ∀ w8, MI w8 Try.prog 3 M (pt (entC V2 s left) j.id (.pointer (some ⟨bt, 0, none⟩))) → Chg (fun k => k = M) w7 w8 → ∃ V3, CpI Y w8 G M dv2 V V3 s (fun x => left x && !(x == j.id))) := by
  have k1 : Blk w1 bt 94 #[.slice Ab lb cb, .slice At n ct, .int .i64 a2, .int .i64 a3, .int .i64 a4, .slice Aa la ca, .bool a6] := by rw [← hw1, ← hbt]; exact Blk.new _ _ _
  have z1 : w1.heap.size = bt + 1 := by rw [← hw1, World.size_alloc, hbt]
  have n1 : New wn w1 := by rw [← hw1]; exact (Chg.refl _ wn).alloc _
  obtain ⟨rb, hrb⟩ : ∃ rb, w1.heap.size = rb := ⟨_, rfl⟩
  rw [hrb]
  have hsr : (w1.setCell ⟨bt, 1, none⟩ (.slice (some ⟨rb, 0, none⟩) n n)).heap.size = rb := by simp [hrb]
  obtain ⟨w6, hw6⟩ : ∃ w6, ((w1.setCell ⟨bt, 1, none⟩ (.slice (some ⟨rb, 0, none⟩) n n)).alloc (.cells (madeCells #[.int .i64 0, .int .i64 0, .bool false] (n * 3)) 100)) = w6 := ⟨_, rfl⟩
  have z6 : w6.heap.size = rb + 1 := by rw [← hw6, World.size_alloc, hsr]
  have k6 : Blk w6 bt 94 #[.slice Ab lb cb, .slice (some ⟨rb, 0, none⟩) n n, .int .i64 a2, .int .i64 a3, .int .i64 a4, .slice Aa la ca, .bool a6] := by rw [← hw6]; exact (k1.set_ 1 _).alloc _
  have r6 : Blk w6 rb 100 (madeCells #[.int .i64 0, .int .i64 0, .bool false] (n * 3)) := by
    have := Blk.new (w1.setCell ⟨bt, 1, none⟩ (.slice (some ⟨rb, 0, none⟩) n n)) 100 (madeCells #[.int .i64 0, .int .i64 0, .bool false] (n * 3))
    rw [hw6, hsr] at this
    exact this
  have n6 : New wn w6 := by rw [← hw6]; exact (chg_setNew n1 (by omega) _).alloc _
  have htr := hpn.tries j hj
  rw [htv, hn] at htr
  obtain ⟨xs, hxs⟩ : ∃ xs, trsV (triesOf s j.id) = xs := ⟨_, rfl⟩
  have hxl : xs.length = n * 3 := by rw [← hxs, trs_len hpn.wf hj, hn]
  rw [hxs] at htr
  obtain ⟨w7, hw7⟩ : ∃ w7, w6.drew.setRow rb xs.toArray = w7 := ⟨_, rfl⟩
  have hrun : ∀ ty, (Builtin.copy_ #[92, 92] ty #[.slice (some ⟨rb, 0, none⟩) n n, .slice At n ct]).run Try.prog w6.drew = .ok (goInt n) w7 := fun ty => by
    rw [← hw7]
    exact run_cpN elemTryN ty (w := w6.drew) (cur := madeCells #[.int .i64 0, .int .i64 0, .bool false] (n * 3)) (r6 : w6.drew.heap[rb]? = _) (size_madeCells _ _) ((RdN.of_own (by omega) htr).new n6.drew) (hxs ▸ trsV_one _)
  have c7 : Chg (fun k => k = rb) w6 w7 := by rw [← hw7]; exact ((Chg.refl _ w6).drew).trans (setRow_chg _ _ _) (fun _ _ h => h)
  have n7 : New wn w7 := n6.trans c7 (fun k hk e => by omega)
  have z7 : w6.heap.size = w7.heap.size := by rw [← hw7]; simp [World.setRow]
  have k7 := k6.chg c7 (fun e => by omega)
  have o7 : w7.ownsRow 0 100 3 (.slice (some ⟨rb, 0, none⟩) n n) n xs := by
    refine ⟨hxl, .inr ⟨rb, n, xs.toArray, rfl, Nat.zero_le _, ?_, Nat.le_refl _, by simp only [maxLen]; omega, by simp [hxl], by rw [← hxl]; simp⟩⟩
    rw [← hw7]
    exact setRow_heap w6.drew rb _ _ _ _ r6
  have hcp7 := hcpn.chg n7 (fun _ _ h => h)
  have hgb : ∀ k, bt ≤ k → Y k := fun k hk => hY k (by omega)
  have hgl := hcp7.blk.lt
  refine ⟨w6, w7, hw6, k6.cell 1 rfl, n6.cell (htb ▸ htv ▸ (hpn.task j hj).cell 1 rfl) (fun h => h), hrun, hcp7.blk.cell 3 rfl, hgl, z7, by omega, by have := (hpn.task j hj).lt; have := n6.size; omega, hcp7.map, ?_, ?_, n7, fun w8 hm8 hc8 => ⟨_, hcp7.step hpn.wf hj hl (L := ⟨bt, (V j.id).bv, .slice (some ⟨rb, 0, none⟩) n n, (V j.id).av⟩) hc8 hm8 ?_ ?_ ⟨rfl, rfl⟩ ⟨hgb _ (Nat.le_refl _), fun k hk => ?_⟩ (fun i hi hf e => ?_) (fun i hi hf k hk e => ?_)⟩⟩
  · have := entC_len V2 s left; have := hpn.wf.len; simp only [maxLen]; omega
  · have := hpn.wf.idr j hj; unfold Go.Mem.I64; omega
  · have hM : bt ≠ M := fun e => MI.not_blk hcp7.map k7 e
    have := k7.chg hc8 hM
    unfold tCells
    rw [hbv, hav, ha2, ha3, ha4, ha6]
    exact this
  · rw [hxs, hn]
    refine ownN_chg o7 hc8 (fun k hk e => ?_)
    obtain ⟨cs, hb⟩ := ownN_blk o7 hk
    exact MI.not_blk hcp7.map hb e
  · have hk : rb = k := by injection hk
    exact hgb k (by omega)
  · have := (hcpn.task i hi hf).lt
    dsimp only at e
    omega
  · have e : rb = k := by injection e
    obtain ⟨cs, hb⟩ := ownN_blk (hcpn.tries i hi hf) hk
    have := hb.lt
    omega
set_option maxHeartbeats 4000000 in
set_option maxRecDepth 100000 in
theorem plCopy_any (g m : Nat) (dv : Value) (V : Int → Loc) (T : Nat → Prop) (s : S) (w : World) (h : PI w g m dv V T s) (hNT : s.tries.length ≤ 1000000000) :
    Calls Try.prog 29 #[.pointer (some ⟨g, 0, none⟩)] w fun e w' => ∃ g2 m2 dv2 V2, e = .returned (.pointer (some ⟨g2, 0, none⟩)) ∧ PI w' g2 m2 dv2 V2 T s ∧ New w w' ∧ ∀ k, ownP g2 m2 dv2 V2 s k → w.heap.size ≤ k := by
  obtain ⟨gd, c, rfl, hdc, hcm⟩ := h.dv
  obtain ⟨N, hN⟩ : ∃ N, s.alive.length = N := ⟨_, rfl⟩
  obtain ⟨tmo, htmo⟩ : ∃ z, s.timeout = z := ⟨_, rfl⟩
  obtain ⟨tck, htck⟩ : ∃ z, s.tick = z := ⟨_, rfl⟩
  obtain ⟨bl, hbl⟩ : ∃ z, s.alive.map (fun b => Value.bool (!b)) = z := ⟨_, rfl⟩
  have hc0 := h.blk.cell 0 (u := .slice (some ⟨gd, 0, none⟩) s.alive.length c) rfl
  have hc1 := h.blk.cell 1 (u := .int .i64 s.timeout) rfl
  have hc2 := h.blk.cell 2 (u := .int .i64 s.tick) rfl
  have hc3 := h.blk.cell 3 (u := .map (some m)) rfl
  have hgl := h.blk.lt
  have hN8 := h.wf.al.2
  have hrd := h.dead.rd
  rw [hbl] at hrd
  rw [hN] at hc0 hN8 hrd
  rw [htmo] at hc1
  rw [htck] at hc2
  have HH := Lib.hid h
  have HINV := Lib.hid h.inv
  have HE := Lib.hid (And.intro hN (And.intro htmo (And.intro htck hbl)))
  have HRD := Lib.hid hrd
  have HONE := Lib.hid (hbl ▸ alive_one s.alive)
  have HBO := Lib.hid (hbl ▸ alive_bo s.alive)
  have hbll : bl.length = N := by rw [← hbl, List.length_map, hN]
  have HBLL := Lib.hid hbll
  have hmk : ∀ w : World, (Instr.makeMap 87 none).run Try.prog w = .ok (.map (some w.heap.size)) (w.alloc (.map #[] 0)) := fun w => by kernel_rfl
  have HE0 := Lib.hid (show RowV ((w.alloc (Obj.cells #[.slice (some ⟨gd, 0, none⟩) N c, .int .i64 tmo, .int .i64 tck, .map (some m)] 89)).alloc (Obj.cells #[] 4)) 4 IsBo (.slice (some ⟨w.heap.size + 1, 0, none⟩) 0 0) [] from by
    have := Blk.new (w.alloc (Obj.cells #[.slice (some ⟨gd, 0, none⟩) N c, .int .i64 tmo, .int .i64 tck, .map (some m)] 89)) 4 #[]
    rw [World.size_alloc] at this
    exact .inr ⟨w.heap.size + 1, 0, [], rfl, Nat.zero_le _, rfl, this, fun u hu => by cases hu⟩)
  clear h hN htmo htck hbl hrd hbll
  go_enter Try.func29, Try.ntmps29
  go_wp2_with (first
    | (at_builtin; refine wpList_appV elemBo rfl ⟨false, rfl⟩ rfl _ _ rfl rfl HE0.out rfl (src_rd Try.underlying86 (HRD.out.new (((Chg.refl _ w).alloc _).alloc _)) HONE.out) HBO.out (by simp; omega) (by simp; omega) ?_; intro A' c' N' w2 hN' hown2 hg2' hat2'; (obtain rfl : N' = N := by simpa [HBLL.out] using hN'); have hg2 : World.grownBy ((w.alloc (Obj.cells #[.slice (some ⟨gd, 0, none⟩) N' c, .int .i64 tmo, .int .i64 tck, .map (some m)] 89)).alloc (Obj.cells #[] 4)) w2 (some (w.heap.size + 1)) := hg2'; have hat2 : blk A' = some (w.heap.size + 1) ∨ ∃ k, blk A' = some k ∧ w.heap.size < k := hat2'.imp (fun e => e) (fun e => ⟨_, e.1, by simp; omega⟩); clear hg2' hat2';
       obtain ⟨w3, w4, hw3, hw4, x0, xf, xl, y3, yf, yl, z3, zf, v3, vgl, HB4⟩ := copy_pre HH.out HE.out.2.1 HE.out.2.2.1 HE.out.2.2.2 hg2 hat2 hown2; clear hown2 hat2 hg2 hN')
    | (at_range; refine wpList_rangeI _ rfl _ rfl keyIntP Try.underlying87 rfl (HH.out.map.chg HB4.out.1 (fun h => h)) ?_; intro w5 hr5 hn5 hs5; have HR5 := Lib.hid (And.intro hr5 (And.intro hn5 hs5)); clear hr5 hn5 hs5))
  clear x0 xf xl y3 yf yl z3 zf hc0 hc1 hc2 hc3 hgl hmk hw3 hw4 v3 vgl
  obtain ⟨r, hr⟩ : ∃ r, w4.heap.size = r := ⟨_, rfl⟩
  rw [hr]
  have HRR := Lib.hid hr
  obtain ⟨G, hG⟩ : ∃ G, w.heap.size = G := ⟨_, rfl⟩
  rw [hG]
  have HGG := Lib.hid hG
  clear hr hG
  go_frame
  go_loopw [] (fun wr => ∃ left V2, Go.Mem.RI wr Try.prog 3 m r (entP V s) left ∧ CpI (fun k => w.heap.size ≤ k ∧ k ≠ r) wr G w3.heap.size (.slice A' N' c') V V2 s left ∧ New w wr) (fun wr => wr.rangeLeft m r)
  case atStart =>
    have hcp := HB4.out.2 V (fun i => (lk (entP V s) i).isSome) (fun j hj => by rw [lk_entP_some HH.out.wf hj]; rfl)
    rw [HRR.out, HGG.out] at hcp
    exact ⟨_, V, HRR.out ▸ HR5.out.1, HGG.out.symm ▸ hcp.chg HR5.out.2.1 (fun _ _ h => h), HB4.out.1.trans HR5.out.2.1 (fun _ _ h => h)⟩
  case round =>
    obtain ⟨left, V2, hri, hcp, hnw⟩ := hrel
    have HRI := Lib.hid hri
    have HCP := Lib.hid hcp
    have HNW := Lib.hid hnw
    clear hri hcp hnw
    go_wp2_with (at_next; refine wpList_nextI wr rfl _ rfl keyIntP rfl HRI.out (fun tb : Nat => Value.pointer (some ⟨tb, 0, none⟩)) HINV.out ?_ ?_)
    · intro hdone
      go_wp2
      go_ret
      obtain ⟨q1, q2⟩ := HCP.out.done HH.out HNW.out (fun k hk => hk.1) hdone
      exact ⟨G, _, _, V2, rfl, q1, HNW.out, q2⟩
    · intro i tb wn hm hi hl hrn hcn hsz hlt hen
      obtain ⟨j, hj, e⟩ := mem_entP.1 hm
      injection e with e1 e2
      injection e2 with e2
      injection e2 with e2
      injection e2 with e2
      subst e1
      subst e2
      have hrw : w.heap.size ≤ r := by have := HB4.out.1.size; have := HRR.out; omega
      have hN1 : New w wn := HNW.out.owned hcn (fun k e => by omega)
      have hpn := HH.out.new hN1
      have hcpn := HCP.out.chg hcn (fun k hk e => hk.2 e)
      obtain ⟨Ab, cb, hbv, _⟩ := hpn.body j hj
      obtain ⟨Aa, ca, hav, _⟩ := hpn.ans j hj
      obtain ⟨At, ct, htv, _⟩ := ownN_shape (hpn.tries j hj)
      have ht := hpn.task j hj
      unfold tCells at ht
      rw [hbv, hav, htv] at ht
      obtain ⟨tb, htb⟩ : ∃ tb, (V j.id).tb = tb := ⟨_, rfl⟩
      obtain ⟨n, hn⟩ : ∃ n, j.n = n := ⟨_, rfl⟩
      obtain ⟨lb, hlb⟩ : ∃ n, j.body.length = n := ⟨_, rfl⟩
      obtain ⟨la, hla⟩ : ∃ n, (ansB j).length = n := ⟨_, rfl⟩
      obtain ⟨a2, ha2⟩ : ∃ n, ansT j = n := ⟨_, rfl⟩
      obtain ⟨a3, ha3⟩ : ∃ n, ansW j = n := ⟨_, rfl⟩
      obtain ⟨a4, ha4⟩ : ∃ n, ansN j = n := ⟨_, rfl⟩
      obtain ⟨a6, ha6⟩ : ∃ n, j.ans.isSome = n := ⟨_, rfl⟩
      rw [htb, hn, hlb, hla, ha2, ha3, ha4, ha6] at ht
      rw [htb] at hen ⊢
      have q0 := ht.cell 0 (u := .slice Ab lb cb) rfl
      have q1 := ht.cell 1 (u := .slice At n ct) rfl
      have q2 := ht.cell 2 (u := .int .i64 a2) rfl
      have q3 := ht.cell 3 (u := .int .i64 a3) rfl
      have q4 := ht.cell 4 (u := .int .i64 a4) rfl
      have q5 := ht.cell 5 (u := .slice Aa la ca) rfl
      have q6 := ht.cell 6 (u := .bool a6) rfl
      have ql := ht.lt
      have hnm : n ≤ 1000000000 := by
        have h1 := (HH.out.wf.num j hj).1
        have h2 : (triesOf s j.id).length ≤ s.tries.length := by unfold triesOf; exact List.length_filter_le _ _
        rw [hn] at h1
        omega
      have hmk : ∀ W : World, (Instr.makeSlice 92 (.int .i64 (n : Int)) (.int .i64 (n : Int))).run Try.prog W = .ok (.slice (some ⟨W.heap.size, 0, none⟩) n n) (W.alloc (.cells (madeCells #[.int .i64 0, .int .i64 0, .bool false] (n * 3)) 100)) := fun W => by
        exact make_tries n hnm W
      have HPN := Lib.hid (And.intro hpn (And.intro hcpn (And.intro hrn (And.intro hlt (And.intro hN1 (And.intro hj hl))))))
      have HX := Lib.hid (And.intro hbv (And.intro hav (And.intro htv (And.intro htb (And.intro hn (And.intro hlb (And.intro hla (And.intro ha2 (And.intro ha3 (And.intro ha4 ha6))))))))))
      obtain ⟨w1, hw1⟩ : ∃ w1, wn.alloc (.cells #[.slice Ab lb cb, .slice At n ct, .int .i64 a2, .int .i64 a3, .int .i64 a4, .slice Aa la ca, .bool a6] 94) = w1 := ⟨_, rfl⟩
      have hk1 : Blk w1 wn.heap.size 94 #[.slice Ab lb cb, .slice At n ct, .int .i64 a2, .int .i64 a3, .int .i64 a4, .slice Aa la ca, .bool a6] := by rw [← hw1]; exact Blk.new _ _ _
      have n1 : New wn w1 := by rw [← hw1]; exact (Chg.refl _ wn).alloc _
      obtain ⟨bt, hbt⟩ : ∃ bt, wn.heap.size = bt := ⟨_, rfl⟩
      have hrn9 : r < wn.heap.size := hrn.lt
      obtain ⟨w6, w7, hw6, b6, p6, hrun, g7, gl7, z67, bl6, tl6, HS⟩ := copy_step hpn hcpn (fun k hk => ⟨by have := hN1.size; omega, by omega⟩) hj hl (hlb ▸ hbv) (hla ▸ hav) (hn ▸ htv) hn ha2 ha3 ha4 ha6 htb (by omega) hw1 hbt
      rw [hbt] at hk1
      have hk1l := hk1.lt
      have hk1f := hk1.frozen 1
      have hk1c := hk1.cell 1 (u := .slice At n ct) rfl
      have p1 := n1.cell q1 (fun h => h)
      have hml := hpn.map.lt
      clear hm hcn hsz hrn hlt hN1 hpn hcpn hbv hav htv ht htb hn hlb hla ha2 ha3 ha4 ha6 hj hl hk1 n1 hi
      go_wp2_with fail
      go_region_law (refine step_cpN rfl _ _ _ _ rfl rfl rfl (hrun _) ?_)
      all_goals go_wp2_with (at_mapUpdate; refine wpList_storeI _ rfl _ _ _ rfl keyIntP Try.underlying87 rfl HS.out.1 HS.out.2.1 HS.out.2.2.1 rfl rfl ?_; intro w8 hm8 hc8 hs8)
      all_goals
        have hm8' : MI w8 Try.prog 3 w3.heap.size (pt (entC V2 s left) j.id (.pointer (some ⟨bt, 0, none⟩))) := hm8
        obtain ⟨V3, hcp8⟩ := HS.out.2.2.2.2 w8 hm8' hc8
        have hch := HS.out.2.2.2.1
        have hM : w.heap.size ≤ w3.heap.size ∧ w3.heap.size ≠ r := HPN.out.2.1.base.2.1
        have hmw := HH.out.map.lt
        have hn8 : New w w8 := ((HPN.out.2.2.2.2.1.trans hch (fun _ _ h => h) : New w w7)).trans hc8 (fun k hk e => by omega)
        have hri8 := (HPN.out.2.2.1.chg hch (fun h => h) (fun h => h)).chg hc8 (fun e => by omega) (fun e => by omega)
        have hlf : w8.rangeLeft m r < wr.rangeLeft m r := by
          rw [(HPN.out.2.2.1.chg hch (fun h => h) (fun h => h)).left_chg hc8 (fun e => by omega) (fun e => by omega), HPN.out.2.2.1.left_chg hch (fun h => h) (fun h => h)]
          exact HPN.out.2.2.2.1
        exact ⟨⟨_, _, _, _, _, _, _, _, _, _, _, _, _, _, _, _, _, _, _, _, _, _, _, _, _, _, _, _, ⟨_, V3, hri8, hcp8, hn8⟩, rfl⟩, hlf⟩
end Go.Proofs.Ytbmplfhcdkeooaa

namespace Go.Proofs.Ytbmplfhcdkeooaa
set_option linter.unusedVariables false
open Go.RowKit Go.Mem Go.Pl

section
variable {w w1 w2 w' w5 wr : World} {g h g2 h2 : Nat} {s sp sr : S} {U X U2 X2 B : Nat → Prop} {lo : Nat}
theorem PM.pCopy (hp : PM U X w g h sp sr w1) (hN : sp.tries.length ≤ 1000000000) : Calls Try.prog 29 #[.pointer (some ⟨g, 0, none⟩)] w1 fun e w' => ∃ g2 m2 dv2 V2 T, e = .returned (.pointer (some ⟨g2, 0, none⟩)) ∧ PI w' g2 m2 dv2 V2 T sp ∧ New w1 w' ∧ (∀ k, ownP g2 m2 dv2 V2 sp k → w1.heap.size ≤ k) ∧ ∀ k, T k → X k ∧ ¬ U k := by
  obtain ⟨m, dv, V, T, al, jv, tv, TR, hz, rfl, rfl⟩ := hp
  refine (plCopy_any g m dv V T sp w1 hz.pi hN).mono ?_
  rintro e w' ⟨g2, m2, dv2, V2, rfl, q1, q2, q3⟩
  exact ⟨g2, m2, dv2, V2, T, rfl, q1, q2, q3, fun k hk => ⟨.inl (.inr hk), fun hu => by
    rcases hu with hu | hu
    · exact (hz.pi.sep k hk).2 hu
    · exact hz.d2 k hu hk⟩⟩
theorem PM.mCopy (hp : PM U X w g h sp sr w1) (hw : WF sr) (hN : sr.tries.length ≤ 1000000) : Calls Try.prog 30 #[.pointer (some ⟨h, 0, none⟩)] w1 fun e w' => ∃ h2 al2 jv2 tv2 TR, e = .returned (.pointer (some ⟨h2, 0, none⟩)) ∧ RI w' h2 al2 jv2 tv2 TR sr ∧ New w1 w' ∧ (∀ k, ownR h2 al2 jv2 tv2 k → w1.heap.size ≤ k) ∧ ∀ k, TR k → X k ∧ ¬ U k := by
  obtain ⟨m, dv, V, T, al, jv, tv, TR, hz, rfl, rfl⟩ := hp
  refine (rCopy_any hz.rf hw hN).mono ?_
  rintro e w' ⟨h2, al2, jv2, tv2, rfl, q1, q2, q3⟩
  exact ⟨h2, al2, jv2, tv2, TR, rfl, q1, q2, q3, fun k hk => ⟨.inr (.inr hk), fun hu => by
    rcases hu with hu | hu
    · exact (hz.d1 k hu).2 hk
    · exact (hz.rf.sep k hk).2 hu⟩⟩
/-- A pool with its model; what has changed since w5 is older than lo. -/
structure Solo (w w5 : World) (lo g h N : Nat) (wr : World) : Prop where
  ex : ∃ U X s, PM U X w g h s s wr ∧ (∀ k, U k → k < lo ∨ w5.heap.size ≤ k) ∧ s.tries.length ≤ N
  chg : Chg (fun k => k < lo) w5 wr
theorem Solo.start {N : Nat} (hp : PM U X w g h s s w1) (n3 : New w1 w5) (hN : s.tries.length ≤ N) : Solo w w5 w1.heap.size g h N w5 :=
  ⟨⟨U, X, s, hp.new n3, fun k hk => .inl (hp.lt (hp.sub k hk)), hN⟩, Chg.refl _ _⟩
theorem Solo.new {N : Nat} (hd : Solo w w5 lo g h N wr) (hn : New wr w') : Solo w w5 lo g h N w' := by
  obtain ⟨⟨U, X, s, q1, q3⟩, hc⟩ := hd
  exact ⟨⟨U, X, s, q1.new hn, q3⟩, hc.trans hn (fun _ _ hf => hf.elim)⟩
theorem Solo.step {N : Nat} (hd : Solo w w5 lo g h N wr) (hN : N ≤ 1000) (o : OpP) (ho : o.Ok) (Ab : Option Addr) (cb : Nat) (hr : Rd wr Ab 2 (bs o.body)) (hcb : 2 ≤ cb ∧ cb ≤ maxLen) (hA : ∀ k, blk Ab = some k → lo ≤ k ∧ k < w5.heap.size) :
    Calls Try.prog 19 #[.pointer (some ⟨g, 0, none⟩), .pointer (some ⟨h, 0, none⟩), .agg #[.int .i64 o.kind, .int .i64 o.worker, .int .i64 o.n, .slice Ab 2 cb, .int .i64 o.wait]] wr fun e w' => e = .returned (.bool true) ∧ Solo w w5 lo g h (N + 1) w' := by
  obtain ⟨⟨U, X, s, q1, q5, q7⟩, hc⟩ := hd
  refine (step_any q1 (by omega) o ho Ab cb hr hcb (fun k hk => ⟨Nat.lt_of_lt_of_le (hA k hk).2 hc.size, fun hu => by have := q5 k hu; have := hA k hk; omega⟩)).mono ?_
  rintro e w' ⟨rfl, U', X', r1, r2⟩
  have hz := hc.size
  refine ⟨rfl, ⟨U', X', _, r1, fun k hk => ?_, by have := stepS_tries s o; omega⟩, hc.trans r2.chg (fun k hk hu => ?_)⟩
  · rcases r2.own k hk with h1 | h1
    · exact q5 k h1
    · right; omega
  · have := q5 k hu; omega
/-- Two pools with their models, neither in the other's bytes; what has changed since w5 is older than lo. -/
structure Duo (w w5 : World) (lo g h g2 h2 N : Nat) (wr : World) : Prop where
  ex : ∃ U X s U2 X2 s2, PM U X w g h s s wr ∧ PM U2 X2 w g2 h2 s2 s2 wr ∧ (∀ k, U k → ¬ X2 k) ∧ (∀ k, U2 k → ¬ X k) ∧ (∀ k, U k → k < lo ∨ w5.heap.size ≤ k) ∧ (∀ k, U2 k → k < lo ∨ w5.heap.size ≤ k) ∧ s.tries.length ≤ N ∧ s2.tries.length ≤ N
  chg : Chg (fun k => k < lo) w5 wr
theorem Duo.start {m2 : Nat} {dv2 : Value} {V2 : Int → Loc} {T TR : Nat → Prop} {al2 jv2 tv2 : Value} {w3 w4 : World} {N : Nat} (hp : PM U X w g h s s w1) (h1 : PI w3 g2 m2 dv2 V2 T s) (n1 : New w1 w3) (o1 : ∀ k, ownP g2 m2 dv2 V2 s k → w1.heap.size ≤ k) (t1 : ∀ k, T k → X k ∧ ¬ U k)
    (h2' : RI w4 h2 al2 jv2 tv2 TR s) (n2 : New w3 w4) (o2 : ∀ k, ownR h2 al2 jv2 tv2 k → w3.heap.size ≤ k) (t2 : ∀ k, TR k → X k ∧ ¬ U k) (n3 : New w4 w5) (hN : s.tries.length ≤ N) : Duo w w5 w4.heap.size g h g2 h2 N w5 := by
  have z1 := n1.size
  have z2 := n2.size
  have z0 := hp.was.size
  have hn : New w1 w5 := (n1.trans n2 (fun _ _ h => h)).trans n3 (fun _ _ h => h)
  have hn35 : New w3 w5 := n2.trans n3 (fun _ _ h => h)
  refine ⟨⟨U, X, s, _, _, s, hp.new hn, ⟨m2, dv2, V2, T, al2, jv2, tv2, TR, ⟨hp.was.trans hn (fun _ _ h => h), h1.new hn35, h2'.new n3, fun k hk => ?_, fun k hk => ?_, fun k hk => ⟨fun hr => ?_, fun ht => ?_⟩, fun k hk ht => ?_⟩, rfl, rfl⟩, fun k hk hx => ?_, fun k hk hx => ?_, fun k hk => ?_, fun k hk => ?_, hN, hN⟩, Chg.refl _ _⟩
  · have := o1 k hk; omega
  · have := o2 k hk; omega
  · have := h1.lt hk; have := o2 k hr; omega
  · have := hp.lt (t2 k ht).1; have := o1 k hk; omega
  · have := hp.lt (t1 k ht).1; have := o2 k hk; omega
  · have := hp.lt (hp.sub k hk)
    rcases hx with (hx | hx) | (hx | hx)
    · have := o1 k hx; omega
    · exact (t1 k hx).2 hk
    · have := o2 k hx; omega
    · exact (t2 k hx).2 hk
  · have := hp.lt hx
    rcases hk with hk | hk
    · have := o1 k hk; omega
    · have := o2 k hk; omega
  · have := hp.lt (hp.sub k hk); omega
  · rcases hk with hk | hk
    · have := h1.lt hk; omega
    · have := h2'.lt hk; omega
theorem Duo.swap {N : Nat} (hd : Duo w w5 lo g h g2 h2 N wr) : Duo w w5 lo g2 h2 g h N wr := by
  obtain ⟨⟨U, X, s, U2, X2, s2, q1, q2, q3, q4, q5, q6, q7, q8⟩, hc⟩ := hd
  exact ⟨⟨U2, X2, s2, U, X, s, q2, q1, q4, q3, q6, q5, q8, q7⟩, hc⟩
theorem Duo.new {N : Nat} (hd : Duo w w5 lo g h g2 h2 N wr) (hn : New wr w') : Duo w w5 lo g h g2 h2 N w' := by
  obtain ⟨⟨U, X, s, U2, X2, s2, q1, q2, q3⟩, hc⟩ := hd
  exact ⟨⟨U, X, s, U2, X2, s2, q1.new hn, q2.new hn, q3⟩, hc.trans hn (fun _ _ hf => hf.elim)⟩
theorem Duo.more {N N' : Nat} (hd : Duo w w5 lo g h g2 h2 N wr) (hN : N ≤ N') : Duo w w5 lo g h g2 h2 N' wr := by
  obtain ⟨⟨U, X, s, U2, X2, s2, q1, q2, q3, q4, q5, q6, q7, q8⟩, hc⟩ := hd
  exact ⟨⟨U, X, s, U2, X2, s2, q1, q2, q3, q4, q5, q6, by omega, by omega⟩, hc⟩
/-- A step on the first. -/
theorem Duo.step {N : Nat} (hd : Duo w w5 lo g h g2 h2 N wr) (hN : N ≤ 1000) (o : OpP) (ho : o.Ok) (Ab : Option Addr) (cb : Nat) (hr : Rd wr Ab 2 (bs o.body)) (hcb : 2 ≤ cb ∧ cb ≤ maxLen) (hA : ∀ k, blk Ab = some k → lo ≤ k ∧ k < w5.heap.size) :
    Calls Try.prog 19 #[.pointer (some ⟨g, 0, none⟩), .pointer (some ⟨h, 0, none⟩), .agg #[.int .i64 o.kind, .int .i64 o.worker, .int .i64 o.n, .slice Ab 2 cb, .int .i64 o.wait]] wr fun e w' => e = .returned (.bool true) ∧ Duo w w5 lo g h g2 h2 (N + 1) w' := by
  obtain ⟨⟨U, X, s, U2, X2, s2, q1, q2, q3, q4, q5, q6, q7, q8⟩, hc⟩ := hd
  refine (step_any q1 (by omega) o ho Ab cb hr hcb (fun k hk => ⟨Nat.lt_of_lt_of_le (hA k hk).2 hc.size, fun hu => by have := q5 k hu; have := hA k hk; omega⟩)).mono ?_
  rintro e w' ⟨rfl, U', X', r1, r2⟩
  have hz := hc.size
  refine ⟨rfl, ⟨U', X', _, U2, X2, s2, r1, q2.chg r2.chg (fun k hk => q1.base hk) (fun k hk hu => q3 k hu hk), fun k hk hx => ?_, fun k hk hx => ?_, fun k hk => ?_, q6, by have := stepS_tries s o; omega, by omega⟩, hc.trans r2.chg (fun k hk hu => ?_)⟩
  · rcases r2.own k hk with h1 | h1
    · exact q3 k h1 hx
    · have := q2.lt hx; omega
  · rcases r2.all k hx with h1 | h1 | h1
    · exact q4 k hk h1
    · have := q2.lt (q2.sub k hk); omega
    · have := q6 k hk; have := hA k h1; omega
  · rcases r2.own k hk with h1 | h1
    · exact q5 k h1
    · right; omega
  · have := q5 k hu; omega
/-- An operation of a script that lies beside them. -/
theorem ScrV.op {lo' n : Nat} {os : List OpP} {o : OpP} {A2 : Option Addr} {c2 : Nat} (hs : ScrV w5 lo' (.slice A2 n c2) os) (hlo : lo ≤ lo') (hc : Chg (fun k => k < lo) w5 wr) {j : Nat} (hj : os[j]? = some o) (hb : o.body.length = 2) :
    ∃ ga Ab cb, A2 = some ⟨ga, 0, none⟩ ∧ wr.cell? ⟨ga, j * 5, none⟩ = some (.int .i64 o.kind) ∧ wr.cell? ⟨ga, j * 5 + 1, none⟩ = some (.int .i64 o.worker) ∧ wr.cell? ⟨ga, j * 5 + 2, none⟩ = some (.int .i64 o.n) ∧ wr.cell? ⟨ga, j * 5 + 3, none⟩ = some (.slice Ab 2 cb) ∧ wr.cell? ⟨ga, j * 5 + 4, none⟩ = some (.int .i64 o.wait) ∧
      Rd wr Ab 2 (bs o.body) ∧ (2 ≤ cb ∧ cb ≤ maxLen) ∧ ∀ k, blk Ab = some k → lo ≤ k ∧ k < w5.heap.size := by
  obtain ⟨ga, c9, Ab, cb, hv, k0, k1, k2, k3, k4, hrd, hab⟩ := hs.at_ hj
  obtain ⟨ga', c9', Ab', cb', hv', l3, hc1, hc2⟩ := hs.cap hj
  have hga : ∀ q v, w5.cell? ⟨ga, q, none⟩ = some v → wr.cell? ⟨ga, q, none⟩ = some v := fun q v hq => hc.cell hq (fun hu => by
    have := (hs.lt (k := ga) (by rw [hv]; rfl)).1
    dsimp only at hu
    omega)
  rw [hv] at hv'
  injection hv with hv1 hv2 hv3
  injection hv' with hv1' hv2' hv3'
  injection hv1' with hv1'
  injection hv1' with hv1'
  subst hv1'
  rw [k3] at l3
  injection l3 with l3
  injection l3 with l31 l32 l33
  subst l31 l33
  rw [hb] at hrd k3 hc1
  exact ⟨ga, Ab, cb, hv1, hga _ _ k0, hga _ _ k1, hga _ _ k2, hga _ _ k3, hga _ _ k4, hrd.chg hc (fun k hk _ hu => by have := (hab k hk).2; omega), ⟨hc1, hc2⟩, fun k hk => ⟨Nat.le_trans hlo (hab k hk).2, (hab k hk).1⟩⟩
/-- A step on the first, the operation from a script. -/
theorem Solo.stepv {lo' N n i : Nat} {os : List OpP} {A2 : Option Addr} {c2 : Nat} (hd : Solo w w5 lo g h N wr) (hN : N ≤ 1000) (hs : ScrV w5 lo' (.slice A2 n c2) os) (hlo : lo ≤ lo') (hok : ∀ (j : Nat) o, os[j]? = some o → o.Ok) (hn : os.length = n) (hi : i < n) :
    ∃ (ga : Nat) (kd wk nn wt : Int) (Ab : Option Addr) (cb : Nat), A2 = some ⟨ga, 0, none⟩ ∧ wr.cell? ⟨ga, i * 5, none⟩ = some (.int .i64 kd) ∧ wr.cell? ⟨ga, i * 5 + 1, none⟩ = some (.int .i64 wk) ∧ wr.cell? ⟨ga, i * 5 + 2, none⟩ = some (.int .i64 nn) ∧ wr.cell? ⟨ga, i * 5 + 3, none⟩ = some (.slice Ab 2 cb) ∧ wr.cell? ⟨ga, i * 5 + 4, none⟩ = some (.int .i64 wt) ∧
      Hid (Calls Try.prog 19 #[.pointer (some ⟨g, 0, none⟩), .pointer (some ⟨h, 0, none⟩), .agg #[.int .i64 kd, .int .i64 wk, .int .i64 nn, .slice Ab 2 cb, .int .i64 wt]] wr fun e w' => e = .returned (.bool true) ∧ Solo w w5 lo g h (N + 1) w') := by
  obtain ⟨o, ho⟩ : ∃ o, os[i]? = some o := ⟨_, List.getElem?_eq_getElem (by omega)⟩
  have hk := hok i o ho
  obtain ⟨ga, Ab, cb, e, k0, k1, k2, k3, k4, k5, k6, k7⟩ := hs.op hlo hd.chg ho hk.body
  exact ⟨ga, o.kind, o.worker, o.n, o.wait, Ab, cb, e, k0, k1, k2, k3, k4, hd.step hN o hk Ab cb k5 k6 k7⟩
theorem Duo.stepv {lo' N n i : Nat} {os : List OpP} {A2 : Option Addr} {c2 : Nat} (hd : Duo w w5 lo g h g2 h2 N wr) (hN : N ≤ 1000) (hs : ScrV w5 lo' (.slice A2 n c2) os) (hlo : lo ≤ lo') (hok : ∀ (j : Nat) o, os[j]? = some o → o.Ok) (hn : os.length = n) (hi : i < n) :
    ∃ (ga : Nat) (kd wk nn wt : Int) (Ab : Option Addr) (cb : Nat), A2 = some ⟨ga, 0, none⟩ ∧ wr.cell? ⟨ga, i * 5, none⟩ = some (.int .i64 kd) ∧ wr.cell? ⟨ga, i * 5 + 1, none⟩ = some (.int .i64 wk) ∧ wr.cell? ⟨ga, i * 5 + 2, none⟩ = some (.int .i64 nn) ∧ wr.cell? ⟨ga, i * 5 + 3, none⟩ = some (.slice Ab 2 cb) ∧ wr.cell? ⟨ga, i * 5 + 4, none⟩ = some (.int .i64 wt) ∧
      Hid (Calls Try.prog 19 #[.pointer (some ⟨g, 0, none⟩), .pointer (some ⟨h, 0, none⟩), .agg #[.int .i64 kd, .int .i64 wk, .int .i64 nn, .slice Ab 2 cb, .int .i64 wt]] wr fun e w' => e = .returned (.bool true) ∧ Duo w w5 lo g h g2 h2 (N + 1) w') := by
  obtain ⟨o, ho⟩ : ∃ o, os[i]? = some o := ⟨_, List.getElem?_eq_getElem (by omega)⟩
  have hk := hok i o ho
  obtain ⟨ga, Ab, cb, e, k0, k1, k2, k3, k4, k5, k6, k7⟩ := hs.op hlo hd.chg ho hk.body
  exact ⟨ga, o.kind, o.worker, o.n, o.wait, Ab, cb, e, k0, k1, k2, k3, k4, hd.step hN o hk Ab cb k5 k6 k7⟩
end
end Go.Proofs.Ytbmplfhcdkeooaa
