/- The iterator over the tasks of a pool. -/
import Derived.Test.YtbmplfhcdkeooaaPlEZ
import Derived.Test.YtbmplfhcdkeooaaSort
import Derived.Test.YtbmplfhcdkeooaaRangeN
set_option linter.unusedSimpArgs false
set_option linter.unusedVariables false
namespace Go.Mem
/-- What a round keeps of what lay there: the blocks below B but those of U, the cells below N but those of U. -/
def KpN (U : Nat → Prop) (B N : Nat) (A C : World) : Prop := A.heap.size ≤ C.heap.size ∧ (∀ b, b < B → ¬ U b → C.heap[b]? = A.heap[b]?) ∧ ∀ (b : Nat) (cs : Array Value) (t : TypeId) (fz : Nat × Nat), b < N → ¬ U b → A.heap[b]? = some (.cells cs t fz) → C.heap[b]? = some (.cells cs t fz)
section
variable {U : Nat → Prop} {B N : Nat} {A C D : World}
theorem KpN.refl (U : Nat → Prop) (B N : Nat) (A : World) : KpN U B N A A := ⟨Nat.le_refl _, fun _ _ _ => rfl, fun _ _ _ _ _ _ h => h⟩
theorem KpN.trans (h : KpN U B N A C) (h' : KpN U B N C D) : KpN U B N A D := ⟨Nat.le_trans h.1 h'.1, fun b hb hu => (h'.2.1 b hb hu).trans (h.2.1 b hb hu), fun b cs t fz hb hu hc => h'.2.2 b cs t fz hb hu (h.2.2 b cs t fz hb hu hc)⟩
theorem KpN.put (U : Nat → Prop) {B : Nat} (N : Nat) (W : World) (l : Nat) (o o' : Obj) (hl : B ≤ l) (h : W.heap[l]? = some o) (ho : o.isCells = false) : KpN U B N W (W.putObj l o') := by
  refine ⟨by simp, fun b hb _ => World.putObj_heap_other (by omega), fun b cs t fz hb _ hc => ?_⟩
  refine (World.putObj_heap_other (fun e => ?_)).trans hc
  subst e
  rw [hc] at h
  cases h
  simp [Obj.isCells] at ho
theorem KpN.new (U : Nat → Prop) {B N : Nat} (h : New A C) (hB : B ≤ A.heap.size) : KpN U B N A C :=
  ⟨h.size, fun b hb _ => h.block b (by omega) (fun h => h), fun b cs t fz _ _ hc => h.heap hc (fun h => h)⟩
theorem KpN.chg {S : Nat → Prop} (h : Chg S A C) (hB : B ≤ A.heap.size) (hN : N ≤ A.heap.size) (hS : ∀ k, S k → U k ∨ (N ≤ k ∧ B ≤ k)) : KpN U B N A C :=
  ⟨h.size, fun b hb hu => h.block b (by omega) (fun hs => by rcases hS b hs with h1 | h1; exact hu h1; omega), fun b cs t fz hb hu hc => h.heap hc (fun hs => by rcases hS b hs with h1 | h1; exact hu h1; omega)⟩
theorem KpN.blk {g : Nat} {t : TypeId} {cs : Array Value} (h : KpN U B N A C) (hb : Blk A g t cs) (hg : g < N) (hu : ¬ U g) : Blk C g t cs := h.2.2 g cs t _ hg hu hb
theorem KpN.own {base : Nat} {e : TypeId} {sz : Nat} {v : Value} {n : Nat} {xs : List Value} (h : KpN U B N A C) (ho : A.ownsRow base e sz v n xs) (hg : ∀ k, v.ownBlock = some k → k < N ∧ ¬ U k) : C.ownsRow base e sz v n xs := by
  refine ⟨ho.1, ?_⟩
  rcases ho.2 with h0 | ⟨g, cap, cur, rfl, hb, hc, r⟩
  · exact .inl h0
  · exact .inr ⟨g, cap, cur, rfl, hb, h.2.2 g cur e _ (hg g rfl).1 (hg g rfl).2 hc, r⟩
end
end Go.Mem
namespace Go.Proofs.Ytbmplfhcdkeooaa
set_option linter.unusedVariables false
open Go.RowKit Go.Shelf Go.Mem Go.Pl
attribute [local go_sem] Oper.semAt_some

section
variable {w w' : World} {g m : Nat} {dv : Value} {V : Int → Loc} {T : Nat → Prop} {s : S}
/-- A pool lies in its blocks and in those of its bodies. -/
theorem PI.of_same (h : PI w g m dv V T s) (hs : w.heap.size ≤ w'.heap.size) (he : ∀ k, ownP g m dv V s k ∨ T k → w'.heap[k]? = w.heap[k]?) : PI w' g m dv V T s := by
  obtain ⟨W, hW⟩ : ∃ W, { w' with os := w.os, tape := w.tape, output := w.output } = W := ⟨_, rfl⟩
  have hc : Chg (fun k => ¬ (ownP g m dv V s k ∨ T k)) w W := by
    subst hW
    exact ⟨rfl, rfl, rfl, hs, fun k hk hn => he k (Classical.not_not.1 hn)⟩
  have q := h.chg hc (fun k hk hn => hn (.inl hk)) (fun k hk hn => hn (.inr hk))
  subst hW
  exact ⟨q.blk, q.map, q.dead, q.task, q.body, q.tries, q.ans, q.apT, q.apR, q.wf, q.sep⟩
theorem PI.kept (h : PI w g m dv V T s) {row : Option Nat} (hg : w.grownBy w' row) {B : Nat} (hr : ∀ r, row = some r → B ≤ r ∧ ∃ o : Obj, w.heap[r]? = some o ∧ o.isCells = false) (hm : m < B) : PI w' g m dv V T s := by
  have ne : ∀ k cs t, Blk w k t cs → row ≠ some k := fun k cs t hb e => by
    obtain ⟨_, o, ho, hc⟩ := hr k e
    unfold Blk at hb
    rw [hb] at ho
    cases ho
    simp [Obj.isCells] at hc
  have hch := grown_chg hg
  have hby : ∀ v x, ByT w T v x → ByT w' T v x := fun v x ⟨A, c, e, h1, h2, h3, h4⟩ => ⟨A, c, e, rd_kept h1 hg (fun r e => (hr r e).2), h2, h3, fun k hk => ⟨Nat.lt_of_lt_of_le (h4 k hk).1 hg.size, (h4 k hk).2⟩⟩
  refine ⟨h.blk.chg hch (fun e => ne _ _ _ h.blk e.symm), h.map.chg hch (fun e => by have := (hr m e.symm).1; omega), h.dead.chg hch (fun k hk e => ?_), fun j hj => (h.task j hj).chg hch (fun e => ne _ _ _ (h.task j hj) e.symm), fun j hj => hby _ _ (h.body j hj), fun j hj => ownN_chg (h.tries j hj) hch (fun k hk e => ?_), fun j hj => hby _ _ (h.ans j hj), h.apT, h.apR, h.wf, fun k hk => ⟨Nat.lt_of_lt_of_le (h.sep k hk).1 hg.size, (h.sep k hk).2⟩⟩
  · obtain ⟨cs, hb, _⟩ := h.dead.kind hk
    exact ne _ _ _ hb e.symm
  · obtain ⟨cs, hb⟩ := ownN_blk (h.tries j hj) hk
    exact ne _ _ _ hb e.symm
end

/-- The IDs of the tasks. -/
def idsP (s : S) : List Int := s.jobs.map (·.id)
theorem idsP_at {s : S} {k : Nat} {j : Job} (h : s.jobs[k]? = some j) : (idsP s)[k]? = some j.id := by unfold idsP; rw [List.getElem?_map, h]; rfl
def idA (s : S) (k : Nat) : Int := (idsP s).getD k 0
theorem idA_at {s : S} {k : Nat} {j : Job} (h : s.jobs[k]? = some j) : idA s k = j.id := by unfold idA; rw [List.getD_eq_getElem?_getD, idsP_at h]; rfl
theorem lk_ids {V : Int → Loc} {s : S} (h : WF s) {x : Int} : (lk (entP V s) x).isSome = true ↔ x ∈ idsP s := by
  unfold idsP
  rw [List.mem_map]
  constructor
  · intro hs
    obtain ⟨v, hv⟩ := Option.isSome_iff_exists.1 hs
    obtain ⟨j, hj, e⟩ := mem_entP.1 ((lk_some (entP_rise V h)).1 hv)
    injection e with e _
    exact ⟨j, hj, e.symm⟩
  · rintro ⟨j, hj, rfl⟩
    rw [lk_entP_some h hj]
    rfl
theorem sort_ids {s : S} (hw : WF s) {zs : List Int} (h : zs.Nodup) (hm : ∀ x, x ∈ zs ↔ x ∈ idsP s) : zs.mergeSort (fun x y => decide (x ≤ y)) = idsP s := by
  have hrise : (idsP s).Pairwise (fun x y => x < y) := List.pairwise_map.2 hw.rise
  have hnd : (idsP s).Nodup := hrise.imp (fun h => by omega)
  have hp : zs.Perm (idsP s) := (List.perm_ext_iff_of_nodup h hnd).2 hm
  have h1 : (zs.mergeSort (fun x y => decide (x ≤ y))).Perm (idsP s) := (List.mergeSort_perm zs _).trans hp
  have h2 := List.pairwise_mergeSort (le := fun x y : Int => decide (x ≤ y)) (fun a b c => by simp; omega) (fun a b => by simp; omega) zs
  refine h1.eq_of_pairwise (fun a b _ _ h3 h4 => by simp at h3 h4; omega) h2 ?_
  exact hrise.imp (fun h => by simp; omega)
/-- The keys that have been seen. -/
structure SeenP (L : List Ent) (left : Int → Bool) (zs : List Int) : Prop where
  nodup : zs.Nodup
  mem : ∀ x, x ∈ zs ↔ (lk L x).isSome = true ∧ left x = false
theorem SeenP.step {L : List Ent} {left : Int → Bool} {zs : List Int} (h : SeenP L left zs) {i : Int} (hi : (lk L i).isSome = true) (hl : left i = true) : SeenP L (fun x => left x && !(x == i)) (zs ++ [i]) := by
  refine ⟨?_, fun x => ?_⟩
  · rw [List.nodup_append]
    refine ⟨h.nodup, by simp, fun a ha b hb => ?_⟩
    obtain rfl : b = i := by simpa using hb
    intro e
    subst e
    have := ((h.mem a).1 ha).2
    rw [hl] at this
    cases this
  · rw [List.mem_append, h.mem x, List.mem_singleton]
    by_cases e : x = i
    · subst e; simp [hi]
    · simp [e]
def encA (V : Int → Loc) (s : S) (x : Nat × Nat) : Array Value := #[.int .i64 (idA s x.2), .pointer (some ⟨(V (idA s x.2)).tb, 0, none⟩)]
def FxA (B : Nat) (s : S) (pre : List (Nat × Nat)) (x : Nat × Nat) (W : World) : Prop := x.2 = pre.length ∧ x.2 < s.jobs.length ∧ (∀ y ∈ pre, y.1 = x.1) ∧ B ≤ x.1 ∧ x.1 ≤ W.heap.size
set_option maxRecDepth 100000 in
set_option maxHeartbeats 4000000 in
theorem all1_in (n : Nat) (hn : 1 ≤ n) (l g m B Bp : Nat) (dv : Value) (V : Int → Loc) (T U : Nat → Prop) (s : S) (J Jx : List (Nat × Nat) → World → Prop)
    (hJ : ∀ s W W', J s W → New W W' → J s W')
    (hY : ∀ pre x W1, J pre W1 → FxA B s pre x W1 → YieldAt Fence.wide (n - 1) Try.prog l (encA V s x) W1 fun e W' =>
      (e = .returned (.bool true) ∧ J (pre ++ [x]) W' ∧ KpN U B x.1 W1 W') ∨ (e = .returned (.bool false) ∧ Jx (pre ++ [x]) W'))
    (W : World) (hB : B ≤ W.heap.size) (hp : PI W g m dv V T s) (hown : ∀ k, ownP g m dv V s k ∨ T k → k < B ∧ ¬ U k) (hBp : Bp < B ∧ ¬ U Bp) (hb : Blk W Bp 22 #[.pointer (some ⟨g, 0, none⟩)]) (hU : ∀ k, U k → k < B) (h0 : J [] W) :
    CallsIn Fence.wide n Try.prog 70 #[.func (.yield l) #[] #[], .pointer (some ⟨Bp, 0, none⟩)] W fun e W' => (∃ v, e = .returned v) ∧
      ((∃ ys, ys.length = s.jobs.length ∧ J ys W') ∨ (∃ pre, True ∧ Jx pre W')) := by
  have hb0 := hb.cell 0 (u := .pointer (some ⟨g, 0, none⟩)) rfl
  have hbl := hb.lt
  have hc3 := hp.blk.cell 3 (u := .map (some m)) rfl
  have hgl := hp.blk.lt
  have hjl := hp.wf.len
  have hel := entP_len V s
  obtain ⟨N, hN⟩ : ∃ N, s.jobs.length = N := ⟨_, rfl⟩
  rw [hN] at hel hjl ⊢
  have HNN := Lib.hid hN
  have HH := Lib.hid hp
  have HINV := Lib.hid hp.inv
  have HB := Lib.hid hb
  have HY := Lib.hid hY
  have HJJ := Lib.hid hJ
  have HOWN := Lib.hid hown
  have HU := Lib.hid hU
  have H0 := Lib.hid h0
  have hlen : ∀ ty, (Builtin.len_ #[87] ty #[.map (some m)]).run Try.prog W = .ok (.int .i64 (N : Int)) W := fun ty => by
    have := hp.map.len Try.underlying87 ty
    rwa [hel] at this
  have hmk : ∀ W : World, (Instr.makeSlice 31 (.int .i64 0) (.int .i64 (N : Int))).run Try.prog W = .ok (.slice (some ⟨W.heap.size, 0, none⟩) 0 N) (W.alloc (.cells (madeCells #[.int .i64 0] N) 3)) := fun W => by
    obtain ⟨ht, ⟨i, hi, hz0, hz1, hz2⟩, hzs⟩ := elemInts
    have hr := run_make (P := Try.prog) (w := W) 31 3 i (.int .i64 0) ht hi hz0 .i64 .i64 0 (N : Int) (by omega) (by omega) (by rw [hz2]; omega) (by omega)
    simp only [Int.toNat_natCast, hz1, Nat.mul_one] at hr
    exact hr
  clear hp hb hY hJ hown hU h0 hel hN
  refine callsIn_wide.2 ?_
  go_enter Try.func70, Try.ntmps70
  go_wp2_with (at_range; refine wpList_rangeI _ rfl _ rfl keyIntP Try.underlying87 rfl (HH.out.map.chg ((Chg.refl (fun _ => False) W).alloc _) (fun h => h)) ?_; intro w0 hr0 hn0 hs0)
  have hown0 : (W.alloc (.cells (madeCells #[.int .i64 0] N) 3)).ownsRow W.heap.size 3 1 (.slice (some ⟨W.heap.size, 0, none⟩) 0 N) 0 (is []) := by
    refine ⟨rfl, .inr ⟨W.heap.size, N, madeCells #[.int .i64 0] N, rfl, Nat.le_refl _, Blk.new _ _ _, Nat.zero_le _, by unfold maxLen; omega, ?_, by simp [is]⟩⟩
    have := congrArg List.length (toList_madeCells_one (.int .i64 0) N)
    simpa using this
  have HR0 := Lib.hid hr0
  have HN0 := Lib.hid (((Chg.refl (fun _ => False) W).alloc (.cells (madeCells #[.int .i64 0] N) 3)).new hn0)
  have HO0 := Lib.hid (own_chg hown0 hn0 (fun _ _ h => h))
  have hs1 : w0.heap.size = W.heap.size + 2 := by simpa using hs0
  have HS1 := Lib.hid hs1
  clear hr0 hn0 hown0 hs0 hs1
  go_frame
  simp only [World.size_alloc] at HR0 ⊢
  go_loopw [3] (fun u wr => ∃ left zs A n c, u = .slice A n c ∧ SeenP (entP V s) left zs ∧ Go.Mem.RI wr Try.prog 3 m (W.heap.size + 1) (entP V s) left ∧ wr.ownsRow W.heap.size 3 1 (.slice A n c) n (is zs) ∧ (∀ k, blk A = some k → k ≠ W.heap.size + 1) ∧ n = zs.length ∧ W.heap.size + 2 ≤ wr.heap.size ∧ New W wr) (fun _ wr => wr.rangeLeft m (W.heap.size + 1))
  case atStart => exact ⟨_, [], _, 0, N, rfl, ⟨List.nodup_nil, fun x => by simp; intro h; cases hx : lk (entP V s) x <;> simp_all⟩, HR0.out, HO0.out, fun k hk => by simp [blk] at hk; omega, rfl, by rw [HS1.out]; exact Nat.le_refl _, HN0.out⟩
  case round =>
    obtain ⟨left, zs, A, nz, c, rfl, hseen, hri, hown, hap, hnl, hsz2, hnw⟩ := hrel
    have HRI := Lib.hid hri
    have HNW := Lib.hid hnw
    have HOW := Lib.hid hown
    have HSE := Lib.hid hseen
    have HNL := Lib.hid hnl
    have HAP := Lib.hid hap
    have hn64 : nz ≤ 1024 := by
      have : ∀ x ∈ zs, x ∈ idsP s := fun x hx => (lk_ids HH.out.wf).1 ((hseen.mem x).1 hx).1
      have := List.Nodup.length_le_of_subset hseen.nodup this
      have h2 : (idsP s).length = N := by unfold idsP; rw [List.length_map, HNN.out]
      omega
    clear hri hnw hown hseen hnl hap
    go_wp2_with (at_next; refine wpList_nextI wr rfl _ rfl keyIntP rfl HRI.out (fun tb : Nat => Value.pointer (some ⟨tb, 0, none⟩)) HINV.out ?_ ?_)
    · intro hdone
      have hmem : ∀ x, x ∈ zs ↔ x ∈ idsP s := fun x => by
        rw [HSE.out.mem x, lk_ids HH.out.wf]
        exact ⟨fun h => h.1, fun h => ⟨h, hdone x⟩⟩
      have hsort := sort_ids HH.out.wf HSE.out.nodup hmem
      have hlen2 : N = nz := by rw [HNL.out, ← List.length_mergeSort (le := fun x y => decide (x ≤ y)) zs, hsort]; unfold idsP; rw [List.length_map, HNN.out]
      subst hlen2
      have HSO := Lib.hid hsort
      clear hmem hsort
      go_wp2_with fail
      refine (sort_any W.heap.size A N c zs wr HOW.out (by omega)).mono ?_
      rintro e w1 ⟨rfl, hown1, hch1⟩
      rw [HSO.out] at hown1
      have hN1 : New W w1 := HNW.out.owned hch1 (fun k hk => (own_blk_le HOW.out hk).1)
      have HX := Lib.hid (And.intro hown1 hN1)
      clear hown1 hch1 hN1
      go_wp2
      refine (wpIn_wide (n := n)).1 ?_
      gi_loopw [30] (fun v wr => ∃ pre : List (Nat × Nat), v = .int .i64 (pre.length : Int) ∧ pre.length ≤ N ∧ (∀ y ∈ pre, y.1 = w1.heap.size) ∧ J pre wr ∧ KpN U B w1.heap.size w1 wr) (fun v _ => N - (intOf v).toNat)
      case atStart => exact ⟨[], rfl, Nat.zero_le _, by simp, HJJ.out _ _ _ H0.out HX.out.2, KpN.refl _ _ _ _⟩
      case round =>
        obtain ⟨pre, rfl, hle, hpre, hJs, hK⟩ := hrel
        obtain ⟨k, hk⟩ : ∃ k, pre.length = k := ⟨_, rfl⟩
        have hBw : B ≤ w1.heap.size := Nat.le_trans hB HX.out.2.size
        have hp1 := HH.out.new HX.out.2
        have hpr : PI wr g m dv V T s := hp1.of_same hK.1 (fun b hb => hK.2.1 b (HOWN.out b hb).1 (HOWN.out b hb).2)
        by_cases hlt : k < N
        · obtain ⟨j, hj⟩ : ∃ j, s.jobs[k]? = some j := ⟨_, List.getElem?_eq_getElem (by rw [HNN.out]; exact hlt)⟩
          have hjm := List.mem_of_getElem? hj
          have hbp : Blk wr Bp 22 #[.pointer (some ⟨g, 0, none⟩)] := hK.blk (HB.out.chg HX.out.2 (fun h => h)) (by omega) hBp.2
          have hids := hK.own HX.out.1 (fun b hb => by
            have := own_blk_le HX.out.1 (k := b) (by rw [ownBlock_slice] at hb; exact hb)
            exact ⟨this.2, fun hu => by have := HU.out b hu; omega⟩)
          have hcid := Rd.of_own hids
          obtain ⟨ad, u, rfl, hu, hcu⟩ := hcid.at_ hlt
          obtain ⟨z, hz, rfl⟩ := is_at hu
          obtain rfl : z = j.id := by rw [idsP_at hj] at hz; injection hz with hz; exact hz.symm
          have hq0 := hbp.cell 0 (u := .pointer (some ⟨g, 0, none⟩)) rfl
          have hq3 := hpr.blk.cell 3 (u := .map (some m)) rfl
          have hlk := hpr.map.look keyIntP Try.underlying87 (zeroTask wr) (i := j.id) (by have := HH.out.wf.idr j hjm; unfold Go.Mem.I64; omega) false
          rw [lk_entP_some HH.out.wf hjm] at hlk
          simp only [Bool.false_eq_true, if_false, Option.getD_some] at hlk
          obtain ⟨fn, tmps, assign, body, hy, hR⟩ := HY.out pre (w1.heap.size, k) wr hJs ⟨hk.symm, by rw [HNN.out]; exact hlt, hpre, hBw, hK.1⟩
          unfold encA at hy
          rw [idA_at hj] at hy
          have HRR := Lib.hid hR
          have HK := Lib.hid hK
          have HPRE := Lib.hid hpre
          have HKK := Lib.hid hk
          rw [hk]
          have hadl := World.block_lt_of_cell? _ _ hcu
          clear hu hz hR hK hpre hk hp1 hpr hbp hids hcid hJs hj hjm
          gi_wp2
          refine HRR.out.mono ?_
          rintro e w2 (⟨rfl, hJ2, hk2⟩ | ⟨rfl, hJx2⟩)
          · gi_wp2
            go_roundw
            case rel =>
              refine ⟨pre ++ [(w1.heap.size, k)], ?_, ?_, fun y hy => ?_, hJ2, HK.out.trans hk2⟩
              · rw [List.length_append, HKK.out]; go_num
              · rw [List.length_append, HKK.out]; simp only [List.length_singleton]; omega
              · rcases List.mem_append.1 hy with hy | hy
                · exact HPRE.out y hy
                · simp at hy; rw [hy]
            case measure => simp [intOf]; omega
          · gi_wp2
            refine bodyPost_ret (results_none rfl _ _ _) rfl ?_
            exact ⟨⟨_, rfl⟩, .inr ⟨_, trivial, hJx2⟩⟩
        · obtain rfl : k = N := by omega
          rw [hk]
          have HJ2 := Lib.hid hJs
          have HK2 := Lib.hid hk
          clear hpre hK hJs hp1 hpr hk
          gi_wp2
          refine bodyPost_end (results_none rfl _ _ _) rfl ?_
          exact ⟨⟨_, rfl⟩, .inl ⟨pre, HK2.out, HJ2.out⟩⟩
    · intro i tb w1 hm hi hl hr1 hc2 hsz hlt hen
      have hlk : (lk (entP V s) i).isSome = true := by rw [(lk_some (entP_rise V HH.out.wf)).2 hm]; rfl
      have hown1 := own_chg HOW.out hc2 (fun k hk e => HAP.out k hk e)
      have hnx : New W w1 := HNW.out.owned hc2 (fun j e => by omega)
      have HSE1 := Lib.hid (HSE.out.step hlk hl)
      have HX := Lib.hid (And.intro hr1 hnx)
      have HO1 := Lib.hid hown1
      have hz1 : W.heap.size ≤ w1.heap.size := hnx.size
      have hz2 : W.heap.size + 2 ≤ w1.heap.size := by rw [hsz]; exact hsz2
      have HM := Lib.hid hm
      clear hm hlk hown1 hnx hc2 hr1 hsz
      go_wp2_with (at_builtin; refine wpList_app elemInts rfl _ _ rfl rfl (HO1.out.alloc _) rfl Rd.one (is_one [i]) (by simp only [maxLen]; omega) (by omega) (by simp; omega) ?_; intro A' c' w2 hown2 hg2 hat2; have HO2 := Lib.hid hown2; have HG2 := Lib.hid (And.intro hg2 hat2); clear hown2 hg2 hat2)
      have hml := HH.out.map.lt
      have hch := ((Chg.refl (fun k => some k = blk A) w1).alloc (.cells #[Value.int IntKind.i64 i] 3)).trans (grown_chg HG2.out.1) (fun _ _ h => h)
      have hA : ∀ k, some k = blk A → W.heap.size ≤ k ∧ k ≠ W.heap.size + 1 := fun k hk => ⟨(own_blk_le HO1.out hk.symm).1, HAP.out k hk.symm⟩
      have n1 : ¬ (fun k => some k = blk A) m := fun e => by have := (hA m e).1; omega
      have n2 : ¬ (fun k => some k = blk A) (W.heap.size + 1) := fun e => (hA _ e).2 rfl
      refine ⟨⟨_, zs ++ [i], A', nz + 1, c', rfl, HSE1.out, HX.out.1.chg hch n1 n2, ?_, fun k hk => ?_, ?_, Nat.le_trans hz2 hch.size, HX.out.2.owned hch (fun k hk => (hA k hk).1)⟩, ?_⟩
      · have := HO2.out
        simpa [is] using this
      · rcases HG2.out.2 with e | e
        · rw [e] at hk; exact HAP.out k hk
        · rw [e] at hk; injection hk with hk; simp at hk; omega
      · rw [List.length_append, ← HNL.out]; rfl
      · rw [RI.left_chg HX.out.1 hch n1 n2]
        exact hlt
set_option maxHeartbeats 400000 in
theorem all_any (g : Nat) (w : World) :
    Calls Try.prog 46 #[.pointer (some ⟨g, 0, none⟩)] w fun e w' => e = .returned (.func (.func 70) #[] #[.pointer (some ⟨w.heap.size, 0, none⟩)]) ∧ Blk w' w.heap.size 22 #[.pointer (some ⟨g, 0, none⟩)] ∧ New w w' ∧ w'.heap.size = w.heap.size + 1 := by
  have hmf : ∀ (fn : Fn) (first cap : Array Value) (w : World), (Instr.makeFunc fn first cap).run Try.prog w = .ok (.func fn first cap) w := fun _ _ _ _ => rfl
  go_enter Try.func46, Try.ntmps46
  go_wp2
  go_ret
  exact ⟨rfl, Blk.new _ _ _, (Chg.refl _ w).alloc _, by simp⟩
theorem all_seq (n : Nat) (hn : 1 ≤ n) (g m Bp : Nat) (dv : Value) (V : Int → Loc) (T U : Nat → Prop) (s : S) (w : World)
    (hp : PI w g m dv V T s) (hown : ∀ k, ownP g m dv V s k ∨ T k → ¬ U k) (hBp : ¬ U Bp) (hb : Blk w Bp 22 #[.pointer (some ⟨g, 0, none⟩)]) (hU : ∀ k, U k → k < w.heap.size) :
    SeqN Fence.wide n Try.prog 70 #[.pointer (some ⟨Bp, 0, none⟩)] (encA V s) (FxA w.heap.size s) (fun x => KpN U w.heap.size x.1) (fun ys W => ys.length = s.jobs.length) (fun _ _ => True) w := fun l J Jx W hW hJ hY h0 =>
  all1_in n hn l g m w.heap.size Bp dv V T U s J Jx hJ hY W hW.size (hp.new hW) (fun k hk => ⟨hk.elim (fun h => hp.lt h) (fun h => (hp.sep k h).1), hown k hk⟩) ⟨hb.lt, hBp⟩ (hb.chg hW (fun h => h)) hU h0
theorem FxA.stab (B C : Nat) (s : S) (pre : List (Nat × Nat)) (x : Nat × Nat) : Stab C (FxA B s pre x) := fun W W' row ⟨h1, h2, h3, h4, h5⟩ hg hr => ⟨h1, h2, h3, h4, Nat.le_trans h5 hg.size⟩
end Go.Proofs.Ytbmplfhcdkeooaa
