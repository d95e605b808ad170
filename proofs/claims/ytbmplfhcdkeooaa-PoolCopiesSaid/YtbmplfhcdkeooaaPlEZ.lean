/- A task of the pool is changed; contracts of pool: Revive. -/
import Derived.Test.YtbmplfhcdkeooaaPlDZ
set_option linter.unusedSimpArgs false
set_option linter.unusedVariables false
namespace Go.Proofs.Ytbmplfhcdkeooaa
set_option linter.unusedVariables false
open Go.RowKit Go.Mem Go.Pl

section
variable {w w' : World} {g m : Nat} {dv : Value} {V : Int → Loc} {T : Nat → Prop} {s s' : S}
/-- The pool's blocks are apart. -/
theorem PI.apart (h : PI w g m dv V T s) : (∀ j ∈ s.jobs, (V j.id).tb ≠ g ∧ (V j.id).tv.ownBlock ≠ some g ∧ blkV dv ≠ some (V j.id).tb ∧ ∀ x, (V j.id).tv.ownBlock = some x → blkV dv ≠ some x) ∧ blkV dv ≠ some g ∧ ∀ i ∈ s.jobs, ∀ j ∈ s.jobs, (V i.id).tv.ownBlock ≠ some (V j.id).tb := by
  refine ⟨fun j hj => ⟨fun e => ?_, ownN_ne (h.tries j hj) h.blk (by decide), h.dead.ne (h.task j hj) (by decide), fun x hx => ?_⟩, h.dead.ne h.blk (by decide), fun i hi j hj => ownN_ne (h.tries i hi) (h.task j hj) (by decide)⟩
  · have h1 := h.task j hj
    have h2 := h.blk
    rw [e] at h1
    unfold Blk at h1 h2
    rw [h1] at h2
    injection h2 with h2
    injection h2 with _ h2
    exact absurd h2 (by decide)
  · obtain ⟨cs, hb⟩ := ownN_blk (h.tries j hj) hx
    exact h.dead.ne hb (by decide)
/-- One task is changed. -/
theorem PI.put {k : Nat} {j j' : Job} {L' : Loc} (h : PI w g m dv V T s) (hj : s.jobs[k]? = some j) (hid : j'.id = j.id) (hs : s'.jobs = s.jobs.set k j') (hal : s'.alive = s.alive) (htr : ∀ i, i ≠ j.id → triesOf s' i = triesOf s i) (hwf : WF s')
    (hc : Chg (fun x => x = g ∨ x = (V j.id).tb ∨ (V j.id).tv.ownBlock = some x) w w') (hg : Blk w' g 89 (pCells s' dv m)) (hL : L'.tb = (V j.id).tb) (ht : Blk w' L'.tb 94 (tCells j' L'))
    (hb : ByT w' (fun x => T x ∨ (w.heap.size ≤ x ∧ L'.tv.ownBlock ≠ some x)) L'.bv j'.body) (hr : w'.ownsRow 0 100 3 L'.tv j'.n (trsV (triesOf s' j.id))) (hrn : ∀ x, L'.tv.ownBlock = some x → (V j.id).tv.ownBlock = some x ∨ w.heap.size ≤ x)
    (ha : ByT w' (fun x => T x ∨ (w.heap.size ≤ x ∧ L'.tv.ownBlock ≠ some x)) L'.av (ansB j')) :
    ∃ V', V' j.id = L' ∧ PI w' g m dv V' (TP w w' g m dv V' T s') s' ∧ DidP w w' g m dv V V' s s' := by
  obtain ⟨V', hV'⟩ : ∃ V', updL V j.id L' = V' := ⟨_, rfl⟩
  have hjm := List.mem_of_getElem? hj
  have hv1 : V' j.id = L' := by rw [← hV']; exact updL_same _ _ _
  have hv2 : ∀ i, i ≠ j.id → V' i = V i := fun i hi => by rw [← hV']; exact updL_other _ _ hi
  have hjob : ∀ i ∈ s'.jobs, i = j' ∨ (i ∈ s.jobs ∧ i.id ≠ j.id) := fun i hi => by
    rw [hs] at hi
    rcases Classical.em (i = j') with e | e
    · exact .inl e
    · exact .inr (mem_set_ne h.wf.rise hj hid hi e)
  have hback : ∀ i ∈ s.jobs, i = j ∨ i ∈ s'.jobs := fun i hi => by rw [hs]; exact mem_set_of h.wf.rise hj hi
  have hj' : j' ∈ s'.jobs := by rw [hs]; exact mem_set_self hj
  obtain ⟨a1, a2, a3⟩ := h.apart
  obtain ⟨n1, n2, n3⟩ := h.ne_map
  have hown : ∀ x, ownP g m dv V' s' x → ownP g m dv V s x ∨ L'.tv.ownBlock = some x := fun x hx => by
    rcases hx with hx | hx | hx | ⟨i, hi, hx⟩
    · exact .inl (.inl hx)
    · exact .inl (.inr (.inl hx))
    · exact .inl (.inr (.inr (.inl hx)))
    · rcases hjob i hi with rfl | ⟨hi, hne⟩
      · rw [hid, hv1] at hx
        rcases hx with hx | hx
        · exact .inl (.inr (.inr (.inr ⟨j, hjm, .inl (hx.trans hL)⟩)))
        · exact .inr hx
      · rw [hv2 _ hne] at hx
        exact .inl (.inr (.inr (.inr ⟨i, hi, hx⟩)))
  have hdid : DidP w w' g m dv V V' s s' := ⟨hc.mono (fun x _ e => by
      rcases e with e | e | e
      · exact .inl e
      · exact .inr (.inr (.inr ⟨j, hjm, .inl e⟩))
      · exact .inr (.inr (.inr ⟨j, hjm, .inr e⟩))), fun x hx => by
    rcases hown x hx with h1 | h1
    · exact .inl h1
    · rcases hrn x h1 with h2 | h2
      · exact .inl (.inr (.inr (.inr ⟨j, hjm, .inr h2⟩)))
      · exact .inr h2⟩
  have hnT : ∀ x, T x → ¬ (x = g ∨ x = (V j.id).tb ∨ (V j.id).tv.ownBlock = some x) := fun x hx e => (h.sep x hx).2 (by
      rcases e with e | e | e
      · exact .inl e
      · exact .inr (.inr (.inr ⟨j, hjm, .inl e⟩))
      · exact .inr (.inr (.inr ⟨j, hjm, .inr e⟩)))
  have hold : ∀ v x, ByT w T v x → ByT w' (TP w w' g m dv V' T s') v x := fun v x hb => (hb.chg hc hnT).up (fun k _ hk => .inl hk)
  have hup : ∀ v x, ByT w' (fun x => T x ∨ (w.heap.size ≤ x ∧ L'.tv.ownBlock ≠ some x)) v x → ByT w' (TP w w' g m dv V' T s') v x := fun v x hb => hb.up (fun k hk h1 => by
    rcases h1 with h1 | ⟨h1, h2⟩
    · exact .inl h1
    · refine .inr ⟨h1, hk, fun ho => ?_⟩
      rcases hown k ho with h3 | h3
      · have := h.lt h3; omega
      · exact h2 h3)
  have hent : entP V' s' = entP V s := by
    refine (entP_rise V' hwf).ext (entP_rise V h.wf) (fun x => ?_)
    rw [mem_entP, mem_entP]
    constructor
    · rintro ⟨i, hi, rfl⟩
      rcases hjob i hi with rfl | ⟨hi, hne⟩
      · exact ⟨j, hjm, by rw [hid, hv1, hL]⟩
      · exact ⟨i, hi, by rw [hv2 _ hne]⟩
    · rintro ⟨i, hi, rfl⟩
      by_cases e : i.id = j.id
      · exact ⟨j', hj', by rw [e, hid, hv1, hL]⟩
      · rcases hback i hi with rfl | hi'
        · exact absurd rfl e
        · exact ⟨i, hi', by rw [hv2 _ e]⟩
  have hmU : ¬ (m = g ∨ m = (V j.id).tb ∨ (V j.id).tv.ownBlock = some m) := fun e => by
    rcases e with e | e | e
    · exact n1 e.symm
    · exact (n3 j hjm).1 e.symm
    · exact (n3 j hjm).2 e
  refine ⟨V', hv1, ⟨hg, by rw [hent]; exact h.map.chg hc hmU, ?_, fun i hi => ?_, fun i hi => ?_, fun i hi => ?_, fun i hi => ?_, fun i hi i2 hi2 e => ?_, fun i hi i2 hi2 x h1 h2 => ?_, hwf, DidP.sep h hdid⟩, hdid⟩
  · rw [hal]
    refine h.dead.chg hc (fun x hx e => ?_)
    rcases e with e | e | e
    · subst e; exact a2 hx
    · subst e; exact (a1 j hjm).2.2.1 hx
    · exact (a1 j hjm).2.2.2 x e hx
  · rcases hjob i hi with rfl | ⟨hi, hne⟩
    · rw [hid, hv1]; exact ht
    · rw [hv2 _ hne]
      refine (h.task i hi).chg hc (fun e => ?_)
      rcases e with e | e | e
      · exact (a1 i hi).1 e
      · exact hne (h.apT i hi j hjm e)
      · exact a3 j hjm i hi e
  · rcases hjob i hi with rfl | ⟨hi, hne⟩
    · rw [hid, hv1]; exact hup _ _ hb
    · rw [hv2 _ hne]; exact hold _ _ (h.body i hi)
  · rcases hjob i hi with rfl | ⟨hi, hne⟩
    · rw [hid, hv1]; exact hr
    · rw [hv2 _ hne, htr _ hne]
      refine ownN_chg (h.tries i hi) hc (fun x hx e => ?_)
      rcases e with e | e | e
      · subst e; exact (a1 i hi).2.1 hx
      · subst e; exact a3 i hi j hjm hx
      · exact hne (h.apR i hi j hjm x hx e)
  · rcases hjob i hi with rfl | ⟨hi, hne⟩
    · rw [hid, hv1]; exact hup _ _ ha
    · rw [hv2 _ hne]; exact hold _ _ (h.ans i hi)
  · rcases hjob i hi with rfl | ⟨hi, hne⟩ <;> rcases hjob i2 hi2 with rfl | ⟨hi2, hne2⟩
    · rfl
    · rw [hid, hv1, hv2 _ hne2, hL] at e
      exact absurd (h.apT j hjm i2 hi2 e).symm hne2
    · rw [hid, hv1, hv2 _ hne, hL] at e
      exact absurd (h.apT i hi j hjm e) hne
    · rw [hv2 _ hne, hv2 _ hne2] at e
      exact h.apT i hi i2 hi2 e
  · have old : ∀ i ∈ s.jobs, i.id ≠ j.id → (V i.id).tv.ownBlock = some x → L'.tv.ownBlock ≠ some x := fun i hi hne h1 h2 => by
      rcases hrn x h2 with h3 | h3
      · exact hne (h.apR i hi j hjm x h1 h3)
      · have := h.lt (.inr (.inr (.inr ⟨i, hi, .inr h1⟩))); omega
    rcases hjob i hi with rfl | ⟨hi, hne⟩ <;> rcases hjob i2 hi2 with rfl | ⟨hi2, hne2⟩
    · rfl
    · rw [hid, hv1] at h1
      rw [hv2 _ hne2] at h2
      exact absurd h1 (old i2 hi2 hne2 h2)
    · rw [hid, hv1] at h2
      rw [hv2 _ hne] at h1
      exact absurd h2 (old i hi hne h1)
    · rw [hv2 _ hne] at h1
      rw [hv2 _ hne2] at h2
      exact h.apR i hi i2 hi2 x h1 h2
/-- Flags, tick are changed. -/
theorem PI.flagsT (h : PI w g m dv V T s) (hj : s'.jobs = s.jobs) (ht : s'.tries = s.tries) (hwf : WF s') (hc : Chg (fun x => x = g ∨ blkV dv = some x) w w') (hg : Blk w' g 89 (pCells s' dv m)) (hd : RowV w' 4 IsBo dv (s'.alive.map (fun b => .bool (!b)))) :
    PI w' g m dv V T s' ∧ DidP w w' g m dv V V s s' := by
  obtain ⟨a1, a2, a3⟩ := h.apart
  obtain ⟨n1, n2, n3⟩ := h.ne_map
  have hown : ∀ x, ownP g m dv V s' x → ownP g m dv V s x := fun x hx => by unfold ownP at hx ⊢; rw [hj] at hx; exact hx
  have hdid : DidP w w' g m dv V V s s' := ⟨hc.mono (fun x _ e => by
      rcases e with e | e
      · exact .inl e
      · exact .inr (.inr (.inl e))), fun x hx => .inl (hown x hx)⟩
  have hold : ∀ v x, ByT w T v x → ByT w' T v x := fun v x hb => hb.chg hc (fun k hk e => (h.sep k hk).2 (by
      rcases e with e | e
      · exact .inl e
      · exact .inr (.inr (.inl e))))
  have htr : ∀ i, triesOf s' i = triesOf s i := fun i => by unfold triesOf; rw [ht]
  have hent : entP V s' = entP V s := by unfold entP; rw [hj]
  refine ⟨⟨hg, ?_, hd, fun i hi => ?_, fun i hi => ?_, fun i hi => ?_, fun i hi => ?_, by rw [hj]; exact h.apT, by rw [hj]; exact h.apR, hwf, fun k hk => ⟨Nat.lt_of_lt_of_le (h.sep k hk).1 hc.size, fun ho => (h.sep k hk).2 (hown k ho)⟩⟩, hdid⟩
  · rw [hent]
    refine h.map.chg hc (fun e => ?_)
    rcases e with e | e
    · exact n1 e.symm
    · exact n2 e
  all_goals rw [hj] at hi
  · exact (h.task i hi).chg hc (fun e => by
      rcases e with e | e
      · exact (a1 i hi).1 e
      · exact (a1 i hi).2.2.1 e)
  · exact hold _ _ (h.body i hi)
  · rw [htr]
    exact ownN_chg (h.tries i hi) hc (fun x hx e => by
      rcases e with e | e
      · subst e; exact (a1 i hi).2.1 hx
      · exact (a1 i hi).2.2.2 x hx e)
  · exact hold _ _ (h.ans i hi)
theorem PI.flags (h : PI w g m dv V T s) (hj : s'.jobs = s.jobs) (ht : s'.tries = s.tries) (hwf : WF s') (hc : Chg (fun x => x = g ∨ blkV dv = some x) w w') (hg : Blk w' g 89 (pCells s' dv m)) (hd : RowV w' 4 IsBo dv (s'.alive.map (fun b => .bool (!b)))) :
    PI w' g m dv V (TP w w' g m dv V T s') s' ∧ DidP w w' g m dv V V s s' := by
  obtain ⟨q1, q2⟩ := h.flagsT hj ht hwf hc hg hd
  exact ⟨q1.up (fun k _ hk => .inl hk) (DidP.sep h q2), q2⟩
end
theorem dead_at {w : World} {g m : Nat} {V : Int → Loc} {T : Nat → Prop} {s : S} {gd c N : Nat} (h : PI w g m (.slice (some ⟨gd, 0, none⟩) N c) V T s) {k : Nat} {b : Bool} (hb : s.alive[k]? = some b) : w.cell? ⟨gd, k, none⟩ = some (.bool (!b)) ∧ w.frozen? ⟨gd, k, none⟩ = false := by
  have hd := h.dead
  rcases hd with ⟨hv, _⟩ | ⟨g', cp, rest, hv, h1, h2, h3, h4⟩
  · cases hv
  · injection hv with hA
    injection hA with hA
    injection hA with hA
    subst hA
    refine ⟨h3.cell k ?_, h3.frozen k⟩
    have hk := (List.getElem?_eq_some_iff.1 hb).1
    rw [List.getElem?_toArray, List.getElem?_append_left (by rw [List.length_map]; exact hk), List.getElem?_map, hb]
    rfl
/-- A flag is changed. -/
theorem dead_set {w : World} {g m : Nat} {V : Int → Loc} {T : Nat → Prop} {s : S} {gd c N : Nat} (h : PI w g m (.slice (some ⟨gd, 0, none⟩) N c) V T s) {k : Nat} (hk : k < s.alive.length) (b : Bool) : RowV (w.setCell ⟨gd, k, none⟩ (.bool (!b))) 4 IsBo (.slice (some ⟨gd, 0, none⟩) N c) ((s.alive.set k b).map (fun b => .bool (!b))) := by
  have := rowv_set h.dead (j := k) (by rw [List.length_map]; exact hk) (u := .bool (!b)) ⟨_, rfl⟩
  rwa [← List.map_set] at this
theorem alive_at {s : S} {worker : Int} (h : ¬ (worker < 0 ∨ (s.alive.length : Int) ≤ worker)) : ∃ k : Nat, worker = (k : Int) ∧ k < s.alive.length ∧ s.alive[k]? = some (s.alive.getD worker.toNat false) := by
  refine ⟨worker.toNat, by omega, by omega, ?_⟩
  rw [List.getD_eq_getElem?_getD, List.getElem?_eq_getElem (show worker.toNat < s.alive.length by omega)]
  rfl
set_option maxHeartbeats 1000000 in
set_option maxRecDepth 100000 in
theorem plRevive_any (g m : Nat) (dv : Value) (V : Int → Loc) (T : Nat → Prop) (s : S) (w : World) (h : PI w g m dv V T s) (worker : Int) :
    Calls Try.prog 26 #[.pointer (some ⟨g, 0, none⟩), .int .i64 worker] w fun e w' => e = .returned (.int .i64 (revive s worker).2) ∧
      PI w' g m dv V (TP w w' g m dv V T (revive s worker).1) (revive s worker).1 ∧ DidP w w' g m dv V V s (revive s worker).1 := by
  obtain ⟨gd, c, rfl, hdc, hcm⟩ := h.dv
  have hc0 := h.blk.cell 0 (u := .slice (some ⟨gd, 0, none⟩) s.alive.length c) rfl
  have hgl := h.blk.lt
  have HH := Lib.hid h
  unfold maxLen at hcm
  obtain ⟨N, hN⟩ : ∃ N, s.alive.length = N := ⟨_, rfl⟩
  have HN := Lib.hid hN
  by_cases h1 : worker < 0
  · rw [revive_bad (.inl h1)]
    rw [hN] at hc0
    clear h hN
    go_enter Try.func26, Try.ntmps26
    go_wp2
    go_ret
    obtain ⟨q1, q2⟩ := HH.out.same (Chg.refl _ w)
    exact ⟨rfl, q1, q2⟩
  have h1' : 0 ≤ worker := by omega
  by_cases h2 : (s.alive.length : Int) ≤ worker
  · rw [revive_bad (.inr h2)]
    rw [hN] at hc0 h2
    clear h hN
    go_enter Try.func26, Try.ntmps26
    go_wp2
    go_ret
    obtain ⟨q1, q2⟩ := HH.out.same (Chg.refl _ w)
    exact ⟨rfl, q1, q2⟩
  have hnb : ¬ (worker < 0 ∨ (s.alive.length : Int) ≤ worker) := by omega
  obtain ⟨k, rfl, hk, hka⟩ := alive_at hnb
  obtain ⟨d0, d1⟩ := dead_at h hka
  have hgdl : gd < w.heap.size := World.block_lt_of_cell? _ _ d0
  cases hb : s.alive.getD (k : Int).toNat false with
  | true =>
    rw [revive_up hnb hb]
    rw [hb] at d0
    rw [hN] at hc0 hk
    have hk' : (k : Int) < (N : Int) := by omega
    clear h hN h2 hnb hka hb
    go_enter Try.func26, Try.ntmps26
    go_wp2
    go_ret
    obtain ⟨q1, q2⟩ := HH.out.same (Chg.refl _ w)
    exact ⟨rfl, q1, q2⟩
  | false =>
    have HR := Lib.hid (revive_ok hnb hb)
    rw [revive_ok hnb hb]
    rw [hb] at d0
    rw [hN] at hc0 hk
    have hk' : (k : Int) < (N : Int) := by omega
    clear h hN h2 hnb hka hb
    go_enter Try.func26, Try.ntmps26
    go_wp2
    go_ret
    have hwf := HH.out.wf.revive (k : Int)
    rw [HR.out] at hwf
    rw [Int.toNat_natCast] at hwf
    obtain ⟨a1, a2, a3⟩ := HH.out.apart
    obtain ⟨q1, q2⟩ := HH.out.flags (s' := { s with alive := s.alive.set k true }) (w' := w.setCell ⟨gd, k, none⟩ (.bool false)) rfl rfl hwf ((Chg.refl _ w).setCell (p := ⟨gd, k, none⟩) (fun _ => .inr rfl) _) (HH.out.blk.far (fun e => a2 (by rw [e]; rfl)) _) (dead_set HH.out (by rw [HN.out]; exact hk) true)
    exact ⟨rfl, q1, q2⟩
end Go.Proofs.Ytbmplfhcdkeooaa
