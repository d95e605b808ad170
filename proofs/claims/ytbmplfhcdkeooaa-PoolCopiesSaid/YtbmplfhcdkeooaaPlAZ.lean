/- pool.Pool in memory; contracts of copied, checked, running. -/
import Derived.Test.YtbmplfhcdkeooaaProg
import Derived.Test.YtbmplfhcdkeooaaMapI
import Derived.Test.YtbmplfhcdkeooaaRowV
import Derived.Test.YtbmplfhcdkeooaaMemRes
import Derived.Test.YtbmplfhcdkeooaaG1
import Derived.Test.YtbmplfhcdkeooaaBase
import Derived.Deep.QuietTactic
import Derived.BigQuiet
set_option linter.unusedSimpArgs false
set_option linter.unusedVariables false
namespace Go.Mem
set_option linter.unusedVariables false
open Go.RowKit
section
variable {w w' : World} {base : Nat} {e t : TypeId} {sz : Nat} {v : Value} {n : Nat} {xs : List Value}
theorem ownN_chg {S : Nat → Prop} (h : w.ownsRow base e sz v n xs) (hc : Chg S w w') (hs : ∀ k, v.ownBlock = some k → ¬ S k) : w'.ownsRow base e sz v n xs := by
  refine ⟨h.1, ?_⟩
  rcases h.2 with h0 | ⟨g, cap, cur, rfl, hb, hg, r⟩
  · exact .inl h0
  · exact .inr ⟨g, cap, cur, rfl, hb, hc.heap hg (hs g rfl), r⟩
theorem ownN_blk (h : w.ownsRow base e sz v n xs) {k : Nat} (hk : v.ownBlock = some k) : ∃ cs, Blk w k e cs := by
  rcases h.2 with ⟨rfl, _⟩ | ⟨g, cap, cur, rfl, hb, hg, r⟩
  · cases hk
  · injection hk with hk
    subst hk
    exact ⟨cur, hg⟩
theorem ownN_ne {cs : Array Value} {g : Nat} (h : w.ownsRow base e sz v n xs) (hb : Blk w g t cs) (hne : t ≠ e) : v.ownBlock ≠ some g := fun hk => by
  obtain ⟨cs', h1⟩ := ownN_blk h hk
  unfold Blk at hb h1
  rw [hb] at h1
  injection h1 with h1
  injection h1 with h1 h2
  exact hne h2
theorem ownN_shape (h : w.ownsRow base e sz v n xs) : ∃ A c, v = .slice A n c ∧ n ≤ c ∧ c ≤ maxLen ∧ v.ownBlock = blk A := by
  rcases h.2 with ⟨rfl, rfl⟩ | ⟨g, cap, cur, rfl, hb, hg, h1, h2, r⟩
  · exact ⟨none, 0, rfl, Nat.le_refl _, Nat.zero_le _, rfl⟩
  · exact ⟨_, cap, rfl, h1, h2, rfl⟩
theorem ownN_cell {A : Option Addr} {c : Nat} (h : w.ownsRow base e sz (.slice A n c) n xs) {i : Nat} {u : Value} (hu : xs[i]? = some u) : ∃ g, A = some ⟨g, 0, none⟩ ∧ w.cell? ⟨g, i, none⟩ = some u ∧ w.frozen? ⟨g, i, none⟩ = false := by
  rcases h.2 with ⟨hv, rfl⟩ | ⟨g, cap, cur, hv, hb, hg, h1, h2, h3, h4⟩
  · have := h.1
    rw [Nat.zero_mul] at this
    rw [List.eq_nil_of_length_eq_zero this] at hu
    simp at hu
  · injection hv with hA
    subst hA
    refine ⟨g, rfl, Blk.cell (cs := cur) hg i ?_, Blk.frozen (cs := cur) hg i⟩
    rw [← h4, List.getElem?_take] at hu
    split at hu
    · simpa using hu
    · cases hu
theorem ownN_set {g c i : Nat} (h : w.ownsRow base e sz (.slice (some ⟨g, 0, none⟩) n c) n xs) (hi : i < n * sz) (u : Value) : (w.setCell ⟨g, i, none⟩ u).ownsRow base e sz (.slice (some ⟨g, 0, none⟩) n c) n (xs.set i u) := by
  refine ⟨by rw [List.length_set]; exact h.1, ?_⟩
  rcases h.2 with ⟨hv, rfl⟩ | ⟨g', cap, cur, hv, hb, hg, h1, h2, h3, h4⟩
  · cases hv
  · injection hv with hA _ hc
    injection hA with hA
    injection hA with hA
    subst hA hc
    refine .inr ⟨g, c, cur.setIfInBounds i u, rfl, hb, Blk.set_ (cs := cur) hg i u, h1, h2, by simp [h3], ?_⟩
    rw [Array.toList_setIfInBounds, List.take_set, h4]
theorem chg_setNew {S : Nat → Prop} {w0 : World} {g i : Nat} (h : Chg S w0 w') (hg : w0.heap.size ≤ g) (v : Value) : Chg S w0 (w'.setCell ⟨g, i, none⟩ v) := h.setCell (p := ⟨g, i, none⟩) (fun hlt => absurd hlt (Nat.not_lt.2 hg)) v
theorem rowv_full {C : Value → Prop} (h : RowV w t C v xs) (hx : xs ≠ []) : ∃ g c, v = .slice (some ⟨g, 0, none⟩) xs.length c := by
  rcases h with ⟨rfl, rfl⟩ | ⟨g, cp, rest, rfl, _⟩
  · exact absurd rfl hx
  · exact ⟨g, cp, rfl⟩
theorem rowv_set {C : Value → Prop} {g n c : Nat} (h : RowV w t C (.slice (some ⟨g, 0, none⟩) n c) xs) {j : Nat} (hj : j < xs.length) {u : Value} (hu : C u) : RowV (w.setCell ⟨g, j, none⟩ u) t C (.slice (some ⟨g, 0, none⟩) n c) (xs.set j u) := by
  rcases h with ⟨hv, rfl⟩ | ⟨g', cp, rest, hv, h1, h2, h3, h4⟩
  · cases hv
  · injection hv with hA hn hc
    injection hA with hA
    injection hA with hA
    subst hA hn hc
    refine .inr ⟨g, c, rest, by rw [List.length_set], h1, by rw [List.length_set]; exact h2, ?_, ?_⟩
    · have := h3.set_ j u
      rwa [List.setIfInBounds_toArray, List.set_append_left _ _ hj] at this
    · intro v hv
      rcases List.mem_append.1 hv with hv | hv
      · rcases List.mem_or_eq_of_mem_set hv with hv | rfl
        · exact h4 v (by simp [hv])
        · exact hu
      · exact h4 v (by simp [hv])
end
end Go.Mem
namespace Go.Proofs.Ytbmplfhcdkeooaa
set_option linter.unusedVariables false
open Go.RowKit Go.Mem Go.Pl

/-! ### where things lie -/
/-- Where a task lies: its block, its bytes, its tries, the bytes of its answer. -/
structure Loc where
  tb : Nat
  bv : Value
  tv : Value
  av : Value
def updL (V : Int → Loc) (i : Int) (l : Loc) : Int → Loc := fun k => if k = i then l else V k
theorem updL_same (V : Int → Loc) (i : Int) (l : Loc) : updL V i l i = l := if_pos rfl
theorem updL_other (V : Int → Loc) {i k : Int} (l : Loc) (h : k ≠ i) : updL V i l k = V k := if_neg h
/-- The cells of a try. -/
def trV (t : Tr) : List Value := [.int .i64 t.worker, .int .i64 t.tick, .bool t.over]
def trsV : List Tr → List Value
  | [] => []
  | t :: r => .int .i64 t.worker :: .int .i64 t.tick :: .bool t.over :: trsV r
theorem trsV_len (l : List Tr) : (trsV l).length = l.length * 3 := by
  induction l with
  | nil => rfl
  | cons t r ih => simp only [trsV, List.length_cons, ih]; omega
theorem trsV_app (a b : List Tr) : trsV (a ++ b) = trsV a ++ trsV b := by
  induction a with
  | nil => rfl
  | cons t r ih => simp only [List.cons_append, trsV, ih]
theorem trsV_at {l : List Tr} {k : Nat} {t : Tr} (h : l[k]? = some t) : (trsV l)[k * 3]? = some (.int .i64 t.worker) ∧ (trsV l)[k * 3 + 1]? = some (.int .i64 t.tick) ∧ (trsV l)[k * 3 + 2]? = some (.bool t.over) := by
  induction l generalizing k with
  | nil => simp at h
  | cons x r ih =>
    cases k with
    | zero =>
      have e : x = t := by simpa using h
      subst e
      exact ⟨rfl, rfl, rfl⟩
    | succ k =>
      have := ih (k := k) (by simpa using h)
      rw [show (k + 1) * 3 = k * 3 + 3 by omega, show k * 3 + 3 + 1 = k * 3 + 1 + 3 by omega, show k * 3 + 3 + 2 = k * 3 + 2 + 3 by omega]
      simpa [trsV] using this
theorem trsV_one (l : List Tr) : ∀ u ∈ trsV l, u.oneCell' = true := by
  induction l with
  | nil => simp [trsV]
  | cons t r ih =>
    intro u hu
    simp only [trsV, List.mem_cons] at hu
    rcases hu with rfl | rfl | rfl | hu
    · rfl
    · rfl
    · rfl
    · exact ih u hu
def ansT (j : Job) : Int := match j.ans with | none => 0 | some _ => j.id
def ansW (j : Job) : Int := match j.ans with | none => 0 | some a => a.worker
def ansN (j : Job) : Int := match j.ans with | none => 0 | some a => a.num
def ansB (j : Job) : List UInt8 := match j.ans with | none => [] | some a => a.body
def tCells (j : Job) (L : Loc) : Array Value := #[L.bv, L.tv, .int .i64 (ansT j), .int .i64 (ansW j), .int .i64 (ansN j), L.av, .bool j.ans.isSome]
def pCells (s : S) (dv : Value) (m : Nat) : Array Value := #[dv, .int .i64 s.timeout, .int .i64 s.tick, .map (some m)]
def entP (V : Int → Loc) (s : S) : List Ent := s.jobs.map (fun j => (j.id, .pointer (some ⟨(V j.id).tb, 0, none⟩)))
def IsBo : Value → Prop := fun v => ∃ b, v = .bool b
/-- Bytes that nobody changes: they lie in blocks of T. -/
def ByT (w : World) (T : Nat → Prop) (v : Value) (l : List UInt8) : Prop := ∃ A c, v = .slice A l.length c ∧ Rd w A l.length (bs l) ∧ l.length ≤ c ∧ c ≤ maxLen ∧ ∀ k, blk A = some k → k < w.heap.size ∧ T k
/-- Its blocks. -/
def ownP (g m : Nat) (dv : Value) (V : Int → Loc) (s : S) (k : Nat) : Prop := k = g ∨ k = m ∨ blkV dv = some k ∨ ∃ j ∈ s.jobs, k = (V j.id).tb ∨ (V j.id).tv.ownBlock = some k
/-- Block g is a pool whose map is m, whose flags are dv; the tasks lie at V. -/
structure PI (w : World) (g m : Nat) (dv : Value) (V : Int → Loc) (T : Nat → Prop) (s : S) : Prop where
  blk : Blk w g 89 (pCells s dv m)
  map : MI w Try.prog 3 m (entP V s)
  dead : RowV w 4 IsBo dv (s.alive.map (fun b => .bool (!b)))
  task : ∀ j ∈ s.jobs, Blk w (V j.id).tb 94 (tCells j (V j.id))
  body : ∀ j ∈ s.jobs, ByT w T (V j.id).bv j.body
  tries : ∀ j ∈ s.jobs, w.ownsRow 0 100 3 (V j.id).tv j.n (trsV (triesOf s j.id))
  ans : ∀ j ∈ s.jobs, ByT w T (V j.id).av (ansB j)
  apT : ∀ i ∈ s.jobs, ∀ j ∈ s.jobs, (V i.id).tb = (V j.id).tb → i.id = j.id
  apR : ∀ i ∈ s.jobs, ∀ j ∈ s.jobs, ∀ k, (V i.id).tv.ownBlock = some k → (V j.id).tv.ownBlock = some k → i.id = j.id
  wf : WF s
  sep : ∀ k, T k → k < w.heap.size ∧ ¬ ownP g m dv V s k

section
variable {w w' : World} {g m : Nat} {dv : Value} {V : Int → Loc} {T U : Nat → Prop} {s : S}
theorem ByT.chg {v : Value} {l : List UInt8} (h : ByT w T v l) (hc : Chg U w w') (hs : ∀ k, T k → ¬ U k) : ByT w' T v l := by
  obtain ⟨A, c, rfl, h1, h2, h3, h4⟩ := h
  exact ⟨A, c, rfl, h1.chg hc (fun k hk _ => hs k (h4 k hk).2), h2, h3, fun k hk => ⟨Nat.lt_of_lt_of_le (h4 k hk).1 hc.size, (h4 k hk).2⟩⟩
theorem ByT.up {T' : Nat → Prop} {v : Value} {l : List UInt8} (h : ByT w T v l) (hs : ∀ k, k < w.heap.size → T k → T' k) : ByT w T' v l := by
  obtain ⟨A, c, rfl, h1, h2, h3, h4⟩ := h
  exact ⟨A, c, rfl, h1, h2, h3, fun k hk => ⟨(h4 k hk).1, hs k (h4 k hk).1 (h4 k hk).2⟩⟩
theorem ByT.nil (w : World) (T : Nat → Prop) : ByT w T (.slice none 0 0) [] := ⟨none, 0, rfl, Rd.nil _ _, Nat.le_refl _, Nat.zero_le _, fun k hk => by cases hk⟩
theorem PI.chg (h : PI w g m dv V T s) (hc : Chg U w w') (hs : ∀ k, ownP g m dv V s k → ¬ U k) (ht : ∀ k, T k → ¬ U k) : PI w' g m dv V T s :=
  ⟨h.blk.chg hc (hs g (.inl rfl)), h.map.chg hc (hs m (.inr (.inl rfl))), h.dead.chg hc (fun k hk => hs k (.inr (.inr (.inl hk)))), fun j hj => (h.task j hj).chg hc (hs _ (.inr (.inr (.inr ⟨j, hj, .inl rfl⟩)))), fun j hj => (h.body j hj).chg hc ht,
    fun j hj => ownN_chg (h.tries j hj) hc (fun k hk => hs k (.inr (.inr (.inr ⟨j, hj, .inr hk⟩)))), fun j hj => (h.ans j hj).chg hc ht, h.apT, h.apR, h.wf, fun k hk => ⟨Nat.lt_of_lt_of_le (h.sep k hk).1 hc.size, (h.sep k hk).2⟩⟩
theorem PI.new (h : PI w g m dv V T s) (hc : New w w') : PI w' g m dv V T s := h.chg hc (fun _ _ hf => hf) (fun _ _ hf => hf)
theorem PI.up {T' : Nat → Prop} (h : PI w g m dv V T s) (hs : ∀ k, k < w.heap.size → T k → T' k) (hsep : ∀ k, T' k → k < w.heap.size ∧ ¬ ownP g m dv V s k) : PI w g m dv V T' s :=
  ⟨h.blk, h.map, h.dead, h.task, fun j hj => (h.body j hj).up hs, h.tries, fun j hj => (h.ans j hj).up hs, h.apT, h.apR, h.wf, hsep⟩
theorem MI.not_blk {w : World} {P : Program} {k : TypeId} {m b : Nat} {L : List Ent} (h : MI w P k m L) {t : TypeId} {cs : Array Value} (hb : Blk w b t cs) : b ≠ m := by
  intro e
  subst e
  obtain ⟨_, es, clock, h2, _⟩ := h
  unfold Blk at hb
  rw [hb] at h2
  cases h2
/-- What of it is no map and no body is not the block m. -/
theorem PI.ne_map (h : PI w g m dv V T s) : g ≠ m ∧ blkV dv ≠ some m ∧ ∀ j ∈ s.jobs, (V j.id).tb ≠ m ∧ (V j.id).tv.ownBlock ≠ some m := by
  refine ⟨MI.not_blk h.map h.blk, fun hk => ?_, fun j hj => ⟨MI.not_blk h.map (h.task j hj), fun hk => ?_⟩⟩
  · obtain ⟨cs, hb, _⟩ := h.dead.kind hk
    exact MI.not_blk h.map hb rfl
  · obtain ⟨cs, hb⟩ := ownN_blk (h.tries j hj) hk
    exact MI.not_blk h.map hb rfl
theorem PI.lt (h : PI w g m dv V T s) {k : Nat} (hk : ownP g m dv V s k) : k < w.heap.size := by
  rcases hk with rfl | rfl | hk | ⟨j, hj, rfl | hk⟩
  · exact h.blk.lt
  · exact h.map.lt
  · exact h.dead.lt hk
  · exact (h.task j hj).lt
  · obtain ⟨cs, hb⟩ := ownN_blk (h.tries j hj) hk
    exact hb.lt
theorem entP_rise (V : Int → Loc) (h : WF s) : Rise (entP V s) := by
  unfold Rise entP
  rw [List.pairwise_map]
  exact h.rise
theorem mem_entP {p : Ent} : p ∈ entP V s ↔ ∃ j ∈ s.jobs, p = (j.id, .pointer (some ⟨(V j.id).tb, 0, none⟩)) := by
  unfold entP
  rw [List.mem_map]
  constructor
  · rintro ⟨j, hj, rfl⟩; exact ⟨j, hj, rfl⟩
  · rintro ⟨j, hj, rfl⟩; exact ⟨j, hj, rfl⟩
theorem entP_len (V : Int → Loc) (s : S) : (entP V s).length = s.jobs.length := by unfold entP; rw [List.length_map]
theorem lk_entP_some (h : WF s) {j : Job} (hj : j ∈ s.jobs) : lk (entP V s) j.id = some (.pointer (some ⟨(V j.id).tb, 0, none⟩)) := (lk_some (entP_rise V h)).2 (mem_entP.2 ⟨j, hj, rfl⟩)
theorem lk_entP_none {i : Int} (h : ∀ j ∈ s.jobs, j.id ≠ i) : lk (entP V s) i = none := lk_none.2 (fun p hp e => by
  obtain ⟨j, hj, rfl⟩ := mem_entP.1 hp
  exact h j hj e)
end
theorem keyIntP : KeyI Try.prog 3 := Try.underlying3

/-! ### contracts -/
def runJ (s : S) (j : Job) (x : Tr) (tick : Int) : Bool := j.ans.isNone && !x.over && decide (tick < x.tick + s.timeout)
set_option maxHeartbeats 1000000 in
set_option maxRecDepth 100000 in
theorem plRunning_any (g m : Nat) (dv : Value) (s : S) (j : Job) (L : Loc) (x : Tr) (tick : Int) (w : World) (hb : Blk w g 89 (pCells s dv m)) (ht : Blk w L.tb 94 (tCells j L)) (hto : 1 ≤ s.timeout ∧ s.timeout ≤ 1099511627776) (hx : 0 ≤ x.tick ∧ x.tick ≤ 1099511627776) :
    Calls Try.prog 72 #[.pointer (some ⟨g, 0, none⟩), .pointer (some ⟨L.tb, 0, none⟩), .agg #[.int .i64 x.worker, .int .i64 x.tick, .bool x.over], .int .i64 tick] w fun e w' => e = .returned (.bool (runJ s j x tick)) ∧ New w w' := by
  have hc1 := hb.cell 1 (u := .int .i64 s.timeout) rfl
  have hc6 := ht.cell 6 (u := .bool j.ans.isSome) rfl
  have hgl := hb.lt
  have hgt := ht.lt
  have hw1 : IntKind.i64.wrap (x.tick + s.timeout) = x.tick + s.timeout := IntWalk.i64_in _ (by omega)
  obtain ⟨tb, htb⟩ : ∃ tb, L.tb = tb := ⟨_, rfl⟩
  rw [htb] at hc6 hgt ⊢
  obtain ⟨xw, hxw⟩ : ∃ z, x.worker = z := ⟨_, rfl⟩
  obtain ⟨xt, hxt⟩ : ∃ z, x.tick = z := ⟨_, rfl⟩
  obtain ⟨to, hto'⟩ : ∃ z, s.timeout = z := ⟨_, rfl⟩
  unfold runJ
  rw [hxw, hxt]
  rw [hxt] at hw1 hx
  rw [hto'] at hw1 hto hc1 ⊢
  have hisn : j.ans.isNone = !j.ans.isSome := by cases j.ans <;> rfl
  rw [hisn]
  clear hb ht htb hxw hxt hto' hisn
  cases hd : j.ans.isSome with
  | true =>
    rw [hd] at hc6
    clear hd
    cases ho : x.over <;> clear ho <;> (
      go_enter Try.func72, Try.ntmps72
      go_wp2
      go_quiet (fail)
      all_goals go_wp2
      all_goals go_ret
      all_goals exact ⟨rfl, ((Chg.refl _ _).alloc _).drewN _⟩)
  | false =>
    rw [hd] at hc6
    clear hd
    cases ho : x.over with
    | true =>
      clear ho
      go_enter Try.func72, Try.ntmps72
      go_wp2
      go_quiet (fail)
      all_goals go_wp2
      all_goals go_ret
      all_goals exact ⟨rfl, ((Chg.refl _ _).alloc _).drewN _⟩
    | false =>
      clear ho
      go_enter Try.func72, Try.ntmps72
      go_wp2
      go_quiet (fail)
      all_goals go_wp2
      all_goals go_ret
      all_goals exact ⟨rfl, ((Chg.refl _ _).alloc _).drewN _⟩
end Go.Proofs.Ytbmplfhcdkeooaa
