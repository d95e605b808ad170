/- refuterref36.Pool in memory; contracts of New, Find, check. -/
import Derived.Test.YtbmplfhcdkeooaaPlRZ
import Derived.Test.YtbmplfhcdkeooaaScrAZ
import Derived.Test.YtbmplfhcdkeooaaHas
import Derived.Deep.CutRange
set_option linter.unusedSimpArgs false
set_option linter.unusedVariables false
namespace Go.Proofs.Ytbmplfhcdkeooaa
set_option linter.unusedVariables false
open Go.RowKit Go.Mem Go.Pl

def jobR (j : Job) (bv av : Value) : List Value := [.int .i64 j.id, bv, .int .i64 (j.n : Int), .bool j.ans.isSome, .int .i64 (ansW j), .int .i64 (ansN j), av]
def tryR (t : Tr) : List Value := [.int .i64 t.task, .int .i64 t.num, .int .i64 t.worker, .int .i64 t.tick, .bool t.over]
def triesR (l : List Tr) : List Value := l.flatMap tryR
def boolsR (l : List Bool) : List Value := l.map .bool
/-- A row of tasks, by cells. -/
def RowJ (w : World) (jv : Value) (css : List (List Value)) : Prop := w.ownsRow 0 107 7 jv css.length css.flatten ∧ ∀ y ∈ css, y.length = 7
/-- A row of tasks. -/
def JobsV (w : World) (T : Nat → Prop) (jv : Value) (js : List Job) : Prop := ∃ css, RowJ w jv css ∧ css.length = js.length ∧ ∀ (i : Nat) j, js[i]? = some j → ∃ bv av, css[i]? = some (jobR j bv av) ∧ ByT w T bv j.body ∧ ByT w T av (ansB j)
def rCells (s : S) (al jv tv : Value) : Array Value := #[al, .int .i64 s.timeout, .int .i64 s.tick, jv, tv]
def ownR (h : Nat) (al jv tv : Value) (k : Nat) : Prop := k = h ∨ al.ownBlock = some k ∨ jv.ownBlock = some k ∨ tv.ownBlock = some k
/-- Block h is the model s; its bytes lie in blocks of T. -/
structure RI (w : World) (h : Nat) (al jv tv : Value) (T : Nat → Prop) (s : S) : Prop where
  blk : Blk w h 104 (rCells s al jv tv)
  alive : w.ownsRow 0 4 1 al s.alive.length (boolsR s.alive)
  jobs : JobsV w T jv s.jobs
  tries : w.ownsRow 0 109 5 tv s.tries.length (triesR s.tries)
  sep : ∀ k, T k → k < w.heap.size ∧ ¬ ownR h al jv tv k
section
variable {w w' : World} {h : Nat} {al jv tv : Value} {T U : Nat → Prop} {s : S} {css : List (List Value)}
theorem RowJ.chg (hr : RowJ w jv css) (hc : Chg U w w') (hs : ∀ k, jv.ownBlock = some k → ¬ U k) : RowJ w' jv css := ⟨ownN_chg hr.1 hc hs, hr.2⟩
theorem JobsV.chg {js : List Job} (hr : JobsV w T jv js) (hc : Chg U w w') (hs : ∀ k, jv.ownBlock = some k → ¬ U k) (ht : ∀ k, T k → ¬ U k) : JobsV w' T jv js := by
  obtain ⟨css, h1, h2, h3⟩ := hr
  refine ⟨css, h1.chg hc hs, h2, fun i j hj => ?_⟩
  obtain ⟨bv, av, q1, q2, q3⟩ := h3 i j hj
  exact ⟨bv, av, q1, q2.chg hc ht, q3.chg hc ht⟩
theorem JobsV.up {T' : Nat → Prop} {js : List Job} (hr : JobsV w T jv js) (hs : ∀ k, k < w.heap.size → T k → T' k) : JobsV w T' jv js := by
  obtain ⟨css, h1, h2, h3⟩ := hr
  refine ⟨css, h1, h2, fun i j hj => ?_⟩
  obtain ⟨bv, av, q1, q2, q3⟩ := h3 i j hj
  exact ⟨bv, av, q1, q2.up hs, q3.up hs⟩
theorem JobsV.own {js : List Job} (hr : JobsV w T jv js) : ∃ xs, w.ownsRow 0 107 7 jv js.length xs := by
  obtain ⟨css, h1, h2, _⟩ := hr
  exact ⟨_, h2 ▸ h1.1⟩
theorem RI.chg (hr : RI w h al jv tv T s) (hc : Chg U w w') (hs : ∀ k, ownR h al jv tv k → ¬ U k) (ht : ∀ k, T k → ¬ U k) : RI w' h al jv tv T s :=
  ⟨hr.blk.chg hc (hs h (.inl rfl)), ownN_chg hr.alive hc (fun k hk => hs k (.inr (.inl hk))), hr.jobs.chg hc (fun k hk => hs k (.inr (.inr (.inl hk)))) ht, ownN_chg hr.tries hc (fun k hk => hs k (.inr (.inr (.inr hk)))), fun k hk => ⟨Nat.lt_of_lt_of_le (hr.sep k hk).1 hc.size, (hr.sep k hk).2⟩⟩
theorem RI.new (hr : RI w h al jv tv T s) (hc : New w w') : RI w' h al jv tv T s := hr.chg hc (fun _ _ hf => hf) (fun _ _ hf => hf)
theorem RI.up {T' : Nat → Prop} (hr : RI w h al jv tv T s) (hs : ∀ k, k < w.heap.size → T k → T' k) (hsep : ∀ k, T' k → k < w.heap.size ∧ ¬ ownR h al jv tv k) : RI w h al jv tv T' s :=
  ⟨hr.blk, hr.alive, hr.jobs.up hs, hr.tries, hsep⟩
theorem RI.lt (hr : RI w h al jv tv T s) {k : Nat} (hk : ownR h al jv tv k) : k < w.heap.size := by
  rcases hk with rfl | hk | hk | hk
  · exact hr.blk.lt
  · exact (ownN_lt hr.alive hk).2
  · obtain ⟨xs, hx⟩ := hr.jobs.own
    exact (ownN_lt hx hk).2
  · exact (ownN_lt hr.tries hk).2
/-- Its rows do not meet. -/
theorem RI.ne (hr : RI w h al jv tv T s) : (al.ownBlock ≠ some h ∧ jv.ownBlock ≠ some h ∧ tv.ownBlock ≠ some h) ∧ (∀ k, al.ownBlock = some k → jv.ownBlock ≠ some k ∧ tv.ownBlock ≠ some k) ∧ (∀ k, jv.ownBlock = some k → tv.ownBlock ≠ some k) := by
  obtain ⟨xs, hx⟩ := hr.jobs.own
  refine ⟨⟨ownN_ne hr.alive hr.blk (by decide), ownN_ne hx hr.blk (by decide), ownN_ne hr.tries hr.blk (by decide)⟩, fun k hk => ?_, fun k hk => ?_⟩
  · obtain ⟨cs, hb⟩ := ownN_blk hr.alive hk
    exact ⟨ownN_ne hx hb (by decide), ownN_ne hr.tries hb (by decide)⟩
  · obtain ⟨cs, hb⟩ := ownN_blk hx hk
    exact ownN_ne hr.tries hb (by decide)
theorem RI.cells (hr : RI w h al jv tv T s) : w.cell? ⟨h, 0, none⟩ = some al ∧ w.cell? ⟨h, 1, none⟩ = some (.int .i64 s.timeout) ∧ w.cell? ⟨h, 2, none⟩ = some (.int .i64 s.tick) ∧ w.cell? ⟨h, 3, none⟩ = some jv ∧ w.cell? ⟨h, 4, none⟩ = some tv :=
  ⟨hr.blk.cell 0 rfl, hr.blk.cell 1 rfl, hr.blk.cell 2 rfl, hr.blk.cell 3 rfl, hr.blk.cell 4 rfl⟩
theorem RI.shape (hr : RI w h al jv tv T s) : (∃ A c, al = .slice A s.alive.length c) ∧ (∃ A c, jv = .slice A s.jobs.length c ∧ s.jobs.length ≤ c ∧ c ≤ maxLen) ∧ ∃ A c, tv = .slice A s.tries.length c := by
  obtain ⟨xs, hx⟩ := hr.jobs.own
  obtain ⟨A1, c1, e1, _⟩ := ownN_shape hr.alive
  obtain ⟨A2, c2, e2, q1, q2, _⟩ := ownN_shape hx
  obtain ⟨A3, c3, e3, _⟩ := ownN_shape hr.tries
  exact ⟨⟨A1, c1, e1⟩, ⟨A2, c2, e2, q1, q2⟩, ⟨A3, c3, e3⟩⟩
/-- A task: its cells. -/
theorem JobsV.at_ {js : List Job} (hr : JobsV w T jv js) {i : Nat} {j : Job} (hj : js[i]? = some j) : ∃ gj c bv av, jv = .slice (some ⟨gj, 0, none⟩) js.length c ∧ ByT w T bv j.body ∧ ByT w T av (ansB j) ∧
    w.cell? ⟨gj, i * 7, none⟩ = some (.int .i64 j.id) ∧ w.cell? ⟨gj, i * 7 + 1, none⟩ = some bv ∧ w.cell? ⟨gj, i * 7 + 2, none⟩ = some (.int .i64 (j.n : Int)) ∧ w.cell? ⟨gj, i * 7 + 3, none⟩ = some (.bool j.ans.isSome) ∧ w.cell? ⟨gj, i * 7 + 4, none⟩ = some (.int .i64 (ansW j)) ∧ w.cell? ⟨gj, i * 7 + 5, none⟩ = some (.int .i64 (ansN j)) ∧ w.cell? ⟨gj, i * 7 + 6, none⟩ = some av ∧ ∀ o, o < 7 → w.frozen? ⟨gj, i * 7 + o, none⟩ = false := by
  obtain ⟨css, h1, h2, h3⟩ := hr
  obtain ⟨bv, av, q1, q2, q3⟩ := h3 i j hj
  have hl := h1.2
  have h1' := h1.1
  rw [h2] at h1'
  obtain ⟨A0, c, hv, _⟩ := ownN_shape h1'
  subst hv
  have hc : ∀ o u, o < 7 → (jobR j bv av)[o]? = some u → ∃ g, A0 = some ⟨g, 0, none⟩ ∧ w.cell? ⟨g, i * 7 + o, none⟩ = some u ∧ w.frozen? ⟨g, i * 7 + o, none⟩ = false := fun o u ho hu => ownN_cell h1' (flattenN hl q1 ho hu)
  obtain ⟨gj, rfl, c0, _⟩ := hc 0 _ (by omega) rfl
  have hc' : ∀ o u, o < 7 → (jobR j bv av)[o]? = some u → w.cell? ⟨gj, i * 7 + o, none⟩ = some u ∧ w.frozen? ⟨gj, i * 7 + o, none⟩ = false := fun o u ho hu => by
    obtain ⟨g, e, r1, r2⟩ := hc o u ho hu
    injection e with e
    injection e with e
    subst e
    exact ⟨r1, r2⟩
  refine ⟨gj, c, bv, av, rfl, q2, q3, c0, (hc' 1 _ (by omega) rfl).1, (hc' 2 _ (by omega) rfl).1, (hc' 3 _ (by omega) rfl).1, (hc' 4 _ (by omega) rfl).1, (hc' 5 _ (by omega) rfl).1, (hc' 6 _ (by omega) rfl).1, fun o ho => ?_⟩
  have hol : o < (jobR j bv av).length := ho
  exact (hc' o _ ho (List.getElem?_eq_getElem hol)).2
theorem triesR_at {l : List Tr} {k i : Nat} {t : Tr} {x : Value} (hk : l[k]? = some t) (hi : i < 5) (hx : (tryR t)[i]? = some x) : (triesR l)[k * 5 + i]? = some x := by
  unfold triesR
  induction l generalizing k with
  | nil => simp at hk
  | cons y r ih =>
    have hy : (tryR y).length = 5 := rfl
    rw [List.flatMap_cons]
    cases k with
    | zero =>
      have e : y = t := by simpa using hk
      subst e
      rw [List.getElem?_append_left (by omega), Nat.zero_mul, Nat.zero_add]
      exact hx
    | succ k =>
      rw [List.getElem?_append_right (by rw [Nat.succ_mul]; omega), hy, show (k + 1) * 5 + i - 5 = k * 5 + i by omega]
      exact ih (by simpa using hk)
theorem RI.try_at (hr : RI w h al jv tv T s) {k : Nat} {t : Tr} (hk : s.tries[k]? = some t) : ∃ gt c, tv = .slice (some ⟨gt, 0, none⟩) s.tries.length c ∧ w.cell? ⟨gt, k * 5, none⟩ = some (.int .i64 t.task) ∧ w.cell? ⟨gt, k * 5 + 1, none⟩ = some (.int .i64 t.num) ∧ w.cell? ⟨gt, k * 5 + 2, none⟩ = some (.int .i64 t.worker) ∧ w.cell? ⟨gt, k * 5 + 3, none⟩ = some (.int .i64 t.tick) ∧ w.cell? ⟨gt, k * 5 + 4, none⟩ = some (.bool t.over) ∧ w.frozen? ⟨gt, k * 5 + 4, none⟩ = false := by
  have h3 := hr.tries
  obtain ⟨A0, c, hv, _⟩ := ownN_shape h3
  subst hv
  obtain ⟨ga, rfl, c0, _⟩ := ownN_cell h3 (triesR_at (i := 0) hk (by omega) rfl)
  obtain ⟨_, e1, c1, _⟩ := ownN_cell h3 (triesR_at (i := 1) hk (by omega) rfl)
  obtain ⟨_, e2, c2, _⟩ := ownN_cell h3 (triesR_at (i := 2) hk (by omega) rfl)
  obtain ⟨_, e3, c3, _⟩ := ownN_cell h3 (triesR_at (i := 3) hk (by omega) rfl)
  obtain ⟨_, e4, c4, f4⟩ := ownN_cell h3 (triesR_at (i := 4) hk (by omega) rfl)
  injection e1 with e1; injection e1 with e1; subst e1
  injection e2 with e2; injection e2 with e2; subst e2
  injection e3 with e3; injection e3 with e3; subst e3
  injection e4 with e4; injection e4 with e4; subst e4
  exact ⟨ga, c, rfl, c0, c1, c2, c3, c4, f4⟩
theorem RI.al_at (hr : RI w h al jv tv T s) {k : Nat} {b : Bool} (hk : s.alive[k]? = some b) : ∃ ga c, al = .slice (some ⟨ga, 0, none⟩) s.alive.length c ∧ w.cell? ⟨ga, k, none⟩ = some (.bool b) ∧ w.frozen? ⟨ga, k, none⟩ = false := by
  have h3 := hr.alive
  obtain ⟨A0, c, hv, _⟩ := ownN_shape h3
  subst hv
  obtain ⟨ga, rfl, c0, f0⟩ := ownN_cell h3 (show (boolsR s.alive)[k]? = some (.bool b) by unfold boolsR; rw [List.getElem?_map, hk]; rfl)
  exact ⟨ga, c, rfl, c0, f0⟩
/-! ### contracts -/
theorem find_loop {l : List Job} {id : Int} {k : Nat} (hno : ∀ (i : Nat) j, i < k → l[i]? = some j → j.id ≠ id) : (∀ j, l[k]? = some j → j.id = id → findJ l id = some k) ∧ (l.length ≤ k → findJ l id = none) := by
  refine ⟨fun j hj e => ?_, fun hl => ?_⟩
  · unfold findJ
    obtain ⟨hk, rfl⟩ := List.getElem?_eq_some_iff.1 hj
    refine List.findIdx?_eq_some_iff_getElem.2 ⟨hk, by simp [e], fun i hi => ?_⟩
    have := hno i _ hi (List.getElem?_eq_getElem (by omega))
    simp [this]
  · unfold findJ
    refine List.findIdx?_eq_none_iff.2 (fun j hj => ?_)
    obtain ⟨i, hi⟩ := List.getElem?_of_mem hj
    have := hno i j (by have := (List.getElem?_eq_some_iff.1 hi).1; omega) hi
    simp [this]
set_option maxHeartbeats 2000000 in
set_option maxRecDepth 100000 in
theorem rFind_any (hr : RI w h al jv tv T s) (id : Int) : Calls Try.prog 50 #[.pointer (some ⟨h, 0, none⟩), .int .i64 id] w fun e w' => e = .returned (.int .i64 (find s id)) ∧ w' = w := by
  have HR := Lib.hid hr
  obtain ⟨A, c, hjv, hl1, hl2⟩ := hr.shape.2.1
  have hll : s.jobs.length ≤ 9223372036854775807 := by simp only [maxLen] at hl2; omega
  clear hr hl1 hl2
  obtain ⟨n, hn⟩ : ∃ n, s.jobs.length = n := ⟨_, rfl⟩
  rw [hn] at hjv hll
  have HN := Lib.hid hn
  subst hjv
  have hb := HR.out.blk.lt
  clear hn
  go_enter Try.func50, Try.ntmps50
  go_wp2_with fail
  go_loopw [5] (fun v wr => ∃ i : Nat, v = .int .i64 (i : Int) ∧ i ≤ n ∧ Hid (wr = w ∧ ∀ (q : Nat) j, q < i → s.jobs[q]? = some j → j.id ≠ id)) (fun v _ => n - (intOf v).toNat)
  case atStart => exact ⟨0, rfl, by omega, Lib.hid ⟨rfl, fun q j hq => by omega⟩⟩
  case round =>
    obtain ⟨i, rfl, hi, hh⟩ := hrel
    obtain ⟨hwe, hno⟩ := hh.out
    clear hh
    subst hwe
    have HNO := Lib.hid hno
    clear hno
    have hrw := HR.out
    obtain ⟨_, _, _, b3, _⟩ := hrw.cells
    have hbw := hrw.blk.lt
    by_cases hlt : i < n
    · obtain ⟨j, hj⟩ : ∃ j, s.jobs[i]? = some j := ⟨_, List.getElem?_eq_getElem (by rw [HN.out]; exact hlt)⟩
      obtain ⟨gj, c', bv, av, hv, _, _, k0, _⟩ := hrw.jobs.at_ hj
      rw [HN.out] at hv
      injection hv with hv1 hv2 hv3
      subst hv1 hv3
      obtain ⟨jid, hjid⟩ : ∃ x, j.id = x := ⟨_, rfl⟩
      rw [hjid] at k0
      have HJ := Lib.hid (And.intro hj hjid)
      clear hj hjid hv2 hrw
      by_cases hx : jid = id
      · have hbx : (jid == id) = true := by rw [hx]; simp
        have HX := Lib.hid hx
        clear hx
        go_wp2_with fail
        go_ret
        refine ⟨?_, rfl⟩
        have hf := (find_loop HNO.out).1 j HJ.out.1 (HJ.out.2.trans HX.out)
        show Ending.returned (.int .i64 (i : Int)) = _
        unfold find
        rw [hf]
      · have hbx : (jid == id) = false := by rw [beq_eq_false_iff_ne]; exact hx
        have HX := Lib.hid hx
        clear hx
        go_wp2_with fail
        refine ⟨⟨i + 1, rfl, by omega, Lib.hid ⟨by first | rfl | trivial, fun q j' hq hj' => ?_⟩⟩, by simp [intOf]; omega⟩
        by_cases e : q = i
        · subst e
          obtain rfl : j = j' := Option.some.inj (HJ.out.1.symm.trans hj')
          rw [HJ.out.2]
          exact HX.out
        · exact HNO.out q j' (by omega) hj'
    · obtain rfl : i = n := by omega
      clear hrw
      go_wp2_with fail
      go_ret
      refine ⟨?_, rfl⟩
      have hf := (find_loop HNO.out).2 (by rw [HN.out]; exact Nat.le_refl _)
      show Ending.returned (.int .i64 (-1)) = _
      unfold find
      rw [hf]
end
end Go.Proofs.Ytbmplfhcdkeooaa
