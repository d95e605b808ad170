/- PoolOnce in plain words: what is true of the pool, of the tries and the answers that the law keeps beside it. No program is named here. -/
import Derived.Test.YtbmplfhcdkeooaaPurePool
namespace Go.Pl
set_option linter.unusedVariables false

/-- What the law keeps of a try: task, worker, number, the tick at which it ends. -/
def onRow (lim : Int) (t : Tr) : List Int := [t.task, t.worker, t.num, if t.over then 0 else t.tick + lim]
def numA (j : Job) : Nat := match j.ans with | some a => (a.body.headD 0).toNat | none => 0
def ansOf (s : S) (id : Int) : Nat := match jobOf s id with | some j => numA j | none => 0
def ansL (s : S) : List Nat := (List.range 16).map (fun k : Nat => ansOf s (k : Int))
structure On (lim : Int) (s : S) : Prop where
  wf : WF s
  to : s.timeout = lim
  al : s.alive.length = 4
  id : ∀ j ∈ s.jobs, 0 ≤ j.id ∧ j.id ≤ 12
  an : ∀ j ∈ s.jobs, ∀ a, j.ans = some a → ∃ u : UInt8, a.body = [u] ∧ 1 ≤ u.toNat ∧ u.toNat ≤ 40
theorem ansOf_at {s : S} (h : WF s) {j : Job} (hj : j ∈ s.jobs) : ansOf s j.id = numA j := by unfold ansOf; rw [jobOf_at h hj]
theorem ansOf_none {s : S} {x : Int} (h : ∀ j ∈ s.jobs, j.id ≠ x) : ansOf s x = 0 := by
  unfold ansOf
  cases hf : jobOf s x with
  | none => rfl
  | some y =>
    unfold jobOf at hf
    exact absurd (by simpa using List.find?_some hf) (h y (List.mem_of_find?_eq_some hf))
theorem ansOf_congr {s s' : S} (h : WF s) (h' : WF s') (h1 : ∀ j ∈ s.jobs, ∃ j' ∈ s'.jobs, j'.id = j.id ∧ numA j' = numA j) (h2 : ∀ j' ∈ s'.jobs, numA j' = 0 ∨ ∃ j ∈ s.jobs, j.id = j'.id) (x : Int) : ansOf s' x = ansOf s x := by
  by_cases hx : ∃ j ∈ s.jobs, j.id = x
  · obtain ⟨j, hj, rfl⟩ := hx
    obtain ⟨j', hj', e1, e2⟩ := h1 j hj
    rw [ansOf_at h hj, ← e1, ansOf_at h' hj', e2]
  · have hn : ∀ j ∈ s.jobs, j.id ≠ x := fun j hj e => hx ⟨j, hj, e⟩
    rw [ansOf_none hn]
    by_cases hy : ∃ j ∈ s'.jobs, j.id = x
    · obtain ⟨j', hj', rfl⟩ := hy
      rw [ansOf_at h' hj']
      rcases h2 j' hj' with e | ⟨j, hj, e⟩
      · exact e
      · exact absurd e (hn j hj)
    · exact ansOf_none (fun j hj e => hy ⟨j, hj, e⟩)
theorem ansL_congr {s s' : S} (h : ∀ x, ansOf s' x = ansOf s x) : ansL s' = ansL s := by
  unfold ansL
  exact List.map_congr_left (fun k _ => h _)
theorem ansL_jobs {s s' : S} (h : s'.jobs = s.jobs) : ansL s' = ansL s := ansL_congr (fun x => by unfold ansOf jobOf; rw [h])
theorem On.jobs {lim : Int} {s s' : S} (h : On lim s) (h1 : WF s') (h2 : s'.jobs = s.jobs) (h3 : s'.timeout = s.timeout) (h4 : s'.alive.length = s.alive.length) : On lim s' :=
  ⟨h1, h3.trans h.to, h4.trans h.al, by rw [h2]; exact h.id, by rw [h2]; exact h.an⟩
theorem On.num {lim : Int} {s : S} (h : On lim s) {j : Job} (hj : j ∈ s.jobs) : j.ans.isSome = decide (numA j ≠ 0) := by
  unfold numA
  cases ha : j.ans with
  | none => simp
  | some a =>
    obtain ⟨u, hu, h1, h2⟩ := h.an j hj a ha
    show true = decide ((a.body.headD 0).toNat ≠ 0)
    rw [hu]
    exact (decide_eq_true (show u.toNat ≠ 0 by omega)).symm
theorem On.start {lim : Int} (h : 1 ≤ lim ∧ lim ≤ 9) : On lim (new 4 lim) ∧ ansL (new 4 lim) = List.replicate 16 0 :=
  ⟨⟨WF.new (by omega) (by omega) (by omega) (by omega), rfl, rfl, fun j hj => by simp [new] at hj, fun j hj => by simp [new] at hj⟩, rfl⟩
theorem On.add {lim : Int} {s : S} (h : On lim s) {id : Int} (hi : id ≤ 12) : On lim (add s id []).1 ∧ ansL (add s id []).1 = ansL s ∧ (add s id []).1.tries = s.tries ∧ (add s id []).1.tick = s.tick := by
  have hw := h.wf.add id [] (by omega)
  unfold Go.Pl.add at hw ⊢
  split
  · exact ⟨h, rfl, rfl, rfl⟩
  split
  · exact ⟨h, rfl, rfl, rfl⟩
  split
  · exact ⟨h, rfl, rfl, rfl⟩
  rename_i h1 h2 h3
  rw [if_neg h1, if_neg h2, if_neg h3] at hw
  refine ⟨⟨hw, h.to, h.al, fun j hj => ?_, fun j hj a ha => ?_⟩, ansL_congr (ansOf_congr h.wf hw (fun j hj => ⟨j, mem_insJ.2 (.inr hj), rfl, rfl⟩) (fun j hj => ?_)), rfl, rfl⟩
  · rcases mem_insJ.1 hj with rfl | hj
    · show 0 ≤ id ∧ id ≤ 12; omega
    · exact h.id j hj
  · rcases mem_insJ.1 hj with rfl | hj
    · cases ha
    · exact h.an j hj a ha
  · rcases mem_insJ.1 hj with rfl | hj
    · exact .inl rfl
    · exact .inr ⟨j, hj, rfl⟩
theorem On.give {lim : Int} {s : S} (h : On lim s) {w now : Int} {k : Nat} {j : Job} (hj : s.jobs[k]? = some j) (hc : check s w now = 0) : On lim (giveOut s w now k j) ∧ ansL (giveOut s w now k j) = ansL s := by
  have hw := h.wf.giveOut hj hc
  have hm := List.mem_of_getElem? hj
  have back : ∀ y ∈ s.jobs, ∃ z ∈ (giveOut s w now k j).jobs, z.id = y.id ∧ numA z = numA y := fun y hy => by
    rcases mem_set_of (x := { j with n := j.n + 1 }) h.wf.rise hj hy with rfl | h1
    · exact ⟨_, mem_set_self hj, rfl, rfl⟩
    · exact ⟨y, h1, rfl, rfl⟩
  have forth : ∀ y ∈ (giveOut s w now k j).jobs, ∃ z ∈ s.jobs, z.id = y.id ∧ z.ans = y.ans := fun y hy => by
    rcases List.mem_or_eq_of_mem_set (show y ∈ s.jobs.set k { j with n := j.n + 1 } from hy) with hy | rfl
    · exact ⟨y, hy, rfl, rfl⟩
    · exact ⟨j, hm, rfl, rfl⟩
  refine ⟨⟨hw, h.to, h.al, fun y hy => ?_, fun y hy a ha => ?_⟩, ansL_congr (ansOf_congr h.wf hw back (fun y hy => ?_))⟩
  · obtain ⟨z, hz, e, _⟩ := forth y hy
    rw [← e]; exact h.id z hz
  · obtain ⟨z, hz, _, e⟩ := forth y hy
    exact h.an z hz a (e.trans ha)
  · obtain ⟨z, hz, e, _⟩ := forth y hy
    exact .inr ⟨z, hz, e⟩
theorem On.ran {lim : Int} {s : S} (h : On lim s) {t : Tr} (ht : t ∈ s.tries) {now : Int} (hn : 0 ≤ now) (h3 : now < (if t.over then 0 else t.tick + lim)) (h4 : ansOf s t.task = 0) : running s t now = true := by
  obtain ⟨⟨j, hj, e⟩, _⟩ := h.wf.tr t ht
  have ha : answered s t.task = false := by
    rw [← e, answered_at h.wf hj, h.num hj]
    rw [← e, ansOf_at h.wf hj] at h4
    simp [h4]
  unfold running
  rw [ha, h.to]
  cases ho : t.over with
  | true => rw [ho] at h3; simp at h3; omega
  | false => rw [ho] at h3; simp at h3 ⊢; exact h3
/-- Ask. -/
theorem On.ask {lim : Int} {s : S} (h : On lim s) (w now : Int) : On lim (ask s w now).1 ∧ ansL (ask s w now).1 = ansL s ∧ (ask s w now).1.tick = (if (ask s w now).2.err = 0 then now else s.tick) ∧ ((ask s w now).2.is = false → (ask s w now).1.tries = s.tries) ∧
    ((ask s w now).2.is = true → (ask s w now).2.err = 0 ∧ (0 ≤ (ask s w now).2.id ∧ (ask s w now).2.id ≤ 12) ∧ ansOf s (ask s w now).2.id = 0 ∧ (ask s w now).1.tries = s.tries ++ [⟨(ask s w now).2.id, (ask s w now).2.num, w, now, false⟩] ∧
      ∀ t ∈ s.tries, now < (if t.over then 0 else t.tick + lim) → (t.task = (ask s w now).2.id ∨ t.worker = w) → ansOf s t.task ≠ 0) := by
  by_cases hc : check s w now = 0
  · obtain ⟨_, ht, _⟩ := check_zero hc
    cases h2 : s.alive.getD w.toNat false with
    | false => rw [ask_dead hc h2]; exact ⟨h, rfl, rfl, fun _ => rfl, fun hi => by cases hi⟩
    | true =>
      cases h3 : works s w now with
      | true => rw [ask_busy hc h2 h3]; exact ⟨h, rfl, rfl, fun _ => rfl, fun hi => by cases hi⟩
      | false =>
        cases h4 : next s now with
        | none => rw [ask_none hc h2 h3 h4]; exact ⟨h.jobs (h.wf.tick ht.1 ht.2) rfl rfl rfl, ansL_jobs rfl, rfl, fun _ => rfl, fun hi => by cases hi⟩
        | some k =>
          obtain ⟨j, hj, hf, _⟩ := next_some h4
          rw [ask_some hc h2 h3 h4 hj]
          obtain ⟨g1, g2⟩ := h.give hj hc
          have hm := List.mem_of_getElem? hj
          unfold free at hf
          simp only [Bool.and_eq_true, Bool.not_eq_true'] at hf
          refine ⟨g1, g2, (if_pos rfl).symm, (fun hi => by cases hi), fun _ => ⟨rfl, h.id j hm, ?_, rfl, ?_⟩⟩
          · rw [ansOf_at h.wf hm]
            unfold numA
            cases ha : j.ans with
            | none => rfl
            | some a => rw [ha] at hf; simp at hf
          · intro t ht' h5 h6 h7
            have hr := h.ran ht' ht.1 h5 h7
            rcases h6 with h6 | h6
            · have : given s j.id now = true := List.any_eq_true.2 ⟨t, ht', by rw [hr, h6]; simp⟩
              rw [this] at hf; simp at hf
            · have : works s w now = true := List.any_eq_true.2 ⟨t, ht', by rw [hr, h6]; simp⟩
              rw [this] at h3; cases h3
  · rw [ask_bad hc]; exact ⟨h, rfl, (if_neg hc).symm, fun _ => rfl, fun hi => by cases hi⟩
theorem On.die {lim : Int} {s : S} (h : On lim s) (w now : Int) : On lim (die s w now).1 ∧ ansL (die s w now).1 = ansL s ∧ (die s w now).1.tick = (if (die s w now).2 = 0 then now else s.tick) ∧ (die s w now).1.tries = if (die s w now).2 = 0 then s.tries.map (lose w) else s.tries := by
  have hw := h.wf.die w now
  by_cases hc : check s w now = 0
  · cases h2 : s.alive.getD w.toNat false with
    | false => rw [die_dead hc h2]; exact ⟨h, rfl, rfl, rfl⟩
    | true =>
      rw [die_ok hc h2] at hw ⊢
      exact ⟨h.jobs hw rfl rfl (by show (s.alive.set _ _).length = _; rw [List.length_set]), ansL_jobs rfl, rfl, rfl⟩
  · rw [die_bad hc]; exact ⟨h, rfl, (if_neg hc).symm, (if_neg hc).symm⟩
theorem On.revive {lim : Int} {s : S} (h : On lim s) (w : Int) : On lim (revive s w).1 ∧ ansL (revive s w).1 = ansL s ∧ (revive s w).1.tick = s.tick ∧ (revive s w).1.tries = s.tries := by
  have hw := h.wf.revive w
  by_cases hc : w < 0 ∨ (s.alive.length : Int) ≤ w
  · rw [revive_bad hc]; exact ⟨h, rfl, rfl, rfl⟩
  · cases h2 : s.alive.getD w.toNat false with
    | true => rw [revive_up hc h2]; exact ⟨h, rfl, rfl, rfl⟩
    | false =>
      rw [revive_ok hc h2] at hw ⊢
      exact ⟨h.jobs hw rfl rfl (by show (s.alive.set _ _).length = _; rw [List.length_set]), ansL_jobs rfl, rfl, rfl⟩
theorem ansL_get {s : S} {i : Nat} (hi : i < 16) : (ansL s)[i]? = some (ansOf s (i : Int)) := by unfold ansL; simp [hi]
theorem ansL_len (s : S) : (ansL s).length = 16 := by simp [ansL]
/-- The answer to a try that is known. -/
theorem On.answer {lim : Int} {s : S} (h : On lim s) {t : Tr} (ht : t ∈ s.tries) {now : Int} (hn : s.tick ≤ now ∧ now ≤ 1000000) {u : UInt8} (hu : 1 ≤ u.toNat ∧ u.toNat ≤ 40) (hN : s.tries.length ≤ 1000) : (0 ≤ t.task ∧ t.task ≤ 12) ∧ (answer s t.task t.worker t.num [u] now).2.2 = 0 ∧ (answer s t.task t.worker t.num [u] now).2.1 = decide (ansOf s t.task = 0) ∧
    On lim (answer s t.task t.worker t.num [u] now).1 ∧ (answer s t.task t.worker t.num [u] now).1.tick = now ∧ (answer s t.task t.worker t.num [u] now).1.tries = s.tries ∧ ansL (answer s t.task t.worker t.num [u] now).1 = if ansOf s t.task = 0 then (ansL s).set t.task.toNat u.toNat else ansL s := by
  obtain ⟨⟨j, hj, e⟩, htk, hwk⟩ := h.wf.tr t ht
  have htick := h.wf.tk
  have hc : check s t.worker now = 0 := by unfold check; rw [if_neg (by omega), if_neg (by omega)]
  have hkn : known s t.task t.worker t.num = true := List.any_eq_true.2 ⟨t, ht, by simp⟩
  obtain ⟨k, hk⟩ := List.getElem?_of_mem hj
  have hf : findJ s.jobs t.task = some k := by rw [← e]; exact findJ_at h.wf.rise hk
  have hid := h.id j hj
  have hao : ansOf s t.task = numA j := by rw [← e]; exact ansOf_at h.wf hj
  have hnj := h.num hj
  refine ⟨by rw [← e]; exact hid, ?_⟩
  cases ha : j.ans.isSome with
  | true =>
    have h0 : ansOf s t.task ≠ 0 := by rw [hao]; rw [ha] at hnj; simpa using hnj.symm
    rw [answer_late hc hf hkn (by simp) hk ha]
    exact ⟨rfl, by simp [h0], h.jobs (h.wf.tick (by omega) (by omega)) rfl rfl rfl, rfl, rfl, by rw [if_neg h0]; exact ansL_jobs rfl⟩
  | false =>
    have h0 : ansOf s t.task = 0 := by rw [hao]; rw [ha] at hnj; simpa using hnj.symm
    rw [answer_first hc hf hkn (by simp) hk ha]
    obtain ⟨q, tt, hq, hq2⟩ := (known_at h.wf hj t.worker t.num).1 (by rw [e]; exact hkn)
    have hal := h.al
    have hw : WF (setAns s k j ⟨t.worker, t.num, [u]⟩ now) := by
      have hwf := h.wf.answer t.task t.worker t.num [u] now
      rw [answer_first hc hf hkn (by simp) hk ha] at hwf
      have h1 := (List.getElem?_eq_some_iff.1 hq2.1).1
      have h2 : (triesOf s j.id).length ≤ s.tries.length := List.length_filter_le _ _
      exact hwf (by omega)
    refine ⟨rfl, by simp [h0], ⟨hw, h.to, h.al, fun y hy => ?_, fun y hy a hya => ?_⟩, rfl, rfl, ?_⟩
    · rcases List.mem_or_eq_of_mem_set (show y ∈ s.jobs.set k { j with ans := some ⟨t.worker, t.num, [u]⟩ } from hy) with hy | rfl
      · exact h.id y hy
      · exact hid
    · rcases List.mem_or_eq_of_mem_set (show y ∈ s.jobs.set k { j with ans := some ⟨t.worker, t.num, [u]⟩ } from hy) with hy | rfl
      · exact h.an y hy a hya
      · injection hya with hya
        subst hya
        exact ⟨u, rfl, hu⟩
    · rw [if_pos h0]
      apply List.ext_getElem?
      intro i
      rw [List.getElem?_set, ansL_len]
      by_cases hi : i < 16
      · rw [ansL_get hi]
        by_cases hti : t.task.toNat = i
        · rw [if_pos hti]
          show some (ansOf (setAns s k j ⟨t.worker, t.num, [u]⟩ now) (i : Int)) = _
          split
          case isFalse h => omega
          have : ansOf (setAns s k j ⟨t.worker, t.num, [u]⟩ now) (i : Int) = u.toNat := by
            have h9 := ansOf_at hw (mem_set_self (x := { j with ans := some ⟨t.worker, t.num, [u]⟩ }) hk)
            rw [show (i : Int) = j.id by omega]
            exact h9
          rw [this]
        · rw [if_neg hti, ansL_get hi]
          congr 1
          have hne : j.id ≠ (i : Int) := by omega
          by_cases hx : ∃ y ∈ s.jobs, y.id = (i : Int)
          · obtain ⟨y, hy, ey⟩ := hx
            rcases mem_set_of (x := { j with ans := some ⟨t.worker, t.num, [u]⟩ }) h.wf.rise hk hy with rfl | hy2
            · exact absurd ey hne
            · rw [← ey, ansOf_at h.wf hy]
              exact ansOf_at hw hy2
          · rw [ansOf_none (fun y hy ey => hx ⟨y, hy, ey⟩)]
            refine ansOf_none (fun y hy ey => ?_)
            rcases List.mem_or_eq_of_mem_set (show y ∈ s.jobs.set k { j with ans := some ⟨t.worker, t.num, [u]⟩ } from hy) with hy | rfl
            · exact hx ⟨y, hy, ey⟩
            · exact hne ey
      · have h8 : (ansL (setAns s k j ⟨t.worker, t.num, [u]⟩ now))[i]? = none := List.getElem?_eq_none (by rw [ansL_len]; omega)
        rw [h8]
        split
        · rw [if_neg (show ¬ t.task.toNat < 16 by omega)]
        · exact (List.getElem?_eq_none (by rw [ansL_len]; omega)).symm
/-- In the end. -/
theorem On.done {lim : Int} {s : S} (h : On lim s) : (∀ d ∈ dones s, (0 ≤ d.1 ∧ d.1 ≤ 12) ∧ ∃ u : UInt8, d.2.body = [u] ∧ (ansL s)[d.1.toNat]? = some u.toNat) ∧ ((ansL s).filter (fun x => decide (0 < x))).length = (dones s).length := by
  constructor
  · intro d hd
    unfold dones at hd
    obtain ⟨j, hj, hd⟩ := List.mem_filterMap.1 hd
    cases ha : j.ans with
    | none => rw [ha] at hd; cases hd
    | some a =>
      rw [ha] at hd
      injection hd with hd
      subst hd
      have hid := h.id j hj
      obtain ⟨u, hu, _⟩ := h.an j hj a ha
      refine ⟨hid, u, hu, ?_⟩
      show (ansL s)[j.id.toNat]? = _
      rw [ansL_get (by omega), show ((j.id.toNat : Nat) : Int) = j.id by omega, ansOf_at h.wf hj]
      unfold numA
      rw [ha]
      show some (a.body.headD 0).toNat = _
      rw [hu]
      rfl
  · have h1 : ((ansL s).filter (fun x => decide (0 < x))).length = ((List.range 16).filter (fun k : Nat => decide (0 < ansOf s (k : Int)))).length := by
      unfold ansL
      rw [List.filter_map, List.length_map]
      rfl
    have h2 : (dones s).length = ((s.jobs.filter (fun j => j.ans.isSome)).map (fun j => j.id.toNat)).length := by
      rw [List.length_map]
      unfold dones
      generalize s.jobs = l
      induction l with
      | nil => rfl
      | cons x r ih =>
        cases ha : x.ans with
        | none => simp [ha, ih]
        | some a => simp [ha, ih]
    rw [h1, h2]
    apply List.Perm.length_eq
    refine (List.perm_ext_iff_of_nodup (List.Pairwise.filter _ List.nodup_range) ?_).2 (fun k => ?_)
    · have hp : (s.jobs.filter (fun j => j.ans.isSome)).Pairwise (fun a b => a.id < b.id) := h.wf.rise.filter _
      refine List.pairwise_map.2 (hp.imp_of_mem (fun {a b} ha hb hab => ?_))
      have h3 := h.id a (List.mem_filter.1 ha).1
      have h4 := h.id b (List.mem_filter.1 hb).1
      omega
    · rw [List.mem_filter, List.mem_range, List.mem_map]
      constructor
      · rintro ⟨hk, hp⟩
        by_cases hx : ∃ j ∈ s.jobs, j.id = (k : Int)
        · obtain ⟨j, hj, e⟩ := hx
          rw [← e, ansOf_at h.wf hj] at hp
          refine ⟨j, List.mem_filter.2 ⟨hj, ?_⟩, by omega⟩
          rw [h.num hj]
          have hp := of_decide_eq_true hp
          exact decide_eq_true (by omega)
        · rw [ansOf_none (fun j hj e => hx ⟨j, hj, e⟩)] at hp
          simp at hp
      · rintro ⟨j, hj, rfl⟩
        obtain ⟨hj, ha⟩ := List.mem_filter.1 hj
        have hid := h.id j hj
        refine ⟨by omega, ?_⟩
        rw [show ((j.id.toNat : Nat) : Int) = j.id by omega, ansOf_at h.wf hj]
        rw [h.num hj] at ha
        have ha := of_decide_eq_true ha
        exact decide_eq_true (by omega)
/-- How many of the first i are not 0. -/
def cntA (l : List Nat) (i : Nat) : Nat := ((l.take i).filter (fun x => decide (0 < x))).length
theorem cntA_succ {l : List Nat} {i x : Nat} (h : l[i]? = some x) : cntA l (i + 1) = cntA l i + if 0 < x then 1 else 0 := by
  unfold cntA
  rw [List.take_add_one, h, List.filter_append, List.length_append]
  by_cases hx : 0 < x
  · simp [hx]
  · simp [hx]
theorem cntA_le (l : List Nat) (i : Nat) : cntA l i ≤ i := by
  unfold cntA
  have h1 := List.length_filter_le (fun x => decide (0 < x)) (l.take i)
  have h2 := List.length_take_le i l
  omega
theorem cntA_all (l : List Nat) (i : Nat) (h : l.length ≤ i) : cntA l i = (l.filter (fun x => decide (0 < x))).length := by
  unfold cntA
  rw [List.take_of_length_le h]
/-- The first j tries are marked. -/
def loseTo (w : Int) (l : List Tr) (j : Nat) : List Tr := (l.take j).map (lose w) ++ l.drop j
theorem loseTo_zero (w : Int) (l : List Tr) : loseTo w l 0 = l := by simp [loseTo]
theorem loseTo_all (w : Int) (l : List Tr) : loseTo w l l.length = l.map (lose w) := by simp [loseTo]
theorem loseTo_len (w : Int) (l : List Tr) (j : Nat) : (loseTo w l j).length = l.length := by simp [loseTo]; omega
theorem loseTo_get (w : Int) (l : List Tr) (j i : Nat) : (loseTo w l j)[i]? = if i < j then (l[i]?).map (lose w) else l[i]? := by
  unfold loseTo
  rw [List.getElem?_append]
  simp only [List.length_map, List.length_take, List.getElem?_map, List.getElem?_take, List.getElem?_drop]
  by_cases hi : i < j
  · by_cases hl : i < l.length
    · rw [if_pos (by omega), if_pos hi, if_pos hi]
    · rw [if_neg (by omega), if_pos hi, List.getElem?_eq_none (by omega), List.getElem?_eq_none (by omega)]
      rfl
  · rw [if_neg (by omega), if_neg hi]
    by_cases hl : i < l.length
    · rw [show j + (i - min j l.length) = i by omega]
    · rw [List.getElem?_eq_none (by omega), List.getElem?_eq_none (by omega)]
theorem loseTo_at {w : Int} {l : List Tr} {j : Nat} {y : Tr} (h : l[j]? = some y) : (loseTo w l j)[j]? = some y := by
  rw [loseTo_get, if_neg (by omega)]
  exact h
theorem loseTo_succ {w : Int} {l : List Tr} {j : Nat} {y : Tr} (h : l[j]? = some y) : loseTo w l (j + 1) = (loseTo w l j).set j (lose w y) := by
  have hj := (List.getElem?_eq_some_iff.1 h).1
  apply List.ext_getElem?
  intro i
  rw [List.getElem?_set, loseTo_get, loseTo_get, loseTo_len]
  by_cases e : j = i
  · subst e
    rw [if_pos (by omega), if_pos rfl, if_pos hj, h]
    rfl
  · rw [if_neg e]
    by_cases hi : i < j
    · rw [if_pos (by omega), if_pos hi]
    · rw [if_neg (by omega), if_neg hi]
theorem loseTo_hit {w : Int} {l : List Tr} {j : Nat} {y : Tr} (h : l[j]? = some y) (e : y.worker = w) : (loseTo w l j).set j { y with over := true } = loseTo w l (j + 1) := by
  rw [loseTo_succ h]; unfold lose; rw [if_pos e]
theorem loseTo_skip {w : Int} {l : List Tr} {j : Nat} {y : Tr} (h : l[j]? = some y) (e : y.worker ≠ w) : loseTo w l (j + 1) = loseTo w l j := by
  rw [loseTo_succ h]
  unfold lose
  rw [if_neg e]
  have h2 := loseTo_at (w := w) h
  obtain ⟨h3, h4⟩ := List.getElem?_eq_some_iff.1 h2
  rw [← h4]
  exact List.set_getElem_self h3
end Go.Pl
