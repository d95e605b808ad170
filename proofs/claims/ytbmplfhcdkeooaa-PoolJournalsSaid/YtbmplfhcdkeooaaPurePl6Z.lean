/- PoolJournals in plain words: the pool, the records of its answers. No program is named here. -/
import Derived.Test.YtbmplfhcdkeooaaG1
import Derived.Test.YtbmplfhcdkeooaaG0
set_option linter.unusedSimpArgs false
set_option linter.unusedVariables false
namespace Go.Pl
set_option linter.unusedVariables false

/-- The records rs are the answers of the pool. -/
structure Jr (s : S) (rs : List (Int × List UInt8)) : Prop where
  wf : WF s
  al : s.alive.length = 2
  ids : ∀ j ∈ s.jobs, 0 ≤ j.id ∧ j.id ≤ 5
  fw : ∀ j ∈ s.jobs, ∀ a, j.ans = some a → (j.id, a.body) ∈ rs
  bw : ∀ r ∈ rs, ∃ j ∈ s.jobs, j.id = r.1 ∧ ∃ a, j.ans = some a ∧ a.body = r.2
  nd : (rs.map (fun r => r.1)).Nodup
  bl : ∀ r ∈ rs, r.2.length = 2 ∧ 0 ≤ r.1 ∧ r.1 ≤ 5
theorem Jr.same {s s' : S} {rs : List (Int × List UInt8)} (h : Jr s rs) (h1 : WF s') (h2 : s'.jobs.map (fun j => (j.id, j.ans)) = s.jobs.map (fun j => (j.id, j.ans))) (h3 : s'.alive.length = s.alive.length) : Jr s' rs := by
  have back : ∀ y ∈ s'.jobs, ∃ z ∈ s.jobs, z.id = y.id ∧ z.ans = y.ans := fun y hy => by
    have : (y.id, y.ans) ∈ s'.jobs.map (fun j => (j.id, j.ans)) := List.mem_map.2 ⟨y, hy, rfl⟩
    rw [h2] at this
    obtain ⟨z, hz, e⟩ := List.mem_map.1 this
    exact ⟨z, hz, congrArg Prod.fst e, congrArg Prod.snd e⟩
  have forth : ∀ y ∈ s.jobs, ∃ z ∈ s'.jobs, z.id = y.id ∧ z.ans = y.ans := fun y hy => by
    have : (y.id, y.ans) ∈ s.jobs.map (fun j => (j.id, j.ans)) := List.mem_map.2 ⟨y, hy, rfl⟩
    rw [← h2] at this
    obtain ⟨z, hz, e⟩ := List.mem_map.1 this
    exact ⟨z, hz, congrArg Prod.fst e, congrArg Prod.snd e⟩
  refine ⟨h1, h3.trans h.al, fun j hj => ?_, fun j hj a ha => ?_, fun r hr => ?_, h.nd, h.bl⟩
  · obtain ⟨z, hz, e, _⟩ := back j hj
    rw [← e]; exact h.ids z hz
  · obtain ⟨z, hz, e, e2⟩ := back j hj
    rw [← e]; exact h.fw z hz a (e2.trans ha)
  · obtain ⟨j, hj, e, a, ha, hb⟩ := h.bw r hr
    obtain ⟨z, hz, e1, e2⟩ := forth j hj
    exact ⟨z, hz, e1.trans e, a, e2.trans ha, hb⟩
theorem set_same {l : List Job} {k : Nat} {j x : Job} (hj : l[k]? = some j) (e1 : x.id = j.id) (e2 : x.ans = j.ans) : (l.set k x).map (fun j => (j.id, j.ans)) = l.map (fun j => (j.id, j.ans)) := by
  apply List.ext_getElem?
  intro i
  rw [List.getElem?_map, List.getElem?_map, List.getElem?_set]
  by_cases hi : k = i
  · subst hi
    obtain ⟨hk, rfl⟩ := List.getElem?_eq_some_iff.1 hj
    simp [hk, e1, e2]
  · rw [if_neg hi]
/-- Ask. -/
theorem Jr.ask {s : S} {rs : List (Int × List UInt8)} (h : Jr s rs) (w now : Int) : Jr (ask s w now).1 rs ∧ (ask s w now).1.tries.length ≤ s.tries.length + 1 ∧
    ((ask s w now).2.is = true → (⟨(ask s w now).2.id, (ask s w now).2.num, w, now, false⟩ : Tr) ∈ (ask s w now).1.tries ∧ (ask s w now).1.tick = now ∧ (0 ≤ now ∧ now ≤ 1099511627776) ∧ ∃ j ∈ (ask s w now).1.jobs, j.id = (ask s w now).2.id ∧ j.ans = none) := by
  have hw := h.wf.ask w now
  by_cases hc : check s w now = 0
  · obtain ⟨_, ht, _⟩ := check_zero hc
    cases h2 : s.alive.getD w.toNat false with
    | false => rw [ask_dead hc h2]; exact ⟨h, by simp, fun hi => by cases hi⟩
    | true =>
      cases h3 : works s w now with
      | true => rw [ask_busy hc h2 h3]; exact ⟨h, by simp, fun hi => by cases hi⟩
      | false =>
        cases h4 : next s now with
        | none => rw [ask_none hc h2 h3 h4]; exact ⟨h.same (h.wf.tick ht.1 ht.2) rfl rfl, by simp, fun hi => by cases hi⟩
        | some k =>
          obtain ⟨j, hj, hf, _⟩ := next_some h4
          rw [ask_some hc h2 h3 h4 hj] at hw ⊢
          unfold free at hf
          simp only [Bool.and_eq_true, Bool.not_eq_true'] at hf
          refine ⟨h.same hw (set_same hj rfl rfl) rfl, by simp [giveOut], fun _ => ⟨by simp [giveOut], rfl, ht, _, mem_set_self (x := { j with n := j.n + 1 }) hj, rfl, ?_⟩⟩
          show j.ans = none
          cases ha : j.ans with
          | none => rfl
          | some a => rw [ha] at hf; simp at hf
  · rw [ask_bad hc]; exact ⟨h, by simp, fun hi => by cases hi⟩
/-- The answer to a try that is known. -/
theorem answer_known {s : S} (h : WF s) {t : Tr} (ht : t ∈ s.tries) {now : Int} (hn : s.tick ≤ now ∧ now ≤ 1099511627776) {b : List UInt8} (hb : b.length ≤ 65536) : ∃ k j, s.jobs[k]? = some j ∧ j.id = t.task ∧ answer s t.task t.worker t.num b now = if j.ans.isSome then ({ s with tick := now }, false, 0) else (setAns s k j ⟨t.worker, t.num, b⟩ now, true, 0) := by
  obtain ⟨⟨j, hj, e⟩, htk, hwk⟩ := h.tr t ht
  have htick := h.tk
  have hc : check s t.worker now = 0 := by unfold check; rw [if_neg (by omega), if_neg (by omega)]
  have hkn : known s t.task t.worker t.num = true := List.any_eq_true.2 ⟨t, ht, by simp⟩
  obtain ⟨k, hk⟩ := List.getElem?_of_mem hj
  have hf : findJ s.jobs t.task = some k := by rw [← e]; exact findJ_at h.rise hk
  refine ⟨k, j, hk, e, ?_⟩
  cases ha : j.ans.isSome with
  | true => rw [answer_late hc hf hkn hb hk ha]; rfl
  | false => rw [answer_first hc hf hkn hb hk ha]; rfl
theorem num_small {s : S} (h : WF s) {t : Tr} (ht : t ∈ s.tries) : 0 ≤ t.num ∧ t.num ≤ (s.tries.length : Int) := by
  obtain ⟨⟨j, hj, e⟩, _⟩ := h.tr t ht
  have hmem : t ∈ triesOf s j.id := List.mem_filter.2 ⟨ht, by simp [e]⟩
  obtain ⟨k, hk⟩ := List.getElem?_of_mem hmem
  have h1 := (h.num j hj).2 k t hk
  have h2 := (List.getElem?_eq_some_iff.1 hk).1
  have h3 : (triesOf s j.id).length ≤ s.tries.length := List.length_filter_le _ _
  omega
/-- Both answers. -/
theorem Jr.answer {s : S} {rs : List (Int × List UInt8)} (h : Jr s rs) {t : Tr} (ht : t ∈ s.tries) (hl : s.tries.length ≤ 1000) {now : Int} (hn : s.tick ≤ now ∧ now ≤ 1099511627776) {j : Job} (hj : j ∈ s.jobs) (e : j.id = t.task) (ha : j.ans = none) {b : List UInt8} (hb : b.length = 2) {c : List UInt8} (hc : c.length ≤ 65536) :
    (answer s t.task t.worker t.num b now).2 = (true, 0) ∧ (answer (answer s t.task t.worker t.num b now).1 t.task t.worker t.num c now).2 = (false, 0) ∧ Jr (answer (answer s t.task t.worker t.num b now).1 t.task t.worker t.num c now).1 (rs ++ [(t.task, b)]) ∧
    (answer (answer s t.task t.worker t.num b now).1 t.task t.worker t.num c now).1.tries = s.tries ∧ (0 ≤ t.task ∧ t.task ≤ 5) := by
  obtain ⟨k, j', hk, e', ea⟩ := answer_known h.wf ht hn (b := b) (by omega)
  obtain rfl : j = j' := rise_uniq h.wf.rise hj (List.mem_of_getElem? hk) (e.trans e'.symm)
  have hnum := num_small h.wf ht
  have hw := h.wf.answer t.task t.worker t.num b now (by omega)
  rw [if_neg (by rw [ha]; simp)] at ea
  rw [ea] at hw ⊢
  have htr : t ∈ (setAns s k j ⟨t.worker, t.num, b⟩ now).tries := ht
  obtain ⟨k2, j2, hk2, e2, ea2⟩ := answer_known hw htr (now := now) (b := c) ⟨by show now ≤ now; omega, hn.2⟩ hc
  have hid := h.ids j hj
  obtain rfl : j2 = { j with ans := some ⟨t.worker, t.num, b⟩ } := rise_uniq hw.rise (List.mem_of_getElem? hk2) (mem_set_self (x := { j with ans := some ⟨t.worker, t.num, b⟩ }) hk) (by rw [e2]; exact e.symm)
  rw [if_pos (show (({ j with ans := some ⟨t.worker, t.num, b⟩ } : Job).ans.isSome = true) from rfl)] at ea2
  rw [ea2]
  have hno : ∀ r ∈ rs, r.1 ≠ j.id := fun r hr er => by
    obtain ⟨y, hy, ey, a, hya, _⟩ := h.bw r hr
    obtain rfl : y = j := rise_uniq h.wf.rise hy hj (ey.trans er)
    rw [ha] at hya; cases hya
  have hwt := hw.tick (t := now) (by have := h.wf.tk; omega) hn.2
  refine ⟨rfl, rfl, ⟨hwt, h.al, fun y hy => ?_, fun y hy a hya => ?_, fun r hr => ?_, ?_, fun r hr => ?_⟩, rfl, by omega⟩
  · rcases List.mem_or_eq_of_mem_set (show y ∈ s.jobs.set k { j with ans := some ⟨t.worker, t.num, b⟩ } from hy) with hy | rfl
    · exact h.ids y hy
    · exact hid
  · rcases List.mem_or_eq_of_mem_set (show y ∈ s.jobs.set k { j with ans := some ⟨t.worker, t.num, b⟩ } from hy) with hy | rfl
    · exact List.mem_append_left _ (h.fw y hy a hya)
    · injection hya with hya
      subst hya
      show (j.id, b) ∈ _
      rw [e]
      simp
  · rcases List.mem_append.1 hr with hr | hr
    · obtain ⟨y, hy, ey, a, hya, hb'⟩ := h.bw r hr
      rcases mem_set_of (x := { j with ans := some ⟨t.worker, t.num, b⟩ }) h.wf.rise hk hy with rfl | hy2
      · exact absurd ey.symm (hno r hr)
      · exact ⟨y, hy2, ey, a, hya, hb'⟩
    · rw [List.mem_singleton] at hr
      subst hr
      exact ⟨_, mem_set_self (x := { j with ans := some ⟨t.worker, t.num, b⟩ }) hk, e, _, rfl, rfl⟩
  · rw [List.map_append, List.nodup_append]
    refine ⟨h.nd, by simp, fun a ha b' hb' => ?_⟩
    obtain ⟨r, hr, rfl⟩ := List.mem_map.1 ha
    simp at hb'
    subst hb'
    rw [← e]
    exact hno r hr
  · rcases List.mem_append.1 hr with hr | hr
    · exact h.bl r hr
    · rw [List.mem_singleton] at hr
      subst hr
      exact ⟨hb, by show 0 ≤ t.task ∧ t.task ≤ 5; omega⟩
/-- What Done returns in the end. -/
theorem Jr.done {s : S} {rs : List (Int × List UInt8)} (h : Jr s rs) : (dones s).length = rs.length ∧ (∀ r ∈ rs, (dones s).any (fun d => d.1 == r.1 && d.2.body == r.2) = true) ∧ ∀ d ∈ dones s, d.2.body.length = 2 ∧ 0 ≤ d.1 ∧ d.1 ≤ 5 := by
  have hmem : ∀ d, d ∈ dones s ↔ ∃ j ∈ s.jobs, ∃ a, j.ans = some a ∧ d = (j.id, a) := fun d => by
    unfold dones
    rw [List.mem_filterMap]
    constructor
    · rintro ⟨j, hj, e⟩
      cases ha : j.ans with
      | none => rw [ha] at e; cases e
      | some a => rw [ha] at e; injection e with e; exact ⟨j, hj, a, ha, e.symm⟩
    · rintro ⟨j, hj, a, ha, rfl⟩
      exact ⟨j, hj, by rw [ha]; rfl⟩
  refine ⟨?_, fun r hr => ?_, fun d hd => ?_⟩
  · have h1 : ((dones s).map (fun d => d.1)).length = (rs.map (fun r => r.1)).length := by
      apply List.Perm.length_eq
      refine (List.perm_ext_iff_of_nodup ?_ h.nd).2 (fun x => ?_)
      · have hp : ((dones s).map (fun d => d.1)).Pairwise (· < ·) := by
          have hr := h.wf.rise
          unfold dones
          generalize s.jobs = l at hr
          induction l with
          | nil => simp
          | cons y r ih =>
            obtain ⟨q1, q2⟩ := List.pairwise_cons.1 hr
            cases ha : y.ans with
            | none => simpa [ha] using ih q2
            | some a =>
              have := ih q2
              simp only [List.filterMap_cons, ha, Option.map_some, List.map_cons, List.pairwise_cons]
              refine ⟨fun x hx => ?_, this⟩
              obtain ⟨d, hd, rfl⟩ := List.mem_map.1 hx
              obtain ⟨z, hz, e⟩ := List.mem_filterMap.1 hd
              cases hza : z.ans with
              | none => rw [hza] at e; cases e
              | some a' => rw [hza] at e; injection e with e; subst e; exact q1 z hz
        exact hp.imp (fun {a b} hab => by omega)
      · rw [List.mem_map, List.mem_map]
        constructor
        · rintro ⟨d, hd, rfl⟩
          obtain ⟨j, hj, a, ha, rfl⟩ := (hmem d).1 hd
          exact ⟨_, h.fw j hj a ha, rfl⟩
        · rintro ⟨r, hr, rfl⟩
          obtain ⟨j, hj, e, a, ha, _⟩ := h.bw r hr
          exact ⟨_, (hmem _).2 ⟨j, hj, a, ha, rfl⟩, e⟩
    rwa [List.length_map, List.length_map] at h1
  · obtain ⟨j, hj, e, a, ha, hb⟩ := h.bw r hr
    exact List.any_eq_true.2 ⟨_, (hmem _).2 ⟨j, hj, a, ha, rfl⟩, by simp [e, hb]⟩
  · obtain ⟨j, hj, a, ha, rfl⟩ := (hmem d).1 hd
    exact h.bl _ (h.fw j hj a ha)
/-- The tasks are added. -/
def jobsTo (i : Nat) : List Job := (List.range i).map (fun k : Nat => ⟨(k : Int), [], 0, none⟩)
structure Ad (i : Nat) (s : S) : Prop where
  wf : WF s
  al : s.alive.length = 2
  tk : s.tick = 0
  tr : s.tries = []
  jobs : s.jobs = jobsTo i
theorem insJ_behind {x : Job} {l : List Job} (h : ∀ y ∈ l, y.id < x.id) : insJ x l = l ++ [x] := by
  induction l with
  | nil => rfl
  | cons y r ih =>
    unfold insJ
    rw [if_pos (h y (by simp)), ih (fun z hz => h z (by simp [hz]))]
    rfl
theorem Ad.add {i : Nat} {s : S} (h : Ad i s) (hi : i < 6) : (Go.Pl.add s (i : Int) []).2 = 0 ∧ Ad (i + 1) (Go.Pl.add s (i : Int) []).1 := by
  have hw := h.wf.add (i : Int) [] (by omega)
  have hno : findJ s.jobs (i : Int) = none := by
    unfold findJ
    refine List.findIdx?_eq_none_iff.2 (fun j hj => ?_)
    rw [h.jobs] at hj
    obtain ⟨k, hk, rfl⟩ := List.mem_map.1 hj
    have := List.mem_range.1 hk
    rw [beq_eq_false_iff_ne]
    show (k : Int) ≠ (i : Int)
    omega
  have hl : s.jobs.length = i := by rw [h.jobs]; simp [jobsTo]
  have e : Go.Pl.add s (i : Int) [] = ({ s with jobs := insJ ⟨(i : Int), [], 0, none⟩ s.jobs }, 0) := by
    unfold Go.Pl.add
    rw [if_neg (by omega), if_neg (by simp; omega), hno]
    rfl
  rw [e] at hw ⊢
  refine ⟨rfl, hw, h.al, h.tk, h.tr, ?_⟩
  show insJ _ s.jobs = _
  rw [insJ_behind (fun y hy => ?_), h.jobs]
  · unfold jobsTo
    rw [List.range_succ, List.map_append]
    rfl
  · rw [h.jobs] at hy
    obtain ⟨k, hk, rfl⟩ := List.mem_map.1 hy
    have := List.mem_range.1 hk
    show (k : Int) < (i : Int)
    omega
theorem Ad.start : Ad 0 (new 2 3) := ⟨WF.new (by omega) (by omega) (by omega) (by omega), rfl, rfl, rfl, rfl⟩
theorem Ad.jr {s : S} (h : Ad 6 s) : Jr s [] := by
  have hm : ∀ j ∈ s.jobs, ∃ k : Nat, k < 6 ∧ j = ⟨(k : Int), [], 0, none⟩ := fun j hj => by
    rw [h.jobs] at hj
    obtain ⟨k, hk, rfl⟩ := List.mem_map.1 hj
    exact ⟨k, List.mem_range.1 hk, rfl⟩
  refine ⟨h.wf, h.al, fun j hj => ?_, fun j hj a ha => ?_, fun r hr => ?_, ?_, fun r hr => ?_⟩
  · obtain ⟨k, hk, rfl⟩ := hm j hj
    show 0 ≤ (k : Int) ∧ (k : Int) ≤ 5
    omega
  · obtain ⟨k, hk, rfl⟩ := hm j hj
    cases ha
  · simp at hr
  · simp
  · simp at hr
end Go.Pl
