/- What PoolSame asks of the plain pool: the answers depend on the tasks alone; in the end all are answered. No program is named here. -/
import Derived.Test.YtbmplfhcdkeooaaPurePool
namespace Go.Pl
set_option linter.unusedVariables false

/-- The tasks are J; what was answered is what res makes of the task. -/
structure Sm (J : List (Int × List UInt8)) (res : List UInt8 → List UInt8) (nw : Nat) (lim : Int) (s : S) : Prop where
  wf : WF s
  jobs : s.jobs.map (fun j => (j.id, j.body)) = J
  al : s.alive.length = nw
  to : s.timeout = lim
  an : ∀ j ∈ s.jobs, ∀ a, j.ans = some a → a.body = res j.body
  tt : ∀ t ∈ s.tries, t.tick ≤ s.tick
section
variable {J : List (Int × List UInt8)} {res : List UInt8 → List UInt8} {nw : Nat} {lim : Int} {s : S}
theorem Sm.mem (h : Sm J res nw lim s) {j : Job} (hj : j ∈ s.jobs) : (j.id, j.body) ∈ J := by rw [← h.jobs]; exact List.mem_map.2 ⟨j, hj, rfl⟩
theorem map_set_same {l : List Job} {k : Nat} {j j' : Job} (hj : l[k]? = some j) (e1 : j'.id = j.id) (e2 : j'.body = j.body) : (l.set k j').map (fun j => (j.id, j.body)) = l.map (fun j => (j.id, j.body)) := by
  rw [List.map_set, e1, e2]
  obtain ⟨hk, rfl⟩ := List.getElem?_eq_some_iff.1 hj
  have : (l.map (fun j => (j.id, j.body)))[k]'(by rw [List.length_map]; exact hk) = (l[k].id, l[k].body) := List.getElem_map _
  rw [← this]
  exact List.set_getElem_self _
theorem Sm.tick (h : Sm J res nw lim s) {t : Int} (ht : 0 ≤ t ∧ t ≤ 1099511627776) (hs : s.tick ≤ t) : Sm J res nw lim { s with tick := t } :=
  ⟨h.wf.tick ht.1 ht.2, h.jobs, h.al, h.to, h.an, fun x hx => Int.le_trans (h.tt x hx) hs⟩
theorem Sm.give (h : Sm J res nw lim s) {w t : Int} {k : Nat} {j : Job} (hc : check s w t = 0) (hj : s.jobs[k]? = some j) : Sm J res nw lim (giveOut s w t k j) := by
  obtain ⟨_, ht, hs⟩ := check_zero hc
  refine ⟨h.wf.giveOut hj hc, by rw [show (giveOut s w t k j).jobs = s.jobs.set k { j with n := j.n + 1 } from rfl, map_set_same hj (by rfl) (by rfl)]; exact h.jobs, h.al, h.to, fun x hx a ha => ?_, fun x hx => ?_⟩
  · rcases List.mem_or_eq_of_mem_set hx with hx | rfl
    · exact h.an x hx a ha
    · exact h.an j (List.mem_of_getElem? hj) a ha
  · rcases List.mem_append.1 hx with hx | hx
    · exact Int.le_trans (h.tt x hx) hs
    · rw [List.mem_singleton] at hx
      subst hx
      exact Int.le_refl _
theorem Sm.ask (h : Sm J res nw lim s) (w t : Int) (hN : s.tries.length ≤ 1000) : Sm J res nw lim (Pl.ask s w t).1 ∧ (Pl.ask s w t).1.tries.length ≤ s.tries.length + 1 ∧ ((Pl.ask s w t).1.tick = s.tick ∨ (Pl.ask s w t).1.tick = t) ∧
    ((Pl.ask s w t).2.is = true → ((Pl.ask s w t).2.id, (Pl.ask s w t).2.body) ∈ J ∧ (0 ≤ (Pl.ask s w t).2.num ∧ (Pl.ask s w t).2.num ≤ 1000)) := by
  by_cases hc : check s w t = 0
  · obtain ⟨_, ht, hs⟩ := check_zero hc
    cases h2 : s.alive.getD w.toNat false with
    | false => rw [ask_dead hc h2]; exact ⟨h, by simp, .inl rfl, fun e => by cases e⟩
    | true =>
      cases h3 : works s w t with
      | true => rw [ask_busy hc h2 h3]; exact ⟨h, by simp, .inl rfl, fun e => by cases e⟩
      | false =>
        cases h4 : next s t with
        | none => rw [ask_none hc h2 h3 h4]; exact ⟨h.tick ht hs, by simp, .inr rfl, fun e => by cases e⟩
        | some k =>
          obtain ⟨j, hj, _⟩ := next_some h4
          have hjm := List.mem_of_getElem? hj
          rw [ask_some hc h2 h3 h4 hj]
          refine ⟨h.give hc hj, by show (s.tries ++ _).length ≤ _; simp, .inr rfl, fun _ => ⟨h.mem hjm, ?_⟩⟩
          have h5 := (h.wf.num j hjm).1
          have h6 : (triesOf s j.id).length ≤ s.tries.length := List.length_filter_le _ _
          show 0 ≤ (j.n : Int) ∧ (j.n : Int) ≤ 1000
          omega
  · rw [ask_bad hc]; exact ⟨h, by simp, .inl rfl, fun e => by cases e⟩
theorem Sm.set (h : Sm J res nw lim s) {w t : Int} {k : Nat} {j : Job} {a : Ans} (ht : 0 ≤ t ∧ t ≤ 1099511627776) (hs : s.tick ≤ t) (hj : s.jobs[k]? = some j) (ha : a.body.length ≤ 65536 ∧ (0 ≤ a.worker ∧ a.worker < 8) ∧ (0 ≤ a.num ∧ a.num ≤ 9223372036854775807)) (hb : a.body = res j.body) : Sm J res nw lim (setAns s k j a t) := by
  refine ⟨h.wf.setAns hj ht ha, by rw [show (setAns s k j a t).jobs = s.jobs.set k { j with ans := some a } from rfl, map_set_same hj (by rfl) (by rfl)]; exact h.jobs, h.al, h.to, fun x hx b hb2 => ?_, fun x hx => Int.le_trans (h.tt x hx) hs⟩
  rcases List.mem_or_eq_of_mem_set hx with hx | rfl
  · exact h.an x hx b hb2
  · injection hb2 with hb2
    subst hb2
    exact hb
theorem Sm.answer (h : Sm J res nw lim s) (task w num : Int) (body : List UInt8) (t : Int) (hnum : num ≤ 9223372036854775807) (hb : ∃ b, (task, b) ∈ J ∧ body = res b) :
    Sm J res nw lim (Pl.answer s task w num body t).1 ∧ (Pl.answer s task w num body t).1.tries = s.tries ∧ ((Pl.answer s task w num body t).1.tick = s.tick ∨ (Pl.answer s task w num body t).1.tick = t) := by
  by_cases hc : check s w t = 0
  · obtain ⟨hw, ht, hs⟩ := check_zero hc
    cases h2 : findJ s.jobs task with
    | none => rw [answer_none hc h2]; exact ⟨h, rfl, .inl rfl⟩
    | some k =>
      cases h3 : known s task w num with
      | false => rw [answer_stale hc h2 h3]; exact ⟨h, rfl, .inl rfl⟩
      | true =>
        by_cases h4 : 65536 < body.length
        · rw [answer_limit hc h2 h3 h4]; exact ⟨h, rfl, .inl rfl⟩
        · obtain ⟨j, h5, e⟩ := findJ_some h2
          have hjm := List.mem_of_getElem? h5
          cases h6 : j.ans.isSome with
          | true => rw [answer_late hc h2 h3 (by omega) h5 h6]; exact ⟨h.tick ht hs, rfl, .inr rfl⟩
          | false =>
            rw [answer_first hc h2 h3 (by omega) h5 h6]
            subst e
            obtain ⟨i, tt, rfl, _⟩ := (known_at h.wf hjm w num).1 h3
            have := h.wf.al
            obtain ⟨b, hb1, hb2⟩ := hb
            have hbj : b = j.body := by
              rw [← h.jobs] at hb1
              obtain ⟨x, hx, e⟩ := List.mem_map.1 hb1
              injection e with e1 e2
              rw [← e2, rise_uniq h.wf.rise hx hjm e1]
            refine ⟨h.set (w := w) ht hs h5 ⟨by show body.length ≤ 65536; omega, ⟨by show 0 ≤ w; omega, by show w < 8; omega⟩, by show (0 : Int) ≤ (i : Int) ∧ (i : Int) ≤ _; omega⟩ (by rw [← hbj]; exact hb2), rfl, .inr rfl⟩
  · rw [answer_bad hc]; exact ⟨h, rfl, .inl rfl⟩
theorem lose_tick (w : Int) (t : Tr) : (lose w t).tick = t.tick := by unfold lose; split <;> rfl
theorem Sm.die (h : Sm J res nw lim s) (w t : Int) : Sm J res nw lim (Pl.die s w t).1 ∧ (Pl.die s w t).1.tries.length = s.tries.length ∧ ((Pl.die s w t).1.tick = s.tick ∨ (Pl.die s w t).1.tick = t) := by
  have hwf := h.wf.die w t
  by_cases hc : check s w t = 0
  · obtain ⟨_, ht, hs⟩ := check_zero hc
    cases h2 : s.alive.getD w.toNat false with
    | false => rw [die_dead hc h2]; exact ⟨h, rfl, .inl rfl⟩
    | true =>
      rw [die_ok hc h2] at hwf ⊢
      refine ⟨⟨hwf, h.jobs, by show (s.alive.set _ _).length = _; rw [List.length_set]; exact h.al, h.to, h.an, fun x hx => ?_⟩, by show (s.tries.map _).length = _; rw [List.length_map], .inr rfl⟩
      obtain ⟨y, hy, rfl⟩ := List.mem_map.1 hx
      rw [lose_tick]
      exact Int.le_trans (h.tt y hy) hs
  · rw [die_bad hc]; exact ⟨h, rfl, .inl rfl⟩
theorem Sm.revive (h : Sm J res nw lim s) (w : Int) : Sm J res nw lim (Pl.revive s w).1 ∧ (Pl.revive s w).1.tries = s.tries ∧ (Pl.revive s w).1.tick = s.tick := by
  have hwf := h.wf.revive w
  by_cases hc : w < 0 ∨ (s.alive.length : Int) ≤ w
  · rw [revive_bad hc]; exact ⟨h, rfl, rfl⟩
  · cases h2 : s.alive.getD w.toNat false with
    | true => rw [revive_up hc h2]; exact ⟨h, rfl, rfl⟩
    | false =>
      rw [revive_ok hc h2] at hwf ⊢
      exact ⟨⟨hwf, h.jobs, by show (s.alive.set _ _).length = _; rw [List.length_set]; exact h.al, h.to, h.an, h.tt⟩, rfl, rfl⟩
theorem revive_zero (h : Sm J res nw lim s) (hn : 1 ≤ nw) : (Pl.revive s 0).1.alive.getD 0 false = true := by
  have hc : ¬ ((0 : Int) < 0 ∨ (s.alive.length : Int) ≤ 0) := by have := h.al; omega
  cases h2 : s.alive.getD (0 : Int).toNat false with
  | true => rw [revive_up hc h2]; exact h2
  | false =>
    rw [revive_ok hc h2]
    show (s.alive.set 0 true).getD 0 false = true
    have : 0 < s.alive.length := by have := h.al; omega
    rw [List.getD_eq_getElem?_getD, List.getElem?_set, if_pos rfl, if_pos this]
    rfl

/-! ### the end: one worker asks and answers -/
def cnt (l : List Job) : Nat := (l.filter (fun j => j.ans.isNone)).length
theorem cnt_set {l : List Job} {k : Nat} {j j' : Job} (hj : l[k]? = some j) (h1 : j.ans.isNone = true) (h2 : j'.ans.isNone = false) : cnt (l.set k j') + 1 = cnt l := by
  induction l generalizing k with
  | nil => simp at hj
  | cons x r ih =>
    cases k with
    | zero =>
      have e : x = j := by simpa using hj
      subst e
      simp [cnt, h1, h2]
    | succ k =>
      have := ih (k := k) (by simpa using hj)
      unfold cnt at this ⊢
      rw [List.set_cons_succ, List.filter_cons, List.filter_cons]
      by_cases hq : x.ans.isNone = true
      · rw [if_pos hq, if_pos hq, List.length_cons, List.length_cons]; omega
      · rw [if_neg hq, if_neg hq]; exact this
theorem cnt_zero {l : List Job} (h : cnt l = 0) : ∀ j ∈ l, j.ans.isSome = true := fun j hj => by
  unfold cnt at h
  have := List.filter_eq_nil_iff.1 (List.eq_nil_of_length_eq_zero h) j hj
  cases hq : j.ans with
  | none => rw [hq] at this; simp at this
  | some a => rfl
/-- After i rounds of the end: worker 0 lives; at most 10 - i tasks are open. -/
structure Fin (J : List (Int × List UInt8)) (res : List UInt8 → List UInt8) (nw : Nat) (lim : Int) (i : Nat) (T : Int) (s : S) : Prop where
  sm : Sm J res nw lim s
  al : s.alive.getD 0 false = true
  tk : s.tick ≤ T
  op : cnt s.jobs ≤ 10 - i
  trl : s.tries.length ≤ 40 + i
theorem Fin.none {i : Nat} {T : Int} (h : Fin J res nw lim i T s) (hn : 1 ≤ nw) (hl : lim ≤ 6) (hT : 0 ≤ T ∧ T ≤ 1000) : check s 0 (T + 7) = 0 ∧ works s 0 (T + 7) = false ∧ ∀ id, given s id (T + 7) = false := by
  have hno : ∀ t ∈ s.tries, running s t (T + 7) = false := fun t ht => by
    have := h.sm.tt t ht
    have := h.tk
    have := h.sm.to
    unfold running
    have : decide (T + 7 < t.tick + s.timeout) = false := by rw [decide_eq_false_iff_not]; omega
    rw [this]
    simp
  refine ⟨?_, ?_, fun id => ?_⟩
  · have := h.sm.al
    have := h.tk
    unfold check
    rw [if_neg (by omega), if_neg (by omega)]
  · unfold works
    rw [List.any_eq_false]
    intro t ht
    rw [hno t ht]
    simp
  · unfold given
    rw [List.any_eq_false]
    intro t ht
    rw [hno t ht]
    simp
theorem Fin.step {i : Nat} {T : Int} (h : Fin J res nw lim i T s) (hn : 1 ≤ nw) (hn8 : nw ≤ 8) (hl : lim ≤ 6) (hT : 0 ≤ T ∧ T ≤ 1000) (hi : i < 12) (hres : ∀ p ∈ J, (res p.2).length ≤ 65536) :
    (Pl.ask s 0 (T + 7)).2.err = 0 ∧ (((Pl.ask s 0 (T + 7)).2.is = false ∧ Fin J res nw lim (i + 1) (T + 7) (Pl.ask s 0 (T + 7)).1) ∨
      ((Pl.ask s 0 (T + 7)).2.is = true ∧ ((Pl.ask s 0 (T + 7)).2.id, (Pl.ask s 0 (T + 7)).2.body) ∈ J ∧ (0 ≤ (Pl.ask s 0 (T + 7)).2.num ∧ (Pl.ask s 0 (T + 7)).2.num ≤ 1000) ∧
        Fin J res nw lim (i + 1) (T + 7) (Pl.answer (Pl.ask s 0 (T + 7)).1 (Pl.ask s 0 (T + 7)).2.id 0 (Pl.ask s 0 (T + 7)).2.num (res (Pl.ask s 0 (T + 7)).2.body) (T + 7)).1)) := by
  obtain ⟨hc, hw, hg⟩ := h.none hn hl hT
  have hal : s.alive.getD (0 : Int).toNat false = true := h.al
  obtain ⟨_, ht, hs⟩ := check_zero hc
  have htrl := h.trl
  cases h4 : next s (T + 7) with
  | none =>
    rw [ask_none hc hal hw h4]
    have h5 := next_none h4
    have h6 : cnt s.jobs = 0 := by
      unfold cnt
      rw [List.length_eq_zero_iff, List.filter_eq_nil_iff]
      intro j hj hq
      have := h5 j hj
      unfold free at this
      rw [hg, hq] at this
      simp at this
    exact ⟨rfl, .inl ⟨rfl, h.sm.tick ht hs, h.al, Int.le_refl _, by show cnt s.jobs ≤ _; omega, by show s.tries.length ≤ _; omega⟩⟩
  | some k =>
    obtain ⟨j, hj, hfree, _⟩ := next_some h4
    have hjm := List.mem_of_getElem? hj
    have hask := h.sm.ask 0 (T + 7) (by omega)
    have hgive := h.sm.give hc hj
    rw [ask_some hc hal hw h4 hj] at hask ⊢
    obtain ⟨a1, a2, a3, a4⟩ := hask
    have a5 : (j.id, j.body) ∈ J := (a4 rfl).1
    have a6 : 0 ≤ (j.n : Int) ∧ (j.n : Int) ≤ 1000 := (a4 rfl).2
    refine ⟨rfl, .inr ⟨rfl, a5, a6, ?_⟩⟩
    obtain ⟨s2, hs2⟩ : ∃ s2, giveOut s 0 (T + 7) k j = s2 := ⟨_, rfl⟩
    have hlt := (List.getElem?_eq_some_iff.1 hj).1
    have hjobs : s2.jobs = s.jobs.set k { j with n := j.n + 1 } := by rw [← hs2]; rfl
    have hj2 : s2.jobs[k]? = some { j with n := j.n + 1 } := by rw [hjobs, List.getElem?_set, if_pos rfl, if_pos hlt]
    have hopen : j.ans.isNone = true := by unfold free at hfree; simp at hfree; simpa using hfree.1
    have hsome : j.ans.isSome = false := by cases hq : j.ans with
      | none => rfl
      | some a => rw [hq] at hopen; cases hopen
    have hcnt2 : cnt s2.jobs = cnt s.jobs := by
      have h1 := cnt_set (j' := { j with n := j.n + 1, ans := some ⟨0, 0, []⟩ }) hj hopen rfl
      have h2 := cnt_set (j' := { j with n := j.n + 1, ans := some ⟨0, 0, []⟩ }) hj2 hopen rfl
      rw [hjobs, List.set_set] at h2
      rw [hjobs]
      omega
    rw [hs2] at hgive a1 a2 ⊢
    show Fin J res nw lim (i + 1) (T + 7) (Pl.answer s2 j.id 0 (j.n : Int) (res j.body) (T + 7)).1
    have hc2 : check s2 0 (T + 7) = 0 := by
      have := h.sm.al
      rw [← hs2]
      unfold check giveOut
      dsimp only
      rw [if_neg (by omega), if_neg (by omega)]
    have hf : findJ s2.jobs ({ j with n := j.n + 1 } : Job).id = some k := findJ_at hgive.wf.rise hj2
    replace hf : findJ s2.jobs j.id = some k := hf
    have hk : known s2 j.id 0 (j.n : Int) = true := by
      unfold known
      rw [List.any_eq_true]
      refine ⟨⟨j.id, (j.n : Int), 0, T + 7, false⟩, by rw [← hs2]; simp [giveOut], by simp⟩
    have hrl : (res j.body).length ≤ 65536 := hres _ a5
    rw [answer_first hc2 hf hk hrl hj2 hsome]
    have hcnt3 := cnt_set (j' := { j with n := j.n + 1, ans := some ⟨0, (j.n : Int), res j.body⟩ }) hj2 hopen rfl
    have hop := h.op
    refine ⟨hgive.set (w := 0) ht (by rw [← hs2]; exact Int.le_refl _) hj2 ⟨hrl, ⟨by show (0 : Int) ≤ 0; omega, by show (0 : Int) < 8; omega⟩, by show (0 : Int) ≤ (j.n : Int) ∧ (j.n : Int) ≤ _; have := a6; omega⟩ rfl, ?_, Int.le_refl _, ?_, ?_⟩
    · show s2.alive.getD 0 false = true; rw [← hs2]; exact h.al
    · show cnt (s2.jobs.set k { j with n := j.n + 1, ans := some ⟨0, (j.n : Int), res j.body⟩ }) ≤ 10 - (i + 1); omega
    · show s2.tries.length ≤ _; rw [← hs2]; show (s.tries ++ _).length ≤ _; rw [List.length_append]; simp; omega
theorem dones_of {l : List Job} (h : ∀ j ∈ l, j.ans.isSome = true) : (l.filterMap (fun j => j.ans.map (fun a => (j.id, a)))).length = l.length ∧ ∀ (i : Nat) (j : Job), l[i]? = some j → ∃ a, j.ans = some a ∧ (l.filterMap (fun j => j.ans.map (fun a => (j.id, a))))[i]? = some (j.id, a) := by
  induction l with
  | nil => exact ⟨rfl, fun i j hj => by simp at hj⟩
  | cons x r ih =>
    obtain ⟨h1, h2⟩ := ih (fun j hj => h j (by simp [hj]))
    obtain ⟨a, ha⟩ := Option.isSome_iff_exists.1 (h x (by simp))
    rw [List.filterMap_cons, ha]
    refine ⟨by simp [h1], fun i j hj => ?_⟩
    cases i with
    | zero =>
      have e : x = j := by simpa using hj
      subst e
      exact ⟨a, ha, rfl⟩
    | succ i =>
      obtain ⟨b, hb1, hb2⟩ := h2 i j (by simpa using hj)
      exact ⟨b, hb1, by simpa using hb2⟩
theorem Fin.done {T : Int} (h : Fin J res nw lim 12 T s) : opens s = [] ∧ (dones s).length = J.length ∧ ∀ (i : Nat) (p : Int × List UInt8), J[i]? = some p → ∃ a : Ans, (dones s)[i]? = some (p.1, a) ∧ a.body = res p.2 := by
  have h0 : cnt s.jobs = 0 := by have := h.op; omega
  have hall := cnt_zero h0
  obtain ⟨h1, h2⟩ := dones_of hall
  refine ⟨?_, ?_, fun i p hp => ?_⟩
  · unfold opens
    unfold cnt at h0
    rw [List.eq_nil_of_length_eq_zero h0]
    rfl
  · unfold dones
    rw [h1, ← h.sm.jobs, List.length_map]
  · rw [← h.sm.jobs, List.getElem?_map] at hp
    cases hj : s.jobs[i]? with
    | none => rw [hj] at hp; cases hp
    | some j =>
      rw [hj] at hp
      injection hp with hp
      subst hp
      obtain ⟨a, ha1, ha2⟩ := h2 i j hj
      exact ⟨a, ha2, h.sm.an j (List.mem_of_getElem? hj) a ha1⟩
end
/-! ### the tasks are added -/
theorem insJ_last {l : List Job} {j : Job} (h : ∀ x ∈ l, x.id < j.id) : insJ j l = l ++ [j] := by
  induction l with
  | nil => rfl
  | cons x r ih =>
    have h1 := h x (by simp)
    show (if x.id < j.id then x :: insJ j r else j :: x :: r) = _
    rw [if_pos h1, ih (fun y hy => h y (by simp [hy]))]
    rfl
/-- The tasks of the first i bodies. -/
def tasks (b : Nat → List UInt8) (i : Nat) : List (Int × List UInt8) := (List.range i).map (fun (k : Nat) => (3 * (k : Int), b k))
theorem tasks_succ (b : Nat → List UInt8) (i : Nat) : tasks b (i + 1) = tasks b i ++ [(3 * (i : Int), b i)] := by unfold tasks; rw [List.range_succ, List.map_append]; rfl
theorem tasks_at (b : Nat → List UInt8) {i n : Nat} (h : i < n) : (tasks b n)[i]? = some (3 * (i : Int), b i) := by
  unfold tasks
  rw [List.getElem?_map, List.getElem?_range h]
  rfl
theorem tasks_len (b : Nat → List UInt8) (n : Nat) : (tasks b n).length = n := by simp [tasks]
structure Adds (b : Nat → List UInt8) (nw : Nat) (lim : Int) (i : Nat) (s : S) : Prop where
  wf : WF s
  jobs : s.jobs.map (fun j => (j.id, j.body)) = tasks b i
  al : s.alive.length = nw
  to : s.timeout = lim
  an : ∀ j ∈ s.jobs, j.ans = none
  tr : s.tries = []
  tk : s.tick = 0
theorem Adds.start (b : Nat → List UInt8) {nw : Nat} {lim : Int} (h1 : 1 ≤ nw ∧ nw ≤ 8) (h2 : 1 ≤ lim ∧ lim ≤ 1099511627776) : Adds b nw lim 0 (new nw lim) :=
  ⟨WF.new h1.1 h1.2 h2.1 h2.2, rfl, by simp [new], rfl, by simp [new], rfl, rfl⟩
theorem Adds.add {b : Nat → List UInt8} {nw : Nat} {lim : Int} {i : Nat} {s : S} (h : Adds b nw lim i s) (hi : i < 1000) (hb : (b i).length ≤ 65536) : (Pl.add s (3 * (i : Int)) (b i)).2 = 0 ∧ Adds b nw lim (i + 1) (Pl.add s (3 * (i : Int)) (b i)).1 := by
  have hlen : s.jobs.length = i := by have := congrArg List.length h.jobs; rwa [List.length_map, tasks_len] at this
  have hids : ∀ x ∈ s.jobs, x.id < 3 * (i : Int) := fun x hx => by
    have : (x.id, x.body) ∈ tasks b i := by rw [← h.jobs]; exact List.mem_map.2 ⟨x, hx, rfl⟩
    obtain ⟨k, hk, e⟩ := List.mem_map.1 this
    have := List.mem_range.1 hk
    injection e with e1 _
    omega
  have hf : findJ s.jobs (3 * (i : Int)) = none := by
    cases hf : findJ s.jobs (3 * (i : Int)) with
    | none => rfl
    | some k =>
      obtain ⟨j, hj, e⟩ := findJ_some hf
      have := hids j (List.mem_of_getElem? hj)
      omega
  have e : Go.Pl.add s (3 * (i : Int)) (b i) = ({ s with jobs := insJ ⟨3 * (i : Int), b i, 0, none⟩ s.jobs }, 0) := by
    unfold Go.Pl.add
    rw [if_neg (by omega), if_neg (by omega), if_neg (by rw [hf]; simp)]
  have hw := h.wf.add (3 * (i : Int)) (b i) (by omega)
  rw [e] at hw ⊢
  rw [insJ_last (by exact hids)] at hw ⊢
  refine ⟨rfl, hw, by show (s.jobs ++ _).map _ = _; rw [List.map_append, h.jobs, tasks_succ]; rfl, h.al, h.to, fun x hx => ?_, h.tr, h.tk⟩
  rcases List.mem_append.1 hx with hx | hx
  · exact h.an x hx
  · rw [List.mem_singleton] at hx
    rw [hx]
theorem Adds.sm {b : Nat → List UInt8} {nw : Nat} {lim : Int} {i : Nat} {s : S} (h : Adds b nw lim i s) (res : List UInt8 → List UInt8) : Sm (tasks b i) res nw lim s :=
  ⟨h.wf, h.jobs, h.al, h.to, fun j hj a ha => (by rw [h.an j hj] at ha; cases ha), fun t ht => by rw [h.tr] at ht; simp at ht⟩
end Go.Pl
