/- Many tasks, one worker: what PoolMany asks of the plain pool. No program is named here. -/
import Derived.Test.YtbmplfhcdkeooaaPurePool
namespace Go.Pl
set_option linter.unusedVariables false

/-- A pool of one worker in which i tasks have been added, with IDs from k on, modulo n. -/
structure Fill (n k i : Nat) (s : S) : Prop where
  wf : WF s
  al : s.alive = [true]
  to : s.timeout = 1
  tk : s.tick = 0
  tr : s.tries = []
  len : s.jobs.length = min i 1024
  job : ∀ j ∈ s.jobs, j.ans = none ∧ j.n = 0 ∧ j.body = [] ∧ ∃ r, r < i ∧ j.id = (((r + k) % n : Nat) : Int)
theorem Fill.start (n k : Nat) : Fill n k 0 (new 1 1) := ⟨WF.new (by omega) (by omega) (by omega) (by omega), rfl, rfl, rfl, rfl, by simp [new], by simp [new]⟩
theorem mod_ne {n a b : Nat} (h : a < b) (h2 : b - a < n) : a % n ≠ b % n := fun e => by
  have := Nat.sub_mod_eq_zero_of_mod_eq e.symm
  have h3 : (b - a) % n = b - a := Nat.mod_eq_of_lt h2
  omega
theorem Fill.add {n k i : Nat} {s : S} (h : Fill n k i s) (hi : i < n) (hn : n ≤ 100000) : (add s (((i + k) % n : Nat) : Int) []).2 = (if i < 1024 then 0 else 4) ∧ Fill n k (i + 1) (add s (((i + k) % n : Nat) : Int) []).1 := by
  have hm : (i + k) % n < n := Nat.mod_lt _ (by omega)
  by_cases h1 : i < 1024
  · have hl : s.jobs.length = i := by rw [h.len]; omega
    have hf : findJ s.jobs (((i + k) % n : Nat) : Int) = none := by
      cases hf : findJ s.jobs (((i + k) % n : Nat) : Int) with
      | none => rfl
      | some x =>
        obtain ⟨j, hj, e⟩ := findJ_some hf
        obtain ⟨_, _, _, r, hr, e2⟩ := h.job j (List.mem_of_getElem? hj)
        have : (r + k) % n = (i + k) % n := by omega
        exact absurd this (mod_ne (by omega) (by omega))
    have e : Go.Pl.add s (((i + k) % n : Nat) : Int) [] = ({ s with jobs := insJ ⟨(((i + k) % n : Nat) : Int), [], 0, none⟩ s.jobs }, 0) := by
      unfold Go.Pl.add
      rw [if_neg (by omega), if_neg (by simp; omega), if_neg (by rw [hf]; simp)]
    have hw := h.wf.add (((i + k) % n : Nat) : Int) [] (by omega)
    rw [e] at hw
    rw [e, if_pos h1]
    refine ⟨rfl, hw, h.al, h.to, h.tk, h.tr, ?_, fun j hj => ?_⟩
    · show (insJ _ s.jobs).length = _
      rw [insJ_len]; omega
    · rcases mem_insJ.1 hj with rfl | hj
      · exact ⟨rfl, rfl, rfl, i, by omega, rfl⟩
      · obtain ⟨q1, q2, q3, r, q4, q5⟩ := h.job j hj
        exact ⟨q1, q2, q3, r, by omega, q5⟩
  · have hl : s.jobs.length = 1024 := by rw [h.len]; omega
    have e : Go.Pl.add s (((i + k) % n : Nat) : Int) [] = (s, 4) := by
      unfold Go.Pl.add
      rw [if_neg (by omega), if_pos (.inr (by omega))]
    rw [e, if_neg h1]
    refine ⟨rfl, h.wf, h.al, h.to, h.tk, h.tr, by show s.jobs.length = _; omega, fun j hj => ?_⟩
    obtain ⟨q1, q2, q3, r, q4, q5⟩ := h.job j hj
    exact ⟨q1, q2, q3, r, by omega, q5⟩
theorem Fill.opens {n k i : Nat} {s : S} (h : Fill n k i s) : opens s = s.jobs.map (·.id) := by
  unfold Go.Pl.opens
  rw [List.filter_eq_self.2 (fun j hj => by rw [(h.job j hj).1]; rfl)]
/-- The first i tasks of J are answered, the others as they were. -/
structure Rnd (J : List Job) (i : Nat) (s : S) : Prop where
  wf : WF s
  al : s.alive = [true]
  to : s.timeout = 1
  tk : s.tick ≤ (i : Int)
  len : s.jobs.length = J.length
  old : ∀ r j, r < i → s.jobs[r]? = some j → j.ans.isSome = true ∧ ∃ j0, J[r]? = some j0 ∧ j0.id = j.id
  rest : ∀ r, i ≤ r → s.jobs[r]? = J[r]?
  tr : ∀ t ∈ s.tries, ∃ r j, r < i ∧ s.jobs[r]? = some j ∧ j.id = t.task
  trl : s.tries.length ≤ i
theorem Fill.rnd {n k i : Nat} {s : S} (h : Fill n k i s) : Rnd s.jobs 0 s := ⟨h.wf, h.al, h.to, by rw [h.tk]; omega, rfl, fun r j hr => by omega, fun r _ => rfl, fun t ht => by rw [h.tr] at ht; simp at ht, by rw [h.tr]; simp⟩
theorem ids_at {J : List Job} {i : Nat} {s : S} (h : Rnd J i s) {r : Nat} {j : Job} (hj : s.jobs[r]? = some j) : (J.map (·.id))[r]? = some j.id := by
  rw [List.getElem?_map]
  by_cases hr : r < i
  · obtain ⟨_, j0, h1, h2⟩ := h.old r j hr hj
    rw [h1]
    show some j0.id = _
    rw [h2]
  · rw [← h.rest r (by omega), hj]
    rfl
theorem Rnd.ask {J : List Job} {i : Nat} {s : S} (h : Rnd J i s) (hJ : ∀ j ∈ J, j.ans = none ∧ j.n = 0 ∧ j.body = []) (hi : i < J.length) (hi5 : i < 100) {j : Job} (hj : J[i]? = some j) : Go.Pl.ask s 0 (i : Int) = (giveOut s 0 (i : Int) i j, ⟨j.id, [], 0, true, 0⟩) := by
  have hjm := List.mem_of_getElem? hj
  obtain ⟨j1, j2, j3⟩ := hJ j hjm
  have hsj : s.jobs[i]? = some j := by rw [h.rest i (Nat.le_refl _)]; exact hj
  have hc : check s 0 (i : Int) = 0 := by
    unfold check
    have := h.tk
    rw [h.al, if_neg (by simp; omega), if_neg (by omega)]
  have hal : s.alive.getD (0 : Int).toNat false = true := by rw [h.al]; rfl
  have hno : ∀ t ∈ s.tries, running s t (i : Int) = false := fun t ht => by
    obtain ⟨r, x, hr, hx, e⟩ := h.tr t ht
    unfold running
    rw [← e, answered_at h.wf (List.mem_of_getElem? hx), (h.old r x hr hx).1]
    rfl
  have hw : works s 0 (i : Int) = false := by
    unfold works
    rw [List.any_eq_false]
    intro t ht
    rw [hno t ht]
    simp
  have hg : ∀ id, given s id (i : Int) = false := fun id => by
    unfold given
    rw [List.any_eq_false]
    intro t ht
    rw [hno t ht]
    simp
  have hn : next s (i : Int) = some i := next_of hsj (by unfold free; rw [j1, hg]; rfl) (fun r hr x hx => by
    unfold free
    have := (h.old r x hr hx).1
    cases hq : x.ans with
    | none => rw [hq] at this; cases this
    | some a => rfl)
  rw [ask_some hc hal hw hn hsj, j3, j2]
  rfl
theorem Rnd.answer {J : List Job} {i : Nat} {s : S} (h : Rnd J i s) (hJ : ∀ j ∈ J, j.ans = none ∧ j.n = 0 ∧ j.body = []) (hi : i < J.length) (hi5 : i < 100) {j : Job} (hj : J[i]? = some j) :
    (Go.Pl.answer (giveOut s 0 (i : Int) i j) j.id 0 0 [] (i : Int)).2 = (true, 0) ∧ Rnd J (i + 1) (Go.Pl.answer (giveOut s 0 (i : Int) i j) j.id 0 0 [] (i : Int)).1 := by
  have hjm := List.mem_of_getElem? hj
  obtain ⟨j1, j2, j3⟩ := hJ j hjm
  have hsj : s.jobs[i]? = some j := by rw [h.rest i (Nat.le_refl _)]; exact hj
  have hc : check s 0 (i : Int) = 0 := by
    unfold check
    have := h.tk
    rw [h.al, if_neg (by simp; omega), if_neg (by omega)]
  have hw2 := h.wf.giveOut hsj hc
  obtain ⟨s2, hs2⟩ : ∃ s2, giveOut s 0 (i : Int) i j = s2 := ⟨_, rfl⟩
  have hjobs : s2.jobs = s.jobs.set i { j with n := j.n + 1 } := by rw [← hs2]; rfl
  have hlt : i < s.jobs.length := by rw [h.len]; exact hi
  have hj2 : s2.jobs[i]? = some { j with n := j.n + 1 } := by rw [hjobs, List.getElem?_set, if_pos rfl, if_pos hlt]
  rw [hs2] at hw2 ⊢
  have hc2 : check s2 0 (i : Int) = 0 := by
    rw [← hs2]
    unfold check giveOut
    dsimp only
    rw [h.al, if_neg (by simp; omega), if_neg (by omega)]
  have hf : findJ s2.jobs ({ j with n := j.n + 1 } : Job).id = some i := findJ_at hw2.rise hj2
  replace hf : findJ s2.jobs j.id = some i := hf
  have hk : known s2 j.id 0 0 = true := by
    unfold known
    rw [List.any_eq_true]
    refine ⟨⟨j.id, (j.n : Int), 0, (i : Int), false⟩, by rw [← hs2]; simp [giveOut], ?_⟩
    rw [j2]
    simp
  have e := answer_first (body := []) hc2 hf hk (by simp) hj2 (by show j.ans.isSome = false; rw [j1]; rfl)
  have hw3 := hw2.answer j.id 0 0 [] (i : Int) (by omega)
  rw [e] at hw3 ⊢
  have hjobs3 : (setAns s2 i { j with n := j.n + 1 } ⟨0, 0, []⟩ (i : Int)).jobs = s.jobs.set i { j with n := j.n + 1, ans := some ⟨0, 0, []⟩ } := by
    show s2.jobs.set i _ = _
    rw [hjobs, List.set_set]
  refine ⟨rfl, hw3, ?_, ?_, ?_, ?_, fun r x hr hx => ?_, fun r hr => ?_, fun t ht => ?_, ?_⟩
  · show s2.alive = _; rw [← hs2]; exact h.al
  · show s2.timeout = _; rw [← hs2]; exact h.to
  · show (i : Int) ≤ _; omega
  · rw [hjobs3, List.length_set]; exact h.len
  · rw [hjobs3, List.getElem?_set] at hx
    split at hx
    · rename_i e2
      subst e2
      try rw [if_pos hlt] at hx
      injection hx with hx
      subst hx
      exact ⟨rfl, j, hj, rfl⟩
    · rename_i e2
      exact h.old r x (by omega) hx
  · rw [hjobs3, List.getElem?_set, if_neg (by omega)]
    exact h.rest r (by omega)
  · have ht : t ∈ s2.tries := ht
    rw [← hs2] at ht
    rcases List.mem_append.1 ht with ht | ht
    · obtain ⟨r, x, hr, hx, e2⟩ := h.tr t ht
      exact ⟨r, x, by omega, by rw [hjobs3, List.getElem?_set, if_neg (by omega)]; exact hx, e2⟩
    · rw [List.mem_singleton] at ht
      subst ht
      exact ⟨i, { j with n := j.n + 1, ans := some ⟨0, 0, []⟩ }, by omega, by rw [hjobs3, List.getElem?_set, if_pos rfl, if_pos hlt], rfl⟩
  · show s2.tries.length ≤ i + 1
    rw [← hs2]
    show (s.tries ++ _).length ≤ _
    rw [List.length_append]
    have := h.trl
    simp
    omega
end Go.Pl
