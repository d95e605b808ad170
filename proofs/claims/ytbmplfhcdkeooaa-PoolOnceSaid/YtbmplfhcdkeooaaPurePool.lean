/- The pool as a plain state: its functions and what stays true of it. No program is named here. -/
namespace Go.Pl
set_option linter.unusedVariables false

/-- The answer to a task: worker, number of the try, bytes. -/
structure Ans where
  worker : Int
  num : Int
  body : List UInt8
/-- A task: its ID, its bytes, how often it was given out, its answer. -/
structure Job where
  id : Int
  body : List UInt8
  n : Nat
  ans : Option Ans
/-- A try: the task, its number, the worker, the tick, whether the worker has died since. -/
structure Tr where
  task : Int
  num : Int
  worker : Int
  tick : Int
  over : Bool
/-- A pool: the tasks are sorted by their IDs; the tries as they were given out. -/
structure S where
  alive : List Bool
  timeout : Int
  tick : Int
  jobs : List Job
  tries : List Tr

def new (workers : Nat) (timeout : Int) : S := ⟨List.replicate workers true, timeout, 0, [], []⟩
def findJ (l : List Job) (id : Int) : Option Nat := l.findIdx? (fun j => j.id == id)
def find (s : S) (id : Int) : Int := match findJ s.jobs id with | some k => (k : Int) | none => -1
def jobOf (s : S) (id : Int) : Option Job := s.jobs.find? (fun j => j.id == id)
def answered (s : S) (id : Int) : Bool := match jobOf s id with | some j => j.ans.isSome | none => false
def running (s : S) (t : Tr) (tick : Int) : Bool := !answered s t.task && !t.over && decide (tick < t.tick + s.timeout)
def check (s : S) (worker tick : Int) : Int := if worker < 0 ∨ (s.alive.length : Int) ≤ worker ∨ tick < 0 ∨ 1099511627776 < tick then 1 else if tick < s.tick then 21 else 0
def insJ (j : Job) : List Job → List Job
  | [] => [j]
  | x :: r => if x.id < j.id then x :: insJ j r else j :: x :: r
def add (s : S) (id : Int) (body : List UInt8) : S × Int :=
  if id < 0 then (s, 1) else if 65536 < body.length ∨ 1024 ≤ s.jobs.length then (s, 4) else if (findJ s.jobs id).isSome then (s, 8) else ({ s with jobs := insJ ⟨id, body, 0, none⟩ s.jobs }, 0)
def works (s : S) (worker tick : Int) : Bool := s.tries.any (fun t => t.worker == worker && running s t tick)
def given (s : S) (id tick : Int) : Bool := s.tries.any (fun t => t.task == id && running s t tick)
def free (s : S) (tick : Int) (j : Job) : Bool := j.ans.isNone && !given s j.id tick
def next (s : S) (tick : Int) : Option Nat := s.jobs.findIdx? (free s tick)
/-- What Ask gives: the task's ID and bytes, the number of the try, whether there is one, the error. -/
structure Got where
  id : Int
  body : List UInt8
  num : Int
  is : Bool
  err : Int
def giveOut (s : S) (worker tick : Int) (k : Nat) (j : Job) : S := { s with tick := tick, jobs := s.jobs.set k { j with n := j.n + 1 }, tries := s.tries ++ [⟨j.id, (j.n : Int), worker, tick, false⟩] }
def ask (s : S) (worker tick : Int) : S × Got :=
  if check s worker tick ≠ 0 then (s, ⟨0, [], 0, false, check s worker tick⟩)
  else if s.alive.getD worker.toNat false = false then (s, ⟨0, [], 0, false, 24⟩)
  else if works s worker tick = true then (s, ⟨0, [], 0, false, 20⟩)
  else match next s tick with
    | none => ({ s with tick := tick }, ⟨0, [], 0, false, 0⟩)
    | some k => match s.jobs[k]? with
      | none => ({ s with tick := tick }, ⟨0, [], 0, false, 0⟩)
      | some j => (giveOut s worker tick k j, ⟨j.id, j.body, (j.n : Int), true, 0⟩)
def known (s : S) (task worker num : Int) : Bool := s.tries.any (fun t => t.task == task && t.num == num && t.worker == worker)
def setAns (s : S) (k : Nat) (j : Job) (a : Ans) (tick : Int) : S := { s with tick := tick, jobs := s.jobs.set k { j with ans := some a } }
def answer (s : S) (task worker num : Int) (body : List UInt8) (tick : Int) : S × Bool × Int :=
  if check s worker tick ≠ 0 then (s, false, check s worker tick)
  else match findJ s.jobs task with
    | none => (s, false, 7)
    | some k =>
      if known s task worker num = false then (s, false, 22)
      else if 65536 < body.length then (s, false, 4)
      else match s.jobs[k]? with
        | none => (s, false, 7)
        | some j => if j.ans.isSome then ({ s with tick := tick }, false, 0) else (setAns s k j ⟨worker, num, body⟩ tick, true, 0)
def lose (worker : Int) (t : Tr) : Tr := if t.worker = worker then { t with over := true } else t
def die (s : S) (worker tick : Int) : S × Int :=
  if check s worker tick ≠ 0 then (s, check s worker tick)
  else if s.alive.getD worker.toNat false = false then (s, 25)
  else ({ s with tick := tick, alive := s.alive.set worker.toNat false, tries := s.tries.map (lose worker) }, 0)
def revive (s : S) (worker : Int) : S × Int :=
  if worker < 0 ∨ (s.alive.length : Int) ≤ worker then (s, 1)
  else if s.alive.getD worker.toNat false = true then (s, 25)
  else ({ s with alive := s.alive.set worker.toNat true }, 0)
def opens (s : S) : List Int := (s.jobs.filter (fun j => j.ans.isNone)).map (·.id)
/-- The answers: ID, worker, number of the try, bytes. -/
def dones (s : S) : List (Int × Ans) := s.jobs.filterMap (fun j => j.ans.map (fun a => (j.id, a)))

/-- The tries of one task. -/
def triesOf (s : S) (id : Int) : List Tr := s.tries.filter (fun t => t.task == id)
structure WF (s : S) : Prop where
  al : 1 ≤ s.alive.length ∧ s.alive.length ≤ 8
  to : 1 ≤ s.timeout ∧ s.timeout ≤ 1099511627776
  tk : 0 ≤ s.tick ∧ s.tick ≤ 1099511627776
  len : s.jobs.length ≤ 1024
  rise : s.jobs.Pairwise (fun a b => a.id < b.id)
  idr : ∀ j ∈ s.jobs, 0 ≤ j.id ∧ j.id ≤ 9223372036854775807
  bl : ∀ j ∈ s.jobs, j.body.length ≤ 65536
  an : ∀ j ∈ s.jobs, ∀ a, j.ans = some a → a.body.length ≤ 65536 ∧ (0 ≤ a.worker ∧ a.worker < 8) ∧ (0 ≤ a.num ∧ a.num ≤ 9223372036854775807)
  tr : ∀ t ∈ s.tries, (∃ j ∈ s.jobs, j.id = t.task) ∧ (0 ≤ t.tick ∧ t.tick ≤ 1099511627776) ∧ (0 ≤ t.worker ∧ t.worker < (s.alive.length : Int))
  num : ∀ j ∈ s.jobs, (triesOf s j.id).length = j.n ∧ ∀ (k : Nat) (t : Tr), (triesOf s j.id)[k]? = some t → t.num = (k : Int)

/-! ### sorted tasks -/
theorem rise_uniq {l : List Job} (h : l.Pairwise (fun a b => a.id < b.id)) {a b : Job} (ha : a ∈ l) (hb : b ∈ l) (e : a.id = b.id) : a = b := by
  induction l with
  | nil => simp at ha
  | cons x r ih =>
    obtain ⟨h1, h2⟩ := List.pairwise_cons.1 h
    rcases List.mem_cons.1 ha with rfl | ha'
    · rcases List.mem_cons.1 hb with rfl | hb'
      · rfl
      · have := h1 _ hb'; omega
    · rcases List.mem_cons.1 hb with rfl | hb'
      · have := h1 _ ha'; omega
      · exact ih h2 ha' hb'
theorem rise_at {l : List Job} (h : l.Pairwise (fun a b => a.id < b.id)) {i k : Nat} {a b : Job} (ha : l[i]? = some a) (hb : l[k]? = some b) (e : a.id = b.id) : i = k := by
  obtain ⟨hi, rfl⟩ := List.getElem?_eq_some_iff.1 ha
  obtain ⟨hk, rfl⟩ := List.getElem?_eq_some_iff.1 hb
  rcases Nat.lt_trichotomy i k with h1 | h1 | h1
  · have := List.pairwise_iff_getElem.1 h i k hi hk h1; omega
  · exact h1
  · have := List.pairwise_iff_getElem.1 h k i hk hi h1; omega
theorem findJ_some {l : List Job} {id : Int} {k : Nat} (h : findJ l id = some k) : ∃ j, l[k]? = some j ∧ j.id = id := by
  unfold findJ at h
  obtain ⟨h1, h2, _⟩ := List.findIdx?_eq_some_iff_getElem.1 h
  exact ⟨l[k], List.getElem?_eq_getElem h1, by simpa using h2⟩
theorem findJ_none {l : List Job} {id : Int} (h : findJ l id = none) : ∀ j ∈ l, j.id ≠ id := by
  unfold findJ at h
  intro j hj e
  have := List.findIdx?_eq_none_iff.1 h j hj
  simp [e] at this
theorem findJ_at {l : List Job} (h : l.Pairwise (fun a b => a.id < b.id)) {k : Nat} {j : Job} (hj : l[k]? = some j) : findJ l j.id = some k := by
  cases hf : findJ l j.id with
  | none => exact absurd rfl (findJ_none hf j (List.mem_of_getElem? hj))
  | some i =>
    obtain ⟨j', h1, h2⟩ := findJ_some hf
    rw [rise_at h h1 hj h2]
theorem jobOf_at {s : S} (h : WF s) {j : Job} (hj : j ∈ s.jobs) : jobOf s j.id = some j := by
  unfold jobOf
  cases hf : s.jobs.find? (fun x => x.id == j.id) with
  | none => have := List.find?_eq_none.1 hf j hj; simp at this
  | some x =>
    have h1 := List.mem_of_find?_eq_some hf
    have h2 := List.find?_some hf
    rw [rise_uniq h.rise h1 hj (by simpa using h2)]
theorem answered_at {s : S} (h : WF s) {j : Job} (hj : j ∈ s.jobs) : answered s j.id = j.ans.isSome := by
  unfold answered
  rw [jobOf_at h hj]
theorem mem_insJ {j x : Job} {l : List Job} : x ∈ insJ j l ↔ x = j ∨ x ∈ l := by
  induction l with
  | nil => simp [insJ]
  | cons y r ih =>
    unfold insJ
    split
    · rw [List.mem_cons, ih, List.mem_cons]
      constructor
      · rintro (h | h | h) <;> simp [h]
      · rintro (h | h | h) <;> simp [h]
    · simp
theorem insJ_len (j : Job) (l : List Job) : (insJ j l).length = l.length + 1 := by
  induction l with
  | nil => rfl
  | cons y r ih =>
    unfold insJ
    split
    · simp [ih]
    · simp
theorem insJ_rise {j : Job} {l : List Job} (h : l.Pairwise (fun a b => a.id < b.id)) (hn : ∀ x ∈ l, x.id ≠ j.id) : (insJ j l).Pairwise (fun a b => a.id < b.id) := by
  induction l with
  | nil => simp [insJ]
  | cons y r ih =>
    obtain ⟨h1, h2⟩ := List.pairwise_cons.1 h
    unfold insJ
    split
    · rename_i hlt
      refine List.pairwise_cons.2 ⟨fun x hx => ?_, ih h2 (fun x hx => hn x (by simp [hx]))⟩
      rcases mem_insJ.1 hx with rfl | hx
      · exact hlt
      · exact h1 x hx
    · rename_i hlt
      have hne := hn y (by simp)
      refine List.pairwise_cons.2 ⟨fun x hx => ?_, h⟩
      rcases List.mem_cons.1 hx with rfl | hx
      · omega
      · have := h1 x hx; omega

/-! ### what stays true -/
theorem WF.new {n : Nat} {t : Int} (h1 : 1 ≤ n) (h2 : n ≤ 8) (h3 : 1 ≤ t) (h4 : t ≤ 1099511627776) : WF (new n t) :=
  ⟨by simp [Go.Pl.new]; omega, ⟨h3, h4⟩, by simp [Go.Pl.new], by simp [Go.Pl.new], by simp [Go.Pl.new], by simp [Go.Pl.new], by simp [Go.Pl.new], by simp [Go.Pl.new], by simp [Go.Pl.new], by simp [Go.Pl.new]⟩
theorem WF.add {s : S} (h : WF s) (id : Int) (body : List UInt8) (hi : id ≤ 9223372036854775807) : WF (add s id body).1 := by
  unfold Go.Pl.add
  split
  · exact h
  split
  · exact h
  split
  · exact h
  rename_i h1 h2 h3
  have hn : ∀ x ∈ s.jobs, x.id ≠ id := findJ_none (by simpa using h3)
  refine ⟨h.al, h.to, h.tk, ?_, insJ_rise h.rise hn, fun j hj => ?_, fun j hj => ?_, fun j hj a ha => ?_, fun t ht => ?_, fun j hj => ?_⟩
  · show (insJ _ s.jobs).length ≤ 1024
    rw [insJ_len]; omega
  · rcases mem_insJ.1 hj with rfl | hj
    · exact ⟨by show (0 : Int) ≤ id; omega, hi⟩
    · exact h.idr j hj
  · rcases mem_insJ.1 hj with rfl | hj
    · show body.length ≤ 65536; omega
    · exact h.bl j hj
  · rcases mem_insJ.1 hj with rfl | hj
    · cases ha
    · exact h.an j hj a ha
  · obtain ⟨⟨j, hj, e⟩, h5⟩ := h.tr t ht
    exact ⟨⟨j, mem_insJ.2 (.inr hj), e⟩, h5⟩
  · rcases mem_insJ.1 hj with rfl | hj
    · have : triesOf { s with jobs := insJ ⟨id, body, 0, none⟩ s.jobs } id = [] := by
        unfold triesOf
        rw [List.filter_eq_nil_iff]
        intro t ht
        obtain ⟨⟨j, hj, e⟩, _⟩ := h.tr t ht
        have := hn j hj
        simp; omega
      show (triesOf _ id).length = 0 ∧ _
      rw [this]
      exact ⟨rfl, fun k t hk => by simp at hk⟩
    · exact h.num j hj
theorem WF.tick {s : S} (h : WF s) {t : Int} (h1 : 0 ≤ t) (h2 : t ≤ 1099511627776) : WF { s with tick := t } :=
  ⟨h.al, h.to, ⟨h1, h2⟩, h.len, h.rise, h.idr, h.bl, h.an, h.tr, h.num⟩
theorem check_zero {s : S} {w t : Int} (h : check s w t = 0) : (0 ≤ w ∧ w < (s.alive.length : Int)) ∧ (0 ≤ t ∧ t ≤ 1099511627776) ∧ s.tick ≤ t := by
  unfold check at h
  split at h
  · omega
  split at h
  · omega
  rename_i h1 h2
  omega
theorem check_range (s : S) (w t : Int) : check s w t = 0 ∨ check s w t = 1 ∨ check s w t = 21 := by
  unfold check
  split
  · simp
  · split <;> simp
/-- A task is replaced by one with the same ID. -/
theorem set_rise {l : List Job} {k : Nat} {j x : Job} (hl : l.Pairwise (fun a b => a.id < b.id)) (hj : l[k]? = some j) (e : x.id = j.id) : (l.set k x).Pairwise (fun a b => a.id < b.id) := by
  have h1 : (l.set k x).map (·.id) = l.map (·.id) := by
    apply List.ext_getElem?
    intro i
    rw [List.getElem?_map, List.getElem?_map, List.getElem?_set]
    by_cases hi : k = i
    · subst hi
      obtain ⟨hk, rfl⟩ := List.getElem?_eq_some_iff.1 hj
      simp [hk, e]
    · rw [if_neg hi]
  have h2 : (l.map (·.id)).Pairwise (· < ·) := List.pairwise_map.2 hl
  rw [← h1] at h2
  exact List.pairwise_map.1 h2
theorem mem_set_of {l : List Job} {k : Nat} {j x y : Job} (hl : l.Pairwise (fun a b => a.id < b.id)) (hj : l[k]? = some j) (hy : y ∈ l) : y = j ∨ y ∈ l.set k x := by
  obtain ⟨i, hi⟩ := List.getElem?_of_mem hy
  by_cases e : k = i
  · subst e
    rw [hj] at hi
    injection hi with hi
    exact .inl hi.symm
  · exact .inr (List.mem_of_getElem? (i := i) (by rw [List.getElem?_set, if_neg e]; exact hi))
theorem mem_set_self {l : List Job} {k : Nat} {j x : Job} (hj : l[k]? = some j) : x ∈ l.set k x :=
  List.mem_of_getElem? (i := k) (by rw [List.getElem?_set, if_pos rfl, if_pos (List.getElem?_eq_some_iff.1 hj).1])
theorem mem_set_ne {l : List Job} {k : Nat} {j x y : Job} (hl : l.Pairwise (fun a b => a.id < b.id)) (hj : l[k]? = some j) (e : x.id = j.id) (hy : y ∈ l.set k x) (hne : y ≠ x) : y ∈ l ∧ y.id ≠ j.id := by
  obtain ⟨i, hi⟩ := List.getElem?_of_mem hy
  rw [List.getElem?_set] at hi
  split at hi
  · split at hi
    · injection hi with hi; exact absurd hi.symm hne
    · cases hi
  · rename_i hki
    exact ⟨List.mem_of_getElem? hi, fun h => hki (rise_at hl hj hi h.symm)⟩
theorem triesOf_giveOut (s : S) (worker tick : Int) (k : Nat) (j : Job) (id : Int) : triesOf (giveOut s worker tick k j) id = triesOf s id ++ if j.id = id then [⟨j.id, (j.n : Int), worker, tick, false⟩] else [] := by
  unfold triesOf giveOut
  rw [List.filter_append]
  by_cases e : j.id = id <;> simp [e]
theorem WF.giveOut {s : S} (h : WF s) {k : Nat} {j : Job} (hj : s.jobs[k]? = some j) {worker tick : Int} (hc : check s worker tick = 0) : WF (giveOut s worker tick k j) := by
  have hm := List.mem_of_getElem? hj
  obtain ⟨hw, ht, _⟩ := check_zero hc
  have back : ∀ y ∈ s.jobs, ∃ z ∈ s.jobs.set k { j with n := j.n + 1 }, z.id = y.id := fun y hy => by
    rcases mem_set_of (x := { j with n := j.n + 1 }) h.rise hj hy with rfl | h1
    · exact ⟨_, mem_set_self hj, rfl⟩
    · exact ⟨y, h1, rfl⟩
  refine ⟨h.al, h.to, ht, by show (s.jobs.set _ _).length ≤ _; rw [List.length_set]; exact h.len, set_rise h.rise hj rfl, fun y hy => ?_, fun y hy => ?_, fun y hy a ha => ?_, fun t hT => ?_, fun y hy => ?_⟩
  · rcases List.mem_or_eq_of_mem_set hy with hy | rfl
    · exact h.idr y hy
    · exact h.idr j hm
  · rcases List.mem_or_eq_of_mem_set hy with hy | rfl
    · exact h.bl y hy
    · exact h.bl j hm
  · rcases List.mem_or_eq_of_mem_set hy with hy | rfl
    · exact h.an y hy a ha
    · exact h.an j hm a ha
  · rcases List.mem_append.1 hT with hT | hT
    · obtain ⟨⟨y, hy, e⟩, h5⟩ := h.tr t hT
      obtain ⟨z, hz, e2⟩ := back y hy
      exact ⟨⟨z, hz, e2.trans e⟩, h5⟩
    · rw [List.mem_singleton] at hT
      subst hT
      obtain ⟨z, hz, e2⟩ := back j hm
      exact ⟨⟨z, hz, e2⟩, ht, hw⟩
  · rw [triesOf_giveOut]
    by_cases e : j.id = y.id
    · have hyx : y = { j with n := j.n + 1 } := rise_uniq (set_rise (x := { j with n := j.n + 1 }) h.rise hj rfl) hy (mem_set_self hj) e.symm
      obtain ⟨h1, h2⟩ := h.num j hm
      rw [if_pos e, ← e, hyx]
      refine ⟨by rw [List.length_append, h1]; rfl, fun i t hi => ?_⟩
      rw [List.getElem?_append] at hi
      split at hi
      · exact h2 i t hi
      · rename_i hlt
        have hi0 : i - (triesOf s j.id).length = 0 := by
          have := (List.getElem?_eq_some_iff.1 hi).1
          simp at this; omega
        rw [hi0] at hi
        injection hi with hi
        subst hi
        show (j.n : Int) = (i : Int)
        omega
    · have hne : y ≠ { j with n := j.n + 1 } := fun h => e (by rw [h])
      obtain ⟨h1, _⟩ := mem_set_ne (x := { j with n := j.n + 1 }) h.rise hj rfl hy hne
      rw [if_neg e, List.append_nil]
      exact h.num y h1
theorem next_some {s : S} {tick : Int} {k : Nat} (h : next s tick = some k) : ∃ j, s.jobs[k]? = some j ∧ free s tick j = true ∧ ∀ i, i < k → ∀ x, s.jobs[i]? = some x → free s tick x = false := by
  unfold next at h
  obtain ⟨h1, h2, h3⟩ := List.findIdx?_eq_some_iff_getElem.1 h
  refine ⟨s.jobs[k], List.getElem?_eq_getElem h1, h2, fun i hi x hx => ?_⟩
  obtain ⟨h4, rfl⟩ := List.getElem?_eq_some_iff.1 hx
  simpa using h3 i hi
theorem next_none {s : S} {tick : Int} (h : next s tick = none) : ∀ j ∈ s.jobs, free s tick j = false := by
  unfold next at h
  exact List.findIdx?_eq_none_iff.1 h
theorem next_of {s : S} {tick : Int} {k : Nat} {j : Job} (hj : s.jobs[k]? = some j) (hf : free s tick j = true) (hb : ∀ i, i < k → ∀ x, s.jobs[i]? = some x → free s tick x = false) : next s tick = some k := by
  unfold next
  obtain ⟨hk, rfl⟩ := List.getElem?_eq_some_iff.1 hj
  exact List.findIdx?_eq_some_iff_getElem.2 ⟨hk, hf, fun i hi => by have := hb i hi _ (List.getElem?_eq_getElem (by omega)); simp [this]⟩
theorem next_all {s : S} {tick : Int} (h : ∀ j ∈ s.jobs, free s tick j = false) : next s tick = none := List.findIdx?_eq_none_iff.2 h
/-- What Ask does, way by way. -/
theorem ask_bad {s : S} {w t : Int} (h : check s w t ≠ 0) : ask s w t = (s, ⟨0, [], 0, false, check s w t⟩) := if_pos h
theorem ask_dead {s : S} {w t : Int} (h : check s w t = 0) (h2 : s.alive.getD w.toNat false = false) : ask s w t = (s, ⟨0, [], 0, false, 24⟩) := by
  unfold ask; rw [if_neg (by omega), if_pos h2]
theorem ask_busy {s : S} {w t : Int} (h : check s w t = 0) (h2 : s.alive.getD w.toNat false = true) (h3 : works s w t = true) : ask s w t = (s, ⟨0, [], 0, false, 20⟩) := by
  unfold ask; rw [if_neg (by omega), if_neg (by rw [h2]; simp), if_pos h3]
theorem ask_none {s : S} {w t : Int} (h : check s w t = 0) (h2 : s.alive.getD w.toNat false = true) (h3 : works s w t = false) (h4 : next s t = none) : ask s w t = ({ s with tick := t }, ⟨0, [], 0, false, 0⟩) := by
  unfold ask; rw [if_neg (by omega), if_neg (by rw [h2]; simp), if_neg (by rw [h3]; simp), h4]
theorem ask_some {s : S} {w t : Int} {k : Nat} {j : Job} (h : check s w t = 0) (h2 : s.alive.getD w.toNat false = true) (h3 : works s w t = false) (h4 : next s t = some k) (h5 : s.jobs[k]? = some j) : ask s w t = (giveOut s w t k j, ⟨j.id, j.body, (j.n : Int), true, 0⟩) := by
  unfold ask; rw [if_neg (by omega), if_neg (by rw [h2]; simp), if_neg (by rw [h3]; simp), h4]; dsimp only; rw [h5]
theorem WF.ask {s : S} (h : WF s) (w t : Int) : WF (ask s w t).1 := by
  by_cases hc : check s w t = 0
  · obtain ⟨_, ht, _⟩ := check_zero hc
    cases h2 : s.alive.getD w.toNat false with
    | false => rw [ask_dead hc h2]; exact h
    | true =>
      cases h3 : works s w t with
      | true => rw [ask_busy hc h2 h3]; exact h
      | false =>
        cases h4 : next s t with
        | none => rw [ask_none hc h2 h3 h4]; exact h.tick ht.1 ht.2
        | some k =>
          obtain ⟨j, hj, _⟩ := next_some h4
          rw [ask_some hc h2 h3 h4 hj]
          exact h.giveOut hj hc
  · rw [ask_bad hc]; exact h
theorem WF.setAns {s : S} (h : WF s) {k : Nat} {j : Job} (hj : s.jobs[k]? = some j) {a : Ans} {tick : Int} (ht : 0 ≤ tick ∧ tick ≤ 1099511627776) (ha : a.body.length ≤ 65536 ∧ (0 ≤ a.worker ∧ a.worker < 8) ∧ (0 ≤ a.num ∧ a.num ≤ 9223372036854775807)) : WF (setAns s k j a tick) := by
  have hm := List.mem_of_getElem? hj
  have back : ∀ y ∈ s.jobs, ∃ z ∈ s.jobs.set k { j with ans := some a }, z.id = y.id := fun y hy => by
    rcases mem_set_of (x := { j with ans := some a }) h.rise hj hy with rfl | h1
    · exact ⟨_, mem_set_self hj, rfl⟩
    · exact ⟨y, h1, rfl⟩
  refine ⟨h.al, h.to, ht, by show (s.jobs.set _ _).length ≤ _; rw [List.length_set]; exact h.len, set_rise h.rise hj rfl, fun y hy => ?_, fun y hy => ?_, fun y hy b hb => ?_, fun t hT => ?_, fun y hy => ?_⟩
  · rcases List.mem_or_eq_of_mem_set hy with hy | rfl
    · exact h.idr y hy
    · exact h.idr j hm
  · rcases List.mem_or_eq_of_mem_set hy with hy | rfl
    · exact h.bl y hy
    · exact h.bl j hm
  · rcases List.mem_or_eq_of_mem_set hy with hy | rfl
    · exact h.an y hy b hb
    · injection hb with hb; subst hb; exact ha
  · obtain ⟨⟨y, hy, e⟩, h5⟩ := h.tr t hT
    obtain ⟨z, hz, e2⟩ := back y hy
    exact ⟨⟨z, hz, e2.trans e⟩, h5⟩
  · rcases List.mem_or_eq_of_mem_set hy with hy | rfl
    · exact h.num y hy
    · exact h.num j hm
theorem known_at {s : S} (h : WF s) {j : Job} (hj : j ∈ s.jobs) (worker num : Int) : known s j.id worker num = true ↔ ∃ (k : Nat) (t : Tr), num = (k : Int) ∧ (triesOf s j.id)[k]? = some t ∧ t.worker = worker := by
  unfold known
  rw [List.any_eq_true]
  constructor
  · rintro ⟨t, ht, hb⟩
    simp only [Bool.and_eq_true, beq_iff_eq] at hb
    obtain ⟨⟨h1, h2⟩, h3⟩ := hb
    have hmem : t ∈ triesOf s j.id := List.mem_filter.2 ⟨ht, by simp [h1]⟩
    obtain ⟨k, hk⟩ := List.getElem?_of_mem hmem
    exact ⟨k, t, by rw [← h2]; exact (h.num j hj).2 k t hk, hk, h3⟩
  · rintro ⟨k, t, rfl, hk, h3⟩
    obtain ⟨h1, h2⟩ := List.mem_filter.1 (List.mem_of_getElem? hk)
    exact ⟨t, h1, by simp only [Bool.and_eq_true, beq_iff_eq]; exact ⟨⟨by simpa using h2, (h.num j hj).2 k t hk⟩, h3⟩⟩
theorem answer_bad {s : S} {task w num t : Int} {body : List UInt8} (h : check s w t ≠ 0) : answer s task w num body t = (s, false, check s w t) := if_pos h
theorem answer_none {s : S} {task w num t : Int} {body : List UInt8} (h : check s w t = 0) (h2 : findJ s.jobs task = none) : answer s task w num body t = (s, false, 7) := by
  unfold answer; rw [if_neg (by omega), h2]
theorem answer_stale {s : S} {task w num t : Int} {body : List UInt8} {k : Nat} (h : check s w t = 0) (h2 : findJ s.jobs task = some k) (h3 : known s task w num = false) : answer s task w num body t = (s, false, 22) := by
  unfold answer; rw [if_neg (by omega), h2]; dsimp only; rw [if_pos h3]
theorem answer_limit {s : S} {task w num t : Int} {body : List UInt8} {k : Nat} (h : check s w t = 0) (h2 : findJ s.jobs task = some k) (h3 : known s task w num = true) (h4 : 65536 < body.length) : answer s task w num body t = (s, false, 4) := by
  unfold answer; rw [if_neg (by omega), h2]; dsimp only; rw [if_neg (by rw [h3]; simp), if_pos h4]
theorem answer_late {s : S} {task w num t : Int} {body : List UInt8} {k : Nat} {j : Job} (h : check s w t = 0) (h2 : findJ s.jobs task = some k) (h3 : known s task w num = true) (h4 : body.length ≤ 65536) (h5 : s.jobs[k]? = some j) (h6 : j.ans.isSome = true) : answer s task w num body t = ({ s with tick := t }, false, 0) := by
  unfold answer; rw [if_neg (by omega), h2]; dsimp only; rw [if_neg (by rw [h3]; simp), if_neg (by omega), h5]; dsimp only; rw [if_pos h6]
theorem answer_first {s : S} {task w num t : Int} {body : List UInt8} {k : Nat} {j : Job} (h : check s w t = 0) (h2 : findJ s.jobs task = some k) (h3 : known s task w num = true) (h4 : body.length ≤ 65536) (h5 : s.jobs[k]? = some j) (h6 : j.ans.isSome = false) : answer s task w num body t = (setAns s k j ⟨w, num, body⟩ t, true, 0) := by
  unfold answer; rw [if_neg (by omega), h2]; dsimp only; rw [if_neg (by rw [h3]; simp), if_neg (by omega), h5]; dsimp only; rw [if_neg (by rw [h6]; simp)]
theorem WF.answer {s : S} (h : WF s) (task w num : Int) (body : List UInt8) (t : Int) (hr : num ≤ 9223372036854775807) : WF (answer s task w num body t).1 := by
  by_cases hc : check s w t = 0
  · obtain ⟨hw, ht, _⟩ := check_zero hc
    cases h2 : findJ s.jobs task with
    | none => rw [answer_none hc h2]; exact h
    | some k =>
      cases h3 : known s task w num with
      | false => rw [answer_stale hc h2 h3]; exact h
      | true =>
        by_cases h4 : 65536 < body.length
        · rw [answer_limit hc h2 h3 h4]; exact h
        · obtain ⟨j, h5, e⟩ := findJ_some h2
          cases h6 : j.ans.isSome with
          | true => rw [answer_late hc h2 h3 (by omega) h5 h6]; exact h.tick ht.1 ht.2
          | false =>
            rw [answer_first hc h2 h3 (by omega) h5 h6]
            subst e
            obtain ⟨i, tt, rfl, _⟩ := (known_at h (List.mem_of_getElem? h5) w num).1 h3
            have := h.al
            exact h.setAns h5 ht ⟨by show body.length ≤ 65536; omega, ⟨by show 0 ≤ w; omega, by show w < 8; omega⟩, by show (0 : Int) ≤ (i : Int) ∧ (i : Int) ≤ _; omega⟩
  · rw [answer_bad hc]; exact h
theorem triesOf_lose (s : S) (worker id : Int) (al : List Bool) (tk : Int) : triesOf { s with tick := tk, alive := al, tries := s.tries.map (lose worker) } id = (triesOf s id).map (lose worker) := by
  unfold triesOf
  rw [List.filter_map]
  congr 1
  refine List.filter_congr (fun t ht => ?_)
  show ((lose worker t).task == id) = (t.task == id)
  unfold lose
  split <;> rfl
theorem die_bad {s : S} {w t : Int} (h : check s w t ≠ 0) : die s w t = (s, check s w t) := if_pos h
theorem die_dead {s : S} {w t : Int} (h : check s w t = 0) (h2 : s.alive.getD w.toNat false = false) : die s w t = (s, 25) := by
  unfold die; rw [if_neg (by omega), if_pos h2]
theorem die_ok {s : S} {w t : Int} (h : check s w t = 0) (h2 : s.alive.getD w.toNat false = true) : die s w t = ({ s with tick := t, alive := s.alive.set w.toNat false, tries := s.tries.map (lose w) }, 0) := by
  unfold die; rw [if_neg (by omega), if_neg (by rw [h2]; simp)]
theorem WF.die {s : S} (h : WF s) (w t : Int) : WF (die s w t).1 := by
  by_cases hc : check s w t = 0
  · obtain ⟨_, ht, _⟩ := check_zero hc
    cases h2 : s.alive.getD w.toNat false with
    | false => rw [die_dead hc h2]; exact h
    | true =>
      rw [die_ok hc h2]
      refine ⟨by show 1 ≤ (s.alive.set _ _).length ∧ _; rw [List.length_set]; exact h.al, h.to, ht, h.len, h.rise, h.idr, h.bl, h.an, fun x hx => ?_, fun j hj => ?_⟩
      · obtain ⟨y, hy, rfl⟩ := List.mem_map.1 hx
        obtain ⟨h5, h6, h7⟩ := h.tr y hy
        show (∃ j ∈ s.jobs, j.id = (lose w y).task) ∧ (0 ≤ (lose w y).tick ∧ (lose w y).tick ≤ _) ∧ (0 ≤ (lose w y).worker ∧ (lose w y).worker < ((s.alive.set _ _).length : Int))
        rw [List.length_set]
        unfold lose
        split <;> exact ⟨h5, h6, h7⟩
      · rw [triesOf_lose]
        obtain ⟨h5, h6⟩ := h.num j hj
        refine ⟨by rw [List.length_map]; exact h5, fun k x hk => ?_⟩
        rw [List.getElem?_map] at hk
        cases hk2 : (triesOf s j.id)[k]? with
        | none => rw [hk2] at hk; cases hk
        | some y =>
          rw [hk2] at hk
          injection hk with hk
          subst hk
          have := h6 k y hk2
          unfold lose
          split <;> exact this
  · rw [die_bad hc]; exact h
theorem revive_bad {s : S} {w : Int} (h : w < 0 ∨ (s.alive.length : Int) ≤ w) : revive s w = (s, 1) := if_pos h
theorem revive_up {s : S} {w : Int} (h : ¬ (w < 0 ∨ (s.alive.length : Int) ≤ w)) (h2 : s.alive.getD w.toNat false = true) : revive s w = (s, 25) := by
  unfold revive; rw [if_neg h, if_pos h2]
theorem revive_ok {s : S} {w : Int} (h : ¬ (w < 0 ∨ (s.alive.length : Int) ≤ w)) (h2 : s.alive.getD w.toNat false = false) : revive s w = ({ s with alive := s.alive.set w.toNat true }, 0) := by
  unfold revive; rw [if_neg h, if_neg (by rw [h2]; simp)]
theorem WF.revive {s : S} (h : WF s) (w : Int) : WF (revive s w).1 := by
  by_cases hc : w < 0 ∨ (s.alive.length : Int) ≤ w
  · rw [revive_bad hc]; exact h
  · cases h2 : s.alive.getD w.toNat false with
    | true => rw [revive_up hc h2]; exact h
    | false =>
      rw [revive_ok hc h2]
      refine ⟨by show 1 ≤ (s.alive.set _ _).length ∧ _; rw [List.length_set]; exact h.al, h.to, h.tk, h.len, h.rise, h.idr, h.bl, h.an, fun x hx => ?_, h.num⟩
      have := h.tr x hx
      show _ ∧ _ ∧ (0 ≤ x.worker ∧ x.worker < ((s.alive.set _ _).length : Int))
      rw [List.length_set]
      exact this
end Go.Pl
