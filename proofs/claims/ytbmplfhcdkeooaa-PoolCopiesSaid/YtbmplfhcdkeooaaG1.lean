/- The parts PurePool, PurePl4, PurePl5, PurePl2 of the proof, in one text. -/
set_option linter.unusedSimpArgs false
set_option linter.unusedVariables false

namespace Go.Pl
set_option linter.unusedVariables false

/-- The answer to a task: worker, number of the try, bytes. -/
structure Ans where
  worker : Int
  num : Int
  body : List UInt8
/-- A task: its ID, its bytes, how often it was given out, its answer. -/
structure Job where
  id : Int
  body : List UInt8
  n : Nat
  ans : Option Ans
/-- A try: the task, its number, the worker, the tick, whether the worker has died since. -/
structure Tr where
  task : Int
  num : Int
  worker : Int
  tick : Int
  over : Bool
/-- A pool: the tasks are sorted by their IDs; the tries as they were given out. -/
structure S where
  alive : List Bool
  timeout : Int
  tick : Int
  jobs : List Job
  tries : List Tr

def new (workers : Nat) (timeout : Int) : S := ⟨List.replicate workers true, timeout, 0, [], []⟩
def findJ (l : List Job) (id : Int) : Option Nat := l.findIdx? (fun j => j.id == id)
def find (s : S) (id : Int) : Int := match findJ s.jobs id with | some k => (k : Int) | none => -1
def jobOf (s : S) (id : Int) : Option Job := s.jobs.find? (fun j => j.id == id)
def answered (s : S) (id : Int) : Bool := match jobOf s id with | some j => j.ans.isSome | none => false
def running (s : S) (t : Tr) (tick : Int) : Bool := !answered s t.task && !t.over && decide (tick < t.tick + s.timeout)
def check (s : S) (worker tick : Int) : Int := if worker < 0 ∨ (s.alive.length : Int) ≤ worker ∨ tick < 0 ∨ 1099511627776 < tick then 1 else if tick < s.tick then 21 else 0
def insJ (j : Job) : List Job → List Job
  | [] => [j]
  | x :: r => if x.id < j.id then x :: insJ j r else j :: x :: r
def add (s : S) (id : Int) (body : List UInt8) : S × Int :=
  if id < 0 then (s, 1) else if 65536 < body.length ∨ 1024 ≤ s.jobs.length then (s, 4) else if (findJ s.jobs id).isSome then (s, 8) else ({ s with jobs := insJ ⟨id, body, 0, none⟩ s.jobs }, 0)
def works (s : S) (worker tick : Int) : Bool := s.tries.any (fun t => t.worker == worker && running s t tick)
def given (s : S) (id tick : Int) : Bool := s.tries.any (fun t => t.task == id && running s t tick)
def free (s : S) (tick : Int) (j : Job) : Bool := j.ans.isNone && !given s j.id tick
def next (s : S) (tick : Int) : Option Nat := s.jobs.findIdx? (free s tick)
/-- What Ask gives: the task's ID and bytes, the number of the try, whether there is one, the error. -/
structure Got where
  id : Int
  body : List UInt8
  num : Int
  is : Bool
  err : Int
def giveOut (s : S) (worker tick : Int) (k : Nat) (j : Job) : S := { s with tick := tick, jobs := s.jobs.set k { j with n := j.n + 1 }, tries := s.tries ++ [⟨j.id, (j.n : Int), worker, tick, false⟩] }
def ask (s : S) (worker tick : Int) : S × Got :=
  if check s worker tick ≠ 0 then (s, ⟨0, [], 0, false, check s worker tick⟩)
  else if s.alive.getD worker.toNat false = false then (s, ⟨0, [], 0, false, 24⟩)
  else if works s worker tick = true then (s, ⟨0, [], 0, false, 20⟩)
  else match next s tick with
    | none => ({ s with tick := tick }, ⟨0, [], 0, false, 0⟩)
    | some k => match s.jobs[k]? with
      | none => ({ s with tick := tick }, ⟨0, [], 0, false, 0⟩)
      | some j => (giveOut s worker tick k j, ⟨j.id, j.body, (j.n : Int), true, 0⟩)
def known (s : S) (task worker num : Int) : Bool := s.tries.any (fun t => t.task == task && t.num == num && t.worker == worker)
def setAns (s : S) (k : Nat) (j : Job) (a : Ans) (tick : Int) : S := { s with tick := tick, jobs := s.jobs.set k { j with ans := some a } }
def answer (s : S) (task worker num : Int) (body : List UInt8) (tick : Int) : S × Bool × Int :=
  if check s worker tick ≠ 0 then (s, false, check s worker tick)
  else match findJ s.jobs task with
    | none => (s, false, 7)
    | some k =>
      if known s task worker num = false then (s, false, 22)
      else if 65536 < body.length then (s, false, 4)
      else match s.jobs[k]? with
        | none => (s, false, 7)
        | some j => if j.ans.isSome then ({ s with tick := tick }, false, 0) else (setAns s k j ⟨worker, num, body⟩ tick, true, 0)
def lose (worker : Int) (t : Tr) : Tr := if t.worker = worker then { t with over := true } else t
def die (s : S) (worker tick : Int) : S × Int :=
  if check s worker tick ≠ 0 then (s, check s worker tick)
  else if s.alive.getD worker.toNat false = false then (s, 25)
  else ({ s with tick := tick, alive := s.alive.set worker.toNat false, tries := s.tries.map (lose worker) }, 0)
def revive (s : S) (worker : Int) : S × Int :=
  if worker < 0 ∨ (s.alive.length : Int) ≤ worker then (s, 1)
  else if s.alive.getD worker.toNat false = true then (s, 25)
  else ({ s with alive := s.alive.set worker.toNat true }, 0)
def opens (s : S) : List Int := (s.jobs.filter (fun j => j.ans.isNone)).map (·.id)
/-- The answers: ID, worker, number of the try, bytes. -/
def dones (s : S) : List (Int × Ans) := s.jobs.filterMap (fun j => j.ans.map (fun a => (j.id, a)))

/-- The tries of one task. -/
def triesOf (s : S) (id : Int) : List Tr := s.tries.filter (fun t => t.task == id)
structure WF (s : S) : Prop where
  al : 1 ≤ s.alive.length ∧ s.alive.length ≤ 8
  to : 1 ≤ s.timeout ∧ s.timeout ≤ 1099511627776
  tk : 0 ≤ s.tick ∧ s.tick ≤ 1099511627776
  len : s.jobs.length ≤ 1024
  rise : s.jobs.Pairwise (fun a b => a.id < b.id)
  idr : ∀ j ∈ s.jobs, 0 ≤ j.id ∧ j.id ≤ 9223372036854775807
  bl : ∀ j ∈ s.jobs, j.body.length ≤ 65536
  an : ∀ j ∈ s.jobs, ∀ a, j.ans = some a → a.body.length ≤ 65536 ∧ (0 ≤ a.worker ∧ a.worker < 8) ∧ (0 ≤ a.num ∧ a.num ≤ 9223372036854775807)
  tr : ∀ t ∈ s.tries, (∃ j ∈ s.jobs, j.id = t.task) ∧ (0 ≤ t.tick ∧ t.tick ≤ 1099511627776) ∧ (0 ≤ t.worker ∧ t.worker < (s.alive.length : Int))
  num : ∀ j ∈ s.jobs, (triesOf s j.id).length = j.n ∧ ∀ (k : Nat) (t : Tr), (triesOf s j.id)[k]? = some t → t.num = (k : Int)

/-! ### sorted tasks -/
theorem rise_uniq {l : List Job} (h : l.Pairwise (fun a b => a.id < b.id)) {a b : Job} (ha : a ∈ l) (hb : b ∈ l) (e : a.id = b.id) : a = b := by
  induction l with
  | nil => simp at ha
  | cons x r ih =>
    obtain ⟨h1, h2⟩ := List.pairwise_cons.1 h
    rcases List.mem_cons.1 ha with rfl | ha'
    · rcases List.mem_cons.1 hb with rfl | hb'
      · rfl
      · have := h1 _ hb'; omega
    · rcases List.mem_cons.1 hb with rfl | hb'
      · have := h1 _ ha'; omega
      · exact ih h2 ha' hb'
theorem rise_at {l : List Job} (h : l.Pairwise (fun a b => a.id < b.id)) {i k : Nat} {a b : Job} (ha : l[i]? = some a) (hb : l[k]? = some b) (e : a.id = b.id) : i = k := by
  obtain ⟨hi, rfl⟩ := List.getElem?_eq_some_iff.1 ha
  obtain ⟨hk, rfl⟩ := List.getElem?_eq_some_iff.1 hb
  rcases Nat.lt_trichotomy i k with h1 | h1 | h1
  · have := List.pairwise_iff_getElem.1 h i k hi hk h1; omega
  · exact h1
  · have := List.pairwise_iff_getElem.1 h k i hk hi h1; omega
theorem findJ_some {l : List Job} {id : Int} {k : Nat} (h : findJ l id = some k) : ∃ j, l[k]? = some j ∧ j.id = id := by
  unfold findJ at h
  obtain ⟨h1, h2, _⟩ := List.findIdx?_eq_some_iff_getElem.1 h
  exact ⟨l[k], List.getElem?_eq_getElem h1, by simpa using h2⟩
theorem findJ_none {l : List Job} {id : Int} (h : findJ l id = none) : ∀ j ∈ l, j.id ≠ id := by
  unfold findJ at h
  intro j hj e
  have := List.findIdx?_eq_none_iff.1 h j hj
  simp [e] at this
theorem findJ_at {l : List Job} (h : l.Pairwise (fun a b => a.id < b.id)) {k : Nat} {j : Job} (hj : l[k]? = some j) : findJ l j.id = some k := by
  cases hf : findJ l j.id with
  | none => exact absurd rfl (findJ_none hf j (List.mem_of_getElem? hj))
  | some i =>
    obtain ⟨j', h1, h2⟩ := findJ_some hf
    rw [rise_at h h1 hj h2]
theorem jobOf_at {s : S} (h : WF s) {j : Job} (hj : j ∈ s.jobs) : jobOf s j.id = some j := by
  unfold jobOf
  cases hf : s.jobs.find? (fun x => x.id == j.id) with
  | none => have := List.find?_eq_none.1 hf j hj; simp at this
  | some x =>
    have h1 := List.mem_of_find?_eq_some hf
    have h2 := List.find?_some hf
    rw [rise_uniq h.rise h1 hj (by simpa using h2)]
theorem answered_at {s : S} (h : WF s) {j : Job} (hj : j ∈ s.jobs) : answered s j.id = j.ans.isSome := by
  unfold answered
  rw [jobOf_at h hj]
theorem mem_insJ {j x : Job} {l : List Job} : x ∈ insJ j l ↔ x = j ∨ x ∈ l := by
  induction l with
  | nil => simp [insJ]
  | cons y r ih =>
    unfold insJ
    split
    · rw [List.mem_cons, ih, List.mem_cons]
      constructor
      · rintro (h | h | h) <;> simp [h]
      · rintro (h | h | h) <;> simp [h]
    · simp
theorem insJ_len (j : Job) (l : List Job) : (insJ j l).length = l.length + 1 := by
  induction l with
  | nil => rfl
  | cons y r ih =>
    unfold insJ
    split
    · simp [ih]
    · simp
theorem insJ_rise {j : Job} {l : List Job} (h : l.Pairwise (fun a b => a.id < b.id)) (hn : ∀ x ∈ l, x.id ≠ j.id) : (insJ j l).Pairwise (fun a b => a.id < b.id) := by
  induction l with
  | nil => simp [insJ]
  | cons y r ih =>
    obtain ⟨h1, h2⟩ := List.pairwise_cons.1 h
    unfold insJ
    split
    · rename_i hlt
      refine List.pairwise_cons.2 ⟨fun x hx => ?_, ih h2 (fun x hx => hn x (by simp [hx]))⟩
      rcases mem_insJ.1 hx with rfl | hx
      · exact hlt
      · exact h1 x hx
    · rename_i hlt
      have hne := hn y (by simp)
      refine List.pairwise_cons.2 ⟨fun x hx => ?_, h⟩
      rcases List.mem_cons.1 hx with rfl | hx
      · omega
      · have := h1 x hx; omega

/-! ### what stays true -/
theorem WF.new {n : Nat} {t : Int} (h1 : 1 ≤ n) (h2 : n ≤ 8) (h3 : 1 ≤ t) (h4 : t ≤ 1099511627776) : WF (new n t) :=
  ⟨by simp [Go.Pl.new]; omega, ⟨h3, h4⟩, by simp [Go.Pl.new], by simp [Go.Pl.new], by simp [Go.Pl.new], by simp [Go.Pl.new], by simp [Go.Pl.new], by simp [Go.Pl.new], by simp [Go.Pl.new], by simp [Go.Pl.new]⟩
theorem WF.add {s : S} (h : WF s) (id : Int) (body : List UInt8) (hi : id ≤ 9223372036854775807) : WF (add s id body).1 := by
  unfold Go.Pl.add
  split
  · exact h
  split
  · exact h
  split
  · exact h
  rename_i h1 h2 h3
  have hn : ∀ x ∈ s.jobs, x.id ≠ id := findJ_none (by simpa using h3)
  refine ⟨h.al, h.to, h.tk, ?_, insJ_rise h.rise hn, fun j hj => ?_, fun j hj => ?_, fun j hj a ha => ?_, fun t ht => ?_, fun j hj => ?_⟩
  · show (insJ _ s.jobs).length ≤ 1024
    rw [insJ_len]; omega
  · rcases mem_insJ.1 hj with rfl | hj
    · exact ⟨by show (0 : Int) ≤ id; omega, hi⟩
    · exact h.idr j hj
  · rcases mem_insJ.1 hj with rfl | hj
    · show body.length ≤ 65536; omega
    · exact h.bl j hj
  · rcases mem_insJ.1 hj with rfl | hj
    · cases ha
    · exact h.an j hj a ha
  · obtain ⟨⟨j, hj, e⟩, h5⟩ := h.tr t ht
    exact ⟨⟨j, mem_insJ.2 (.inr hj), e⟩, h5⟩
  · rcases mem_insJ.1 hj with rfl | hj
    · have : triesOf { s with jobs := insJ ⟨id, body, 0, none⟩ s.jobs } id = [] := by
        unfold triesOf
        rw [List.filter_eq_nil_iff]
        intro t ht
        obtain ⟨⟨j, hj, e⟩, _⟩ := h.tr t ht
        have := hn j hj
        simp; omega
      show (triesOf _ id).length = 0 ∧ _
      rw [this]
      exact ⟨rfl, fun k t hk => by simp at hk⟩
    · exact h.num j hj
theorem WF.tick {s : S} (h : WF s) {t : Int} (h1 : 0 ≤ t) (h2 : t ≤ 1099511627776) : WF { s with tick := t } :=
  ⟨h.al, h.to, ⟨h1, h2⟩, h.len, h.rise, h.idr, h.bl, h.an, h.tr, h.num⟩
theorem check_zero {s : S} {w t : Int} (h : check s w t = 0) : (0 ≤ w ∧ w < (s.alive.length : Int)) ∧ (0 ≤ t ∧ t ≤ 1099511627776) ∧ s.tick ≤ t := by
  unfold check at h
  split at h
  · omega
  split at h
  · omega
  rename_i h1 h2
  omega
theorem check_range (s : S) (w t : Int) : check s w t = 0 ∨ check s w t = 1 ∨ check s w t = 21 := by
  unfold check
  split
  · simp
  · split <;> simp
/-- A task is replaced by one with the same ID. -/
theorem set_rise {l : List Job} {k : Nat} {j x : Job} (hl : l.Pairwise (fun a b => a.id < b.id)) (hj : l[k]? = some j) (e : x.id = j.id) : (l.set k x).Pairwise (fun a b => a.id < b.id) := by
  have h1 : (l.set k x).map (·.id) = l.map (·.id) := by
    apply List.ext_getElem?
    intro i
    rw [List.getElem?_map, List.getElem?_map, List.getElem?_set]
    by_cases hi : k = i
    · subst hi
      obtain ⟨hk, rfl⟩ := List.getElem?_eq_some_iff.1 hj
      simp [hk, e]
    · rw [if_neg hi]
  have h2 : (l.map (·.id)).Pairwise (· < ·) := List.pairwise_map.2 hl
  rw [← h1] at h2
  exact List.pairwise_map.1 h2
theorem mem_set_of {l : List Job} {k : Nat} {j x y : Job} (hl : l.Pairwise (fun a b => a.id < b.id)) (hj : l[k]? = some j) (hy : y ∈ l) : y = j ∨ y ∈ l.set k x := by
  obtain ⟨i, hi⟩ := List.getElem?_of_mem hy
  by_cases e : k = i
  · subst e
    rw [hj] at hi
    injection hi with hi
    exact .inl hi.symm
  · exact .inr (List.mem_of_getElem? (i := i) (by rw [List.getElem?_set, if_neg e]; exact hi))
theorem mem_set_self {l : List Job} {k : Nat} {j x : Job} (hj : l[k]? = some j) : x ∈ l.set k x :=
  List.mem_of_getElem? (i := k) (by rw [List.getElem?_set, if_pos rfl, if_pos (List.getElem?_eq_some_iff.1 hj).1])
theorem mem_set_ne {l : List Job} {k : Nat} {j x y : Job} (hl : l.Pairwise (fun a b => a.id < b.id)) (hj : l[k]? = some j) (e : x.id = j.id) (hy : y ∈ l.set k x) (hne : y ≠ x) : y ∈ l ∧ y.id ≠ j.id := by
  obtain ⟨i, hi⟩ := List.getElem?_of_mem hy
  rw [List.getElem?_set] at hi
  split at hi
  · split at hi
    · injection hi with hi; exact absurd hi.symm hne
    · cases hi
  · rename_i hki
    exact ⟨List.mem_of_getElem? hi, fun h => hki (rise_at hl hj hi h.symm)⟩
theorem triesOf_giveOut (s : S) (worker tick : Int) (k : Nat) (j : Job) (id : Int) : triesOf (giveOut s worker tick k j) id = triesOf s id ++ if j.id = id then [⟨j.id, (j.n : Int), worker, tick, false⟩] else [] := by
  unfold triesOf giveOut
  rw [List.filter_append]
  by_cases e : j.id = id <;> simp [e]
theorem WF.giveOut {s : S} (h : WF s) {k : Nat} {j : Job} (hj : s.jobs[k]? = some j) {worker tick : Int} (hc : check s worker tick = 0) : WF (giveOut s worker tick k j) := by
  have hm := List.mem_of_getElem? hj
  obtain ⟨hw, ht, _⟩ := check_zero hc
  have back : ∀ y ∈ s.jobs, ∃ z ∈ s.jobs.set k { j with n := j.n + 1 }, z.id = y.id := fun y hy => by
    rcases mem_set_of (x := { j with n := j.n + 1 }) h.rise hj hy with rfl | h1
    · exact ⟨_, mem_set_self hj, rfl⟩
    · exact ⟨y, h1, rfl⟩
  refine ⟨h.al, h.to, ht, by show (s.jobs.set _ _).length ≤ _; rw [List.length_set]; exact h.len, set_rise h.rise hj rfl, fun y hy => ?_, fun y hy => ?_, fun y hy a ha => ?_, fun t hT => ?_, fun y hy => ?_⟩
  · rcases List.mem_or_eq_of_mem_set hy with hy | rfl
    · exact h.idr y hy
    · exact h.idr j hm
  · rcases List.mem_or_eq_of_mem_set hy with hy | rfl
    · exact h.bl y hy
    · exact h.bl j hm
  · rcases List.mem_or_eq_of_mem_set hy with hy | rfl
    · exact h.an y hy a ha
    · exact h.an j hm a ha
  · rcases List.mem_append.1 hT with hT | hT
    · obtain ⟨⟨y, hy, e⟩, h5⟩ := h.tr t hT
      obtain ⟨z, hz, e2⟩ := back y hy
      exact ⟨⟨z, hz, e2.trans e⟩, h5⟩
    · rw [List.mem_singleton] at hT
      subst hT
      obtain ⟨z, hz, e2⟩ := back j hm
      exact ⟨⟨z, hz, e2⟩, ht, hw⟩
  · rw [triesOf_giveOut]
    by_cases e : j.id = y.id
    · have hyx : y = { j with n := j.n + 1 } := rise_uniq (set_rise (x := { j with n := j.n + 1 }) h.rise hj rfl) hy (mem_set_self hj) e.symm
      obtain ⟨h1, h2⟩ := h.num j hm
      rw [if_pos e, ← e, hyx]
      refine ⟨by rw [List.length_append, h1]; rfl, fun i t hi => ?_⟩
      rw [List.getElem?_append] at hi
      split at hi
      · exact h2 i t hi
      · rename_i hlt
        have hi0 : i - (triesOf s j.id).length = 0 := by
          have := (List.getElem?_eq_some_iff.1 hi).1
          simp at this; omega
        rw [hi0] at hi
        injection hi with hi
        subst hi
        show (j.n : Int) = (i : Int)
        omega
    · have hne : y ≠ { j with n := j.n + 1 } := fun h => e (by rw [h])
      obtain ⟨h1, _⟩ := mem_set_ne (x := { j with n := j.n + 1 }) h.rise hj rfl hy hne
      rw [if_neg e, List.append_nil]
      exact h.num y h1
theorem next_some {s : S} {tick : Int} {k : Nat} (h : next s tick = some k) : ∃ j, s.jobs[k]? = some j ∧ free s tick j = true ∧ ∀ i, i < k → ∀ x, s.jobs[i]? = some x → free s tick x = false := by
  unfold next at h
  obtain ⟨h1, h2, h3⟩ := List.findIdx?_eq_some_iff_getElem.1 h
  refine ⟨s.jobs[k], List.getElem?_eq_getElem h1, h2, fun i hi x hx => ?_⟩
  obtain ⟨h4, rfl⟩ := List.getElem?_eq_some_iff.1 hx
  simpa using h3 i hi
theorem next_none {s : S} {tick : Int} (h : next s tick = none) : ∀ j ∈ s.jobs, free s tick j = false := by
  unfold next at h
  exact List.findIdx?_eq_none_iff.1 h
theorem next_of {s : S} {tick : Int} {k : Nat} {j : Job} (hj : s.jobs[k]? = some j) (hf : free s tick j = true) (hb : ∀ i, i < k → ∀ x, s.jobs[i]? = some x → free s tick x = false) : next s tick = some k := by
  unfold next
  obtain ⟨hk, rfl⟩ := List.getElem?_eq_some_iff.1 hj
  exact List.findIdx?_eq_some_iff_getElem.2 ⟨hk, hf, fun i hi => by have := hb i hi _ (List.getElem?_eq_getElem (by omega)); simp [this]⟩
theorem next_all {s : S} {tick : Int} (h : ∀ j ∈ s.jobs, free s tick j = false) : next s tick = none := List.findIdx?_eq_none_iff.2 h
/-- What Ask does, way by way. -/
theorem ask_bad {s : S} {w t : Int} (h : check s w t ≠ 0) : ask s w t = (s, ⟨0, [], 0, false, check s w t⟩) := if_pos h
theorem ask_dead {s : S} {w t : Int} (h : check s w t = 0) (h2 : s.alive.getD w.toNat false = false) : ask s w t = (s, ⟨0, [], 0, false, 24⟩) := by
  unfold ask; rw [if_neg (by omega), if_pos h2]
theorem ask_busy {s : S} {w t : Int} (h : check s w t = 0) (h2 : s.alive.getD w.toNat false = true) (h3 : works s w t = true) : ask s w t = (s, ⟨0, [], 0, false, 20⟩) := by
  unfold ask; rw [if_neg (by omega), if_neg (by rw [h2]; simp), if_pos h3]
theorem ask_none {s : S} {w t : Int} (h : check s w t = 0) (h2 : s.alive.getD w.toNat false = true) (h3 : works s w t = false) (h4 : next s t = none) : ask s w t = ({ s with tick := t }, ⟨0, [], 0, false, 0⟩) := by
  unfold ask; rw [if_neg (by omega), if_neg (by rw [h2]; simp), if_neg (by rw [h3]; simp), h4]
theorem ask_some {s : S} {w t : Int} {k : Nat} {j : Job} (h : check s w t = 0) (h2 : s.alive.getD w.toNat false = true) (h3 : works s w t = false) (h4 : next s t = some k) (h5 : s.jobs[k]? = some j) : ask s w t = (giveOut s w t k j, ⟨j.id, j.body, (j.n : Int), true, 0⟩) := by
  unfold ask; rw [if_neg (by omega), if_neg (by rw [h2]; simp), if_neg (by rw [h3]; simp), h4]; dsimp only; rw [h5]
theorem WF.ask {s : S} (h : WF s) (w t : Int) : WF (ask s w t).1 := by
  by_cases hc : check s w t = 0
  · obtain ⟨_, ht, _⟩ := check_zero hc
    cases h2 : s.alive.getD w.toNat false with
    | false => rw [ask_dead hc h2]; exact h
    | true =>
      cases h3 : works s w t with
      | true => rw [ask_busy hc h2 h3]; exact h
      | false =>
        cases h4 : next s t with
        | none => rw [ask_none hc h2 h3 h4]; exact h.tick ht.1 ht.2
        | some k =>
          obtain ⟨j, hj, _⟩ := next_some h4
          rw [ask_some hc h2 h3 h4 hj]
          exact h.giveOut hj hc
  · rw [ask_bad hc]; exact h
theorem WF.setAns {s : S} (h : WF s) {k : Nat} {j : Job} (hj : s.jobs[k]? = some j) {a : Ans} {tick : Int} (ht : 0 ≤ tick ∧ tick ≤ 1099511627776) (ha : a.body.length ≤ 65536 ∧ (0 ≤ a.worker ∧ a.worker < 8) ∧ (0 ≤ a.num ∧ a.num ≤ 9223372036854775807)) : WF (setAns s k j a tick) := by
  have hm := List.mem_of_getElem? hj
  have back : ∀ y ∈ s.jobs, ∃ z ∈ s.jobs.set k { j with ans := some a }, z.id = y.id := fun y hy => by
    rcases mem_set_of (x := { j with ans := some a }) h.rise hj hy with rfl | h1
    · exact ⟨_, mem_set_self hj, rfl⟩
    · exact ⟨y, h1, rfl⟩
  refine ⟨h.al, h.to, ht, by show (s.jobs.set _ _).length ≤ _; rw [List.length_set]; exact h.len, set_rise h.rise hj rfl, fun y hy => ?_, fun y hy => ?_, fun y hy b hb => ?_, fun t hT => ?_, fun y hy => ?_⟩
  · rcases List.mem_or_eq_of_mem_set hy with hy | rfl
    · exact h.idr y hy
    · exact h.idr j hm
  · rcases List.mem_or_eq_of_mem_set hy with hy | rfl
    · exact h.bl y hy
    · exact h.bl j hm
  · rcases List.mem_or_eq_of_mem_set hy with hy | rfl
    · exact h.an y hy b hb
    · injection hb with hb; subst hb; exact ha
  · obtain ⟨⟨y, hy, e⟩, h5⟩ := h.tr t hT
    obtain ⟨z, hz, e2⟩ := back y hy
    exact ⟨⟨z, hz, e2.trans e⟩, h5⟩
  · rcases List.mem_or_eq_of_mem_set hy with hy | rfl
    · exact h.num y hy
    · exact h.num j hm
theorem known_at {s : S} (h : WF s) {j : Job} (hj : j ∈ s.jobs) (worker num : Int) : known s j.id worker num = true ↔ ∃ (k : Nat) (t : Tr), num = (k : Int) ∧ (triesOf s j.id)[k]? = some t ∧ t.worker = worker := by
  unfold known
  rw [List.any_eq_true]
  constructor
  · rintro ⟨t, ht, hb⟩
    simp only [Bool.and_eq_true, beq_iff_eq] at hb
    obtain ⟨⟨h1, h2⟩, h3⟩ := hb
    have hmem : t ∈ triesOf s j.id := List.mem_filter.2 ⟨ht, by simp [h1]⟩
    obtain ⟨k, hk⟩ := List.getElem?_of_mem hmem
    exact ⟨k, t, by rw [← h2]; exact (h.num j hj).2 k t hk, hk, h3⟩
  · rintro ⟨k, t, rfl, hk, h3⟩
    obtain ⟨h1, h2⟩ := List.mem_filter.1 (List.mem_of_getElem? hk)
    exact ⟨t, h1, by simp only [Bool.and_eq_true, beq_iff_eq]; exact ⟨⟨by simpa using h2, (h.num j hj).2 k t hk⟩, h3⟩⟩
theorem answer_bad {s : S} {task w num t : Int} {body : List UInt8} (h : check s w t ≠ 0) : answer s task w num body t = (s, false, check s w t) := if_pos h
theorem answer_none {s : S} {task w num t : Int} {body : List UInt8} (h : check s w t = 0) (h2 : findJ s.jobs task = none) : answer s task w num body t = (s, false, 7) := by
  unfold answer; rw [if_neg (by omega), h2]
theorem answer_stale {s : S} {task w num t : Int} {body : List UInt8} {k : Nat} (h : check s w t = 0) (h2 : findJ s.jobs task = some k) (h3 : known s task w num = false) : answer s task w num body t = (s, false, 22) := by
  unfold answer; rw [if_neg (by omega), h2]; dsimp only; rw [if_pos h3]
theorem answer_limit {s : S} {task w num t : Int} {body : List UInt8} {k : Nat} (h : check s w t = 0) (h2 : findJ s.jobs task = some k) (h3 : known s task w num = true) (h4 : 65536 < body.length) : answer s task w num body t = (s, false, 4) := by
  unfold answer; rw [if_neg (by omega), h2]; dsimp only; rw [if_neg (by rw [h3]; simp), if_pos h4]
theorem answer_late {s : S} {task w num t : Int} {body : List UInt8} {k : Nat} {j : Job} (h : check s w t = 0) (h2 : findJ s.jobs task = some k) (h3 : known s task w num = true) (h4 : body.length ≤ 65536) (h5 : s.jobs[k]? = some j) (h6 : j.ans.isSome = true) : answer s task w num body t = ({ s with tick := t }, false, 0) := by
  unfold answer; rw [if_neg (by omega), h2]; dsimp only; rw [if_neg (by rw [h3]; simp), if_neg (by omega), h5]; dsimp only; rw [if_pos h6]
theorem answer_first {s : S} {task w num t : Int} {body : List UInt8} {k : Nat} {j : Job} (h : check s w t = 0) (h2 : findJ s.jobs task = some k) (h3 : known s task w num = true) (h4 : body.length ≤ 65536) (h5 : s.jobs[k]? = some j) (h6 : j.ans.isSome = false) : answer s task w num body t = (setAns s k j ⟨w, num, body⟩ t, true, 0) := by
  unfold answer; rw [if_neg (by omega), h2]; dsimp only; rw [if_neg (by rw [h3]; simp), if_neg (by omega), h5]; dsimp only; rw [if_neg (by rw [h6]; simp)]
theorem WF.answer {s : S} (h : WF s) (task w num : Int) (body : List UInt8) (t : Int) (hr : num ≤ 9223372036854775807) : WF (answer s task w num body t).1 := by
  by_cases hc : check s w t = 0
  · obtain ⟨hw, ht, _⟩ := check_zero hc
    cases h2 : findJ s.jobs task with
    | none => rw [answer_none hc h2]; exact h
    | some k =>
      cases h3 : known s task w num with
      | false => rw [answer_stale hc h2 h3]; exact h
      | true =>
        by_cases h4 : 65536 < body.length
        · rw [answer_limit hc h2 h3 h4]; exact h
        · obtain ⟨j, h5, e⟩ := findJ_some h2
          cases h6 : j.ans.isSome with
          | true => rw [answer_late hc h2 h3 (by omega) h5 h6]; exact h.tick ht.1 ht.2
          | false =>
            rw [answer_first hc h2 h3 (by omega) h5 h6]
            subst e
            obtain ⟨i, tt, rfl, _⟩ := (known_at h (List.mem_of_getElem? h5) w num).1 h3
            have := h.al
            exact h.setAns h5 ht ⟨by show body.length ≤ 65536; omega, ⟨by show 0 ≤ w; omega, by show w < 8; omega⟩, by show (0 : Int) ≤ (i : Int) ∧ (i : Int) ≤ _; omega⟩
  · rw [answer_bad hc]; exact h
theorem triesOf_lose (s : S) (worker id : Int) (al : List Bool) (tk : Int) : triesOf { s with tick := tk, alive := al, tries := s.tries.map (lose worker) } id = (triesOf s id).map (lose worker) := by
  unfold triesOf
  rw [List.filter_map]
  congr 1
  refine List.filter_congr (fun t ht => ?_)
  show ((lose worker t).task == id) = (t.task == id)
  unfold lose
  split <;> rfl
theorem die_bad {s : S} {w t : Int} (h : check s w t ≠ 0) : die s w t = (s, check s w t) := if_pos h
theorem die_dead {s : S} {w t : Int} (h : check s w t = 0) (h2 : s.alive.getD w.toNat false = false) : die s w t = (s, 25) := by
  unfold die; rw [if_neg (by omega), if_pos h2]
theorem die_ok {s : S} {w t : Int} (h : check s w t = 0) (h2 : s.alive.getD w.toNat false = true) : die s w t = ({ s with tick := t, alive := s.alive.set w.toNat false, tries := s.tries.map (lose w) }, 0) := by
  unfold die; rw [if_neg (by omega), if_neg (by rw [h2]; simp)]
theorem WF.die {s : S} (h : WF s) (w t : Int) : WF (die s w t).1 := by
  by_cases hc : check s w t = 0
  · obtain ⟨_, ht, _⟩ := check_zero hc
    cases h2 : s.alive.getD w.toNat false with
    | false => rw [die_dead hc h2]; exact h
    | true =>
      rw [die_ok hc h2]
      refine ⟨by show 1 ≤ (s.alive.set _ _).length ∧ _; rw [List.length_set]; exact h.al, h.to, ht, h.len, h.rise, h.idr, h.bl, h.an, fun x hx => ?_, fun j hj => ?_⟩
      · obtain ⟨y, hy, rfl⟩ := List.mem_map.1 hx
        obtain ⟨h5, h6, h7⟩ := h.tr y hy
        show (∃ j ∈ s.jobs, j.id = (lose w y).task) ∧ (0 ≤ (lose w y).tick ∧ (lose w y).tick ≤ _) ∧ (0 ≤ (lose w y).worker ∧ (lose w y).worker < ((s.alive.set _ _).length : Int))
        rw [List.length_set]
        unfold lose
        split <;> exact ⟨h5, h6, h7⟩
      · rw [triesOf_lose]
        obtain ⟨h5, h6⟩ := h.num j hj
        refine ⟨by rw [List.length_map]; exact h5, fun k x hk => ?_⟩
        rw [List.getElem?_map] at hk
        cases hk2 : (triesOf s j.id)[k]? with
        | none => rw [hk2] at hk; cases hk
        | some y =>
          rw [hk2] at hk
          injection hk with hk
          subst hk
          have := h6 k y hk2
          unfold lose
          split <;> exact this
  · rw [die_bad hc]; exact h
theorem revive_bad {s : S} {w : Int} (h : w < 0 ∨ (s.alive.length : Int) ≤ w) : revive s w = (s, 1) := if_pos h
theorem revive_up {s : S} {w : Int} (h : ¬ (w < 0 ∨ (s.alive.length : Int) ≤ w)) (h2 : s.alive.getD w.toNat false = true) : revive s w = (s, 25) := by
  unfold revive; rw [if_neg h, if_pos h2]
theorem revive_ok {s : S} {w : Int} (h : ¬ (w < 0 ∨ (s.alive.length : Int) ≤ w)) (h2 : s.alive.getD w.toNat false = false) : revive s w = ({ s with alive := s.alive.set w.toNat true }, 0) := by
  unfold revive; rw [if_neg h, if_neg (by rw [h2]; simp)]
theorem WF.revive {s : S} (h : WF s) (w : Int) : WF (revive s w).1 := by
  by_cases hc : w < 0 ∨ (s.alive.length : Int) ≤ w
  · rw [revive_bad hc]; exact h
  · cases h2 : s.alive.getD w.toNat false with
    | true => rw [revive_up hc h2]; exact h
    | false =>
      rw [revive_ok hc h2]
      refine ⟨by show 1 ≤ (s.alive.set _ _).length ∧ _; rw [List.length_set]; exact h.al, h.to, h.tk, h.len, h.rise, h.idr, h.bl, h.an, fun x hx => ?_, h.num⟩
      have := h.tr x hx
      show _ ∧ _ ∧ (0 ≤ x.worker ∧ x.worker < ((s.alive.set _ _).length : Int))
      rw [List.length_set]
      exact this
end Go.Pl

namespace Go.Pl
set_option linter.unusedVariables false

/-- The tasks are J; what was answered is what res makes of the task. -/
structure Sm (J : List (Int × List UInt8)) (res : List UInt8 → List UInt8) (nw : Nat) (lim : Int) (s : S) : Prop where
  wf : WF s
  jobs : s.jobs.map (fun j => (j.id, j.body)) = J
  al : s.alive.length = nw
  to : s.timeout = lim
  an : ∀ j ∈ s.jobs, ∀ a, j.ans = some a → a.body = res j.body
  tt : ∀ t ∈ s.tries, t.tick ≤ s.tick
section
variable {J : List (Int × List UInt8)} {res : List UInt8 → List UInt8} {nw : Nat} {lim : Int} {s : S}
theorem Sm.mem (h : Sm J res nw lim s) {j : Job} (hj : j ∈ s.jobs) : (j.id, j.body) ∈ J := by rw [← h.jobs]; exact List.mem_map.2 ⟨j, hj, rfl⟩
theorem map_set_same {l : List Job} {k : Nat} {j j' : Job} (hj : l[k]? = some j) (e1 : j'.id = j.id) (e2 : j'.body = j.body) : (l.set k j').map (fun j => (j.id, j.body)) = l.map (fun j => (j.id, j.body)) := by
  rw [List.map_set, e1, e2]
  obtain ⟨hk, rfl⟩ := List.getElem?_eq_some_iff.1 hj
  have : (l.map (fun j => (j.id, j.body)))[k]'(by rw [List.length_map]; exact hk) = (l[k].id, l[k].body) := List.getElem_map _
  rw [← this]
  exact List.set_getElem_self _
theorem Sm.tick (h : Sm J res nw lim s) {t : Int} (ht : 0 ≤ t ∧ t ≤ 1099511627776) (hs : s.tick ≤ t) : Sm J res nw lim { s with tick := t } :=
  ⟨h.wf.tick ht.1 ht.2, h.jobs, h.al, h.to, h.an, fun x hx => Int.le_trans (h.tt x hx) hs⟩
theorem Sm.give (h : Sm J res nw lim s) {w t : Int} {k : Nat} {j : Job} (hc : check s w t = 0) (hj : s.jobs[k]? = some j) : Sm J res nw lim (giveOut s w t k j) := by
  obtain ⟨_, ht, hs⟩ := check_zero hc
  refine ⟨h.wf.giveOut hj hc, by rw [show (giveOut s w t k j).jobs = s.jobs.set k { j with n := j.n + 1 } from rfl, map_set_same hj (by rfl) (by rfl)]; exact h.jobs, h.al, h.to, fun x hx a ha => ?_, fun x hx => ?_⟩
  · rcases List.mem_or_eq_of_mem_set hx with hx | rfl
    · exact h.an x hx a ha
    · exact h.an j (List.mem_of_getElem? hj) a ha
  · rcases List.mem_append.1 hx with hx | hx
    · exact Int.le_trans (h.tt x hx) hs
    · rw [List.mem_singleton] at hx
      subst hx
      exact Int.le_refl _
theorem Sm.ask (h : Sm J res nw lim s) (w t : Int) (hN : s.tries.length ≤ 1000) : Sm J res nw lim (Pl.ask s w t).1 ∧ (Pl.ask s w t).1.tries.length ≤ s.tries.length + 1 ∧ ((Pl.ask s w t).1.tick = s.tick ∨ (Pl.ask s w t).1.tick = t) ∧
    ((Pl.ask s w t).2.is = true → ((Pl.ask s w t).2.id, (Pl.ask s w t).2.body) ∈ J ∧ (0 ≤ (Pl.ask s w t).2.num ∧ (Pl.ask s w t).2.num ≤ 1000)) := by
  by_cases hc : check s w t = 0
  · obtain ⟨_, ht, hs⟩ := check_zero hc
    cases h2 : s.alive.getD w.toNat false with
    | false => rw [ask_dead hc h2]; exact ⟨h, by simp, .inl rfl, fun e => by cases e⟩
    | true =>
      cases h3 : works s w t with
      | true => rw [ask_busy hc h2 h3]; exact ⟨h, by simp, .inl rfl, fun e => by cases e⟩
      | false =>
        cases h4 : next s t with
        | none => rw [ask_none hc h2 h3 h4]; exact ⟨h.tick ht hs, by simp, .inr rfl, fun e => by cases e⟩
        | some k =>
          obtain ⟨j, hj, _⟩ := next_some h4
          have hjm := List.mem_of_getElem? hj
          rw [ask_some hc h2 h3 h4 hj]
          refine ⟨h.give hc hj, by show (s.tries ++ _).length ≤ _; simp, .inr rfl, fun _ => ⟨h.mem hjm, ?_⟩⟩
          have h5 := (h.wf.num j hjm).1
          have h6 : (triesOf s j.id).length ≤ s.tries.length := List.length_filter_le _ _
          show 0 ≤ (j.n : Int) ∧ (j.n : Int) ≤ 1000
          omega
  · rw [ask_bad hc]; exact ⟨h, by simp, .inl rfl, fun e => by cases e⟩
theorem Sm.set (h : Sm J res nw lim s) {w t : Int} {k : Nat} {j : Job} {a : Ans} (ht : 0 ≤ t ∧ t ≤ 1099511627776) (hs : s.tick ≤ t) (hj : s.jobs[k]? = some j) (ha : a.body.length ≤ 65536 ∧ (0 ≤ a.worker ∧ a.worker < 8) ∧ (0 ≤ a.num ∧ a.num ≤ 9223372036854775807)) (hb : a.body = res j.body) : Sm J res nw lim (setAns s k j a t) := by
  refine ⟨h.wf.setAns hj ht ha, by rw [show (setAns s k j a t).jobs = s.jobs.set k { j with ans := some a } from rfl, map_set_same hj (by rfl) (by rfl)]; exact h.jobs, h.al, h.to, fun x hx b hb2 => ?_, fun x hx => Int.le_trans (h.tt x hx) hs⟩
  rcases List.mem_or_eq_of_mem_set hx with hx | rfl
  · exact h.an x hx b hb2
  · injection hb2 with hb2
    subst hb2
    exact hb
theorem Sm.answer (h : Sm J res nw lim s) (task w num : Int) (body : List UInt8) (t : Int) (hnum : num ≤ 9223372036854775807) (hb : ∃ b, (task, b) ∈ J ∧ body = res b) :
    Sm J res nw lim (Pl.answer s task w num body t).1 ∧ (Pl.answer s task w num body t).1.tries = s.tries ∧ ((Pl.answer s task w num body t).1.tick = s.tick ∨ (Pl.answer s task w num body t).1.tick = t) := by
  by_cases hc : check s w t = 0
  · obtain ⟨hw, ht, hs⟩ := check_zero hc
    cases h2 : findJ s.jobs task with
    | none => rw [answer_none hc h2]; exact ⟨h, rfl, .inl rfl⟩
    | some k =>
      cases h3 : known s task w num with
      | false => rw [answer_stale hc h2 h3]; exact ⟨h, rfl, .inl rfl⟩
      | true =>
        by_cases h4 : 65536 < body.length
        · rw [answer_limit hc h2 h3 h4]; exact ⟨h, rfl, .inl rfl⟩
        · obtain ⟨j, h5, e⟩ := findJ_some h2
          have hjm := List.mem_of_getElem? h5
          cases h6 : j.ans.isSome with
          | true => rw [answer_late hc h2 h3 (by omega) h5 h6]; exact ⟨h.tick ht hs, rfl, .inr rfl⟩
          | false =>
            rw [answer_first hc h2 h3 (by omega) h5 h6]
            subst e
            obtain ⟨i, tt, rfl, _⟩ := (known_at h.wf hjm w num).1 h3
            have := h.wf.al
            obtain ⟨b, hb1, hb2⟩ := hb
            have hbj : b = j.body := by
              rw [← h.jobs] at hb1
              obtain ⟨x, hx, e⟩ := List.mem_map.1 hb1
              injection e with e1 e2
              rw [← e2, rise_uniq h.wf.rise hx hjm e1]
            refine ⟨h.set (w := w) ht hs h5 ⟨by show body.length ≤ 65536; omega, ⟨by show 0 ≤ w; omega, by show w < 8; omega⟩, by show (0 : Int) ≤ (i : Int) ∧ (i : Int) ≤ _; omega⟩ (by rw [← hbj]; exact hb2), rfl, .inr rfl⟩
  · rw [answer_bad hc]; exact ⟨h, rfl, .inl rfl⟩
theorem lose_tick (w : Int) (t : Tr) : (lose w t).tick = t.tick := by unfold lose; split <;> rfl
theorem Sm.die (h : Sm J res nw lim s) (w t : Int) : Sm J res nw lim (Pl.die s w t).1 ∧ (Pl.die s w t).1.tries.length = s.tries.length ∧ ((Pl.die s w t).1.tick = s.tick ∨ (Pl.die s w t).1.tick = t) := by
  have hwf := h.wf.die w t
  by_cases hc : check s w t = 0
  · obtain ⟨_, ht, hs⟩ := check_zero hc
    cases h2 : s.alive.getD w.toNat false with
    | false => rw [die_dead hc h2]; exact ⟨h, rfl, .inl rfl⟩
    | true =>
      rw [die_ok hc h2] at hwf ⊢
      refine ⟨⟨hwf, h.jobs, by show (s.alive.set _ _).length = _; rw [List.length_set]; exact h.al, h.to, h.an, fun x hx => ?_⟩, by show (s.tries.map _).length = _; rw [List.length_map], .inr rfl⟩
      obtain ⟨y, hy, rfl⟩ := List.mem_map.1 hx
      rw [lose_tick]
      exact Int.le_trans (h.tt y hy) hs
  · rw [die_bad hc]; exact ⟨h, rfl, .inl rfl⟩
theorem Sm.revive (h : Sm J res nw lim s) (w : Int) : Sm J res nw lim (Pl.revive s w).1 ∧ (Pl.revive s w).1.tries = s.tries ∧ (Pl.revive s w).1.tick = s.tick := by
  have hwf := h.wf.revive w
  by_cases hc : w < 0 ∨ (s.alive.length : Int) ≤ w
  · rw [revive_bad hc]; exact ⟨h, rfl, rfl⟩
  · cases h2 : s.alive.getD w.toNat false with
    | true => rw [revive_up hc h2]; exact ⟨h, rfl, rfl⟩
    | false =>
      rw [revive_ok hc h2] at hwf ⊢
      exact ⟨⟨hwf, h.jobs, by show (s.alive.set _ _).length = _; rw [List.length_set]; exact h.al, h.to, h.an, h.tt⟩, rfl, rfl⟩
theorem revive_zero (h : Sm J res nw lim s) (hn : 1 ≤ nw) : (Pl.revive s 0).1.alive.getD 0 false = true := by
  have hc : ¬ ((0 : Int) < 0 ∨ (s.alive.length : Int) ≤ 0) := by have := h.al; omega
  cases h2 : s.alive.getD (0 : Int).toNat false with
  | true => rw [revive_up hc h2]; exact h2
  | false =>
    rw [revive_ok hc h2]
    show (s.alive.set 0 true).getD 0 false = true
    have : 0 < s.alive.length := by have := h.al; omega
    rw [List.getD_eq_getElem?_getD, List.getElem?_set, if_pos rfl, if_pos this]
    rfl

/-! ### the end: one worker asks and answers -/
def cnt (l : List Job) : Nat := (l.filter (fun j => j.ans.isNone)).length
theorem cnt_set {l : List Job} {k : Nat} {j j' : Job} (hj : l[k]? = some j) (h1 : j.ans.isNone = true) (h2 : j'.ans.isNone = false) : cnt (l.set k j') + 1 = cnt l := by
  induction l generalizing k with
  | nil => simp at hj
  | cons x r ih =>
    cases k with
    | zero =>
      have e : x = j := by simpa using hj
      subst e
      simp [cnt, h1, h2]
    | succ k =>
      have := ih (k := k) (by simpa using hj)
      unfold cnt at this ⊢
      rw [List.set_cons_succ, List.filter_cons, List.filter_cons]
      by_cases hq : x.ans.isNone = true
      · rw [if_pos hq, if_pos hq, List.length_cons, List.length_cons]; omega
      · rw [if_neg hq, if_neg hq]; exact this
theorem cnt_zero {l : List Job} (h : cnt l = 0) : ∀ j ∈ l, j.ans.isSome = true := fun j hj => by
  unfold cnt at h
  have := List.filter_eq_nil_iff.1 (List.eq_nil_of_length_eq_zero h) j hj
  cases hq : j.ans with
  | none => rw [hq] at this; simp at this
  | some a => rfl
/-- After i rounds of the end: worker 0 lives; at most 10 - i tasks are open. -/
structure Fin (J : List (Int × List UInt8)) (res : List UInt8 → List UInt8) (nw : Nat) (lim : Int) (i : Nat) (T : Int) (s : S) : Prop where
  sm : Sm J res nw lim s
  al : s.alive.getD 0 false = true
  tk : s.tick ≤ T
  op : cnt s.jobs ≤ 10 - i
  trl : s.tries.length ≤ 40 + i
theorem Fin.none {i : Nat} {T : Int} (h : Fin J res nw lim i T s) (hn : 1 ≤ nw) (hl : lim ≤ 6) (hT : 0 ≤ T ∧ T ≤ 1000) : check s 0 (T + 7) = 0 ∧ works s 0 (T + 7) = false ∧ ∀ id, given s id (T + 7) = false := by
  have hno : ∀ t ∈ s.tries, running s t (T + 7) = false := fun t ht => by
    have := h.sm.tt t ht
    have := h.tk
    have := h.sm.to
    unfold running
    have : decide (T + 7 < t.tick + s.timeout) = false := by rw [decide_eq_false_iff_not]; omega
    rw [this]
    simp
  refine ⟨?_, ?_, fun id => ?_⟩
  · have := h.sm.al
    have := h.tk
    unfold check
    rw [if_neg (by omega), if_neg (by omega)]
  · unfold works
    rw [List.any_eq_false]
    intro t ht
    rw [hno t ht]
    simp
  · unfold given
    rw [List.any_eq_false]
    intro t ht
    rw [hno t ht]
    simp
theorem Fin.step {i : Nat} {T : Int} (h : Fin J res nw lim i T s) (hn : 1 ≤ nw) (hn8 : nw ≤ 8) (hl : lim ≤ 6) (hT : 0 ≤ T ∧ T ≤ 1000) (hi : i < 12) (hres : ∀ p ∈ J, (res p.2).length ≤ 65536) :
    (Pl.ask s 0 (T + 7)).2.err = 0 ∧ (((Pl.ask s 0 (T + 7)).2.is = false ∧ Fin J res nw lim (i + 1) (T + 7) (Pl.ask s 0 (T + 7)).1) ∨
      ((Pl.ask s 0 (T + 7)).2.is = true ∧ ((Pl.ask s 0 (T + 7)).2.id, (Pl.ask s 0 (T + 7)).2.body) ∈ J ∧ (0 ≤ (Pl.ask s 0 (T + 7)).2.num ∧ (Pl.ask s 0 (T + 7)).2.num ≤ 1000) ∧
        Fin J res nw lim (i + 1) (T + 7) (Pl.answer (Pl.ask s 0 (T + 7)).1 (Pl.ask s 0 (T + 7)).2.id 0 (Pl.ask s 0 (T + 7)).2.num (res (Pl.ask s 0 (T + 7)).2.body) (T + 7)).1)) := by
  obtain ⟨hc, hw, hg⟩ := h.none hn hl hT
  have hal : s.alive.getD (0 : Int).toNat false = true := h.al
  obtain ⟨_, ht, hs⟩ := check_zero hc
  have htrl := h.trl
  cases h4 : next s (T + 7) with
  | none =>
    rw [ask_none hc hal hw h4]
    have h5 := next_none h4
    have h6 : cnt s.jobs = 0 := by
      unfold cnt
      rw [List.length_eq_zero_iff, List.filter_eq_nil_iff]
      intro j hj hq
      have := h5 j hj
      unfold free at this
      rw [hg, hq] at this
      simp at this
    exact ⟨rfl, .inl ⟨rfl, h.sm.tick ht hs, h.al, Int.le_refl _, by show cnt s.jobs ≤ _; omega, by show s.tries.length ≤ _; omega⟩⟩
  | some k =>
    obtain ⟨j, hj, hfree, _⟩ := next_some h4
    have hjm := List.mem_of_getElem? hj
    have hask := h.sm.ask 0 (T + 7) (by omega)
    have hgive := h.sm.give hc hj
    rw [ask_some hc hal hw h4 hj] at hask ⊢
    obtain ⟨a1, a2, a3, a4⟩ := hask
    have a5 : (j.id, j.body) ∈ J := (a4 rfl).1
    have a6 : 0 ≤ (j.n : Int) ∧ (j.n : Int) ≤ 1000 := (a4 rfl).2
    refine ⟨rfl, .inr ⟨rfl, a5, a6, ?_⟩⟩
    obtain ⟨s2, hs2⟩ : ∃ s2, giveOut s 0 (T + 7) k j = s2 := ⟨_, rfl⟩
    have hlt := (List.getElem?_eq_some_iff.1 hj).1
    have hjobs : s2.jobs = s.jobs.set k { j with n := j.n + 1 } := by rw [← hs2]; rfl
    have hj2 : s2.jobs[k]? = some { j with n := j.n + 1 } := by rw [hjobs, List.getElem?_set, if_pos rfl, if_pos hlt]
    have hopen : j.ans.isNone = true := by unfold free at hfree; simp at hfree; simpa using hfree.1
    have hsome : j.ans.isSome = false := by cases hq : j.ans with
      | none => rfl
      | some a => rw [hq] at hopen; cases hopen
    have hcnt2 : cnt s2.jobs = cnt s.jobs := by
      have h1 := cnt_set (j' := { j with n := j.n + 1, ans := some ⟨0, 0, []⟩ }) hj hopen rfl
      have h2 := cnt_set (j' := { j with n := j.n + 1, ans := some ⟨0, 0, []⟩ }) hj2 hopen rfl
      rw [hjobs, List.set_set] at h2
      rw [hjobs]
      omega
    rw [hs2] at hgive a1 a2 ⊢
    show Fin J res nw lim (i + 1) (T + 7) (Pl.answer s2 j.id 0 (j.n : Int) (res j.body) (T + 7)).1
    have hc2 : check s2 0 (T + 7) = 0 := by
      have := h.sm.al
      rw [← hs2]
      unfold check giveOut
      dsimp only
      rw [if_neg (by omega), if_neg (by omega)]
    have hf : findJ s2.jobs ({ j with n := j.n + 1 } : Job).id = some k := findJ_at hgive.wf.rise hj2
    replace hf : findJ s2.jobs j.id = some k := hf
    have hk : known s2 j.id 0 (j.n : Int) = true := by
      unfold known
      rw [List.any_eq_true]
      refine ⟨⟨j.id, (j.n : Int), 0, T + 7, false⟩, by rw [← hs2]; simp [giveOut], by simp⟩
    have hrl : (res j.body).length ≤ 65536 := hres _ a5
    rw [answer_first hc2 hf hk hrl hj2 hsome]
    have hcnt3 := cnt_set (j' := { j with n := j.n + 1, ans := some ⟨0, (j.n : Int), res j.body⟩ }) hj2 hopen rfl
    have hop := h.op
    refine ⟨hgive.set (w := 0) ht (by rw [← hs2]; exact Int.le_refl _) hj2 ⟨hrl, ⟨by show (0 : Int) ≤ 0; omega, by show (0 : Int) < 8; omega⟩, by show (0 : Int) ≤ (j.n : Int) ∧ (j.n : Int) ≤ _; have := a6; omega⟩ rfl, ?_, Int.le_refl _, ?_, ?_⟩
    · show s2.alive.getD 0 false = true; rw [← hs2]; exact h.al
    · show cnt (s2.jobs.set k { j with n := j.n + 1, ans := some ⟨0, (j.n : Int), res j.body⟩ }) ≤ 10 - (i + 1); omega
    · show s2.tries.length ≤ _; rw [← hs2]; show (s.tries ++ _).length ≤ _; rw [List.length_append]; simp; omega
theorem dones_of {l : List Job} (h : ∀ j ∈ l, j.ans.isSome = true) : (l.filterMap (fun j => j.ans.map (fun a => (j.id, a)))).length = l.length ∧ ∀ (i : Nat) (j : Job), l[i]? = some j → ∃ a, j.ans = some a ∧ (l.filterMap (fun j => j.ans.map (fun a => (j.id, a))))[i]? = some (j.id, a) := by
  induction l with
  | nil => exact ⟨rfl, fun i j hj => by simp at hj⟩
  | cons x r ih =>
    obtain ⟨h1, h2⟩ := ih (fun j hj => h j (by simp [hj]))
    obtain ⟨a, ha⟩ := Option.isSome_iff_exists.1 (h x (by simp))
    rw [List.filterMap_cons, ha]
    refine ⟨by simp [h1], fun i j hj => ?_⟩
    cases i with
    | zero =>
      have e : x = j := by simpa using hj
      subst e
      exact ⟨a, ha, rfl⟩
    | succ i =>
      obtain ⟨b, hb1, hb2⟩ := h2 i j (by simpa using hj)
      exact ⟨b, hb1, by simpa using hb2⟩
theorem Fin.done {T : Int} (h : Fin J res nw lim 12 T s) : opens s = [] ∧ (dones s).length = J.length ∧ ∀ (i : Nat) (p : Int × List UInt8), J[i]? = some p → ∃ a : Ans, (dones s)[i]? = some (p.1, a) ∧ a.body = res p.2 := by
  have h0 : cnt s.jobs = 0 := by have := h.op; omega
  have hall := cnt_zero h0
  obtain ⟨h1, h2⟩ := dones_of hall
  refine ⟨?_, ?_, fun i p hp => ?_⟩
  · unfold opens
    unfold cnt at h0
    rw [List.eq_nil_of_length_eq_zero h0]
    rfl
  · unfold dones
    rw [h1, ← h.sm.jobs, List.length_map]
  · rw [← h.sm.jobs, List.getElem?_map] at hp
    cases hj : s.jobs[i]? with
    | none => rw [hj] at hp; cases hp
    | some j =>
      rw [hj] at hp
      injection hp with hp
      subst hp
      obtain ⟨a, ha1, ha2⟩ := h2 i j hj
      exact ⟨a, ha2, h.sm.an j (List.mem_of_getElem? hj) a ha1⟩
end
/-! ### the tasks are added -/
theorem insJ_last {l : List Job} {j : Job} (h : ∀ x ∈ l, x.id < j.id) : insJ j l = l ++ [j] := by
  induction l with
  | nil => rfl
  | cons x r ih =>
    have h1 := h x (by simp)
    show (if x.id < j.id then x :: insJ j r else j :: x :: r) = _
    rw [if_pos h1, ih (fun y hy => h y (by simp [hy]))]
    rfl
/-- The tasks of the first i bodies. -/
def tasks (b : Nat → List UInt8) (i : Nat) : List (Int × List UInt8) := (List.range i).map (fun (k : Nat) => (3 * (k : Int), b k))
theorem tasks_succ (b : Nat → List UInt8) (i : Nat) : tasks b (i + 1) = tasks b i ++ [(3 * (i : Int), b i)] := by unfold tasks; rw [List.range_succ, List.map_append]; rfl
theorem tasks_at (b : Nat → List UInt8) {i n : Nat} (h : i < n) : (tasks b n)[i]? = some (3 * (i : Int), b i) := by
  unfold tasks
  rw [List.getElem?_map, List.getElem?_range h]
  rfl
theorem tasks_len (b : Nat → List UInt8) (n : Nat) : (tasks b n).length = n := by simp [tasks]
structure Adds (b : Nat → List UInt8) (nw : Nat) (lim : Int) (i : Nat) (s : S) : Prop where
  wf : WF s
  jobs : s.jobs.map (fun j => (j.id, j.body)) = tasks b i
  al : s.alive.length = nw
  to : s.timeout = lim
  an : ∀ j ∈ s.jobs, j.ans = none
  tr : s.tries = []
  tk : s.tick = 0
theorem Adds.start (b : Nat → List UInt8) {nw : Nat} {lim : Int} (h1 : 1 ≤ nw ∧ nw ≤ 8) (h2 : 1 ≤ lim ∧ lim ≤ 1099511627776) : Adds b nw lim 0 (new nw lim) :=
  ⟨WF.new h1.1 h1.2 h2.1 h2.2, rfl, by simp [new], rfl, by simp [new], rfl, rfl⟩
theorem Adds.add {b : Nat → List UInt8} {nw : Nat} {lim : Int} {i : Nat} {s : S} (h : Adds b nw lim i s) (hi : i < 1000) (hb : (b i).length ≤ 65536) : (Pl.add s (3 * (i : Int)) (b i)).2 = 0 ∧ Adds b nw lim (i + 1) (Pl.add s (3 * (i : Int)) (b i)).1 := by
  have hlen : s.jobs.length = i := by have := congrArg List.length h.jobs; rwa [List.length_map, tasks_len] at this
  have hids : ∀ x ∈ s.jobs, x.id < 3 * (i : Int) := fun x hx => by
    have : (x.id, x.body) ∈ tasks b i := by rw [← h.jobs]; exact List.mem_map.2 ⟨x, hx, rfl⟩
    obtain ⟨k, hk, e⟩ := List.mem_map.1 this
    have := List.mem_range.1 hk
    injection e with e1 _
    omega
  have hf : findJ s.jobs (3 * (i : Int)) = none := by
    cases hf : findJ s.jobs (3 * (i : Int)) with
    | none => rfl
    | some k =>
      obtain ⟨j, hj, e⟩ := findJ_some hf
      have := hids j (List.mem_of_getElem? hj)
      omega
  have e : Go.Pl.add s (3 * (i : Int)) (b i) = ({ s with jobs := insJ ⟨3 * (i : Int), b i, 0, none⟩ s.jobs }, 0) := by
    unfold Go.Pl.add
    rw [if_neg (by omega), if_neg (by omega), if_neg (by rw [hf]; simp)]
  have hw := h.wf.add (3 * (i : Int)) (b i) (by omega)
  rw [e] at hw ⊢
  rw [insJ_last (by exact hids)] at hw ⊢
  refine ⟨rfl, hw, by show (s.jobs ++ _).map _ = _; rw [List.map_append, h.jobs, tasks_succ]; rfl, h.al, h.to, fun x hx => ?_, h.tr, h.tk⟩
  rcases List.mem_append.1 hx with hx | hx
  · exact h.an x hx
  · rw [List.mem_singleton] at hx
    rw [hx]
theorem Adds.sm {b : Nat → List UInt8} {nw : Nat} {lim : Int} {i : Nat} {s : S} (h : Adds b nw lim i s) (res : List UInt8 → List UInt8) : Sm (tasks b i) res nw lim s :=
  ⟨h.wf, h.jobs, h.al, h.to, fun j hj a ha => (by rw [h.an j hj] at ha; cases ha), fun t ht => by rw [h.tr] at ht; simp at ht⟩
end Go.Pl

namespace Go.Pl
set_option linter.unusedVariables false

/-- What the law keeps of a try: task, worker, number, the tick at which it ends. -/
def onRow (lim : Int) (t : Tr) : List Int := [t.task, t.worker, t.num, if t.over then 0 else t.tick + lim]
def numA (j : Job) : Nat := match j.ans with | some a => (a.body.headD 0).toNat | none => 0
def ansOf (s : S) (id : Int) : Nat := match jobOf s id with | some j => numA j | none => 0
def ansL (s : S) : List Nat := (List.range 16).map (fun k : Nat => ansOf s (k : Int))
structure On (lim : Int) (s : S) : Prop where
  wf : WF s
  to : s.timeout = lim
  al : s.alive.length = 4
  id : ∀ j ∈ s.jobs, 0 ≤ j.id ∧ j.id ≤ 12
  an : ∀ j ∈ s.jobs, ∀ a, j.ans = some a → ∃ u : UInt8, a.body = [u] ∧ 1 ≤ u.toNat ∧ u.toNat ≤ 40
theorem ansOf_at {s : S} (h : WF s) {j : Job} (hj : j ∈ s.jobs) : ansOf s j.id = numA j := by unfold ansOf; rw [jobOf_at h hj]
theorem ansOf_none {s : S} {x : Int} (h : ∀ j ∈ s.jobs, j.id ≠ x) : ansOf s x = 0 := by
  unfold ansOf
  cases hf : jobOf s x with
  | none => rfl
  | some y =>
    unfold jobOf at hf
    exact absurd (by simpa using List.find?_some hf) (h y (List.mem_of_find?_eq_some hf))
theorem ansOf_congr {s s' : S} (h : WF s) (h' : WF s') (h1 : ∀ j ∈ s.jobs, ∃ j' ∈ s'.jobs, j'.id = j.id ∧ numA j' = numA j) (h2 : ∀ j' ∈ s'.jobs, numA j' = 0 ∨ ∃ j ∈ s.jobs, j.id = j'.id) (x : Int) : ansOf s' x = ansOf s x := by
  by_cases hx : ∃ j ∈ s.jobs, j.id = x
  · obtain ⟨j, hj, rfl⟩ := hx
    obtain ⟨j', hj', e1, e2⟩ := h1 j hj
    rw [ansOf_at h hj, ← e1, ansOf_at h' hj', e2]
  · have hn : ∀ j ∈ s.jobs, j.id ≠ x := fun j hj e => hx ⟨j, hj, e⟩
    rw [ansOf_none hn]
    by_cases hy : ∃ j ∈ s'.jobs, j.id = x
    · obtain ⟨j', hj', rfl⟩ := hy
      rw [ansOf_at h' hj']
      rcases h2 j' hj' with e | ⟨j, hj, e⟩
      · exact e
      · exact absurd e (hn j hj)
    · exact ansOf_none (fun j hj e => hy ⟨j, hj, e⟩)
theorem ansL_congr {s s' : S} (h : ∀ x, ansOf s' x = ansOf s x) : ansL s' = ansL s := by
  unfold ansL
  exact List.map_congr_left (fun k _ => h _)
theorem ansL_jobs {s s' : S} (h : s'.jobs = s.jobs) : ansL s' = ansL s := ansL_congr (fun x => by unfold ansOf jobOf; rw [h])
theorem On.jobs {lim : Int} {s s' : S} (h : On lim s) (h1 : WF s') (h2 : s'.jobs = s.jobs) (h3 : s'.timeout = s.timeout) (h4 : s'.alive.length = s.alive.length) : On lim s' :=
  ⟨h1, h3.trans h.to, h4.trans h.al, by rw [h2]; exact h.id, by rw [h2]; exact h.an⟩
theorem On.num {lim : Int} {s : S} (h : On lim s) {j : Job} (hj : j ∈ s.jobs) : j.ans.isSome = decide (numA j ≠ 0) := by
  unfold numA
  cases ha : j.ans with
  | none => simp
  | some a =>
    obtain ⟨u, hu, h1, h2⟩ := h.an j hj a ha
    show true = decide ((a.body.headD 0).toNat ≠ 0)
    rw [hu]
    exact (decide_eq_true (show u.toNat ≠ 0 by omega)).symm
theorem On.start {lim : Int} (h : 1 ≤ lim ∧ lim ≤ 9) : On lim (new 4 lim) ∧ ansL (new 4 lim) = List.replicate 16 0 :=
  ⟨⟨WF.new (by omega) (by omega) (by omega) (by omega), rfl, rfl, fun j hj => by simp [new] at hj, fun j hj => by simp [new] at hj⟩, rfl⟩
theorem On.add {lim : Int} {s : S} (h : On lim s) {id : Int} (hi : id ≤ 12) : On lim (add s id []).1 ∧ ansL (add s id []).1 = ansL s ∧ (add s id []).1.tries = s.tries ∧ (add s id []).1.tick = s.tick := by
  have hw := h.wf.add id [] (by omega)
  unfold Go.Pl.add at hw ⊢
  split
  · exact ⟨h, rfl, rfl, rfl⟩
  split
  · exact ⟨h, rfl, rfl, rfl⟩
  split
  · exact ⟨h, rfl, rfl, rfl⟩
  rename_i h1 h2 h3
  rw [if_neg h1, if_neg h2, if_neg h3] at hw
  refine ⟨⟨hw, h.to, h.al, fun j hj => ?_, fun j hj a ha => ?_⟩, ansL_congr (ansOf_congr h.wf hw (fun j hj => ⟨j, mem_insJ.2 (.inr hj), rfl, rfl⟩) (fun j hj => ?_)), rfl, rfl⟩
  · rcases mem_insJ.1 hj with rfl | hj
    · show 0 ≤ id ∧ id ≤ 12; omega
    · exact h.id j hj
  · rcases mem_insJ.1 hj with rfl | hj
    · cases ha
    · exact h.an j hj a ha
  · rcases mem_insJ.1 hj with rfl | hj
    · exact .inl rfl
    · exact .inr ⟨j, hj, rfl⟩
theorem On.give {lim : Int} {s : S} (h : On lim s) {w now : Int} {k : Nat} {j : Job} (hj : s.jobs[k]? = some j) (hc : check s w now = 0) : On lim (giveOut s w now k j) ∧ ansL (giveOut s w now k j) = ansL s := by
  have hw := h.wf.giveOut hj hc
  have hm := List.mem_of_getElem? hj
  have back : ∀ y ∈ s.jobs, ∃ z ∈ (giveOut s w now k j).jobs, z.id = y.id ∧ numA z = numA y := fun y hy => by
    rcases mem_set_of (x := { j with n := j.n + 1 }) h.wf.rise hj hy with rfl | h1
    · exact ⟨_, mem_set_self hj, rfl, rfl⟩
    · exact ⟨y, h1, rfl, rfl⟩
  have forth : ∀ y ∈ (giveOut s w now k j).jobs, ∃ z ∈ s.jobs, z.id = y.id ∧ z.ans = y.ans := fun y hy => by
    rcases List.mem_or_eq_of_mem_set (show y ∈ s.jobs.set k { j with n := j.n + 1 } from hy) with hy | rfl
    · exact ⟨y, hy, rfl, rfl⟩
    · exact ⟨j, hm, rfl, rfl⟩
  refine ⟨⟨hw, h.to, h.al, fun y hy => ?_, fun y hy a ha => ?_⟩, ansL_congr (ansOf_congr h.wf hw back (fun y hy => ?_))⟩
  · obtain ⟨z, hz, e, _⟩ := forth y hy
    rw [← e]; exact h.id z hz
  · obtain ⟨z, hz, _, e⟩ := forth y hy
    exact h.an z hz a (e.trans ha)
  · obtain ⟨z, hz, e, _⟩ := forth y hy
    exact .inr ⟨z, hz, e⟩
theorem On.ran {lim : Int} {s : S} (h : On lim s) {t : Tr} (ht : t ∈ s.tries) {now : Int} (hn : 0 ≤ now) (h3 : now < (if t.over then 0 else t.tick + lim)) (h4 : ansOf s t.task = 0) : running s t now = true := by
  obtain ⟨⟨j, hj, e⟩, _⟩ := h.wf.tr t ht
  have ha : answered s t.task = false := by
    rw [← e, answered_at h.wf hj, h.num hj]
    rw [← e, ansOf_at h.wf hj] at h4
    simp [h4]
  unfold running
  rw [ha, h.to]
  cases ho : t.over with
  | true => rw [ho] at h3; simp at h3; omega
  | false => rw [ho] at h3; simp at h3 ⊢; exact h3
/-- Ask. -/
theorem On.ask {lim : Int} {s : S} (h : On lim s) (w now : Int) : On lim (ask s w now).1 ∧ ansL (ask s w now).1 = ansL s ∧ (ask s w now).1.tick = (if (ask s w now).2.err = 0 then now else s.tick) ∧ ((ask s w now).2.is = false → (ask s w now).1.tries = s.tries) ∧
    ((ask s w now).2.is = true → (ask s w now).2.err = 0 ∧ (0 ≤ (ask s w now).2.id ∧ (ask s w now).2.id ≤ 12) ∧ ansOf s (ask s w now).2.id = 0 ∧ (ask s w now).1.tries = s.tries ++ [⟨(ask s w now).2.id, (ask s w now).2.num, w, now, false⟩] ∧
      ∀ t ∈ s.tries, now < (if t.over then 0 else t.tick + lim) → (t.task = (ask s w now).2.id ∨ t.worker = w) → ansOf s t.task ≠ 0) := by
  by_cases hc : check s w now = 0
  · obtain ⟨_, ht, _⟩ := check_zero hc
    cases h2 : s.alive.getD w.toNat false with
    | false => rw [ask_dead hc h2]; exact ⟨h, rfl, rfl, fun _ => rfl, fun hi => by cases hi⟩
    | true =>
      cases h3 : works s w now with
      | true => rw [ask_busy hc h2 h3]; exact ⟨h, rfl, rfl, fun _ => rfl, fun hi => by cases hi⟩
      | false =>
        cases h4 : next s now with
        | none => rw [ask_none hc h2 h3 h4]; exact ⟨h.jobs (h.wf.tick ht.1 ht.2) rfl rfl rfl, ansL_jobs rfl, rfl, fun _ => rfl, fun hi => by cases hi⟩
        | some k =>
          obtain ⟨j, hj, hf, _⟩ := next_some h4
          rw [ask_some hc h2 h3 h4 hj]
          obtain ⟨g1, g2⟩ := h.give hj hc
          have hm := List.mem_of_getElem? hj
          unfold free at hf
          simp only [Bool.and_eq_true, Bool.not_eq_true'] at hf
          refine ⟨g1, g2, (if_pos rfl).symm, (fun hi => by cases hi), fun _ => ⟨rfl, h.id j hm, ?_, rfl, ?_⟩⟩
          · rw [ansOf_at h.wf hm]
            unfold numA
            cases ha : j.ans with
            | none => rfl
            | some a => rw [ha] at hf; simp at hf
          · intro t ht' h5 h6 h7
            have hr := h.ran ht' ht.1 h5 h7
            rcases h6 with h6 | h6
            · have : given s j.id now = true := List.any_eq_true.2 ⟨t, ht', by rw [hr, h6]; simp⟩
              rw [this] at hf; simp at hf
            · have : works s w now = true := List.any_eq_true.2 ⟨t, ht', by rw [hr, h6]; simp⟩
              rw [this] at h3; cases h3
  · rw [ask_bad hc]; exact ⟨h, rfl, (if_neg hc).symm, fun _ => rfl, fun hi => by cases hi⟩
theorem On.die {lim : Int} {s : S} (h : On lim s) (w now : Int) : On lim (die s w now).1 ∧ ansL (die s w now).1 = ansL s ∧ (die s w now).1.tick = (if (die s w now).2 = 0 then now else s.tick) ∧ (die s w now).1.tries = if (die s w now).2 = 0 then s.tries.map (lose w) else s.tries := by
  have hw := h.wf.die w now
  by_cases hc : check s w now = 0
  · cases h2 : s.alive.getD w.toNat false with
    | false => rw [die_dead hc h2]; exact ⟨h, rfl, rfl, rfl⟩
    | true =>
      rw [die_ok hc h2] at hw ⊢
      exact ⟨h.jobs hw rfl rfl (by show (s.alive.set _ _).length = _; rw [List.length_set]), ansL_jobs rfl, rfl, rfl⟩
  · rw [die_bad hc]; exact ⟨h, rfl, (if_neg hc).symm, (if_neg hc).symm⟩
theorem On.revive {lim : Int} {s : S} (h : On lim s) (w : Int) : On lim (revive s w).1 ∧ ansL (revive s w).1 = ansL s ∧ (revive s w).1.tick = s.tick ∧ (revive s w).1.tries = s.tries := by
  have hw := h.wf.revive w
  by_cases hc : w < 0 ∨ (s.alive.length : Int) ≤ w
  · rw [revive_bad hc]; exact ⟨h, rfl, rfl, rfl⟩
  · cases h2 : s.alive.getD w.toNat false with
    | true => rw [revive_up hc h2]; exact ⟨h, rfl, rfl, rfl⟩
    | false =>
      rw [revive_ok hc h2] at hw ⊢
      exact ⟨h.jobs hw rfl rfl (by show (s.alive.set _ _).length = _; rw [List.length_set]), ansL_jobs rfl, rfl, rfl⟩
theorem ansL_get {s : S} {i : Nat} (hi : i < 16) : (ansL s)[i]? = some (ansOf s (i : Int)) := by unfold ansL; simp [hi]
theorem ansL_len (s : S) : (ansL s).length = 16 := by simp [ansL]
/-- The answer to a try that is known. -/
theorem On.answer {lim : Int} {s : S} (h : On lim s) {t : Tr} (ht : t ∈ s.tries) {now : Int} (hn : s.tick ≤ now ∧ now ≤ 1000000) {u : UInt8} (hu : 1 ≤ u.toNat ∧ u.toNat ≤ 40) (hN : s.tries.length ≤ 1000) : (0 ≤ t.task ∧ t.task ≤ 12) ∧ (answer s t.task t.worker t.num [u] now).2.2 = 0 ∧ (answer s t.task t.worker t.num [u] now).2.1 = decide (ansOf s t.task = 0) ∧
    On lim (answer s t.task t.worker t.num [u] now).1 ∧ (answer s t.task t.worker t.num [u] now).1.tick = now ∧ (answer s t.task t.worker t.num [u] now).1.tries = s.tries ∧ ansL (answer s t.task t.worker t.num [u] now).1 = if ansOf s t.task = 0 then (ansL s).set t.task.toNat u.toNat else ansL s := by
  obtain ⟨⟨j, hj, e⟩, htk, hwk⟩ := h.wf.tr t ht
  have htick := h.wf.tk
  have hc : check s t.worker now = 0 := by unfold check; rw [if_neg (by omega), if_neg (by omega)]
  have hkn : known s t.task t.worker t.num = true := List.any_eq_true.2 ⟨t, ht, by simp⟩
  obtain ⟨k, hk⟩ := List.getElem?_of_mem hj
  have hf : findJ s.jobs t.task = some k := by rw [← e]; exact findJ_at h.wf.rise hk
  have hid := h.id j hj
  have hao : ansOf s t.task = numA j := by rw [← e]; exact ansOf_at h.wf hj
  have hnj := h.num hj
  refine ⟨by rw [← e]; exact hid, ?_⟩
  cases ha : j.ans.isSome with
  | true =>
    have h0 : ansOf s t.task ≠ 0 := by rw [hao]; rw [ha] at hnj; simpa using hnj.symm
    rw [answer_late hc hf hkn (by simp) hk ha]
    exact ⟨rfl, by simp [h0], h.jobs (h.wf.tick (by omega) (by omega)) rfl rfl rfl, rfl, rfl, by rw [if_neg h0]; exact ansL_jobs rfl⟩
  | false =>
    have h0 : ansOf s t.task = 0 := by rw [hao]; rw [ha] at hnj; simpa using hnj.symm
    rw [answer_first hc hf hkn (by simp) hk ha]
    obtain ⟨q, tt, hq, hq2⟩ := (known_at h.wf hj t.worker t.num).1 (by rw [e]; exact hkn)
    have hal := h.al
    have hw : WF (setAns s k j ⟨t.worker, t.num, [u]⟩ now) := by
      have hwf := h.wf.answer t.task t.worker t.num [u] now
      rw [answer_first hc hf hkn (by simp) hk ha] at hwf
      have h1 := (List.getElem?_eq_some_iff.1 hq2.1).1
      have h2 : (triesOf s j.id).length ≤ s.tries.length := List.length_filter_le _ _
      exact hwf (by omega)
    refine ⟨rfl, by simp [h0], ⟨hw, h.to, h.al, fun y hy => ?_, fun y hy a hya => ?_⟩, rfl, rfl, ?_⟩
    · rcases List.mem_or_eq_of_mem_set (show y ∈ s.jobs.set k { j with ans := some ⟨t.worker, t.num, [u]⟩ } from hy) with hy | rfl
      · exact h.id y hy
      · exact hid
    · rcases List.mem_or_eq_of_mem_set (show y ∈ s.jobs.set k { j with ans := some ⟨t.worker, t.num, [u]⟩ } from hy) with hy | rfl
      · exact h.an y hy a hya
      · injection hya with hya
        subst hya
        exact ⟨u, rfl, hu⟩
    · rw [if_pos h0]
      apply List.ext_getElem?
      intro i
      rw [List.getElem?_set, ansL_len]
      by_cases hi : i < 16
      · rw [ansL_get hi]
        by_cases hti : t.task.toNat = i
        · rw [if_pos hti]
          show some (ansOf (setAns s k j ⟨t.worker, t.num, [u]⟩ now) (i : Int)) = _
          split
          case isFalse h => omega
          have : ansOf (setAns s k j ⟨t.worker, t.num, [u]⟩ now) (i : Int) = u.toNat := by
            have h9 := ansOf_at hw (mem_set_self (x := { j with ans := some ⟨t.worker, t.num, [u]⟩ }) hk)
            rw [show (i : Int) = j.id by omega]
            exact h9
          rw [this]
        · rw [if_neg hti, ansL_get hi]
          congr 1
          have hne : j.id ≠ (i : Int) := by omega
          by_cases hx : ∃ y ∈ s.jobs, y.id = (i : Int)
          · obtain ⟨y, hy, ey⟩ := hx
            rcases mem_set_of (x := { j with ans := some ⟨t.worker, t.num, [u]⟩ }) h.wf.rise hk hy with rfl | hy2
            · exact absurd ey hne
            · rw [← ey, ansOf_at h.wf hy]
              exact ansOf_at hw hy2
          · rw [ansOf_none (fun y hy ey => hx ⟨y, hy, ey⟩)]
            refine ansOf_none (fun y hy ey => ?_)
            rcases List.mem_or_eq_of_mem_set (show y ∈ s.jobs.set k { j with ans := some ⟨t.worker, t.num, [u]⟩ } from hy) with hy | rfl
            · exact hx ⟨y, hy, ey⟩
            · exact hne ey
      · have h8 : (ansL (setAns s k j ⟨t.worker, t.num, [u]⟩ now))[i]? = none := List.getElem?_eq_none (by rw [ansL_len]; omega)
        rw [h8]
        split
        · rw [if_neg (show ¬ t.task.toNat < 16 by omega)]
        · exact (List.getElem?_eq_none (by rw [ansL_len]; omega)).symm
/-- In the end. -/
theorem On.done {lim : Int} {s : S} (h : On lim s) : (∀ d ∈ dones s, (0 ≤ d.1 ∧ d.1 ≤ 12) ∧ ∃ u : UInt8, d.2.body = [u] ∧ (ansL s)[d.1.toNat]? = some u.toNat) ∧ ((ansL s).filter (fun x => decide (0 < x))).length = (dones s).length := by
  constructor
  · intro d hd
    unfold dones at hd
    obtain ⟨j, hj, hd⟩ := List.mem_filterMap.1 hd
    cases ha : j.ans with
    | none => rw [ha] at hd; cases hd
    | some a =>
      rw [ha] at hd
      injection hd with hd
      subst hd
      have hid := h.id j hj
      obtain ⟨u, hu, _⟩ := h.an j hj a ha
      refine ⟨hid, u, hu, ?_⟩
      show (ansL s)[j.id.toNat]? = _
      rw [ansL_get (by omega), show ((j.id.toNat : Nat) : Int) = j.id by omega, ansOf_at h.wf hj]
      unfold numA
      rw [ha]
      show some (a.body.headD 0).toNat = _
      rw [hu]
      rfl
  · have h1 : ((ansL s).filter (fun x => decide (0 < x))).length = ((List.range 16).filter (fun k : Nat => decide (0 < ansOf s (k : Int)))).length := by
      unfold ansL
      rw [List.filter_map, List.length_map]
      rfl
    have h2 : (dones s).length = ((s.jobs.filter (fun j => j.ans.isSome)).map (fun j => j.id.toNat)).length := by
      rw [List.length_map]
      unfold dones
      generalize s.jobs = l
      induction l with
      | nil => rfl
      | cons x r ih =>
        cases ha : x.ans with
        | none => simp [ha, ih]
        | some a => simp [ha, ih]
    rw [h1, h2]
    apply List.Perm.length_eq
    refine (List.perm_ext_iff_of_nodup (List.Pairwise.filter _ List.nodup_range) ?_).2 (fun k => ?_)
    · have hp : (s.jobs.filter (fun j => j.ans.isSome)).Pairwise (fun a b => a.id < b.id) := h.wf.rise.filter _
      refine List.pairwise_map.2 (hp.imp_of_mem (fun {a b} ha hb hab => ?_))
      have h3 := h.id a (List.mem_filter.1 ha).1
      have h4 := h.id b (List.mem_filter.1 hb).1
      omega
    · rw [List.mem_filter, List.mem_range, List.mem_map]
      constructor
      · rintro ⟨hk, hp⟩
        by_cases hx : ∃ j ∈ s.jobs, j.id = (k : Int)
        · obtain ⟨j, hj, e⟩ := hx
          rw [← e, ansOf_at h.wf hj] at hp
          refine ⟨j, List.mem_filter.2 ⟨hj, ?_⟩, by omega⟩
          rw [h.num hj]
          have hp := of_decide_eq_true hp
          exact decide_eq_true (by omega)
        · rw [ansOf_none (fun j hj e => hx ⟨j, hj, e⟩)] at hp
          simp at hp
      · rintro ⟨j, hj, rfl⟩
        obtain ⟨hj, ha⟩ := List.mem_filter.1 hj
        have hid := h.id j hj
        refine ⟨by omega, ?_⟩
        rw [show ((j.id.toNat : Nat) : Int) = j.id by omega, ansOf_at h.wf hj]
        rw [h.num hj] at ha
        have ha := of_decide_eq_true ha
        exact decide_eq_true (by omega)
/-- How many of the first i are not 0. -/
def cntA (l : List Nat) (i : Nat) : Nat := ((l.take i).filter (fun x => decide (0 < x))).length
theorem cntA_succ {l : List Nat} {i x : Nat} (h : l[i]? = some x) : cntA l (i + 1) = cntA l i + if 0 < x then 1 else 0 := by
  unfold cntA
  rw [List.take_add_one, h, List.filter_append, List.length_append]
  by_cases hx : 0 < x
  · simp [hx]
  · simp [hx]
theorem cntA_le (l : List Nat) (i : Nat) : cntA l i ≤ i := by
  unfold cntA
  have h1 := List.length_filter_le (fun x => decide (0 < x)) (l.take i)
  have h2 := List.length_take_le i l
  omega
theorem cntA_all (l : List Nat) (i : Nat) (h : l.length ≤ i) : cntA l i = (l.filter (fun x => decide (0 < x))).length := by
  unfold cntA
  rw [List.take_of_length_le h]
/-- The first j tries are marked. -/
def loseTo (w : Int) (l : List Tr) (j : Nat) : List Tr := (l.take j).map (lose w) ++ l.drop j
theorem loseTo_zero (w : Int) (l : List Tr) : loseTo w l 0 = l := by simp [loseTo]
theorem loseTo_all (w : Int) (l : List Tr) : loseTo w l l.length = l.map (lose w) := by simp [loseTo]
theorem loseTo_len (w : Int) (l : List Tr) (j : Nat) : (loseTo w l j).length = l.length := by simp [loseTo]; omega
theorem loseTo_get (w : Int) (l : List Tr) (j i : Nat) : (loseTo w l j)[i]? = if i < j then (l[i]?).map (lose w) else l[i]? := by
  unfold loseTo
  rw [List.getElem?_append]
  simp only [List.length_map, List.length_take, List.getElem?_map, List.getElem?_take, List.getElem?_drop]
  by_cases hi : i < j
  · by_cases hl : i < l.length
    · rw [if_pos (by omega), if_pos hi, if_pos hi]
    · rw [if_neg (by omega), if_pos hi, List.getElem?_eq_none (by omega), List.getElem?_eq_none (by omega)]
      rfl
  · rw [if_neg (by omega), if_neg hi]
    by_cases hl : i < l.length
    · rw [show j + (i - min j l.length) = i by omega]
    · rw [List.getElem?_eq_none (by omega), List.getElem?_eq_none (by omega)]
theorem loseTo_at {w : Int} {l : List Tr} {j : Nat} {y : Tr} (h : l[j]? = some y) : (loseTo w l j)[j]? = some y := by
  rw [loseTo_get, if_neg (by omega)]
  exact h
theorem loseTo_succ {w : Int} {l : List Tr} {j : Nat} {y : Tr} (h : l[j]? = some y) : loseTo w l (j + 1) = (loseTo w l j).set j (lose w y) := by
  have hj := (List.getElem?_eq_some_iff.1 h).1
  apply List.ext_getElem?
  intro i
  rw [List.getElem?_set, loseTo_get, loseTo_get, loseTo_len]
  by_cases e : j = i
  · subst e
    rw [if_pos (by omega), if_pos rfl, if_pos hj, h]
    rfl
  · rw [if_neg e]
    by_cases hi : i < j
    · rw [if_pos (by omega), if_pos hi]
    · rw [if_neg (by omega), if_neg hi]
theorem loseTo_hit {w : Int} {l : List Tr} {j : Nat} {y : Tr} (h : l[j]? = some y) (e : y.worker = w) : (loseTo w l j).set j { y with over := true } = loseTo w l (j + 1) := by
  rw [loseTo_succ h]; unfold lose; rw [if_pos e]
theorem loseTo_skip {w : Int} {l : List Tr} {j : Nat} {y : Tr} (h : l[j]? = some y) (e : y.worker ≠ w) : loseTo w l (j + 1) = loseTo w l j := by
  rw [loseTo_succ h]
  unfold lose
  rw [if_neg e]
  have h2 := loseTo_at (w := w) h
  obtain ⟨h3, h4⟩ := List.getElem?_eq_some_iff.1 h2
  rw [← h4]
  exact List.set_getElem_self h3
end Go.Pl

namespace Go.Pl
def L2 : S := (add (add (new 2 10) 2 []).1 1 []).1
def L3 : S := (ask L2 0 0).1
def L4 : S := (ask L3 1 0).1
def L5 : S := (answer L4 2 1 0 [] 5).1
def L6 : S := (ask L5 1 10).1
def L7 : S := (answer L6 1 0 0 [] 11).1
def L8 : S := (answer L7 1 1 1 [] 12).1
theorem l1 : (add (new 2 10) 2 []).2 = 0 := by rfl
theorem l2 : (add (add (new 2 10) 2 []).1 1 []).2 = 0 := by rfl
theorem l3 : (ask L2 0 0).2 = ⟨1, [], 0, true, 0⟩ := by rfl
theorem l4 : (ask L3 1 0).2 = ⟨2, [], 0, true, 0⟩ := by rfl
theorem l5 : (answer L4 2 1 0 [] 5).2 = (true, 0) := by rfl
theorem l6 : (ask L5 1 10).2 = ⟨1, [], 1, true, 0⟩ := by rfl
theorem l7 : (answer L6 1 0 0 [] 11).2 = (true, 0) := by rfl
theorem l8 : (answer L7 1 1 1 [] 12).2 = (false, 0) := by rfl
theorem l9 : opens L8 = [] := by rfl
theorem lt3 : L2.tries.length = 0 ∧ L3.tries.length = 1 ∧ L5.tries.length = 2 := by decide
end Go.Pl
