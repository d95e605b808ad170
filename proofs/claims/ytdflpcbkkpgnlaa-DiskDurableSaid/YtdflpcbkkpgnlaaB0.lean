/- The parts PureDisk, PureDk3 of the proof, in one text. -/
set_option linter.unusedSimpArgs false
set_option linter.unusedVariables false

namespace Go.Dk
set_option linter.unusedVariables false

/-- The files: their bytes, how many of them are durable; the plan of a failure (-1: none). -/
structure S where
  room : Nat
  f : Nat → List UInt8
  firm : Nat → Nat
  off : Bool
  plan : Int

def upd {α : Type} (g : Nat → α) (i : Nat) (x : α) : Nat → α := fun j => if j = i then x else g j
theorem upd_same {α : Type} (g : Nat → α) (i : Nat) (x : α) : upd g i x i = x := if_pos rfl
theorem upd_other {α : Type} (g : Nat → α) {i j : Nat} (x : α) (h : j ≠ i) : upd g i x j = g j := if_neg h
theorem upd_self {α : Type} (g : Nat → α) (i : Nat) : upd g i (g i) = g := by
  funext j
  unfold upd
  split
  · rename_i h; rw [h]
  · rfl
def usedN (f : Nat → List UInt8) : Nat → Nat
  | 0 => 0
  | n + 1 => usedN f n + (f n).length
/-- The number of bytes. -/
def used (s : S) : Nat := usedN s.f 64
theorem usedN_upd_lt (f : Nat → List UInt8) {i : Nat} (l : List UInt8) : ∀ n, n ≤ i → usedN (upd f i l) n = usedN f n
  | 0, _ => rfl
  | n + 1, h => by
    unfold usedN
    rw [usedN_upd_lt f l n (by omega), upd_other f l (show n ≠ i by omega)]
theorem usedN_upd (f : Nat → List UInt8) {i : Nat} (l : List UInt8) : ∀ n, i < n → usedN (upd f i l) n + (f i).length = usedN f n + l.length
  | 0, h => by omega
  | n + 1, h => by
    unfold usedN
    by_cases hi : i = n
    · subst hi
      rw [usedN_upd_lt f l i (Nat.le_refl _), upd_same]
      omega
    · have := usedN_upd (i := i) f l n (by omega)
      rw [upd_other f l (fun e => hi e.symm)]
      omega
theorem usedN_le {f : Nat → List UInt8} {i : Nat} : ∀ n, i < n → (f i).length ≤ usedN f n
  | 0, h => by omega
  | n + 1, h => by
    unfold usedN
    by_cases hi : i = n
    · subst hi; omega
    · have h1 := usedN_le (f := f) (i := i) n (by omega)
      exact Nat.le_trans h1 (Nat.le_add_right _ _)
theorem usedN_mono {f f' : Nat → List UInt8} (h : ∀ i, (f' i).length ≤ (f i).length) : ∀ n, usedN f' n ≤ usedN f n
  | 0 => Nat.le_refl _
  | n + 1 => by
    unfold usedN
    have := usedN_mono h n
    have := h n
    omega
theorem usedN_congr {f f' : Nat → List UInt8} (h : ∀ i, (f' i).length = (f i).length) (n : Nat) : usedN f' n = usedN f n :=
  Nat.le_antisymm (usedN_mono (fun i => Nat.le_of_eq (h i)) n) (usedN_mono (fun i => Nat.le_of_eq (h i).symm) n)

def filesN (f : Nat → List UInt8) (n : Nat) : List Nat := (List.range n).filter (fun i => !(f i).isEmpty)
/-- The files that are not empty. -/
def files (s : S) : List Nat := filesN s.f 64
theorem mem_filesN {f : Nat → List UInt8} {n i : Nat} : i ∈ filesN f n ↔ i < n ∧ f i ≠ [] := by
  unfold filesN
  rw [List.mem_filter, List.mem_range]
  cases f i <;> simp
theorem mem_files {s : S} {i : Nat} : i ∈ files s ↔ i < 64 ∧ s.f i ≠ [] := mem_filesN
theorem filesN_rise (f : Nat → List UInt8) (n : Nat) : (filesN f n).Pairwise (· < ·) := List.Pairwise.filter _ List.pairwise_lt_range
theorem filesN_succ (f : Nat → List UInt8) (n : Nat) : filesN f (n + 1) = filesN f n ++ (if (f n).isEmpty then [] else [n]) := by
  unfold filesN
  rw [List.range_succ, List.filter_append]
  congr 1
  cases h : (f n).isEmpty <;> simp [h]
theorem filesN_len (f : Nat → List UInt8) : ∀ n, (filesN f n).length ≤ n
  | 0 => by simp [filesN]
  | n + 1 => by
    rw [filesN_succ, List.length_append]
    have := filesN_len f n
    split <;> simp <;> omega
/-- A file's place among those that are not empty. -/
def rank (s : S) (i : Nat) : Nat := (filesN s.f i).length
theorem filesN_pre (f : Nat → List UInt8) {i : Nat} : ∀ n, i ≤ n → ∃ r, filesN f n = filesN f i ++ r
  | 0, h => ⟨[], by rw [Nat.le_zero.1 h, List.append_nil]⟩
  | n + 1, h => by
    by_cases hi : i = n + 1
    · exact ⟨[], by rw [hi]; simp⟩
    · obtain ⟨r, hr⟩ := filesN_pre f (i := i) n (by omega)
      exact ⟨r ++ (if (f n).isEmpty then [] else [n]), by rw [filesN_succ, hr, List.append_assoc]⟩
theorem rank_at {s : S} {j i : Nat} (h : (files s)[j]? = some i) : rank s i = j := by
  have hm := mem_files.1 (List.mem_of_getElem? h)
  obtain ⟨r, hr⟩ := filesN_pre s.f (i := i + 1) 64 (by omega)
  rw [filesN_succ s.f i, if_neg (by simpa using hm.2)] at hr
  have hlt := (List.getElem?_eq_some_iff.1 h).1
  have h2 : (files s)[rank s i]? = some i := by
    unfold files rank
    rw [hr, List.append_assoc, List.getElem?_append_right (Nat.le_refl _)]
    simp
  have hlt2 := (List.getElem?_eq_some_iff.1 h2).1
  rcases Nat.lt_trichotomy (rank s i) j with hl | hl | hl
  · have := List.pairwise_iff_getElem.1 (filesN_rise s.f 64) _ _ hlt2 hlt hl
    have q1 : (filesN s.f 64)[rank s i] = i := (List.getElem?_eq_some_iff.1 h2).2
    have q2 : (filesN s.f 64)[j] = i := (List.getElem?_eq_some_iff.1 h).2
    rw [q1, q2] at this
    omega
  · exact hl
  · have := List.pairwise_iff_getElem.1 (filesN_rise s.f 64) _ _ hlt hlt2 hl
    have q1 : (filesN s.f 64)[rank s i] = i := (List.getElem?_eq_some_iff.1 h2).2
    have q2 : (filesN s.f 64)[j] = i := (List.getElem?_eq_some_iff.1 h).2
    rw [q1, q2] at this
    omega
structure WF (s : S) : Prop where
  firm : ∀ i, s.firm i ≤ (s.f i).length
  plan : -1 ≤ s.plan ∧ s.plan ≤ 9223372036854775807
  room : s.room ≤ 16777216
  used : used s ≤ s.room
  far : ∀ i, 64 ≤ i → s.f i = []
theorem WF.len {s : S} (h : WF s) (i : Nat) : (s.f i).length ≤ 16777216 := by
  by_cases hi : i < 64
  · have h1 := usedN_le (f := s.f) (i := i) 64 hi
    have h2 := h.used
    have h3 := h.room
    unfold Dk.used at h2
    omega
  · rw [h.far i (by omega)]; simp

/-- A step: the state behind it; whether the power fails during it. -/
def pstep (s : S) : S × Bool :=
  if s.plan < 0 then (s, false) else if s.plan = 0 then ({ s with plan := -1, off := true }, true) else ({ s with plan := s.plan - 1 }, false)
def put (s : S) (i : Nat) (l : List UInt8) (d : Nat) : S := { s with f := upd s.f i l, firm := upd s.firm i d }

def append (s : S) (file : Int) (l : List UInt8) : S × Int :=
  if file < 0 ∨ 64 ≤ file then (s, 1) else if s.off then (s, 24) else if s.room < used s + l.length then (s, 23) else
  let r := pstep (put s file.toNat (s.f file.toNat ++ l) (s.firm file.toNat))
  (r.1, if r.2 then 24 else 0)

def read (s : S) (file : Int) : List UInt8 × Int :=
  if file < 0 ∨ 64 ≤ file then ([], 1) else if s.off then ([], 24) else (s.f file.toNat, 0)

def firmAll (s : S) : S := { s with firm := fun i => (s.f i).length }

def sync (s : S) : S × Int :=
  if s.off then (s, 24) else if (pstep s).2 then ((pstep s).1, 24) else (firmAll (pstep s).1, 0)

theorem step_f (s : S) : (pstep s).1.f = s.f ∧ (pstep s).1.firm = s.firm ∧ (pstep s).1.room = s.room := by
  unfold pstep
  split
  · exact ⟨rfl, rfl, rfl⟩
  · split <;> exact ⟨rfl, rfl, rfl⟩

def truncate (s : S) (file size : Int) : S × Int :=
  if file < 0 ∨ 64 ≤ file ∨ size < 0 ∨ ((s.f file.toNat).length : Int) < size then (s, 1) else if s.off then (s, 24) else
  if (pstep s).2 then ((pstep s).1, 24) else (put (pstep s).1 file.toNat ((s.f file.toNat).take size.toNat) (min (s.firm file.toNat) size.toNat), 0)

def arm (s : S) (n : Int) : S := if s.off then s else { s with plan := max n (-1) }

/-- How many loose bytes of a file survive. -/
def kept (s : S) (keep : List Int) (i : Nat) : Nat :=
  match keep[rank s i]? with
  | some k => (max 0 (min k (((s.f i).length : Int) - s.firm i))).toNat
  | none => 0
/-- The first j files' bytes cut. -/
def cutTo (s : S) (keep : List Int) (j : Nat) : Nat → List UInt8 := fun i => if i ∈ (files s).take j then (s.f i).take (s.firm i + kept s keep i) else s.f i
def manyTo (s : S) (keep : List Int) (j : Nat) : Nat := (((files s).take j).map (kept s keep)).sum
def cut (s : S) (keep : List Int) : S := { s with f := cutTo s keep (files s).length }
def many (s : S) (keep : List Int) : Nat := manyTo s keep (files s).length
/-- A bit of a byte turned. -/
def turn (l : List UInt8) (p k : Nat) : List UInt8 := l.modify p (fun c => c ^^^ UInt8.ofNat (2 ^ (7 - k)))
/-- The loose bit with a number turned. -/
def invert (s : S) : List Nat → Nat → (Nat → List UInt8)
  | [], _ => s.f
  | i :: r, bit => if bit < 8 * ((s.f i).length - s.firm i) then upd s.f i (turn (s.f i) (s.firm i + bit / 8) (bit % 8)) else invert s r (bit - 8 * ((s.f i).length - s.firm i))
def turned (s : S) (keep : List Int) (flip : Int) : S :=
  if 0 ≤ flip ∧ 0 < many s keep then { cut s keep with f := invert (cut s keep) (files s) (flip.toNat % (8 * many s keep)) } else cut s keep
def crash (s : S) (keep : List Int) (flip : Int) : S := { firmAll (turned s keep flip) with off := false, plan := -1 }
def new (room : Nat) : S := ⟨room, fun _ => [], fun _ => 0, false, -1⟩

theorem used_new (room : Nat) : used (new room) = 0 := by
  have : ∀ n, usedN (fun _ => ([] : List UInt8)) n = 0 := by
    intro n
    induction n with
    | zero => rfl
    | succ n ih => unfold usedN; rw [ih]; rfl
  exact this 64
theorem WF.new {room : Nat} (h : room ≤ 16777216) : WF (Dk.new room) := ⟨fun i => Nat.le_refl _, by simp [Dk.new], h, by rw [used_new]; exact Nat.zero_le _, fun i _ => rfl⟩
theorem WF.pstep {s : S} (h : WF s) : WF (Dk.pstep s).1 := by
  obtain ⟨h1, h2, h3⟩ := step_f s
  refine ⟨fun i => by rw [h1, h2]; exact h.firm i, ?_, by rw [h3]; exact h.room, by show usedN (Dk.pstep s).1.f 64 ≤ _; rw [h1, h3]; exact h.used, fun i hi => by rw [h1]; exact h.far i hi⟩
  have := h.plan
  unfold Dk.pstep
  split
  · exact this
  · split
    · simp
    · exact ⟨by show -1 ≤ s.plan - 1; omega, by show s.plan - 1 ≤ _; omega⟩
theorem put_used {s : S} {i : Nat} (hi : i < 64) (l : List UInt8) (d : Nat) : used (put s i l d) + (s.f i).length = used s + l.length := usedN_upd s.f l 64 hi
theorem WF.put {s : S} (h : WF s) {i : Nat} (hi : i < 64) {l : List UInt8} {d : Nat} (hd : d ≤ l.length) (hu : Dk.used s + l.length ≤ s.room + (s.f i).length) : WF (Dk.put s i l d) := by
  refine ⟨fun j => ?_, h.plan, h.room, ?_, fun j hj => ?_⟩
  · show upd s.firm i d j ≤ (upd s.f i l j).length
    unfold upd
    split
    · exact hd
    · exact h.firm j
  · have := put_used (s := s) hi l d
    show Dk.used (Dk.put s i l d) ≤ s.room
    omega
  · show upd s.f i l j = []
    rw [upd_other _ _ (by omega)]
    exact h.far j hj
theorem WF.firmAll {s : S} (h : WF s) : WF (Dk.firmAll s) := ⟨fun i => Nat.le_refl _, h.plan, h.room, h.used, h.far⟩
theorem WF.append {s : S} (h : WF s) (file : Int) (l : List UInt8) : WF (Dk.append s file l).1 := by
  unfold Dk.append
  split
  · exact h
  · rename_i h1
    split
    · exact h
    · split
      · exact h
      · rename_i h2
        exact (h.put (i := file.toNat) (by omega) (by rw [List.length_append]; have := h.firm file.toNat; omega) (by rw [List.length_append]; omega)).pstep
theorem WF.sync {s : S} (h : WF s) : WF (Dk.sync s).1 := by
  unfold Dk.sync
  split
  · exact h
  · split
    · exact h.pstep
    · exact h.pstep.firmAll
theorem WF.truncate {s : S} (h : WF s) (file size : Int) : WF (Dk.truncate s file size).1 := by
  obtain ⟨h1, h2, h3⟩ := step_f s
  unfold Dk.truncate
  split
  · exact h
  · rename_i hn
    split
    · exact h
    · split
      · exact h.pstep
      · refine h.pstep.put (i := file.toNat) (by omega) (by rw [List.length_take]; have := h.firm file.toNat; omega) ?_
        have := h.pstep.used
        rw [List.length_take, h1]
        omega
theorem WF.arm {s : S} (h : WF s) {n : Int} (hn : n ≤ 9223372036854775807) : WF (Dk.arm s n) := by
  unfold Dk.arm
  split
  · exact h
  · exact ⟨h.firm, by show -1 ≤ max n (-1) ∧ max n (-1) ≤ _; omega, h.room, h.used, h.far⟩
theorem cutTo_le (s : S) (keep : List Int) (j i : Nat) : (cutTo s keep j i).length ≤ (s.f i).length := by
  unfold cutTo
  split
  · rw [List.length_take]; omega
  · exact Nat.le_refl _
theorem kept_le (s : S) (keep : List Int) (i : Nat) : kept s keep i ≤ (s.f i).length - s.firm i := by
  unfold kept
  split <;> omega
theorem WF.cutTo {s : S} (h : WF s) (keep : List Int) (j : Nat) : WF { s with f := Dk.cutTo s keep j } := by
  refine ⟨fun i => ?_, h.plan, h.room, Nat.le_trans (usedN_mono (cutTo_le s keep j) 64) h.used, fun i hi => ?_⟩
  · show s.firm i ≤ (Dk.cutTo s keep j i).length
    have := h.firm i
    unfold Dk.cutTo
    split
    · rw [List.length_take]; omega
    · exact this
  · have := cutTo_le s keep j i
    rw [h.far i hi] at this
    exact List.eq_nil_of_length_eq_zero (by simpa using this)
theorem turn_len (l : List UInt8) (p k : Nat) : (turn l p k).length = l.length := by simp [turn]
theorem invert_len (s : S) : ∀ (r : List Nat) (b i : Nat), (invert s r b i).length = (s.f i).length
  | [], _, _ => rfl
  | x :: r, b, i => by
    unfold invert
    split
    · unfold upd
      split
      · rename_i h; rw [turn_len, h]
      · rfl
    · exact invert_len s r _ i
theorem WF.invert {s : S} (h : WF s) (r : List Nat) (b : Nat) : WF { s with f := Dk.invert s r b } := by
  refine ⟨fun i => ?_, h.plan, h.room, ?_, fun i hi => ?_⟩
  · show s.firm i ≤ (Dk.invert s r b i).length
    rw [invert_len]; exact h.firm i
  · show usedN (Dk.invert s r b) 64 ≤ s.room
    rw [usedN_congr (invert_len s r b)]; exact h.used
  · have := invert_len s r b i
    rw [h.far i hi] at this
    exact List.eq_nil_of_length_eq_zero this
theorem WF.turned {s : S} (h : WF s) (keep : List Int) (flip : Int) : WF (Dk.turned s keep flip) := by
  unfold Dk.turned
  split
  · exact (h.cutTo keep _).invert _ _
  · exact h.cutTo keep _
theorem WF.crash {s : S} (h : WF s) (keep : List Int) (flip : Int) : WF (Dk.crash s keep flip) :=
  ⟨(h.turned keep flip).firmAll.firm, ⟨by simp [Dk.crash], by simp [Dk.crash]⟩, (h.turned keep flip).room, (h.turned keep flip).used, (h.turned keep flip).far⟩

theorem take_at {α : Type} {L : List α} {j : Nat} {x : α} (h : L[j]? = some x) : L.take (j + 1) = L.take j ++ [x] := by
  rw [List.take_add_one, h]
  rfl
theorem files_nodup (s : S) : (files s).Nodup := (filesN_rise s.f 64).imp (fun h => by omega)
theorem not_take {α : Type} {L : List α} (hn : L.Nodup) {j : Nat} {x : α} (h : L[j]? = some x) : x ∉ L.take j := by
  intro hm
  obtain ⟨k, hk, he⟩ := List.mem_iff_getElem.1 hm
  rw [List.length_take] at hk
  rw [List.getElem_take] at he
  obtain ⟨hj, he2⟩ := List.getElem?_eq_some_iff.1 h
  have := (List.getElem_inj (h₀ := by omega) (h₁ := hj) hn).1 (he.trans he2.symm)
  omega
/-- The first j files made durable. -/
def syncTo (s : S) (j : Nat) : S := { s with firm := fun i => if i ∈ (files s).take j then (s.f i).length else s.firm i }
theorem syncTo_zero (s : S) : syncTo s 0 = s := by unfold syncTo; simp
theorem syncTo_succ {s : S} {j i : Nat} (h : (files s)[j]? = some i) : syncTo s (j + 1) = put (syncTo s j) i (s.f i) (s.f i).length := by
  unfold syncTo put
  have e1 : upd s.f i (s.f i) = s.f := upd_self _ _
  have e2 : (fun k => if k ∈ (files s).take (j + 1) then (s.f k).length else s.firm k) = upd (fun k => if k ∈ (files s).take j then (s.f k).length else s.firm k) i (s.f i).length := by
    funext k
    rw [take_at h]
    unfold upd
    by_cases e : k = i
    · subst e; simp
    · simp [e]
  simp only [e1, e2]
theorem syncTo_all {s : S} (h : WF s) : syncTo s (files s).length = firmAll s := by
  unfold syncTo firmAll
  have : (fun i => if i ∈ (files s).take (files s).length then (s.f i).length else s.firm i) = fun i => (s.f i).length := by
    funext i
    rw [List.take_length]
    split
    · rfl
    · rename_i hn
      have h1 := h.firm i
      have : s.f i = [] := by
        by_cases hi : i < 64
        · exact Decidable.byContradiction (fun e => hn (mem_files.2 ⟨hi, e⟩))
        · exact h.far i (by omega)
      rw [this] at h1 ⊢
      simpa using h1
  rw [this]
theorem WF.syncTo {s : S} (h : WF s) (j : Nat) : WF (syncTo s j) := ⟨fun i => by
  show (if i ∈ (files s).take j then (s.f i).length else s.firm i) ≤ (s.f i).length
  split
  · exact Nat.le_refl _
  · exact h.firm i, h.plan, h.room, h.used, h.far⟩
theorem sync_off {s : S} (h : s.off = true) : sync s = (s, 24) := if_pos h
theorem sync_down {s : S} (h : s.off = false) (h2 : (pstep s).2 = true) : sync s = ((pstep s).1, 24) := by unfold sync; rw [if_neg (by rw [h]; simp), if_pos h2]
theorem sync_ok {s : S} (h : s.off = false) (h2 : (pstep s).2 = false) : sync s = (firmAll (pstep s).1, 0) := by unfold sync; rw [if_neg (by rw [h]; simp), if_neg (by rw [h2]; simp)]

/-- The first j files cut. -/
def cutS (s : S) (keep : List Int) (j : Nat) : S := { s with f := cutTo s keep j }
theorem cutS_zero (s : S) (keep : List Int) : cutS s keep 0 = s := by unfold cutS cutTo; simp
theorem cutS_at {s : S} {keep : List Int} {j i : Nat} (h : (files s)[j]? = some i) : (cutS s keep j).f i = s.f i := by
  show cutTo s keep j i = _
  unfold cutTo
  rw [if_neg (not_take (files_nodup s) h)]
theorem cutS_succ {s : S} {keep : List Int} {j i : Nat} (h : (files s)[j]? = some i) : cutS s keep (j + 1) = put (cutS s keep j) i ((s.f i).take (s.firm i + kept s keep i)) (s.firm i) := by
  unfold cutS put
  have e1 : upd s.firm i (s.firm i) = s.firm := upd_self _ _
  have e2 : cutTo s keep (j + 1) = upd (cutTo s keep j) i ((s.f i).take (s.firm i + kept s keep i)) := by
    funext k
    unfold cutTo upd
    rw [take_at h]
    by_cases e : k = i
    · subst e; simp
    · simp [e]
  simp only [e1, e2]
theorem manyTo_zero (s : S) (keep : List Int) : manyTo s keep 0 = 0 := by simp [manyTo]
theorem manyTo_succ {s : S} {keep : List Int} {j i : Nat} (h : (files s)[j]? = some i) : manyTo s keep (j + 1) = manyTo s keep j + kept s keep i := by
  unfold manyTo
  rw [take_at h, List.map_append, List.sum_append]
  simp
theorem kept_at {s : S} {keep : List Int} {j i : Nat} (h : (files s)[j]? = some i) : kept s keep i = match keep[j]? with
    | some k => (max 0 (min k (((s.f i).length : Int) - s.firm i))).toNat
    | none => 0 := by
  unfold kept
  rw [rank_at h]
theorem sum_len (f : Nat → List UInt8) : ∀ n, ((filesN f n).map (fun i => (f i).length)).sum = usedN f n
  | 0 => rfl
  | n + 1 => by
    rw [filesN_succ, List.map_append, List.sum_append, sum_len f n]
    show _ = usedN f n + (f n).length
    cases h : f n with
    | nil => simp
    | cons a r => simp [h]
theorem sum_take_le (g h : Nat → Nat) (hg : ∀ i, g i ≤ h i) : ∀ (L : List Nat) (j : Nat), ((L.take j).map g).sum ≤ (L.map h).sum
  | [], j => by simp
  | a :: r, 0 => by simp
  | a :: r, j + 1 => by
    have := sum_take_le g h hg r j
    have := hg a
    simp only [List.take_succ_cons, List.map_cons, List.sum_cons]
    omega
theorem manyTo_le (s : S) (keep : List Int) (j : Nat) : manyTo s keep j ≤ used s := by
  unfold manyTo used
  rw [← sum_len]
  exact sum_take_le _ _ (fun i => Nat.le_trans (kept_le s keep i) (Nat.sub_le _ _)) _ _
theorem WF.cutS {s : S} (h : WF s) (keep : List Int) (j : Nat) : WF (cutS s keep j) := h.cutTo keep j
theorem crash_eq (s : S) (keep : List Int) (flip : Int) : crash s keep flip = { firmAll (turned s keep flip) with off := false, plan := -1 } := rfl

/-- The files that are not left. -/
def part (s : S) (left : Int → Bool) : S := { s with f := fun i => if left (i : Int) then [] else s.f i, firm := fun i => if left (i : Int) then 0 else s.firm i }
theorem part_all {s : S} {left : Int → Bool} (h : ∀ i, left i = false) : part s left = s := by
  unfold part
  simp [h]
theorem part_none {s : S} (hw : WF s) {left : Int → Bool} (h : ∀ i : Nat, i < 64 → s.f i ≠ [] → left (i : Int) = true) (i : Nat) : (part s left).f i = [] := by
  show (if left (i : Int) then [] else s.f i) = []
  split
  · rfl
  · rename_i hn
    by_cases hi : i < 64
    · exact Decidable.byContradiction (fun e => hn (h i hi e))
    · exact hw.far i (by omega)
theorem part_step {s : S} {left : Int → Bool} {k : Nat} (hl : left (k : Int) = true) : part s (fun x => left x && !(x == (k : Int))) = put (part s left) k (s.f k) (s.firm k) := by
  unfold part put
  have e1 : (fun i : Nat => if (left (i : Int) && !((i : Int) == (k : Int))) = true then ([] : List UInt8) else s.f i) = upd (fun i : Nat => if left (i : Int) = true then [] else s.f i) k (s.f k) := by
    funext i
    unfold upd
    by_cases e : i = k
    · subst e; simp
    · have : ((i : Int) == (k : Int)) = false := by simp; omega
      simp [this, e]
  have e2 : (fun i : Nat => if (left (i : Int) && !((i : Int) == (k : Int))) = true then 0 else s.firm i) = upd (fun i : Nat => if left (i : Int) = true then 0 else s.firm i) k (s.firm k) := by
    funext i
    unfold upd
    by_cases e : i = k
    · subst e; simp
    · have : ((i : Int) == (k : Int)) = false := by simp; omega
      simp [this, e]
  simp only [e1, e2]
theorem WF.part {s : S} (h : WF s) (left : Int → Bool) : WF (part s left) := by
  refine ⟨fun i => ?_, h.plan, h.room, Nat.le_trans (usedN_mono (fun i => ?_) 64) h.used, fun i hi => ?_⟩
  · show (if left (i : Int) then 0 else s.firm i) ≤ (if left (i : Int) then [] else s.f i).length
    split
    · exact Nat.zero_le _
    · exact h.firm i
  · show (if left (i : Int) then [] else s.f i).length ≤ (s.f i).length
    split
    · exact Nat.zero_le _
    · exact Nat.le_refl _
  · show (if left (i : Int) then [] else s.f i) = []
    split
    · rfl
    · exact h.far i hi
end Go.Dk

namespace Go.Dk
theorem turn_take {l : List UInt8} {p k d : Nat} (h : d ≤ p) : (turn l p k).take d = l.take d := by
  apply List.ext_getElem?
  intro j
  unfold turn
  rw [List.getElem?_take, List.getElem?_take]
  split
  · rw [List.getElem?_modify]
    have hne : ¬ p = j := by omega
    simp only [hne, if_false]
    cases l[j]? <;> rfl
  · rfl
theorem invert_take (s : S) : ∀ (r : List Nat) (b i : Nat), (invert s r b i).take (s.firm i) = (s.f i).take (s.firm i)
  | [], _, _ => rfl
  | j :: r, b, i => by
    unfold invert
    split
    · unfold upd
      split
      · rename_i e
        subst e
        exact turn_take (by omega)
      · rfl
    · exact invert_take s r _ i
theorem turned_len (s : S) (keep : List Int) (flip : Int) (i : Nat) : ((turned s keep flip).f i).length = ((cut s keep).f i).length := by
  unfold turned
  split
  · exact invert_len _ _ _ _
  · rfl
theorem turned_take (s : S) (keep : List Int) (flip : Int) (i : Nat) : ((turned s keep flip).f i).take (s.firm i) = ((cut s keep).f i).take (s.firm i) := by
  unfold turned
  split
  · exact invert_take (cut s keep) _ _ i
  · rfl
theorem cut_take (s : S) (keep : List Int) (i : Nat) : ((cut s keep).f i).take (s.firm i) = (s.f i).take (s.firm i) := by
  show (cutTo s keep (files s).length i).take _ = _
  unfold cutTo
  split
  · rw [List.take_take]; congr 1; omega
  · rfl
theorem cut_len (s : S) (keep : List Int) (i : Nat) : ((cut s keep).f i).length ≤ (s.f i).length := by
  show (cutTo s keep (files s).length i).length ≤ _
  unfold cutTo
  split
  · rw [List.length_take]; omega
  · exact Nat.le_refl _
/-- The durable bytes survive. -/
theorem crash_take (s : S) (keep : List Int) (flip : Int) (i : Nat) : ((crash s keep flip).f i).take (s.firm i) = (s.f i).take (s.firm i) := (turned_take s keep flip i).trans (cut_take s keep i)
theorem crash_len (s : S) (keep : List Int) (flip : Int) (i : Nat) : ((crash s keep flip).f i).length ≤ (s.f i).length := by
  show ((turned s keep flip).f i).length ≤ _
  rw [turned_len]
  exact cut_len s keep i
/-- A crash right behind a Sync changes nothing. -/
theorem crash_firm (s : S) (keep : List Int) (flip : Int) (i : Nat) : (crash (firmAll s) keep flip).f i = s.f i := by
  have h1 := crash_take (firmAll s) keep flip i
  have h2 := crash_len (firmAll s) keep flip i
  have e : (firmAll s).firm i = (s.f i).length := rfl
  have e2 : (firmAll s).f i = s.f i := rfl
  rw [e, e2] at h1
  rw [e2] at h2
  rwa [List.take_of_length_le h2, List.take_of_length_le (Nat.le_refl _)] at h1
/-- Behind a Sync in the state s0, only Appends since: on, no plan, the bytes of s0 durable and at the beginning. -/
structure Since (s0 s : S) : Prop where
  on : s.off = false
  plan : s.plan < 0
  firm : ∀ i, s.firm i = (s0.f i).length
  pre : ∀ i, (s.f i).take (s0.f i).length = s0.f i
  len : ∀ i, (s0.f i).length ≤ (s.f i).length
theorem pstep_none {s : S} (h : s.plan < 0) : pstep s = (s, false) := if_pos h
theorem Since.start {s0 s : S} (ho : s.off = false) (hp : s.plan < 0) (hf : s.f = s0.f) : Since s0 (sync s).1 ∧ (sync s).2 = 0 := by
  have h := sync_ok ho (by rw [pstep_none hp])
  rw [h, pstep_none hp]
  refine ⟨⟨ho, hp, fun i => ?_, fun i => ?_, fun i => ?_⟩, rfl⟩
  · show (s.f i).length = _
    rw [hf]
  · show (s.f i).take _ = _
    rw [hf, List.take_of_length_le (Nat.le_refl _)]
  · show _ ≤ (s.f i).length
    rw [hf]
    exact Nat.le_refl _
theorem Since.app {s0 s : S} (h : Since s0 s) (file : Int) (l : List UInt8) : Since s0 (append s file l).1 := by
  unfold append
  split
  · exact h
  · split
    · exact h
    · split
      · exact h
      · rename_i h1 _ _
        have hp : pstep (put s file.toNat (s.f file.toNat ++ l) (s.firm file.toNat)) = (put s file.toNat (s.f file.toNat ++ l) (s.firm file.toNat), false) := pstep_none h.plan
        rw [hp]
        refine ⟨h.on, h.plan, fun i => ?_, fun i => ?_, fun i => ?_⟩
        · show upd s.firm file.toNat (s.firm file.toNat) i = _
          rw [upd_self]
          exact h.firm i
        · show (upd s.f file.toNat (s.f file.toNat ++ l) i).take _ = _
          unfold upd
          split
          · rename_i e
            subst e
            rw [List.take_append_of_le_length (h.len _)]
            exact h.pre _
          · exact h.pre i
        · show _ ≤ (upd s.f file.toNat (s.f file.toNat ++ l) i).length
          unfold upd
          split
          · rename_i e
            subst e
            rw [List.length_append]
            have := h.len file.toNat
            omega
          · exact h.len i
theorem Since.crash {s0 s : S} (h : Since s0 s) (keep : List Int) (flip : Int) (i : Nat) : ((Dk.crash s keep flip).f i).take (s0.f i).length = s0.f i ∧ (s0.f i).length ≤ ((Dk.crash s keep flip).f i).length ∧ ((Dk.crash s keep flip).f i).length ≤ (s.f i).length := by
  have h1 := crash_take s keep flip i
  rw [h.firm i, h.pre i] at h1
  refine ⟨h1, ?_, crash_len s keep flip i⟩
  have h2 := congrArg List.length h1
  rw [List.length_take] at h2
  omega
theorem read_at {s : S} {i : Nat} (hi : i < 64) (ho : s.off = false) : read s (i : Int) = (s.f i, 0) := by
  unfold Dk.read
  rw [if_neg (by omega), ho]
  rfl
end Go.Dk
