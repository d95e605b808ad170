/- The parts PureDisk, Pure, PureRead, PureHash, PureFrame, PureFirst, PureScan, PureEq, PureDetect, PureDk1, PureDk3, PureJn of the proof, in one text. -/
import Derived.WalkKit
import Derived.PlainAid
set_option linter.unusedSimpArgs false
set_option linter.unusedVariables false

namespace Go.Dk
set_option linter.unusedVariables false

/-- The files: their bytes, how many of them are durable; the plan of a failure (-1: none). -/
structure S where
  room : Nat
  f : Nat → List UInt8
  firm : Nat → Nat
  off : Bool
  plan : Int

def upd {α : Type} (g : Nat → α) (i : Nat) (x : α) : Nat → α := fun j => if j = i then x else g j
theorem upd_same {α : Type} (g : Nat → α) (i : Nat) (x : α) : upd g i x i = x := if_pos rfl
theorem upd_other {α : Type} (g : Nat → α) {i j : Nat} (x : α) (h : j ≠ i) : upd g i x j = g j := if_neg h
theorem upd_self {α : Type} (g : Nat → α) (i : Nat) : upd g i (g i) = g := by
  funext j
  unfold upd
  split
  · rename_i h; rw [h]
  · rfl
theorem upd_upd {α : Type} (g : Nat → α) (i : Nat) (x y : α) : upd (upd g i x) i y = upd g i y := by
  funext j
  unfold upd
  split <;> rfl

def usedN (f : Nat → List UInt8) : Nat → Nat
  | 0 => 0
  | n + 1 => usedN f n + (f n).length
/-- The number of bytes. -/
def used (s : S) : Nat := usedN s.f 64
theorem usedN_upd_lt (f : Nat → List UInt8) {i : Nat} (l : List UInt8) : ∀ n, n ≤ i → usedN (upd f i l) n = usedN f n
  | 0, _ => rfl
  | n + 1, h => by
    unfold usedN
    rw [usedN_upd_lt f l n (by omega), upd_other f l (show n ≠ i by omega)]
theorem usedN_upd (f : Nat → List UInt8) {i : Nat} (l : List UInt8) : ∀ n, i < n → usedN (upd f i l) n + (f i).length = usedN f n + l.length
  | 0, h => by omega
  | n + 1, h => by
    unfold usedN
    by_cases hi : i = n
    · subst hi
      rw [usedN_upd_lt f l i (Nat.le_refl _), upd_same]
      omega
    · have := usedN_upd (i := i) f l n (by omega)
      rw [upd_other f l (fun e => hi e.symm)]
      omega
theorem usedN_le {f : Nat → List UInt8} {i : Nat} : ∀ n, i < n → (f i).length ≤ usedN f n
  | 0, h => by omega
  | n + 1, h => by
    unfold usedN
    by_cases hi : i = n
    · subst hi; omega
    · have h1 := usedN_le (f := f) (i := i) n (by omega)
      exact Nat.le_trans h1 (Nat.le_add_right _ _)
theorem usedN_mono {f f' : Nat → List UInt8} (h : ∀ i, (f' i).length ≤ (f i).length) : ∀ n, usedN f' n ≤ usedN f n
  | 0 => Nat.le_refl _
  | n + 1 => by
    unfold usedN
    have := usedN_mono h n
    have := h n
    omega
theorem usedN_congr {f f' : Nat → List UInt8} (h : ∀ i, (f' i).length = (f i).length) (n : Nat) : usedN f' n = usedN f n :=
  Nat.le_antisymm (usedN_mono (fun i => Nat.le_of_eq (h i)) n) (usedN_mono (fun i => Nat.le_of_eq (h i).symm) n)

def filesN (f : Nat → List UInt8) (n : Nat) : List Nat := (List.range n).filter (fun i => !(f i).isEmpty)
/-- The files that are not empty. -/
def files (s : S) : List Nat := filesN s.f 64
theorem mem_filesN {f : Nat → List UInt8} {n i : Nat} : i ∈ filesN f n ↔ i < n ∧ f i ≠ [] := by
  unfold filesN
  rw [List.mem_filter, List.mem_range]
  cases f i <;> simp
theorem mem_files {s : S} {i : Nat} : i ∈ files s ↔ i < 64 ∧ s.f i ≠ [] := mem_filesN
theorem filesN_rise (f : Nat → List UInt8) (n : Nat) : (filesN f n).Pairwise (· < ·) := List.Pairwise.filter _ List.pairwise_lt_range
theorem filesN_succ (f : Nat → List UInt8) (n : Nat) : filesN f (n + 1) = filesN f n ++ (if (f n).isEmpty then [] else [n]) := by
  unfold filesN
  rw [List.range_succ, List.filter_append]
  congr 1
  cases h : (f n).isEmpty <;> simp [h]
theorem filesN_len (f : Nat → List UInt8) : ∀ n, (filesN f n).length ≤ n
  | 0 => by simp [filesN]
  | n + 1 => by
    rw [filesN_succ, List.length_append]
    have := filesN_len f n
    split <;> simp <;> omega
/-- A file's place among those that are not empty. -/
def rank (s : S) (i : Nat) : Nat := (filesN s.f i).length
theorem filesN_pre (f : Nat → List UInt8) {i : Nat} : ∀ n, i ≤ n → ∃ r, filesN f n = filesN f i ++ r
  | 0, h => ⟨[], by rw [Nat.le_zero.1 h, List.append_nil]⟩
  | n + 1, h => by
    by_cases hi : i = n + 1
    · exact ⟨[], by rw [hi]; simp⟩
    · obtain ⟨r, hr⟩ := filesN_pre f (i := i) n (by omega)
      exact ⟨r ++ (if (f n).isEmpty then [] else [n]), by rw [filesN_succ, hr, List.append_assoc]⟩
theorem rank_at {s : S} {j i : Nat} (h : (files s)[j]? = some i) : rank s i = j := by
  have hm := mem_files.1 (List.mem_of_getElem? h)
  obtain ⟨r, hr⟩ := filesN_pre s.f (i := i + 1) 64 (by omega)
  rw [filesN_succ s.f i, if_neg (by simpa using hm.2)] at hr
  have hlt := (List.getElem?_eq_some_iff.1 h).1
  have h2 : (files s)[rank s i]? = some i := by
    unfold files rank
    rw [hr, List.append_assoc, List.getElem?_append_right (Nat.le_refl _)]
    simp
  have hlt2 := (List.getElem?_eq_some_iff.1 h2).1
  rcases Nat.lt_trichotomy (rank s i) j with hl | hl | hl
  · have := List.pairwise_iff_getElem.1 (filesN_rise s.f 64) _ _ hlt2 hlt hl
    have q1 : (filesN s.f 64)[rank s i] = i := (List.getElem?_eq_some_iff.1 h2).2
    have q2 : (filesN s.f 64)[j] = i := (List.getElem?_eq_some_iff.1 h).2
    rw [q1, q2] at this
    omega
  · exact hl
  · have := List.pairwise_iff_getElem.1 (filesN_rise s.f 64) _ _ hlt hlt2 hl
    have q1 : (filesN s.f 64)[rank s i] = i := (List.getElem?_eq_some_iff.1 h2).2
    have q2 : (filesN s.f 64)[j] = i := (List.getElem?_eq_some_iff.1 h).2
    rw [q1, q2] at this
    omega
theorem at_rank {s : S} {i : Nat} (hi : i < 64) (hf : s.f i ≠ []) : (files s)[rank s i]? = some i := by
  obtain ⟨j, hj, he⟩ := List.mem_iff_getElem.1 (mem_files.2 ⟨hi, hf⟩)
  have h : (files s)[j]? = some i := by rw [List.getElem?_eq_getElem hj, he]
  rw [rank_at h]
  exact h
theorem rank_lt {s : S} {i : Nat} (hi : i < 64) (hf : s.f i ≠ []) : rank s i < (files s).length := (List.getElem?_eq_some_iff.1 (at_rank hi hf)).1

structure WF (s : S) : Prop where
  firm : ∀ i, s.firm i ≤ (s.f i).length
  plan : -1 ≤ s.plan ∧ s.plan ≤ 9223372036854775807
  room : s.room ≤ 16777216
  used : used s ≤ s.room
  far : ∀ i, 64 ≤ i → s.f i = []
theorem WF.len {s : S} (h : WF s) (i : Nat) : (s.f i).length ≤ 16777216 := by
  by_cases hi : i < 64
  · have h1 := usedN_le (f := s.f) (i := i) 64 hi
    have h2 := h.used
    have h3 := h.room
    unfold Dk.used at h2
    omega
  · rw [h.far i (by omega)]; simp

/-- A step: the state behind it; whether the power fails during it. -/
def pstep (s : S) : S × Bool :=
  if s.plan < 0 then (s, false) else if s.plan = 0 then ({ s with plan := -1, off := true }, true) else ({ s with plan := s.plan - 1 }, false)
def put (s : S) (i : Nat) (l : List UInt8) (d : Nat) : S := { s with f := upd s.f i l, firm := upd s.firm i d }

def append (s : S) (file : Int) (l : List UInt8) : S × Int :=
  if file < 0 ∨ 64 ≤ file then (s, 1) else if s.off then (s, 24) else if s.room < used s + l.length then (s, 23) else
  let r := pstep (put s file.toNat (s.f file.toNat ++ l) (s.firm file.toNat))
  (r.1, if r.2 then 24 else 0)

def read (s : S) (file : Int) : List UInt8 × Int :=
  if file < 0 ∨ 64 ≤ file then ([], 1) else if s.off then ([], 24) else (s.f file.toNat, 0)

def firmAll (s : S) : S := { s with firm := fun i => (s.f i).length }

def sync (s : S) : S × Int :=
  if s.off then (s, 24) else if (pstep s).2 then ((pstep s).1, 24) else (firmAll (pstep s).1, 0)

theorem step_f (s : S) : (pstep s).1.f = s.f ∧ (pstep s).1.firm = s.firm ∧ (pstep s).1.room = s.room := by
  unfold pstep
  split
  · exact ⟨rfl, rfl, rfl⟩
  · split <;> exact ⟨rfl, rfl, rfl⟩

def truncate (s : S) (file size : Int) : S × Int :=
  if file < 0 ∨ 64 ≤ file ∨ size < 0 ∨ ((s.f file.toNat).length : Int) < size then (s, 1) else if s.off then (s, 24) else
  if (pstep s).2 then ((pstep s).1, 24) else (put (pstep s).1 file.toNat ((s.f file.toNat).take size.toNat) (min (s.firm file.toNat) size.toNat), 0)

def arm (s : S) (n : Int) : S := if s.off then s else { s with plan := max n (-1) }

/-- How many loose bytes of a file survive. -/
def kept (s : S) (keep : List Int) (i : Nat) : Nat :=
  match keep[rank s i]? with
  | some k => (max 0 (min k (((s.f i).length : Int) - s.firm i))).toNat
  | none => 0
/-- The first j files' bytes cut. -/
def cutTo (s : S) (keep : List Int) (j : Nat) : Nat → List UInt8 := fun i => if i ∈ (files s).take j then (s.f i).take (s.firm i + kept s keep i) else s.f i
def manyTo (s : S) (keep : List Int) (j : Nat) : Nat := (((files s).take j).map (kept s keep)).sum
def cut (s : S) (keep : List Int) : S := { s with f := cutTo s keep (files s).length }
def many (s : S) (keep : List Int) : Nat := manyTo s keep (files s).length
/-- A bit of a byte turned. -/
def turn (l : List UInt8) (p k : Nat) : List UInt8 := l.modify p (fun c => c ^^^ UInt8.ofNat (2 ^ (7 - k)))
/-- The loose bit with a number turned. -/
def invert (s : S) : List Nat → Nat → (Nat → List UInt8)
  | [], _ => s.f
  | i :: r, bit => if bit < 8 * ((s.f i).length - s.firm i) then upd s.f i (turn (s.f i) (s.firm i + bit / 8) (bit % 8)) else invert s r (bit - 8 * ((s.f i).length - s.firm i))
def turned (s : S) (keep : List Int) (flip : Int) : S :=
  if 0 ≤ flip ∧ 0 < many s keep then { cut s keep with f := invert (cut s keep) (files s) (flip.toNat % (8 * many s keep)) } else cut s keep
def crash (s : S) (keep : List Int) (flip : Int) : S := { firmAll (turned s keep flip) with off := false, plan := -1 }
def new (room : Nat) : S := ⟨room, fun _ => [], fun _ => 0, false, -1⟩

theorem used_new (room : Nat) : used (new room) = 0 := by
  have : ∀ n, usedN (fun _ => ([] : List UInt8)) n = 0 := by
    intro n
    induction n with
    | zero => rfl
    | succ n ih => unfold usedN; rw [ih]; rfl
  exact this 64
theorem WF.new {room : Nat} (h : room ≤ 16777216) : WF (Dk.new room) := ⟨fun i => Nat.le_refl _, by simp [Dk.new], h, by rw [used_new]; exact Nat.zero_le _, fun i _ => rfl⟩
theorem WF.pstep {s : S} (h : WF s) : WF (Dk.pstep s).1 := by
  obtain ⟨h1, h2, h3⟩ := step_f s
  refine ⟨fun i => by rw [h1, h2]; exact h.firm i, ?_, by rw [h3]; exact h.room, by show usedN (Dk.pstep s).1.f 64 ≤ _; rw [h1, h3]; exact h.used, fun i hi => by rw [h1]; exact h.far i hi⟩
  have := h.plan
  unfold Dk.pstep
  split
  · exact this
  · split
    · simp
    · exact ⟨by show -1 ≤ s.plan - 1; omega, by show s.plan - 1 ≤ _; omega⟩
theorem put_used {s : S} {i : Nat} (hi : i < 64) (l : List UInt8) (d : Nat) : used (put s i l d) + (s.f i).length = used s + l.length := usedN_upd s.f l 64 hi
theorem WF.put {s : S} (h : WF s) {i : Nat} (hi : i < 64) {l : List UInt8} {d : Nat} (hd : d ≤ l.length) (hu : Dk.used s + l.length ≤ s.room + (s.f i).length) : WF (Dk.put s i l d) := by
  refine ⟨fun j => ?_, h.plan, h.room, ?_, fun j hj => ?_⟩
  · show upd s.firm i d j ≤ (upd s.f i l j).length
    unfold upd
    split
    · exact hd
    · exact h.firm j
  · have := put_used (s := s) hi l d
    show Dk.used (Dk.put s i l d) ≤ s.room
    omega
  · show upd s.f i l j = []
    rw [upd_other _ _ (by omega)]
    exact h.far j hj
theorem WF.firmAll {s : S} (h : WF s) : WF (Dk.firmAll s) := ⟨fun i => Nat.le_refl _, h.plan, h.room, h.used, h.far⟩
theorem WF.append {s : S} (h : WF s) (file : Int) (l : List UInt8) : WF (Dk.append s file l).1 := by
  unfold Dk.append
  split
  · exact h
  · rename_i h1
    split
    · exact h
    · split
      · exact h
      · rename_i h2
        exact (h.put (i := file.toNat) (by omega) (by rw [List.length_append]; have := h.firm file.toNat; omega) (by rw [List.length_append]; omega)).pstep
theorem WF.sync {s : S} (h : WF s) : WF (Dk.sync s).1 := by
  unfold Dk.sync
  split
  · exact h
  · split
    · exact h.pstep
    · exact h.pstep.firmAll
theorem WF.truncate {s : S} (h : WF s) (file size : Int) : WF (Dk.truncate s file size).1 := by
  obtain ⟨h1, h2, h3⟩ := step_f s
  unfold Dk.truncate
  split
  · exact h
  · rename_i hn
    split
    · exact h
    · split
      · exact h.pstep
      · refine h.pstep.put (i := file.toNat) (by omega) (by rw [List.length_take]; have := h.firm file.toNat; omega) ?_
        have := h.pstep.used
        rw [List.length_take, h1]
        omega
theorem WF.arm {s : S} (h : WF s) {n : Int} (hn : n ≤ 9223372036854775807) : WF (Dk.arm s n) := by
  unfold Dk.arm
  split
  · exact h
  · exact ⟨h.firm, by show -1 ≤ max n (-1) ∧ max n (-1) ≤ _; omega, h.room, h.used, h.far⟩
theorem cutTo_le (s : S) (keep : List Int) (j i : Nat) : (cutTo s keep j i).length ≤ (s.f i).length := by
  unfold cutTo
  split
  · rw [List.length_take]; omega
  · exact Nat.le_refl _
theorem kept_le (s : S) (keep : List Int) (i : Nat) : kept s keep i ≤ (s.f i).length - s.firm i := by
  unfold kept
  split <;> omega
theorem WF.cutTo {s : S} (h : WF s) (keep : List Int) (j : Nat) : WF { s with f := Dk.cutTo s keep j } := by
  refine ⟨fun i => ?_, h.plan, h.room, Nat.le_trans (usedN_mono (cutTo_le s keep j) 64) h.used, fun i hi => ?_⟩
  · show s.firm i ≤ (Dk.cutTo s keep j i).length
    have := h.firm i
    unfold Dk.cutTo
    split
    · rw [List.length_take]; omega
    · exact this
  · have := cutTo_le s keep j i
    rw [h.far i hi] at this
    exact List.eq_nil_of_length_eq_zero (by simpa using this)
theorem turn_len (l : List UInt8) (p k : Nat) : (turn l p k).length = l.length := by simp [turn]
theorem invert_len (s : S) : ∀ (r : List Nat) (b i : Nat), (invert s r b i).length = (s.f i).length
  | [], _, _ => rfl
  | x :: r, b, i => by
    unfold invert
    split
    · unfold upd
      split
      · rename_i h; rw [turn_len, h]
      · rfl
    · exact invert_len s r _ i
theorem WF.invert {s : S} (h : WF s) (r : List Nat) (b : Nat) : WF { s with f := Dk.invert s r b } := by
  refine ⟨fun i => ?_, h.plan, h.room, ?_, fun i hi => ?_⟩
  · show s.firm i ≤ (Dk.invert s r b i).length
    rw [invert_len]; exact h.firm i
  · show usedN (Dk.invert s r b) 64 ≤ s.room
    rw [usedN_congr (invert_len s r b)]; exact h.used
  · have := invert_len s r b i
    rw [h.far i hi] at this
    exact List.eq_nil_of_length_eq_zero this
theorem WF.turned {s : S} (h : WF s) (keep : List Int) (flip : Int) : WF (Dk.turned s keep flip) := by
  unfold Dk.turned
  split
  · exact (h.cutTo keep _).invert _ _
  · exact h.cutTo keep _
theorem WF.crash {s : S} (h : WF s) (keep : List Int) (flip : Int) : WF (Dk.crash s keep flip) :=
  ⟨(h.turned keep flip).firmAll.firm, ⟨by simp [Dk.crash], by simp [Dk.crash]⟩, (h.turned keep flip).room, (h.turned keep flip).used, (h.turned keep flip).far⟩

theorem take_at {α : Type} {L : List α} {j : Nat} {x : α} (h : L[j]? = some x) : L.take (j + 1) = L.take j ++ [x] := by
  rw [List.take_add_one, h]
  rfl
theorem files_nodup (s : S) : (files s).Nodup := (filesN_rise s.f 64).imp (fun h => by omega)
theorem not_take {α : Type} {L : List α} (hn : L.Nodup) {j : Nat} {x : α} (h : L[j]? = some x) : x ∉ L.take j := by
  intro hm
  obtain ⟨k, hk, he⟩ := List.mem_iff_getElem.1 hm
  rw [List.length_take] at hk
  rw [List.getElem_take] at he
  obtain ⟨hj, he2⟩ := List.getElem?_eq_some_iff.1 h
  have := (List.getElem_inj (h₀ := by omega) (h₁ := hj) hn).1 (he.trans he2.symm)
  omega
/-- The first j files made durable. -/
def syncTo (s : S) (j : Nat) : S := { s with firm := fun i => if i ∈ (files s).take j then (s.f i).length else s.firm i }
theorem syncTo_zero (s : S) : syncTo s 0 = s := by unfold syncTo; simp
theorem syncTo_succ {s : S} {j i : Nat} (h : (files s)[j]? = some i) : syncTo s (j + 1) = put (syncTo s j) i (s.f i) (s.f i).length := by
  unfold syncTo put
  have e1 : upd s.f i (s.f i) = s.f := upd_self _ _
  have e2 : (fun k => if k ∈ (files s).take (j + 1) then (s.f k).length else s.firm k) = upd (fun k => if k ∈ (files s).take j then (s.f k).length else s.firm k) i (s.f i).length := by
    funext k
    rw [take_at h]
    unfold upd
    by_cases e : k = i
    · subst e; simp
    · simp [e]
  simp only [e1, e2]
theorem syncTo_all {s : S} (h : WF s) : syncTo s (files s).length = firmAll s := by
  unfold syncTo firmAll
  have : (fun i => if i ∈ (files s).take (files s).length then (s.f i).length else s.firm i) = fun i => (s.f i).length := by
    funext i
    rw [List.take_length]
    split
    · rfl
    · rename_i hn
      have h1 := h.firm i
      have : s.f i = [] := by
        by_cases hi : i < 64
        · exact Decidable.byContradiction (fun e => hn (mem_files.2 ⟨hi, e⟩))
        · exact h.far i (by omega)
      rw [this] at h1 ⊢
      simpa using h1
  rw [this]
theorem WF.syncTo {s : S} (h : WF s) (j : Nat) : WF (syncTo s j) := ⟨fun i => by
  show (if i ∈ (files s).take j then (s.f i).length else s.firm i) ≤ (s.f i).length
  split
  · exact Nat.le_refl _
  · exact h.firm i, h.plan, h.room, h.used, h.far⟩
theorem sync_off {s : S} (h : s.off = true) : sync s = (s, 24) := if_pos h
theorem sync_down {s : S} (h : s.off = false) (h2 : (pstep s).2 = true) : sync s = ((pstep s).1, 24) := by unfold sync; rw [if_neg (by rw [h]; simp), if_pos h2]
theorem sync_ok {s : S} (h : s.off = false) (h2 : (pstep s).2 = false) : sync s = (firmAll (pstep s).1, 0) := by unfold sync; rw [if_neg (by rw [h]; simp), if_neg (by rw [h2]; simp)]

/-- The first j files cut. -/
def cutS (s : S) (keep : List Int) (j : Nat) : S := { s with f := cutTo s keep j }
theorem cutS_zero (s : S) (keep : List Int) : cutS s keep 0 = s := by unfold cutS cutTo; simp
theorem cutS_at {s : S} {keep : List Int} {j i : Nat} (h : (files s)[j]? = some i) : (cutS s keep j).f i = s.f i := by
  show cutTo s keep j i = _
  unfold cutTo
  rw [if_neg (not_take (files_nodup s) h)]
theorem cutS_succ {s : S} {keep : List Int} {j i : Nat} (h : (files s)[j]? = some i) : cutS s keep (j + 1) = put (cutS s keep j) i ((s.f i).take (s.firm i + kept s keep i)) (s.firm i) := by
  unfold cutS put
  have e1 : upd s.firm i (s.firm i) = s.firm := upd_self _ _
  have e2 : cutTo s keep (j + 1) = upd (cutTo s keep j) i ((s.f i).take (s.firm i + kept s keep i)) := by
    funext k
    unfold cutTo upd
    rw [take_at h]
    by_cases e : k = i
    · subst e; simp
    · simp [e]
  simp only [e1, e2]
theorem manyTo_zero (s : S) (keep : List Int) : manyTo s keep 0 = 0 := by simp [manyTo]
theorem manyTo_succ {s : S} {keep : List Int} {j i : Nat} (h : (files s)[j]? = some i) : manyTo s keep (j + 1) = manyTo s keep j + kept s keep i := by
  unfold manyTo
  rw [take_at h, List.map_append, List.sum_append]
  simp
theorem kept_at {s : S} {keep : List Int} {j i : Nat} (h : (files s)[j]? = some i) : kept s keep i = match keep[j]? with
    | some k => (max 0 (min k (((s.f i).length : Int) - s.firm i))).toNat
    | none => 0 := by
  unfold kept
  rw [rank_at h]
theorem sum_len (f : Nat → List UInt8) : ∀ n, ((filesN f n).map (fun i => (f i).length)).sum = usedN f n
  | 0 => rfl
  | n + 1 => by
    rw [filesN_succ, List.map_append, List.sum_append, sum_len f n]
    show _ = usedN f n + (f n).length
    cases h : f n with
    | nil => simp
    | cons a r => simp [h]
theorem sum_take_le (g h : Nat → Nat) (hg : ∀ i, g i ≤ h i) : ∀ (L : List Nat) (j : Nat), ((L.take j).map g).sum ≤ (L.map h).sum
  | [], j => by simp
  | a :: r, 0 => by simp
  | a :: r, j + 1 => by
    have := sum_take_le g h hg r j
    have := hg a
    simp only [List.take_succ_cons, List.map_cons, List.sum_cons]
    omega
theorem manyTo_le (s : S) (keep : List Int) (j : Nat) : manyTo s keep j ≤ used s := by
  unfold manyTo used
  rw [← sum_len]
  exact sum_take_le _ _ (fun i => Nat.le_trans (kept_le s keep i) (Nat.sub_le _ _)) _ _
theorem WF.cutS {s : S} (h : WF s) (keep : List Int) (j : Nat) : WF (cutS s keep j) := h.cutTo keep j
theorem crash_eq (s : S) (keep : List Int) (flip : Int) : crash s keep flip = { firmAll (turned s keep flip) with off := false, plan := -1 } := rfl

/-- The files that are not left. -/
def part (s : S) (left : Int → Bool) : S := { s with f := fun i => if left (i : Int) then [] else s.f i, firm := fun i => if left (i : Int) then 0 else s.firm i }
theorem part_all {s : S} {left : Int → Bool} (h : ∀ i, left i = false) : part s left = s := by
  unfold part
  simp [h]
theorem part_none {s : S} (hw : WF s) {left : Int → Bool} (h : ∀ i : Nat, i < 64 → s.f i ≠ [] → left (i : Int) = true) (i : Nat) : (part s left).f i = [] := by
  show (if left (i : Int) then [] else s.f i) = []
  split
  · rfl
  · rename_i hn
    by_cases hi : i < 64
    · exact Decidable.byContradiction (fun e => hn (h i hi e))
    · exact hw.far i (by omega)
theorem part_step {s : S} {left : Int → Bool} {k : Nat} (hl : left (k : Int) = true) : part s (fun x => left x && !(x == (k : Int))) = put (part s left) k (s.f k) (s.firm k) := by
  unfold part put
  have e1 : (fun i : Nat => if (left (i : Int) && !((i : Int) == (k : Int))) = true then ([] : List UInt8) else s.f i) = upd (fun i : Nat => if left (i : Int) = true then [] else s.f i) k (s.f k) := by
    funext i
    unfold upd
    by_cases e : i = k
    · subst e; simp
    · have : ((i : Int) == (k : Int)) = false := by simp; omega
      simp [this, e]
  have e2 : (fun i : Nat => if (left (i : Int) && !((i : Int) == (k : Int))) = true then 0 else s.firm i) = upd (fun i : Nat => if left (i : Int) = true then 0 else s.firm i) k (s.firm k) := by
    funext i
    unfold upd
    by_cases e : i = k
    · subst e; simp
    · have : ((i : Int) == (k : Int)) = false := by simp; omega
      simp [this, e]
  simp only [e1, e2]
theorem WF.part {s : S} (h : WF s) (left : Int → Bool) : WF (part s left) := by
  refine ⟨fun i => ?_, h.plan, h.room, Nat.le_trans (usedN_mono (fun i => ?_) 64) h.used, fun i hi => ?_⟩
  · show (if left (i : Int) then 0 else s.firm i) ≤ (if left (i : Int) then [] else s.f i).length
    split
    · exact Nat.zero_le _
    · exact h.firm i
  · show (if left (i : Int) then [] else s.f i).length ≤ (s.f i).length
    split
    · exact Nat.zero_le _
    · exact Nat.le_refl _
  · show (if left (i : Int) then [] else s.f i) = []
    split
    · rfl
    · exact h.far i hi
end Go.Dk

namespace Go.Pure

/-- The varint of a number. -/
def uvar (n : Nat) : List UInt8 := if h : n < 128 then [UInt8.ofNat n] else UInt8.ofNat (128 + n % 128) :: uvar (n / 128)
termination_by n
decreasing_by omega
theorem uvar_lt {n : Nat} (h : n < 128) : uvar n = [UInt8.ofNat n] := by rw [uvar, dif_pos h]
theorem uvar_ge {n : Nat} (h : 128 ≤ n) : uvar n = UInt8.ofNat (128 + n % 128) :: uvar (n / 128) := by rw [uvar, dif_neg (by omega)]

theorem uvar_pos (n : Nat) : 1 ≤ (uvar n).length := by
  rw [uvar]; split <;> simp
theorem uvar_len_pow (k : Nat) : ∀ n, n < 128 ^ (k + 1) → (uvar n).length ≤ k + 1 := by
  induction k with
  | zero => intro n h; rw [uvar_lt (by simpa using h)]; simp
  | succ k ih =>
    intro n h
    by_cases hn : n < 128
    · rw [uvar_lt hn]; simp
    · rw [uvar_ge (by omega), List.length_cons]
      have := ih (n / 128) (by rw [Nat.div_lt_iff_lt_mul (by omega)]; rw [Nat.pow_succ] at h; exact h)
      omega
theorem uvar_len {n : Nat} (h : n < 18446744073709551616) : (uvar n).length ≤ 10 := uvar_len_pow 9 n (Nat.lt_trans h (by decide))

theorem or128 : ∀ x : Fin 256, (x.val ||| 128) = 128 + x.val % 128 := by decide +kernel
theorem or_byte (m : Nat) : bits .or .u8 ((m : Int) % 256) 128 = ((UInt8.ofNat (128 + m % 128)).toNat : Int) := by
  have h : ((m : Int) % 256) = ((m % 256 : Nat) : Int) := by omega
  rw [h]
  have := u8_or_nat (m % 256) 128 (by omega) (by omega)
  rw [show ((128 : Nat) : Int) = 128 from rfl] at this
  rw [this]
  have h2 := or128 ⟨m % 256, by omega⟩
  simp only at h2
  rw [h2]
  simp
  omega
theorem ofNat_byte {m : Nat} (h : m < 128) : (m : Int) = ((UInt8.ofNat m).toNat : Int) := by simp; omega
theorem ofNat_mod (m : Nat) : ((m : Int) % 256) = ((UInt8.ofNat m).toNat : Int) := by simp

/-- The zigzag form of a number. -/
def zig (n : Int) : Nat := if n < 0 then (2 * (-(n + 1)) + 1).toNat else (2 * n).toNat
theorem xor_ones (a : Nat) (h : a < 18446744073709551616) : a ^^^ 18446744073709551615 = 18446744073709551615 - a := by
  have h1 := BitVec.xor_allOnes (x := BitVec.ofNat 64 a)
  have h2 := congrArg BitVec.toNat h1
  simp only [BitVec.toNat_xor, BitVec.toNat_ofNat, BitVec.toNat_not, BitVec.toNat_allOnes] at h2
  rw [Nat.mod_eq_of_lt (by simpa using h)] at h2
  simpa using h2
theorem zig_eq (n : Int) (hlo : -9223372036854775808 ≤ n) (hhi : n ≤ 9223372036854775807) :
    bits .xor .u64 (IntKind.u64.wrap (IntKind.u64.wrap n * 2)) (IntKind.u64.wrap (n / 9223372036854775808)) = (zig n : Int) := by
  unfold zig
  rw [IntKind.wrap_u64, IntKind.wrap_u64, IntKind.wrap_u64]
  split
  · rename_i h
    have e1 : n % 18446744073709551616 * 2 % 18446744073709551616 = ((2 * n + 18446744073709551616).toNat : Int) := by omega
    have e2 : n / 9223372036854775808 % 18446744073709551616 = ((18446744073709551615 : Nat) : Int) := by omega
    rw [e1, e2, u64_xor_nat _ _ (by omega) (by omega), xor_ones _ (by omega)]
    omega
  · rename_i h
    have e1 : n % 18446744073709551616 * 2 % 18446744073709551616 = ((2 * n).toNat : Int) := by omega
    have e2 : n / 9223372036854775808 % 18446744073709551616 = ((0 : Nat) : Int) := by omega
    rw [e1, e2, u64_xor_nat _ _ (by omega) (by omega), Nat.xor_zero]
theorem zig_lt (n : Int) (hlo : -9223372036854775808 ≤ n) (hhi : n ≤ 9223372036854775807) : zig n < 18446744073709551616 := by
  unfold zig; split <;> omega

end Go.Pure

namespace Go.Pure

/-- Reading a varint: i bytes have been read, with the value acc; an error (3: more, 2: form), or the value and the rest. -/
def scanU : Nat → Nat → List UInt8 → Except Int (Nat × List UInt8)
  | _, _, [] => .error 3
  | i, acc, c :: t =>
    if (i = 9 ∧ 1 < c.toNat) ∨ (0 < i ∧ c.toNat = 0) then .error 2
    else if c.toNat < 128 then .ok (acc + c.toNat * 128 ^ i, t)
    else scanU (i + 1) (acc + (c.toNat % 128) * 128 ^ i) t
def getU (l : List UInt8) : Except Int (Nat × List UInt8) := scanU 0 0 l

/-- Uint of a reader with the bytes l and the error e: the value, the bytes and the error behind it. -/
def uintR (l : List UInt8) (e : Int) : Nat × List UInt8 × Int :=
  if e = 0 then match getU l with
    | .ok (n, t) => (n, t, 0)
    | .error x => (0, l, x)
  else (0, l, e)

theorem scanU_nil (i acc : Nat) : scanU i acc [] = .error 3 := rfl
theorem scanU_bad {i acc : Nat} {c : UInt8} {t : List UInt8} (h : (i = 9 ∧ 1 < c.toNat) ∨ (0 < i ∧ c.toNat = 0)) : scanU i acc (c :: t) = .error 2 := by
  rw [scanU, if_pos h]
theorem scanU_end {i acc : Nat} {c : UInt8} {t : List UInt8} (h : ¬ ((i = 9 ∧ 1 < c.toNat) ∨ (0 < i ∧ c.toNat = 0))) (hc : c.toNat < 128) : scanU i acc (c :: t) = .ok (acc + c.toNat * 128 ^ i, t) := by
  rw [scanU, if_neg h, if_pos hc]
theorem scanU_on {i acc : Nat} {c : UInt8} {t : List UInt8} (h : ¬ ((i = 9 ∧ 1 < c.toNat) ∨ (0 < i ∧ c.toNat = 0))) (hc : ¬ c.toNat < 128) : scanU i acc (c :: t) = scanU (i + 1) (acc + (c.toNat % 128) * 128 ^ i) t := by
  rw [scanU, if_neg h, if_neg hc]
theorem pow7 (k : Nat) : 2 ^ (7 * k) = 128 ^ k := by rw [Nat.pow_mul]
theorem uint_val {k acc x : Nat} (hk : k ≤ 9) (hacc : acc < 128 ^ k) (hx : x < 256) (h9 : k = 9 → x ≤ 1) :
    bits .or .u64 (acc : Int) (IntKind.u64.wrap (IntKind.u64.wrap (bits .and .u8 (x : Int) 127) * 2 ^ (7 * k))) = ((acc + x % 128 * 128 ^ k : Nat) : Int) := by
  have h1 : bits .and .u8 (x : Int) 127 = ((x % 128 : Nat) : Int) := by
    have := u8_and_nat x 127 hx (by omega)
    rw [show ((127 : Nat) : Int) = 127 from rfl] at this
    rw [this, show (127 : Nat) = 2 ^ 7 - 1 from rfl, Nat.and_two_pow_sub_one_eq_mod]
  have hp : x % 128 * 128 ^ k < 18446744073709551616 := by
    rcases Nat.lt_or_ge k 9 with h | h
    · have h2 : 128 ^ k ≤ 128 ^ 8 := Nat.pow_le_pow_right (by omega) (by omega)
      have h3 : x % 128 * 128 ^ k ≤ 127 * 128 ^ 8 := Nat.mul_le_mul (by omega) h2
      have h4 : 127 * 128 ^ 8 < 18446744073709551616 := by decide
      exact Nat.lt_of_le_of_lt h3 h4
    · obtain rfl : k = 9 := by omega
      have := h9 rfl
      have h4 : x % 128 * 128 ^ 9 ≤ 1 * 128 ^ 9 := Nat.mul_le_mul (by omega) (Nat.le_refl _)
      have h5 : 1 * 128 ^ 9 < 18446744073709551616 := by decide
      exact Nat.lt_of_le_of_lt h4 h5
  have ha : acc < 18446744073709551616 := by
    have h2 : 128 ^ k ≤ 128 ^ 9 := Nat.pow_le_pow_right (by omega) hk
    have h5 : 128 ^ 9 < 18446744073709551616 := by decide
    exact Nat.lt_of_lt_of_le hacc (Nat.le_trans h2 (Nat.le_of_lt h5))
  rw [h1]
  have e1 : IntKind.u64.wrap ((x % 128 : Nat) : Int) = ((x % 128 : Nat) : Int) := by rw [IntKind.wrap_u64]; omega
  have e2 : ((x % 128 : Nat) : Int) * 2 ^ (7 * k) = ((x % 128 * 128 ^ k : Nat) : Int) := by
    rw [← pow7 k]; simp
  have e3 : IntKind.u64.wrap ((x % 128 * 128 ^ k : Nat) : Int) = ((x % 128 * 128 ^ k : Nat) : Int) := by rw [IntKind.wrap_u64]; omega
  rw [e1, e2, e3, u64_or_nat _ _ ha hp]
  have := Nat.shiftLeft_add_eq_or_of_lt (show acc < 2 ^ (7 * k) by rw [pow7]; exact hacc) (x % 128)
  rw [Nat.shiftLeft_eq, pow7] at this
  rw [Nat.or_comm, ← this, Nat.add_comm]
theorem uint_lt {k acc x : Nat} (hacc : acc < 128 ^ k) : acc + x % 128 * 128 ^ k < 128 ^ (k + 1) := by
  have : x % 128 * 128 ^ k ≤ 127 * 128 ^ k := Nat.mul_le_mul (by omega) (Nat.le_refl _)
  rw [Nat.pow_succ]
  omega

theorem uintR_err {l : List UInt8} {x : Int} (h : getU l = .error x) : uintR l 0 = (0, l, x) := by unfold uintR; rw [if_pos rfl, h]
theorem uintR_ok {l t : List UInt8} {n : Nat} (h : getU l = .ok (n, t)) : uintR l 0 = (n, t, 0) := by unfold uintR; rw [if_pos rfl, h]
theorem uintR_bad {l : List UInt8} {e : Int} (h : e ≠ 0) : uintR l e = (0, l, e) := by unfold uintR; rw [if_neg h]
theorem drop_cons {l : List UInt8} {k : Nat} {x : UInt8} (h : l[k]? = some x) : l.drop k = x :: l.drop (k + 1) := by
  obtain ⟨hk, rfl⟩ := List.getElem?_eq_some_iff.1 h
  exact List.drop_eq_getElem_cons hk
/-- A length that the bytes allow. -/
def lengthR (l : List UInt8) (e : Int) : Nat × List UInt8 × Int :=
  if (uintR l e).2.2 = 0 then
    if (uintR l e).2.1.length < (uintR l e).1 then (0, (uintR l e).2.1, 3) else ((uintR l e).1, (uintR l e).2.1, 0)
  else (0, (uintR l e).2.1, (uintR l e).2.2)
theorem lengthR_big {l t : List UInt8} {e : Int} {m : Nat} (h : uintR l e = (m, t, 0)) (hm : t.length < m) : lengthR l e = (0, t, 3) := by
  unfold lengthR; rw [h]; simp [hm]
theorem lengthR_ok {l t : List UInt8} {e : Int} {m : Nat} (h : uintR l e = (m, t, 0)) (hm : ¬ t.length < m) : lengthR l e = (m, t, 0) := by
  unfold lengthR; rw [h]; simp [hm]
theorem lengthR_err {l t : List UInt8} {e x : Int} {m : Nat} (h : uintR l e = (m, t, x)) (hx : x ≠ 0) : lengthR l e = (0, t, x) := by
  unfold lengthR; rw [h]; simp [hx]
/-- Raw of a reader. -/
def rawR (l : List UInt8) (e : Int) : List UInt8 × List UInt8 × Int :=
  ((lengthR l e).2.1.take (lengthR l e).1, (lengthR l e).2.1.drop (lengthR l e).1, (lengthR l e).2.2)
/-- The number with a zigzag form. -/
def unzig (z : Nat) : Int := if z % 2 = 1 then -((z / 2 : Nat) : Int) - 1 else ((z / 2 : Nat) : Int)
def intR (l : List UInt8) (e : Int) : Int × List UInt8 × Int := (unzig (uintR l e).1, (uintR l e).2.1, (uintR l e).2.2)
def endR (l : List UInt8) (e : Int) : Int := if e = 0 then (if l = [] then 0 else 2) else e

theorem scanU_lt : ∀ (l : List UInt8) (i acc : Nat), i ≤ 9 → acc < 128 ^ i → ∀ n t, scanU i acc l = .ok (n, t) → n < 18446744073709551616 := by
  intro l
  induction l with
  | nil => intro i acc _ _ n t h; cases h
  | cons c l ih =>
    intro i acc hi hacc n t h
    by_cases hb : (i = 9 ∧ 1 < c.toNat) ∨ (0 < i ∧ c.toNat = 0)
    · rw [scanU_bad hb] at h; cases h
    · by_cases hc : c.toNat < 128
      · rw [scanU_end hb hc] at h
        injection h with h
        injection h with h1 h2
        subst h1
        have hx := c.toNat_lt
        have := uint_val (x := c.toNat) hi hacc hx (fun h => by omega)
        have h2 := bits_hi_u64 .or (acc : Int) (IntKind.u64.wrap (IntKind.u64.wrap (bits .and .u8 (c.toNat : Int) 127) * 2 ^ (7 * i)))
        rw [this, Nat.mod_eq_of_lt hc] at h2
        omega
      · rw [scanU_on hb hc] at h
        exact ih (i + 1) _ (by omega) (uint_lt hacc) n t h
theorem uintR_lt (l : List UInt8) (e : Int) : (uintR l e).1 < 18446744073709551616 := by
  unfold uintR
  split
  · cases h : getU l with
    | error x => simp
    | ok p =>
      obtain ⟨n, t⟩ := p
      exact scanU_lt l 0 0 (by omega) (by simp) n t h
  · simp
theorem xor_ones64 (a : Nat) (h : a < 9223372036854775808) : bits .xor .i64 (a : Int) (-1) = -(a : Int) - 1 := by
  have hx : BitVec.ofInt 64 (a : Int) ^^^ BitVec.ofInt 64 (-1) = ~~~ (BitVec.ofNat 64 a) := by
    rw [show BitVec.ofInt 64 (-1) = BitVec.allOnes 64 by decide, BitVec.ofInt_natCast, BitVec.xor_allOnes]
  show IntKind.i64.wrap ((BitVec.ofInt 64 (a : Int) ^^^ BitVec.ofInt 64 (-1)).toNat : Int) = _
  rw [hx, BitVec.toNat_not, BitVec.toNat_ofNat, IntKind.wrap_i64]
  omega
theorem xor_zero64 (a : Nat) (h : a < 9223372036854775808) : bits .xor .i64 (a : Int) 0 = (a : Int) := by
  have hx : BitVec.ofInt 64 (a : Int) ^^^ BitVec.ofInt 64 0 = BitVec.ofNat 64 a := by
    rw [show BitVec.ofInt 64 0 = 0#64 by decide, BitVec.ofInt_natCast, BitVec.xor_zero]
  show IntKind.i64.wrap ((BitVec.ofInt 64 (a : Int) ^^^ BitVec.ofInt 64 0).toNat : Int) = _
  rw [hx, BitVec.toNat_ofNat, IntKind.wrap_i64]
  omega
theorem unzig_eq (m : Nat) (hm : m < 18446744073709551616) : bits .xor .i64 ((m : Int) / 2) (RowKit.wrap64 (-RowKit.wrap64 (bits .and .u64 (m : Int) 1))) = unzig m := by
  have h1 : bits .and .u64 (m : Int) 1 = ((m % 2 : Nat) : Int) := by
    have := u64_and_nat m 1 hm (by omega)
    rw [show ((1 : Nat) : Int) = 1 from rfl] at this
    rw [this, Nat.and_one_is_mod]
  rw [h1]
  have h2 : (m : Int) / 2 = ((m / 2 : Nat) : Int) := by omega
  rw [h2]
  unfold unzig RowKit.wrap64
  rcases Nat.mod_two_eq_zero_or_one m with h | h
  · rw [h, if_neg (by omega)]
    exact xor_zero64 _ (by omega)
  · rw [h, if_pos rfl]
    exact xor_ones64 _ (by omega)
theorem scanU_rest : ∀ (l : List UInt8) (i acc n : Nat) (t : List UInt8), scanU i acc l = .ok (n, t) → t.length ≤ l.length := by
  intro l
  induction l with
  | nil => intro i acc n t h; cases h
  | cons c l ih =>
    intro i acc n t h
    by_cases hb : (i = 9 ∧ 1 < c.toNat) ∨ (0 < i ∧ c.toNat = 0)
    · rw [scanU_bad hb] at h; cases h
    · by_cases hc : c.toNat < 128
      · rw [scanU_end hb hc] at h
        injection h with h
        injection h with _ h2
        subst h2
        simp
      · rw [scanU_on hb hc] at h
        have := ih _ _ _ _ h
        simp; omega
theorem uintR_rest (l : List UInt8) (e : Int) : (uintR l e).2.1.length ≤ l.length := by
  unfold uintR
  split
  · cases h : getU l with
    | error x => simp
    | ok p => obtain ⟨n, t⟩ := p; exact scanU_rest l 0 0 n t h
  · simp
theorem lengthR_rest (l : List UInt8) (e : Int) : (lengthR l e).2.1.length ≤ l.length := by
  have := uintR_rest l e
  unfold lengthR
  split
  · split <;> simpa using this
  · simpa using this
theorem lengthR_le (l : List UInt8) (e : Int) : (lengthR l e).1 ≤ (lengthR l e).2.1.length := by
  unfold lengthR
  split
  · split
    · simp
    · rename_i h; simp at h ⊢; omega
  · simp
theorem rawR_rest (l : List UInt8) (e : Int) : (rawR l e).1.length + (rawR l e).2.1.length ≤ l.length := by
  have h1 := lengthR_rest l e
  have h2 := lengthR_le l e
  unfold rawR
  simp
  omega
theorem lengthR_zero (l : List UInt8) (e : Int) (h : (lengthR l e).2.2 ≠ 0) : (lengthR l e).1 = 0 := by
  unfold lengthR at h ⊢
  split
  · rename_i h1
    rw [if_pos h1] at h
    split
    · rfl
    · rename_i h2
      rw [if_neg h2] at h
      exact absurd rfl h
  · rfl
end Go.Pure

namespace Go.Pure
open Go.RowKit

/-- A word: the bytes in little-endian order. -/
def word (l : List UInt8) : Nat := l.foldr (fun c a => a * 256 + c.toNat) 0
theorem word_nil : word [] = 0 := rfl
theorem word_cons (c : UInt8) (l : List UInt8) : word (c :: l) = word l * 256 + c.toNat := rfl
theorem word_lt (l : List UInt8) : word l < 256 ^ l.length := by
  induction l with
  | nil => simp [word_nil]
  | cons c l ih =>
    rw [word_cons, List.length_cons, Nat.pow_succ]
    have := c.toNat_lt
    omega
theorem word_lt7 {l : List UInt8} (h : l.length ≤ 7) : word l < 72057594037927936 :=
  Nat.lt_of_lt_of_le (word_lt l) (Nat.le_trans (Nat.pow_le_pow_right (by omega) h) (by decide))
theorem word_lt8 {l : List UInt8} (h : l.length ≤ 8) : word l < 18446744073709551616 :=
  Nat.lt_of_lt_of_le (word_lt l) (Nat.le_trans (Nat.pow_le_pow_right (by omega) h) (by decide))
theorem word_step {b : List UInt8} {p m : Nat} {c : UInt8} (h : b[p]? = some c) : word ((b.drop p).take (m + 1)) = word ((b.drop (p + 1)).take m) * 256 + c.toNat := by
  obtain ⟨hp, rfl⟩ := List.getElem?_eq_some_iff.1 h
  rw [List.drop_eq_getElem_cons hp, List.take_succ_cons, word_cons]
/-- The i-th word of bytes, and how many there are. -/
def wd (b : List UInt8) (i : Nat) : Nat := word ((b.drop (8 * i)).take 8)
theorem wd_lt (b : List UInt8) (i : Nat) : wd b i < 18446744073709551616 := word_lt8 (List.length_take_le _ _)
def nw (b : List UInt8) : Nat := (b.length + 7) / 8
def wds (b : List UInt8) : List Nat := (List.range (nw b)).map (wd b)
theorem wds_length (b : List UInt8) : (wds b).length = nw b := by simp [wds]
def wdsTo (b : List UInt8) (k : Nat) : List Nat := (List.range k).map (wd b)
theorem wdsTo_succ (b : List UInt8) (k : Nat) : wdsTo b (k + 1) = wdsTo b k ++ [wd b k] := by simp [wdsTo, List.range_succ]
theorem wdsTo_length (b : List UInt8) (k : Nat) : (wdsTo b k).length = k := by simp [wdsTo]

theorem shl_or (w c : Nat) (hw : w < 72057594037927936) (hc : c < 256) : bits .or .u64 ((w : Int) * 256) (c : Int) = ((w * 256 + c : Nat) : Int) := by
  have e : (w : Int) * 256 = ((w * 256 : Nat) : Int) := by omega
  rw [e, u64_or_nat _ _ (by omega) (by omega)]
  have := Nat.shiftLeft_add_eq_or_of_lt (show c < 2 ^ 8 by omega) w
  rw [Nat.shiftLeft_eq] at this
  rw [show w * 256 = w * 2 ^ 8 by rfl, ← this]

theorem grp_val {b : List UInt8} {p m : Nat} {x : UInt8} (hx : b[p]? = some x) (hm : m ≤ 7) :
    bits .or .u64 ((word ((b.drop (p + 1)).take m) : Int) * 256) (IntKind.u64.wrap (x.toNat : Int)) = ((word ((b.drop p).take (m + 1)) : Nat) : Int) := by
  have hx2 := x.toNat_lt
  have h7 := word_lt7 (l := (b.drop (p + 1)).take m) (by simp; omega)
  have e : IntKind.u64.wrap (x.toNat : Int) = (x.toNat : Int) := by rw [IntKind.wrap_u64]; omega
  rw [e, shl_or _ _ h7 (by omega), word_step hx]
theorem wd_of_cnt {b : List UInt8} {k cnt len : Nat} (hl : b.length = len) (h : cnt = 8 ∨ 8 * k + cnt = len) (h8 : cnt ≤ 8) : word ((b.drop (8 * k)).take cnt) = wd b k := by
  unfold wd
  rcases h with rfl | h
  · rfl
  · rw [List.take_of_length_le (by simp; omega), List.take_of_length_le (by simp; omega)]

/-- One mixing step, in the walk's own spelling. -/
def mixI (a b : Int) : Int :=
  bits .xor .u64 (IntKind.u64.wrap (bits .xor .u64 a b * 11400714819323198485)) (IntKind.u64.wrap (bits .xor .u64 a b * 11400714819323198485) / 4294967296)
theorem mixI_range (a b : Int) : 0 ≤ mixI a b ∧ mixI a b ≤ 18446744073709551615 := ⟨bits_lo_u64 _ _ _, bits_hi_u64 _ _ _⟩
/-- The state behind some words. -/
def absorb (s : Int) (l : List Int) : Int := l.foldl mixI s
theorem absorb_snoc (s : Int) (l : List Int) (x : Int) : absorb s (l ++ [x]) = mixI (absorb s l) x := by simp [absorb]
/-- The state behind the first k of some ints. -/
def absTo (s : Int) (l : List Int) (k : Nat) : Int := absorb s ((l.take k).map IntKind.u64.wrap)
theorem absTo_zero (s : Int) (l : List Int) : absTo s l 0 = s := rfl
theorem absTo_succ {s : Int} {l : List Int} {k : Nat} {z : Int} (h : l[k]? = some z) : absTo s l (k + 1) = mixI (absTo s l k) (IntKind.u64.wrap z) := by
  unfold absTo; rw [List.take_add_one, h, List.map_append]; exact absorb_snoc _ _ _
theorem absTo_all (s : Int) (l : List Int) : absTo s l l.length = absorb s (l.map IntKind.u64.wrap) := by
  unfold absTo; rw [List.take_length]
/-- The hash of a label and words. -/
def sumI (label : List UInt8) (l : List Int) : Int :=
  mixI (absorb (mixI (mixI (absorb 0 ((wds label).map (fun n : Nat => (n : Int)))) label.length) l.length) (l.map IntKind.u64.wrap)) 0
/-- The hash of a label and bytes. -/
def bytesI (label b : List UInt8) : Int := sumI label ((wds b).map (fun n : Nat => wrap64 (n : Int)) ++ [(b.length : Int)])

end Go.Pure

namespace Go.Pure

/-- The bytes of the label of a record's sum. -/
def entryL : List UInt8 := [101, 110, 116, 114, 121]
def coreP (n : Int) (b : List UInt8) : List UInt8 := uvar (zig n) ++ (uvar b.length ++ b)
def rawP (b : List UInt8) : List UInt8 := uvar b.length ++ b
/-- The sum of a core. -/
def sumP (c : List UInt8) : Nat := (bytesI entryL c).toNat
def frameP (n : Int) (b : List UInt8) : List UInt8 := rawP (coreP n b) ++ uvar (sumP (coreP n b))

theorem sumI_range (lab : List UInt8) (l : List Int) : 0 ≤ sumI lab l ∧ sumI lab l ≤ 18446744073709551615 := mixI_range _ _
theorem bytesI_toNat (c : List UInt8) : bytesI entryL c = (sumP c : Int) := by
  unfold sumP
  exact (Int.toNat_of_nonneg (sumI_range _ _).1).symm
theorem sumP_lt (c : List UInt8) : sumP c < 18446744073709551616 := by
  have h := sumI_range entryL ((wds c).map (fun n : Nat => Go.RowKit.wrap64 (n : Int)) ++ [(c.length : Int)])
  unfold sumP bytesI
  omega
theorem coreP_len (n : Int) (b : List UInt8) (hlo : -9223372036854775808 ≤ n) (hhi : n ≤ 9223372036854775807) (hb : b.length ≤ 1000000000) : (coreP n b).length ≤ b.length + 20 := by
  unfold coreP
  have h1 := uvar_len (zig_lt n hlo hhi)
  have h2 := uvar_len (n := b.length) (by omega)
  simp only [List.length_append]
  omega
theorem frameP_len (n : Int) (b : List UInt8) (hlo : -9223372036854775808 ≤ n) (hhi : n ≤ 9223372036854775807) (hb : b.length ≤ 100000000) : (frameP n b).length ≤ b.length + 40 := by
  have h0 := coreP_len n b hlo hhi (by omega)
  have h1 := uvar_len (n := (coreP n b).length) (by omega)
  have h2 := uvar_len (sumP_lt (coreP n b))
  unfold frameP rawP
  simp only [List.length_append]
  omega

end Go.Pure

namespace Go.Pure

def firstC (b : List UInt8) (num : Int) : Option (List UInt8) :=
  if b.length < (uintR (b.take 10) 0).1 then none
  else
    let x := rawR (b.take ((uintR (b.take 10) 0).1 + 20)) 0
    let y := intR x.1 0
    let z := rawR y.2.1 y.2.2
    if endR z.2.1 z.2.2 ≠ 0 ∨ y.1 ≠ num ∨ (uintR x.2.1 x.2.2).1 ≠ sumP x.1 then none
    else if b.take (frameP num z.1).length = frameP num z.1 then some z.1 else none

theorem firstC_big {b : List UInt8} {num : Int} {len : Nat} (h1 : (uintR (b.take 10) 0).1 = len) (h2 : b.length < len) : firstC b num = none := by
  unfold firstC; rw [h1, if_pos h2]
theorem firstC_val {b bytes r1 c1 rcd c2 : List UInt8} {num e1 at_ x1 x2 : Int} {len sum : Nat} (h1 : (uintR (b.take 10) 0).1 = len) (h2 : ¬ b.length < len) (h3 : rawR (b.take (len + 20)) 0 = (bytes, r1, e1))
    (h4 : (uintR r1 e1).1 = sum) (h5 : intR bytes 0 = (at_, c1, x1)) (h6 : rawR c1 x1 = (rcd, c2, x2)) :
    firstC b num = if endR c2 x2 ≠ 0 ∨ at_ ≠ num ∨ sum ≠ sumP bytes then none else if b.take (frameP num rcd).length = frameP num rcd then some rcd else none := by
  unfold firstC
  rw [h1, if_neg h2]
  simp only [h3, h4, h5, h6]
/-- What the reference's first computes. -/
def firstRf (b : List UInt8) (num : Int) : Option (List UInt8) :=
  let x := rawR b 0
  let y := intR x.1 0
  let z := rawR y.2.1 y.2.2
  if x.2.2 ≠ 0 ∨ z.2.2 ≠ 0 then none
  else if b.take (frameP num z.1).length = frameP num z.1 then some z.1 else none
theorem firstRf_val {b bytes r1 c1 rcd c2 : List UInt8} {num e1 at_ x1 x2 : Int} (h3 : rawR b 0 = (bytes, r1, e1)) (h5 : intR bytes 0 = (at_, c1, x1)) (h6 : rawR c1 x1 = (rcd, c2, x2)) :
    firstRf b num = if e1 ≠ 0 ∨ x2 ≠ 0 then none else if b.take (frameP num rcd).length = frameP num rcd then some rcd else none := by
  unfold firstRf
  simp only [h3, h5, h6]
end Go.Pure

namespace Go.Pure
set_option linter.unusedVariables false

theorem frameP_pos (k : Int) (r : List UInt8) : 1 ≤ (frameP k r).length := by
  have := uvar_pos (sumP (coreP k r))
  unfold frameP
  rw [List.length_append]
  omega
theorem firstC_take {b r : List UInt8} {k : Int} (h : firstC b k = some r) : b.take (frameP k r).length = frameP k r := by
  unfold firstC at h
  split at h
  · cases h
  · simp only at h
    split at h
    · cases h
    · split at h
      · rename_i h1
        injection h with h
        rw [h] at h1
        exact h1
      · cases h
theorem firstC_le {b r : List UInt8} {k : Int} (h : firstC b k = some r) : (frameP k r).length ≤ b.length := by
  have := congrArg List.length (firstC_take h)
  simp at this
  omega

/-- The records of bytes, from number k on. -/
def scanC (b : List UInt8) (k : Nat) : List (List UInt8) :=
  match h : firstC b (k : Int) with
  | none => []
  | some r => r :: scanC (b.drop (frameP (k : Int) r).length) (k + 1)
termination_by b.length
decreasing_by
  have h1 := firstC_le h
  have h2 := frameP_pos (k : Int) r
  simp
  omega
theorem scanC_none {b : List UInt8} {k : Nat} (h : firstC b (k : Int) = none) : scanC b k = [] := by
  rw [scanC]; split
  · rfl
  · rename_i r h'; rw [h] at h'; cases h'
theorem scanC_some {b r : List UInt8} {k : Nat} (h : firstC b (k : Int) = some r) : scanC b k = r :: scanC (b.drop (frameP (k : Int) r).length) (k + 1) := by
  rw [scanC]; split
  · rename_i h'; rw [h] at h'; cases h'
  · rename_i r' h'; rw [h] at h'; injection h' with h'; subst h'; rfl

/-- The images of a list under a function that is told the place, joined. -/
def catF (f : Nat → List UInt8 → List UInt8) : Nat → List (List UInt8) → List UInt8
  | _, [] => []
  | k, r :: t => f k r ++ catF f (k + 1) t
theorem catF_snoc (f : Nat → List UInt8 → List UInt8) (l : List (List UInt8)) : ∀ (k : Nat) (r : List UInt8), catF f k (l ++ [r]) = catF f k l ++ f (k + l.length) r := by
  induction l with
  | nil => intro k r; simp [catF]
  | cons x l ih =>
    intro k r
    rw [List.cons_append, catF, catF, ih, List.append_assoc, List.length_cons, show k + 1 + l.length = k + (l.length + 1) by omega]
theorem catF_len (f : Nat → List UInt8 → List UInt8) (hf : ∀ k r, 1 ≤ (f k r).length) (l : List (List UInt8)) : ∀ k, l.length ≤ (catF f k l).length := by
  induction l with
  | nil => intro k; simp [catF]
  | cons x l ih =>
    intro k
    have h1 := ih (k + 1)
    have h2 := hf k x
    rw [catF, List.length_append, List.length_cons]
    omega
/-- The frames of records, from number k on. -/
def framesP (k : Nat) (l : List (List UInt8)) : List UInt8 := catF (fun k r => frameP (k : Int) r) k l
theorem framesP_nil (k : Nat) : framesP k [] = [] := rfl
theorem framesP_snoc (l : List (List UInt8)) (k : Nat) (r : List UInt8) : framesP k (l ++ [r]) = framesP k l ++ frameP ((k + l.length : Nat) : Int) r := catF_snoc _ l k r
theorem framesP_len (l : List (List UInt8)) (k : Nat) : l.length ≤ (framesP k l).length := catF_len _ (fun k r => frameP_pos _ r) l k
/-- What the reference's Scan computes. -/
theorem firstRf_take {b r : List UInt8} {k : Int} (h : firstRf b k = some r) : b.take (frameP k r).length = frameP k r := by
  unfold firstRf at h
  simp only at h
  split at h
  · cases h
  · split at h
    · rename_i h1
      injection h with h
      rw [h] at h1
      exact h1
    · cases h
theorem firstRf_le {b r : List UInt8} {k : Int} (h : firstRf b k = some r) : (frameP k r).length ≤ b.length := by
  have := congrArg List.length (firstRf_take h)
  simp at this
  omega
def scanRf (b : List UInt8) (k : Nat) : List (List UInt8) :=
  if b = [] then [] else
  match h : firstRf b (k : Int) with
  | none => []
  | some r => r :: scanRf (b.drop (frameP (k : Int) r).length) (k + 1)
termination_by b.length
decreasing_by
  have h1 := firstRf_le h
  have h2 := frameP_pos (k : Int) r
  simp
  omega
theorem scanRf_nil (k : Nat) : scanRf [] k = [] := by rw [scanRf]; simp
theorem scanRf_none {b : List UInt8} {k : Nat} (h : firstRf b (k : Int) = none) : scanRf b k = [] := by
  rw [scanRf]
  split
  · rfl
  · split
    · rfl
    · rename_i r h'; rw [h] at h'; cases h'
theorem scanRf_some {b r : List UInt8} {k : Nat} (hb : b ≠ []) (h : firstRf b (k : Int) = some r) : scanRf b k = r :: scanRf (b.drop (frameP (k : Int) r).length) (k + 1) := by
  rw [scanRf, if_neg hb]
  split
  · rename_i h'; rw [h] at h'; cases h'
  · rename_i r' h'; rw [h] at h'; injection h' with h'; subst h'; rfl
end Go.Pure

namespace Go.Pure
set_option linter.unusedVariables false

theorem scanU_uvar (n : Nat) : ∀ (i acc : Nat) (t : List UInt8), n * 128 ^ i < 18446744073709551616 → (0 < i → 0 < n) → scanU i acc (uvar n ++ t) = .ok (acc + n * 128 ^ i, t) := by
  induction n using Nat.strongRecOn with
  | _ n ih =>
    intro i acc t hlt hpos
    have hp9 : (128 : Nat) ^ 9 = 9223372036854775808 := by decide
    by_cases hn : n < 128
    · rw [uvar_lt hn, List.singleton_append]
      have hc : (UInt8.ofNat n).toNat = n := by simp; omega
      rw [scanU_end, hc]
      · rw [hc]
        rintro (⟨rfl, h⟩ | ⟨h1, h2⟩)
        · rw [hp9] at hlt; omega
        · have := hpos h1; omega
      · rw [hc]; exact hn
    · rw [uvar_ge (by omega), List.cons_append]
      have hc : (UInt8.ofNat (128 + n % 128)).toNat = 128 + n % 128 := by simp; omega
      have hi : i ≤ 8 := by
        rcases Nat.lt_or_ge i 9 with h | h
        · omega
        · have h1 : 128 ^ 9 ≤ 128 ^ i := Nat.pow_le_pow_right (by omega) h
          have h2 : 128 * 128 ^ 9 ≤ n * 128 ^ i := Nat.mul_le_mul (by omega) h1
          rw [hp9] at h2
          omega
      rw [scanU_on, hc]
      · have e : n * 128 ^ i = n % 128 * 128 ^ i + n / 128 * 128 ^ (i + 1) := by
          rw [Nat.pow_succ, ← Nat.mul_assoc, Nat.mul_right_comm, ← Nat.add_mul, Nat.add_comm, Nat.div_add_mod' n 128]
        rw [ih (n / 128) (by omega) (i + 1) _ t (by omega) (fun _ => by omega)]
        rw [show (128 + n % 128) % 128 = n % 128 by omega, e, Nat.add_assoc]
      · rw [hc]; omega
      · rw [hc]; omega
theorem getU_uvar {n : Nat} (h : n < 18446744073709551616) (t : List UInt8) : getU (uvar n ++ t) = .ok (n, t) := by
  unfold getU
  rw [scanU_uvar n 0 0 t (by simpa using h) (fun h => by omega)]
  simp
theorem uintR_uvar {n : Nat} (h : n < 18446744073709551616) (t : List UInt8) : uintR (uvar n ++ t) 0 = (n, t, 0) := uintR_ok (getU_uvar h t)
theorem unzig_zig (n : Int) : unzig (zig n) = n := by
  unfold unzig zig
  split <;> split <;> omega
theorem intR_uvar {n : Int} (hlo : -9223372036854775808 ≤ n) (hhi : n ≤ 9223372036854775807) (t : List UInt8) : intR (uvar (zig n) ++ t) 0 = (n, t, 0) := by
  unfold intR
  rw [uintR_uvar (zig_lt n hlo hhi), unzig_zig]
theorem rawR_rawP (b t : List UInt8) (h : b.length < 18446744073709551616) : rawR (rawP b ++ t) 0 = (b, t, 0) := by
  have h1 : lengthR (rawP b ++ t) 0 = (b.length, b ++ t, 0) := by
    unfold rawP
    rw [List.append_assoc]
    exact lengthR_ok (uintR_uvar h (b ++ t)) (by simp)
  unfold rawR
  rw [h1]
  simp

/-- The bytes begin with the frame of a record. -/
theorem split_of_take {b f : List UInt8} (h : b.take f.length = f) : b = f ++ b.drop f.length := by
  have := List.take_append_drop f.length b
  rw [h] at this
  exact this.symm
theorem coreP_lt {b r : List UInt8} {num : Int} (h : b.take (frameP num r).length = frameP num r) (hb : b.length < 18446744073709551616) : (coreP num r).length < b.length ∧ r.length < b.length := by
  have h1 := congrArg List.length h
  have h3 := uvar_pos (sumP (coreP num r))
  have h4 := uvar_pos (coreP num r).length
  have h5 : r.length ≤ (coreP num r).length := by unfold coreP; simp only [List.length_append]; omega
  unfold frameP rawP at h1
  simp only [List.length_take, List.length_append] at h1
  omega

theorem firstRf_of {b r : List UInt8} {num : Int} (hlo : -9223372036854775808 ≤ num) (hhi : num ≤ 9223372036854775807) (hb : b.length < 18446744073709551616) (h : b.take (frameP num r).length = frameP num r) : firstRf b num = some r := by
  obtain ⟨hc, hr⟩ := coreP_lt h hb
  have e := split_of_take h
  generalize b.drop (frameP num r).length = t at e
  have h3 : rawR b 0 = (coreP num r, uvar (sumP (coreP num r)) ++ t, 0) := by
    rw [e, show frameP num r = rawP (coreP num r) ++ uvar (sumP (coreP num r)) from rfl, List.append_assoc]
    exact rawR_rawP _ _ (by omega)
  have h5 : intR (coreP num r) 0 = (num, rawP r, 0) := by
    rw [show coreP num r = uvar (zig num) ++ rawP r from rfl]
    exact intR_uvar hlo hhi _
  have h6 : rawR (rawP r) 0 = (r, [], 0) := by
    have := rawR_rawP r [] (by omega)
    rwa [List.append_nil] at this
  rw [firstRf_val h3 h5 h6, if_neg (by simp), if_pos h]

theorem firstC_of {b r : List UInt8} {num : Int} (hlo : -9223372036854775808 ≤ num) (hhi : num ≤ 9223372036854775807) (hb : b.length < 18446744073709551616) (h : b.take (frameP num r).length = frameP num r) : firstC b num = some r := by
  obtain ⟨hc, hr⟩ := coreP_lt h hb
  have hlen := congrArg List.length h
  have e := split_of_take h
  generalize b.drop (frameP num r).length = t at e
  have hu1 := uvar_len (n := (coreP num r).length) (by omega)
  have hu2 := uvar_len (sumP_lt (coreP num r))
  have e2 : b = uvar (coreP num r).length ++ (coreP num r ++ (uvar (sumP (coreP num r)) ++ t)) := by
    rw [e, show frameP num r = (uvar (coreP num r).length ++ coreP num r) ++ uvar (sumP (coreP num r)) from rfl, List.append_assoc, List.append_assoc]
  have h1 : (uintR (b.take 10) 0).1 = (coreP num r).length := by
    rw [e2, List.take_append, List.take_of_length_le hu1, uintR_uvar (by omega)]
  have h3 : rawR (b.take ((coreP num r).length + 20)) 0 = (coreP num r, uvar (sumP (coreP num r)) ++ (t.take ((coreP num r).length + 20 - (uvar (coreP num r).length).length - (coreP num r).length - (uvar (sumP (coreP num r))).length)), 0) := by
    rw [e2, List.take_append, List.take_of_length_le (by omega), List.take_append, List.take_of_length_le (by omega), List.take_append, List.take_of_length_le (by omega), ← List.append_assoc]
    exact rawR_rawP _ _ (by omega)
  have h4 := uintR_uvar (sumP_lt (coreP num r)) (t.take ((coreP num r).length + 20 - (uvar (coreP num r).length).length - (coreP num r).length - (uvar (sumP (coreP num r))).length))
  have h5 : intR (coreP num r) 0 = (num, rawP r, 0) := by
    rw [show coreP num r = uvar (zig num) ++ rawP r from rfl]
    exact intR_uvar hlo hhi _
  have h6 : rawR (rawP r) 0 = (r, [], 0) := by
    have := rawR_rawP r [] (by omega)
    rwa [List.append_nil] at this
  rw [firstC_val h1 (by omega) h3 (congrArg Prod.fst h4) h5 h6, if_neg (by simp [endR]), if_pos h]

theorem first_eq {b : List UInt8} {num : Int} (hlo : -9223372036854775808 ≤ num) (hhi : num ≤ 9223372036854775807) (hb : b.length < 18446744073709551616) : firstC b num = firstRf b num := by
  cases h : firstC b num with
  | some r => exact (firstRf_of hlo hhi hb (firstC_take h)).symm
  | none =>
    cases h' : firstRf b num with
    | none => rfl
    | some r => rw [firstC_of hlo hhi hb (firstRf_take h')] at h; cases h

theorem firstC_nil (num : Int) : firstC [] num = none := by
  cases h : firstC [] num with
  | none => rfl
  | some r =>
    have h1 := firstC_le h
    have h2 := frameP_pos num r
    rw [List.length_nil] at h1
    omega
theorem scan_eq (n : Nat) : ∀ (b : List UInt8) (k : Nat), b.length ≤ n → k + b.length ≤ 9223372036854775807 → scanC b k = scanRf b k := by
  induction n with
  | zero =>
    intro b k hb _
    have : b = [] := List.eq_nil_of_length_eq_zero (by omega)
    subst this
    rw [scanRf_nil, scanC_none (firstC_nil _)]
  | succ n ih =>
    intro b k hb hk
    cases hbe : b with
    | nil => rw [scanRf_nil, scanC_none (firstC_nil _)]
    | cons x b' =>
      rw [← hbe]
      have hne : b ≠ [] := by rw [hbe]; simp
      have he := first_eq (b := b) (num := (k : Int)) (by omega) (by omega) (by omega)
      cases h : firstC b (k : Int) with
      | none => rw [scanC_none h, scanRf_none (by rw [← he]; exact h)]
      | some r =>
        have hle := firstC_le h
        have hpos := frameP_pos (k : Int) r
        rw [scanC_some h, scanRf_some hne (by rw [← he]; exact h), ih _ _ (by rw [List.length_drop]; omega) (by rw [List.length_drop]; omega)]
/-- Frames are read back, whatever follows them. -/
theorem scan_frames (ls : List (List UInt8)) : ∀ (k : Nat) (t : List UInt8), k + (framesP k ls ++ t).length ≤ 9223372036854775807 → scanC (framesP k ls ++ t) k = ls ++ scanC t (k + ls.length) := by
  induction ls with
  | nil => intro k t _; rw [framesP_nil]; simp
  | cons r ls ih =>
    intro k t h
    have e : framesP k (r :: ls) ++ t = frameP (k : Int) r ++ (framesP (k + 1) ls ++ t) := by
      rw [show framesP k (r :: ls) = frameP (k : Int) r ++ framesP (k + 1) ls from rfl, List.append_assoc]
    rw [e] at h ⊢
    have hpos := frameP_pos (k : Int) r
    rw [List.length_append] at h
    have hf : firstC (frameP (k : Int) r ++ (framesP (k + 1) ls ++ t)) (k : Int) = some r :=
      firstC_of (by omega) (by omega) (by rw [List.length_append]; omega) (List.take_left' rfl)
    rw [scanC_some hf, List.drop_left' rfl, ih (k + 1) t (by omega), List.length_cons, List.cons_append, show k + 1 + ls.length = k + (ls.length + 1) by omega]
theorem framesP_append (a b : List (List UInt8)) : ∀ k, framesP k (a ++ b) = framesP k a ++ framesP (k + a.length) b := by
  induction a with
  | nil => intro k; rw [framesP_nil]; simp
  | cons r a ih =>
    intro k
    rw [List.cons_append, show framesP k (r :: (a ++ b)) = frameP (k : Int) r ++ framesP (k + 1) (a ++ b) from rfl, ih, show framesP k (r :: a) = frameP (k : Int) r ++ framesP (k + 1) a from rfl, List.append_assoc, List.length_cons, show k + 1 + a.length = k + (a.length + 1) by omega]
end Go.Pure

namespace Go.Pure
open Go.RowKit

/-- One mixing step on numbers. -/
def mixN (a b : Nat) : Nat := ((a ^^^ b) * 11400714819323198485 % 18446744073709551616) ^^^ ((a ^^^ b) * 11400714819323198485 % 18446744073709551616 / 4294967296)
theorem xor_lt64 {a b : Nat} (ha : a < 18446744073709551616) (hb : b < 18446744073709551616) : a ^^^ b < 18446744073709551616 := Nat.xor_lt_two_pow (n := 64) ha hb
theorem mixI_nat {a b : Nat} (ha : a < 18446744073709551616) (hb : b < 18446744073709551616) : mixI (a : Int) (b : Int) = (mixN a b : Int) := by
  unfold mixI mixN
  rw [u64_xor_nat a b ha hb, IntKind.wrap_u64]
  generalize a ^^^ b = x
  have e1 : (x : Int) * 11400714819323198485 % 18446744073709551616 = ((x * 11400714819323198485 % 18446744073709551616 : Nat) : Int) := by omega
  rw [e1]
  have hm : x * 11400714819323198485 % 18446744073709551616 < 18446744073709551616 := Nat.mod_lt _ (by omega)
  generalize x * 11400714819323198485 % 18446744073709551616 = m at *
  have e2 : (m : Int) / 4294967296 = ((m / 4294967296 : Nat) : Int) := by omega
  rw [e2, u64_xor_nat _ _ hm (by omega)]
theorem mixI_zero {a : Nat} (ha : a < 18446744073709551616) : mixI (a : Int) 0 = (mixN a 0 : Int) := by
  have h := mixI_nat ha (b := 0) (by omega)
  rw [show ((0 : Nat) : Int) = 0 from rfl] at h
  exact h
theorem mixN_lt {a b : Nat} : mixN a b < 18446744073709551616 := by
  unfold mixN
  have hm : (a ^^^ b) * 11400714819323198485 % 18446744073709551616 < 18446744073709551616 := Nat.mod_lt _ (by omega)
  exact xor_lt64 hm (by omega)
theorem xorshift_inj {m n : Nat} (hm : m < 18446744073709551616) (hn : n < 18446744073709551616) (h : m ^^^ (m / 4294967296) = n ^^^ (n / 4294967296)) : m = n := by
  have key : ∀ x : Nat, x < 18446744073709551616 → (x ^^^ (x / 4294967296)) ^^^ ((x ^^^ (x / 4294967296)) / 4294967296) = x := by
    intro x hx
    have e : ∀ y : Nat, y / 4294967296 = y >>> 32 := fun y => by rw [Nat.shiftRight_eq_div_pow]
    rw [e, e, Nat.shiftRight_xor_distrib, ← Nat.shiftRight_add]
    have h0 : x >>> (32 + 32) = 0 := by rw [Nat.shiftRight_eq_div_pow]; exact Nat.div_eq_of_lt hx
    rw [h0, Nat.xor_zero, Nat.xor_assoc, Nat.xor_self, Nat.xor_zero]
  rw [← key m hm, h, key n hn]
theorem mul_inj64 {a b : Nat} (ha : a < 18446744073709551616) (hb : b < 18446744073709551616) (h : a * 11400714819323198485 % 18446744073709551616 = b * 11400714819323198485 % 18446744073709551616) : a = b := by
  have key : ∀ x : Nat, x < 18446744073709551616 → (x * 11400714819323198485 % 18446744073709551616) * 17428512612931826493 % 18446744073709551616 = x := by
    intro x hx
    rw [Nat.mod_mul_mod, Nat.mul_assoc, Nat.mul_mod]
    have : 11400714819323198485 * 17428512612931826493 % 18446744073709551616 = 1 := by decide
    rw [this, Nat.mul_one, Nat.mod_mod, Nat.mod_eq_of_lt hx]
  rw [← key a ha, h, key b hb]
theorem xor_left_inj {a b c : Nat} (h : a ^^^ b = a ^^^ c) : b = c := by
  have : a ^^^ (a ^^^ b) = a ^^^ (a ^^^ c) := by rw [h]
  rwa [← Nat.xor_assoc, ← Nat.xor_assoc, Nat.xor_self, Nat.zero_xor, Nat.zero_xor] at this
theorem mixN_xor {a b c d : Nat} (ha : a < 18446744073709551616) (hb : b < 18446744073709551616) (hc : c < 18446744073709551616) (hd : d < 18446744073709551616) (h : mixN a b = mixN c d) : a ^^^ b = c ^^^ d := by
  unfold mixN at h
  exact mul_inj64 (xor_lt64 ha hb) (xor_lt64 hc hd) (xorshift_inj (Nat.mod_lt _ (by omega)) (Nat.mod_lt _ (by omega)) h)
theorem mixN_right {a b c : Nat} (ha : a < 18446744073709551616) (hb : b < 18446744073709551616) (hc : c < 18446744073709551616) (h : mixN a b = mixN a c) : b = c := xor_left_inj (mixN_xor ha hb ha hc h)
theorem mixN_left {a b c : Nat} (ha : a < 18446744073709551616) (hb : b < 18446744073709551616) (hc : c < 18446744073709551616) (h : mixN b a = mixN c a) : b = c := by
  have := mixN_xor hb ha hc ha h
  rw [Nat.xor_comm b, Nat.xor_comm c] at this
  exact xor_left_inj this
/-- The state behind some words, on numbers. -/
def absorbN (s : Nat) (l : List Nat) : Nat := l.foldl mixN s
theorem absorbN_lt {s : Nat} (hs : s < 18446744073709551616) (l : List Nat) : absorbN s l < 18446744073709551616 := by
  induction l generalizing s with
  | nil => exact hs
  | cons x l ih => exact ih mixN_lt
theorem absorb_nat {s : Nat} (hs : s < 18446744073709551616) (l : List Nat) (hl : ∀ x ∈ l, x < 18446744073709551616) : absorb (s : Int) (l.map (fun n : Nat => (n : Int))) = (absorbN s l : Int) := by
  induction l generalizing s with
  | nil => rfl
  | cons x l ih =>
    have hx := hl x (by simp)
    show absorb (mixI (s : Int) (x : Int)) _ = _
    rw [mixI_nat hs hx]
    exact ih mixN_lt (fun y hy => hl y (by simp [hy]))
theorem absorb_zero (l : List Nat) (hl : ∀ x ∈ l, x < 18446744073709551616) : absorb 0 (l.map (fun n : Nat => (n : Int))) = (absorbN 0 l : Int) := by
  have h := absorb_nat (s := 0) (by omega) l hl
  rw [show ((0 : Nat) : Int) = 0 from rfl] at h
  exact h
theorem absorbN_inj {l : List Nat} (hl : ∀ x ∈ l, x < 18446744073709551616) : ∀ {s t : Nat}, s < 18446744073709551616 → t < 18446744073709551616 → absorbN s l = absorbN t l → s = t := by
  induction l with
  | nil => intro s t _ _ h; exact h
  | cons x l ih =>
    intro s t hs ht h
    have hx := hl x (by simp)
    have := ih (fun y hy => hl y (by simp [hy])) mixN_lt mixN_lt h
    exact mixN_left hx hs ht this
theorem absorbN_one {p q : List Nat} {x y s : Nat} (hs : s < 18446744073709551616) (hx : x < 18446744073709551616) (hy : y < 18446744073709551616) (hq : ∀ z ∈ q, z < 18446744073709551616)
    (h : absorbN s (p ++ x :: q) = absorbN s (p ++ y :: q)) : x = y := by
  unfold absorbN at h
  rw [List.foldl_append, List.foldl_append] at h
  have := absorbN_inj (l := q) hq mixN_lt mixN_lt h
  exact mixN_right (absorbN_lt hs p) hx hy this

theorem word_inj : ∀ (a b : List UInt8), a.length = b.length → word a = word b → a = b := by
  intro a
  induction a with
  | nil => intro b hl _; exact (List.eq_nil_of_length_eq_zero hl.symm).symm
  | cons x a ih =>
    intro b hl h
    cases b with
    | nil => cases hl
    | cons y b =>
      rw [word_cons, word_cons] at h
      have hx := x.toNat_lt
      have hy := y.toNat_lt
      have h1 : x.toNat = y.toNat := by omega
      have h2 : word a = word b := by omega
      rw [ih b (by simpa using hl) h2, UInt8.toNat.inj h1]
theorem wd_set_ne {b : List UInt8} {i j : Nat} {y : UInt8} (h : j ≠ i / 8) : wd (b.set i y) j = wd b j := by
  unfold wd
  rw [List.drop_set]
  split
  · rfl
  · rw [List.take_set, List.set_eq_of_length_le (by simp; omega)]
theorem wd_set_eq {b : List UInt8} {i : Nat} {y : UInt8} (hi : i < b.length) (h : wd (b.set i y) (i / 8) = wd b (i / 8)) : b[i]? = some y := by
  unfold wd at h
  have h1 := word_inj _ _ (by simp) h
  have h2 := congrArg (fun l : List UInt8 => l[i % 8]?) h1
  simp only [List.getElem?_take, List.getElem?_drop] at h2
  rw [if_pos (by omega), if_pos (by omega), show 8 * (i / 8) + i % 8 = i by omega, List.getElem?_set_self hi] at h2
  exact h2.symm
theorem wrap_wrap (n : Nat) (h : n < 18446744073709551616) : IntKind.u64.wrap (wrap64 (n : Int)) = (n : Int) := by
  rw [IntKind.wrap_u64]
  unfold wrap64
  omega
/-- The words of a text and its length, as the hash takes them. -/
def allW (b : List UInt8) : List Nat := wds b ++ [b.length]
theorem wds_lt (b : List UInt8) : ∀ x ∈ wds b, x < 18446744073709551616 := by
  intro x hx
  obtain ⟨i, _, rfl⟩ := List.mem_map.1 hx
  exact wd_lt b i
theorem allW_lt (c : List UInt8) (hc : c.length < 9223372036854775808) : ∀ x ∈ allW c, x < 18446744073709551616 := by
  intro x hx
  rcases List.mem_append.1 hx with h | h
  · exact wds_lt c x h
  · simp at h; omega
theorem allW_map (c : List UInt8) (hc : c.length < 9223372036854775808) : ((wds c).map (fun n : Nat => wrap64 (n : Int)) ++ [(c.length : Int)]).map IntKind.u64.wrap = (allW c).map (fun n : Nat => (n : Int)) := by
  unfold allW
  rw [List.map_append, List.map_append, List.map_map]
  have e1 : (wds c).map (IntKind.u64.wrap ∘ fun n : Nat => wrap64 (n : Int)) = (wds c).map (fun n : Nat => (n : Int)) := by
    refine List.map_congr_left fun x hx => ?_
    rw [Function.comp_apply, wrap_wrap x (wds_lt c x hx)]
  have e2 : IntKind.u64.wrap (c.length : Int) = (c.length : Int) := by rw [IntKind.wrap_u64]; omega
  rw [e1, List.map_cons, List.map_nil, List.map_cons, List.map_nil, e2]
theorem allW_len (c : List UInt8) : (((wds c).map (fun n : Nat => wrap64 (n : Int)) ++ [(c.length : Int)]).length) = nw c + 1 := by
  rw [List.length_append, List.length_map, wds_length]
  rfl
theorem nw_same {b c : List UInt8} (h : c.length = b.length) : nw c = nw b := by unfold nw; rw [h]
def startN (lab : List UInt8) (m : Nat) : Nat := mixN (mixN (absorbN 0 (wds lab)) lab.length) m
theorem startN_lt (lab : List UInt8) (m : Nat) : startN lab m < 18446744073709551616 := mixN_lt
theorem startN_eq (lab : List UInt8) (m : Nat) (hlab : lab.length < 18446744073709551616) (hm : m < 18446744073709551616) :
    mixI (mixI (absorb 0 ((wds lab).map (fun n : Nat => (n : Int)))) lab.length) m = (startN lab m : Int) := by
  rw [absorb_zero (wds lab) (wds_lt lab), mixI_nat (absorbN_lt (by omega) _) hlab, mixI_nat mixN_lt hm]
  rfl
theorem bytesI_abs (lab b : List UInt8) (hlab : lab.length < 18446744073709551616) (hb : b.length < 9223372036854775808) : bytesI lab b = (mixN (absorbN (startN lab (nw b + 1)) (allW b)) 0 : Int) := by
  have hnw : nw b + 1 < 18446744073709551616 := by unfold nw; omega
  unfold bytesI sumI
  rw [allW_map b hb, allW_len b]
  have h1 := startN_eq lab (nw b + 1) hlab hnw
  have h2 := startN_lt lab (nw b + 1)
  generalize startN lab (nw b + 1) = s at *
  rw [h1, absorb_nat h2 _ (allW_lt b hb)]
  have h3 := absorbN_lt h2 (allW b)
  generalize absorbN s (allW b) = q at *
  exact mixI_zero h3
theorem wdsTo_split (b : List UInt8) (n j : Nat) (h : j < n) : (List.range n).map (wd b) = (List.range j).map (wd b) ++ wd b j :: ((List.range (n - j - 1)).map (fun i => wd b (j + 1 + i))) := by
  have e : n = j + (1 + (n - j - 1)) := by omega
  conv => lhs; rw [e, List.range_add, List.map_append, List.map_map, List.range_add]
  simp [List.map_map, Function.comp_def, Nat.add_assoc, Nat.add_comm, Nat.add_left_comm]
/-- One byte changed: another sum. -/
theorem sumP_set {b : List UInt8} {i : Nat} {y : UInt8} (hb : b.length < 9223372036854775808) (hi : i < b.length) (h : sumP (b.set i y) = sumP b) : b[i]? = some y := by
  have h1 : bytesI entryL (b.set i y) = bytesI entryL b := by rw [bytesI_toNat, bytesI_toNat, h]
  rw [bytesI_abs entryL b (by decide) hb, bytesI_abs entryL (b.set i y) (by decide) (by rw [List.length_set]; exact hb), nw_same (List.length_set (as := b) (i := i) (a := y))] at h1
  have hs := startN_lt entryL (nw b + 1)
  generalize startN entryL (nw b + 1) = s at *
  have h2 : mixN (absorbN s (allW (b.set i y))) 0 = mixN (absorbN s (allW b)) 0 := by omega
  have h3 := mixN_left (by omega) (absorbN_lt hs _) (absorbN_lt hs _) h2
  have hj : i / 8 < nw b := by unfold nw; omega
  have hnw : nw (b.set i y) = nw b := by simp [nw]
  refine wd_set_eq hi ?_
  unfold allW wds at h3
  rw [hnw, wdsTo_split _ _ _ hj, wdsTo_split b _ _ hj] at h3
  have ep : (List.range (i / 8)).map (wd (b.set i y)) = (List.range (i / 8)).map (wd b) := List.map_congr_left fun x hx => wd_set_ne (by have := List.mem_range.1 hx; omega)
  have eq : (List.range (nw b - i / 8 - 1)).map (fun x => wd (b.set i y) (i / 8 + 1 + x)) = (List.range (nw b - i / 8 - 1)).map (fun x => wd b (i / 8 + 1 + x)) := List.map_congr_left fun x hx => wd_set_ne (by omega)
  rw [ep, eq, List.length_set, List.append_assoc, List.append_assoc, List.cons_append, List.cons_append] at h3
  refine absorbN_one hs (wd_lt _ _) (wd_lt _ _) ?_ h3
  intro z hz
  rcases List.mem_append.1 hz with h | h
  · obtain ⟨k, _, rfl⟩ := List.mem_map.1 h
    exact wd_lt _ _
  · simp at h; omega
/-- The frame with one byte behind its length changed is not accepted. -/
theorem detect {own : List UInt8} {p : Nat} {y c0 : UInt8} (hl : own.length ≤ 100000000) (hp : (uvar (coreP 0 own).length).length ≤ p) (hc : (frameP 0 own)[p]? = some c0) (hne : y ≠ c0) :
    firstC ((frameP 0 own).set p y) 0 = none := by
  cases hf : firstC ((frameP 0 own).set p y) 0 with
  | none => rfl
  | some r =>
    exfalso
    have ht := firstC_take hf
    have hle := firstC_le hf
    have hsp := split_of_take ht
    generalize ((frameP 0 own).set p y).drop (frameP 0 r).length = rest at *
    have hcl := coreP_len 0 own (by omega) (by omega) (by omega)
    have hfl := frameP_len 0 own (by omega) (by omega) (by omega)
    have hplt : p < (frameP 0 own).length := (List.getElem?_eq_some_iff.1 hc).1
    rw [List.length_set] at hle
    have hrl : (coreP 0 r).length < 18446744073709551616 := by
      have : (coreP 0 r).length ≤ (frameP 0 r).length := by unfold frameP rawP; simp only [List.length_append]; omega
      omega
    generalize hC : coreP 0 own = C at *
    have hF : frameP 0 own = uvar C.length ++ (C ++ uvar (sumP C)) := by unfold frameP rawP; rw [hC, List.append_assoc]
    have hR : frameP 0 r = uvar (coreP 0 r).length ++ (coreP 0 r ++ uvar (sumP (coreP 0 r))) := by unfold frameP rawP; rw [List.append_assoc]
    generalize coreP 0 r = D at *
    rw [hF, hR, List.set_append_right _ _ hp, List.append_assoc] at hsp
    have g1 := getU_uvar (n := C.length) (by omega) ((C ++ uvar (sumP C)).set (p - (uvar C.length).length) y)
    have g2 := getU_uvar (n := D.length) hrl ((D ++ uvar (sumP D)) ++ rest)
    rw [hsp, g2] at g1
    injection g1 with g1
    injection g1 with hlen htail
    have hp' : p - (uvar C.length).length < (C ++ uvar (sumP C)).length := by
      rw [hF, List.length_append] at hplt
      omega
    have hc' : (C ++ uvar (sumP C))[p - (uvar C.length).length]? = some c0 := by
      rw [hF, List.getElem?_append_right hp] at hc
      exact hc
    generalize p - (uvar C.length).length = k at *
    by_cases hk : k < C.length
    · rw [List.set_append_left _ _ hk, List.append_assoc] at htail
      obtain ⟨h1, h2⟩ := List.append_inj htail (by simpa using hlen)
      have g3 := getU_uvar (n := sumP D) (sumP_lt _) rest
      have g4 := getU_uvar (n := sumP C) (sumP_lt _) []
      rw [List.append_nil, ← h2, g3] at g4
      injection g4 with g4
      injection g4 with hs _
      rw [h1] at hs
      have := sumP_set (by omega) hk hs
      rw [List.getElem?_append_left hk, this] at hc'
      injection hc' with h
      exact hne h
    · rw [List.set_append_right _ _ (by omega), List.append_assoc] at htail
      obtain ⟨h1, h2⟩ := List.append_inj htail (by simpa using hlen)
      subst h1
      have hle2 := congrArg List.length h2
      rw [List.length_append, List.length_set] at hle2
      have hr0 : rest = [] := List.eq_nil_of_length_eq_zero (by omega)
      rw [hr0, List.append_nil] at h2
      rw [List.getElem?_append_right (by omega)] at hc'
      have h3 := congrArg (fun l : List UInt8 => l[k - D.length]?) h2
      have hk2 : k - D.length < (uvar (sumP D)).length := (List.getElem?_eq_some_iff.1 hc').1
      simp only [List.getElem?_set_self hk2, hc'] at h3
      injection h3 with h3
      exact hne h3.symm
theorem scan_detect {own : List UInt8} {p : Nat} {y c0 : UInt8} (hl : own.length ≤ 100000000) (hp : (uvar (coreP 0 own).length).length ≤ p) (hc : (frameP 0 own)[p]? = some c0) (hne : y ≠ c0) : scanC ((frameP 0 own).set p y) 0 = [] :=
  scanC_none (detect hl hp hc hne)
theorem scan_one (own : List UInt8) (hl : own.length ≤ 100000000) : scanC (frameP 0 own) 0 = [own] := by
  have hf := frameP_len 0 own (by omega) (by omega) hl
  have h := scan_frames [own] 0 [] (by
    rw [show framesP 0 [own] = frameP ((0 : Nat) : Int) own ++ framesP 1 [] from rfl, framesP_nil, List.append_nil, List.append_nil]
    simp at hf ⊢
    omega)
  rw [show framesP 0 [own] = frameP ((0 : Nat) : Int) own ++ framesP 1 [] from rfl, framesP_nil, List.append_nil, List.append_nil] at h
  rw [show frameP 0 own = frameP ((0 : Nat) : Int) own from rfl, h, scanC_none]
  · simp
  · exact firstC_nil _

end Go.Pure

namespace Go.Dk
set_option linter.unusedVariables false

/-- Only the file i has bytes; the disk is on and no failure is planned. -/
structure One (s : S) (r i : Nat) (l : List UInt8) (d : Nat) : Prop where
  room : s.room = r
  lt : i < 64
  other : ∀ j, j ≠ i → s.f j = []
  file : s.f i = l
  firm : s.firm i = d
  le : d ≤ l.length
  on : s.off = false
  plan : s.plan = -1
theorem usedN_at {f : Nat → List UInt8} {i : Nat} (h : ∀ j, j ≠ i → f j = []) : ∀ n, i < n → usedN f n = (f i).length
  | 0, hi => by omega
  | n + 1, hi => by
    unfold usedN
    by_cases e : i = n
    · subst e
      have : ∀ m, m ≤ i → usedN f m = 0 := by
        intro m
        induction m with
        | zero => intro _; rfl
        | succ m ih => intro hm; unfold usedN; rw [ih (by omega), h m (by omega)]; rfl
      rw [this i (Nat.le_refl _), Nat.zero_add]
    · rw [usedN_at h n (by omega), h n (fun e2 => e e2.symm)]
      simp
section
variable {s : S} {r i d : Nat} {l : List UInt8}
theorem One.usd (h : One s r i l d) : used s = l.length := by
  unfold Dk.used
  rw [usedN_at h.other 64 h.lt, h.file]
theorem One.flist (h : One s r i l d) (hl : l ≠ []) : files s = [i] := by
  have hm : ∀ j, j ∈ files s ↔ j = i := fun j => by
    rw [mem_files]
    constructor
    · rintro ⟨_, h2⟩
      exact Decidable.byContradiction (fun e => h2 (h.other j e))
    · rintro rfl
      exact ⟨h.lt, by rw [h.file]; exact hl⟩
  have hp : (files s).Perm [i] := (List.perm_ext_iff_of_nodup (files_nodup s) (by simp)).2 (fun a => by rw [hm a]; simp)
  exact List.perm_singleton.1 hp
theorem One.rnk (h : One s r i l d) : rank s i = 0 := by
  unfold Dk.rank
  have : filesN s.f i = [] := by
    rw [List.eq_nil_iff_forall_not_mem]
    intro j hj
    have := mem_filesN.1 hj
    exact this.2 (h.other j (by omega))
  rw [this]; rfl
theorem One.new {r i : Nat} (hi : i < 64) : One (Dk.new r) r i [] 0 := ⟨rfl, hi, fun j _ => rfl, rfl, rfl, Nat.le_refl _, rfl, rfl⟩
theorem One.putn (h : One s r i l d) {l' : List UInt8} {d' : Nat} (hd : d' ≤ l'.length) : One (put s i l' d') r i l' d' :=
  ⟨h.room, h.lt, fun j hj => by show upd s.f i l' j = []; rw [upd_other _ _ hj]; exact h.other j hj, by show upd s.f i l' i = _; rw [upd_same], by show upd s.firm i d' i = _; rw [upd_same], hd, h.on, h.plan⟩
theorem One.app (h : One s r i l d) {b : List UInt8} (hb : l.length + b.length ≤ r) : ∃ s', append s (i : Int) b = (s', 0) ∧ One s' r i (l ++ b) d := by
  refine ⟨put s i (l ++ b) d, ?_, h.putn (by rw [List.length_append]; have := h.le; omega)⟩
  have hi := h.lt
  unfold append
  rw [if_neg (by omega), if_neg (by rw [h.on]; simp), if_neg (by rw [h.usd, h.room]; omega)]
  have ht : (i : Int).toNat = i := by omega
  rw [ht, h.file, h.firm]
  have hp : pstep (put s i (l ++ b) d) = (put s i (l ++ b) d, false) := if_pos (by show s.plan < 0; rw [h.plan]; omega)
  rw [hp]
  rfl
theorem One.syn (h : One s r i l d) : ∃ s', sync s = (s', 0) ∧ One s' r i l l.length := by
  refine ⟨firmAll s, ?_, h.room, h.lt, h.other, h.file, by show (s.f i).length = _; rw [h.file], Nat.le_refl _, h.on, h.plan⟩
  have hp : pstep s = (s, false) := if_pos (by rw [h.plan]; omega)
  rw [sync_ok h.on (by rw [hp]), hp]
theorem One.rd (h : One s r i l d) : read s (i : Int) = (l, 0) := by
  have hi := h.lt
  unfold read
  rw [if_neg (by omega), if_neg (by rw [h.on]; simp), show (i : Int).toNat = i by omega, h.file]
theorem One.kpt (h : One s r i l d) (keep : Int) : kept s [keep] i = (max 0 (min keep ((l.length : Int) - d))).toNat := by
  unfold kept
  rw [h.rnk, h.file, h.firm]
  rfl
/-- A file behind a crash that keeps m loose bytes. -/
def behind (l : List UInt8) (d m : Nat) (flip : Int) : List UInt8 :=
  if 0 ≤ flip ∧ 0 < m then turn (l.take (d + m)) (d + flip.toNat % (8 * m) / 8) (flip.toNat % (8 * m) % 8) else l.take (d + m)
theorem One.crs (h : One s r i l d) (keep flip : Int) {m : Nat} (hm : (max 0 (min keep ((l.length : Int) - d))).toNat = m) : ∃ s', crash s [keep] flip = s' ∧ read s' (i : Int) = (behind l d m flip, 0) := by
  refine ⟨_, rfl, ?_⟩
  have hi := h.lt
  unfold read
  rw [if_neg (by omega), if_neg (by simp [crash]), show (i : Int).toNat = i by omega]
  show ((turned s [keep] flip).f i, 0) = _
  congr 1
  have hle := h.le
  by_cases hl : l = []
  · subst hl
    have hm0 : m = 0 := by simp at hm hle; omega
    subst hm0
    unfold behind
    rw [if_neg (by omega)]
    have hf : files s = [] := by
      rw [List.eq_nil_iff_forall_not_mem]
      intro j hj
      have := (mem_files.1 hj).2
      by_cases e : j = i
      · rw [e, h.file] at this; exact this rfl
      · exact this (h.other j e)
    unfold turned many manyTo
    rw [hf]
    simp [cut, cutTo, hf, h.file]
  · have hf := h.flist hl
    have hk := (h.kpt keep).trans hm
    have hmany : many s [keep] = m := by
      unfold many manyTo
      rw [hf]
      simp [hk]
    have hcut : (cut s [keep]).f i = l.take (d + m) := by
      show cutTo s [keep] (Dk.files s).length i = _
      unfold cutTo
      rw [hf, if_pos (by simp), h.file, h.firm, hk]
    unfold turned behind
    rw [hmany, hf]
    split
    · rename_i hc
      show invert (cut s [keep]) [i] (flip.toNat % (8 * m)) i = _
      have hfi : (cut s [keep]).firm i = d := h.firm
      have hlen : (l.take (d + m)).length - d = m := by rw [List.length_take]; omega
      have hlt : flip.toNat % (8 * m) < 8 * m := Nat.mod_lt _ (by omega)
      unfold invert
      rw [hcut, hfi, hlen, if_pos hlt, upd_same]
    · exact hcut
end
theorem turn_set {l : List UInt8} {p k : Nat} (hp : p < l.length) : turn l p k = l.set p (l[p] ^^^ UInt8.ofNat (2 ^ (7 - k))) := by
  unfold turn
  apply List.ext_getElem?
  intro j
  rw [List.getElem?_modify, List.getElem?_set]
  by_cases e : p = j
  · subst e; simp [hp]
  · rw [if_neg e]; simp [e]
theorem bit_ne (x : UInt8) {k : Nat} (hk : k < 8) : x ^^^ UInt8.ofNat (2 ^ (7 - k)) ≠ x := by
  intro h
  have h2 : x ^^^ (x ^^^ UInt8.ofNat (2 ^ (7 - k))) = x ^^^ x := by rw [h]
  rw [← UInt8.xor_assoc, UInt8.xor_self, UInt8.zero_xor] at h2
  have : ∀ k : Fin 8, UInt8.ofNat (2 ^ (7 - k.val)) ≠ 0 := by decide
  exact this ⟨k, hk⟩ h2
end Go.Dk
namespace Go.Pure
theorem bytesI_set {lab b : List UInt8} {i : Nat} {y : UInt8} (hlab : lab.length < 1000) (hb : b.length < 9223372036854775808) (hi : i < b.length) (h1 : bytesI lab (b.set i y) = bytesI lab b) : b[i]? = some y := by
  rw [bytesI_abs lab b (by omega) hb, bytesI_abs lab (b.set i y) (by omega) (by rw [List.length_set]; exact hb), nw_same (List.length_set (as := b) (i := i) (a := y))] at h1
  have hs := startN_lt lab (nw b + 1)
  generalize startN lab (nw b + 1) = s at *
  have h2 : mixN (absorbN s (allW (b.set i y))) 0 = mixN (absorbN s (allW b)) 0 := by omega
  have h3 := mixN_left (by omega) (absorbN_lt hs _) (absorbN_lt hs _) h2
  have hj : i / 8 < nw b := by unfold nw; omega
  have hnw : nw (b.set i y) = nw b := by simp [nw]
  refine wd_set_eq hi ?_
  unfold allW wds at h3
  rw [hnw, wdsTo_split _ _ _ hj, wdsTo_split b _ _ hj] at h3
  have ep : (List.range (i / 8)).map (wd (b.set i y)) = (List.range (i / 8)).map (wd b) := List.map_congr_left fun x hx => wd_set_ne (by have := List.mem_range.1 hx; omega)
  have eq : (List.range (nw b - i / 8 - 1)).map (fun x => wd (b.set i y) (i / 8 + 1 + x)) = (List.range (nw b - i / 8 - 1)).map (fun x => wd b (i / 8 + 1 + x)) := List.map_congr_left fun x hx => wd_set_ne (by omega)
  rw [ep, eq, List.length_set, List.append_assoc, List.append_assoc, List.cons_append, List.cons_append] at h3
  refine absorbN_one hs (wd_lt _ _) (wd_lt _ _) ?_ h3
  intro z hz
  rcases List.mem_append.1 hz with h | h
  · obtain ⟨k, _, rfl⟩ := List.mem_map.1 h
    exact wd_lt _ _
  · simp at h; omega
theorem turn_sum {lab b : List UInt8} {p k : Nat} (hlab : lab.length < 1000) (hb : b.length < 9223372036854775808) (hp : p < b.length) (hk : k < 8) : bytesI lab (Dk.turn b p k) ≠ bytesI lab b := by
  rw [Dk.turn_set hp]
  intro h
  have := bytesI_set hlab hb hp h
  rw [List.getElem?_eq_getElem hp] at this
  injection this with this
  exact Dk.bit_ne _ hk this.symm
end Go.Pure

namespace Go.Dk
theorem turn_take3 {l : List UInt8} {p k d : Nat} (h : d ≤ p) : (turn l p k).take d = l.take d := by
  apply List.ext_getElem?
  intro j
  unfold turn
  rw [List.getElem?_take, List.getElem?_take]
  split
  · rw [List.getElem?_modify]
    have hne : ¬ p = j := by omega
    simp only [hne, if_false]
    cases l[j]? <;> rfl
  · rfl
theorem invert_take (s : S) : ∀ (r : List Nat) (b i : Nat), (invert s r b i).take (s.firm i) = (s.f i).take (s.firm i)
  | [], _, _ => rfl
  | j :: r, b, i => by
    unfold invert
    split
    · unfold upd
      split
      · rename_i e
        subst e
        exact turn_take3 (by omega)
      · rfl
    · exact invert_take s r _ i
theorem turned_len (s : S) (keep : List Int) (flip : Int) (i : Nat) : ((turned s keep flip).f i).length = ((cut s keep).f i).length := by
  unfold turned
  split
  · exact invert_len _ _ _ _
  · rfl
theorem turned_take (s : S) (keep : List Int) (flip : Int) (i : Nat) : ((turned s keep flip).f i).take (s.firm i) = ((cut s keep).f i).take (s.firm i) := by
  unfold turned
  split
  · exact invert_take (cut s keep) _ _ i
  · rfl
theorem cut_take (s : S) (keep : List Int) (i : Nat) : ((cut s keep).f i).take (s.firm i) = (s.f i).take (s.firm i) := by
  show (cutTo s keep (files s).length i).take _ = _
  unfold cutTo
  split
  · rw [List.take_take]; congr 1; omega
  · rfl
theorem cut_len (s : S) (keep : List Int) (i : Nat) : ((cut s keep).f i).length ≤ (s.f i).length := by
  show (cutTo s keep (files s).length i).length ≤ _
  unfold cutTo
  split
  · rw [List.length_take]; omega
  · exact Nat.le_refl _
/-- The durable bytes survive. -/
theorem crash_take (s : S) (keep : List Int) (flip : Int) (i : Nat) : ((crash s keep flip).f i).take (s.firm i) = (s.f i).take (s.firm i) := (turned_take s keep flip i).trans (cut_take s keep i)
theorem crash_len (s : S) (keep : List Int) (flip : Int) (i : Nat) : ((crash s keep flip).f i).length ≤ (s.f i).length := by
  show ((turned s keep flip).f i).length ≤ _
  rw [turned_len]
  exact cut_len s keep i
/-- A crash right behind a Sync changes nothing. -/
theorem crash_firm (s : S) (keep : List Int) (flip : Int) (i : Nat) : (crash (firmAll s) keep flip).f i = s.f i := by
  have h1 := crash_take (firmAll s) keep flip i
  have h2 := crash_len (firmAll s) keep flip i
  have e : (firmAll s).firm i = (s.f i).length := rfl
  have e2 : (firmAll s).f i = s.f i := rfl
  rw [e, e2] at h1
  rw [e2] at h2
  rwa [List.take_of_length_le h2, List.take_of_length_le (Nat.le_refl _)] at h1
/-- Behind a Sync in the state s0, only Appends since: on, no plan, the bytes of s0 durable and at the beginning. -/
structure Since (s0 s : S) : Prop where
  on : s.off = false
  plan : s.plan < 0
  firm : ∀ i, s.firm i = (s0.f i).length
  pre : ∀ i, (s.f i).take (s0.f i).length = s0.f i
  len : ∀ i, (s0.f i).length ≤ (s.f i).length
theorem pstep_none {s : S} (h : s.plan < 0) : pstep s = (s, false) := if_pos h
theorem Since.start {s0 s : S} (ho : s.off = false) (hp : s.plan < 0) (hf : s.f = s0.f) : Since s0 (sync s).1 ∧ (sync s).2 = 0 := by
  have h := sync_ok ho (by rw [pstep_none hp])
  rw [h, pstep_none hp]
  refine ⟨⟨ho, hp, fun i => ?_, fun i => ?_, fun i => ?_⟩, rfl⟩
  · show (s.f i).length = _
    rw [hf]
  · show (s.f i).take _ = _
    rw [hf, List.take_of_length_le (Nat.le_refl _)]
  · show _ ≤ (s.f i).length
    rw [hf]
    exact Nat.le_refl _
theorem Since.app {s0 s : S} (h : Since s0 s) (file : Int) (l : List UInt8) : Since s0 (append s file l).1 := by
  unfold append
  split
  · exact h
  · split
    · exact h
    · split
      · exact h
      · rename_i h1 _ _
        have hp : pstep (put s file.toNat (s.f file.toNat ++ l) (s.firm file.toNat)) = (put s file.toNat (s.f file.toNat ++ l) (s.firm file.toNat), false) := pstep_none h.plan
        rw [hp]
        refine ⟨h.on, h.plan, fun i => ?_, fun i => ?_, fun i => ?_⟩
        · show upd s.firm file.toNat (s.firm file.toNat) i = _
          rw [upd_self]
          exact h.firm i
        · show (upd s.f file.toNat (s.f file.toNat ++ l) i).take _ = _
          unfold upd
          split
          · rename_i e
            subst e
            rw [List.take_append_of_le_length (h.len _)]
            exact h.pre _
          · exact h.pre i
        · show _ ≤ (upd s.f file.toNat (s.f file.toNat ++ l) i).length
          unfold upd
          split
          · rename_i e
            subst e
            rw [List.length_append]
            have := h.len file.toNat
            omega
          · exact h.len i
theorem Since.crash {s0 s : S} (h : Since s0 s) (keep : List Int) (flip : Int) (i : Nat) : ((Dk.crash s keep flip).f i).take (s0.f i).length = s0.f i ∧ (s0.f i).length ≤ ((Dk.crash s keep flip).f i).length ∧ ((Dk.crash s keep flip).f i).length ≤ (s.f i).length := by
  have h1 := crash_take s keep flip i
  rw [h.firm i, h.pre i] at h1
  refine ⟨h1, ?_, crash_len s keep flip i⟩
  have h2 := congrArg List.length h1
  rw [List.length_take] at h2
  omega
theorem read_at {s : S} {i : Nat} (hi : i < 64) (ho : s.off = false) : read s (i : Int) = (s.f i, 0) := by
  unfold Dk.read
  rw [if_neg (by omega), ho]
  rfl
end Go.Dk

namespace Go.Jn
set_option linter.unusedVariables false
open Go.Dk Go.Pure

structure Lg where
  file : Int
  size : Nat
  down : Bool
/-- Open's cut. -/
def openT (s : S) (file : Int) (b : List UInt8) : S × Int :=
  if (framesP 0 (scanC b 0)).length < b.length then truncate s file ((framesP 0 (scanC b 0)).length : Int) else (s, 0)
def openJ (s : S) (file : Int) : S × Int × List (List UInt8) :=
  if (read s file).2 = 0 then
    if (openT s file (read s file).1).2 = 0 then
      if (sync (openT s file (read s file).1).1).2 = 0 then ((sync (openT s file (read s file).1).1).1, 0, scanC (read s file).1 0)
      else ((sync (openT s file (read s file).1).1).1, (sync (openT s file (read s file).1).1).2, [])
    else ((openT s file (read s file).1).1, (openT s file (read s file).1).2, [])
  else (s, (read s file).2, [])
def appJ (s : S) (g : Lg) (b : List UInt8) : S × Lg × Int :=
  if 65536 < b.length then (s, g, 4)
  else if g.down = true then (s, g, 24)
  else if (append s g.file (frameP g.size b)).2 = 0 then
    if (sync (append s g.file (frameP g.size b)).1).2 = 0 then ((sync (append s g.file (frameP g.size b)).1).1, { g with size := g.size + 1 }, 0)
    else ((sync (append s g.file (frameP g.size b)).1).1, { g with down := decide ((sync (append s g.file (frameP g.size b)).1).2 = 24) }, (sync (append s g.file (frameP g.size b)).1).2)
  else ((append s g.file (frameP g.size b)).1, { g with down := decide ((append s g.file (frameP g.size b)).2 = 24) }, (append s g.file (frameP g.size b)).2)

/-- What is scanned lies at the beginning. -/
theorem frames_scan (n : Nat) : ∀ (b : List UInt8) (k : Nat), b.length ≤ n → framesP k (scanC b k) = b.take (framesP k (scanC b k)).length ∧ (framesP k (scanC b k)).length ≤ b.length := by
  induction n with
  | zero =>
    intro b k hb
    obtain rfl : b = [] := List.eq_nil_of_length_eq_zero (by omega)
    rw [scanC_none (firstC_nil _), framesP_nil]
    exact ⟨rfl, Nat.le_refl _⟩
  | succ n ih =>
    intro b k hb
    cases h : firstC b (k : Int) with
    | none => rw [scanC_none h, framesP_nil]; exact ⟨rfl, Nat.zero_le _⟩
    | some r =>
      have h1 := firstC_take h
      have h2 := firstC_le h
      have h3 := frameP_pos (k : Int) r
      obtain ⟨q1, q2⟩ := ih (b.drop (frameP (k : Int) r).length) (k + 1) (by rw [List.length_drop]; omega)
      rw [scanC_some h]
      have e : framesP k (r :: scanC (b.drop (frameP (k : Int) r).length) (k + 1)) = frameP (k : Int) r ++ framesP (k + 1) (scanC (b.drop (frameP (k : Int) r).length) (k + 1)) := rfl
      rw [e, List.length_append]
      rw [List.length_drop] at q2
      refine ⟨?_, by omega⟩
      rw [List.take_add, h1, ← q1]
theorem scan_nil (k : Nat) : scanC [] k = [] := scanC_none (firstC_nil _)
theorem scan_all (ls : List (List UInt8)) (h : (framesP 0 ls).length ≤ 9223372036854775807) : scanC (framesP 0 ls) 0 = ls := by
  have := scan_frames ls 0 [] (by simpa using h)
  rwa [List.append_nil, scan_nil, List.append_nil] at this
/-- A part of a frame is no frame. -/
theorem scan_part {k : Nat} {r : List UInt8} {m : Nat} (hk : k ≤ 1000000000) (hl : (frameP (k : Int) r).length ≤ 1000000000) (hm : m ≤ (frameP (k : Int) r).length) : scanC ((frameP (k : Int) r).take m) k = if m = (frameP (k : Int) r).length then [r] else [] := by
  split
  · rename_i e
    rw [e, List.take_of_length_le (Nat.le_refl _)]
    have hf : firstC (frameP (k : Int) r) (k : Int) = some r := firstC_of (by omega) (by omega) (by omega) (List.take_of_length_le (Nat.le_refl _))
    rw [scanC_some hf, List.drop_of_length_le (Nat.le_refl _), scan_nil]
  · rename_i e
    cases h : firstC ((frameP (k : Int) r).take m) (k : Int) with
    | none => exact scanC_none h
    | some x =>
      have h1 := firstC_take h
      have h2 := firstC_le h
      rw [List.length_take] at h2
      rw [List.take_take, Nat.min_eq_left (by omega)] at h1
      have hf : firstC (frameP (k : Int) r) (k : Int) = some x := firstC_of (by omega) (by omega) (by omega) h1
      have hg : firstC (frameP (k : Int) r) (k : Int) = some r := firstC_of (by omega) (by omega) (by omega) (List.take_of_length_le (Nat.le_refl _))
      rw [hf] at hg
      injection hg with hg
      subst hg
      omega

/-! ### a calm disk: on, no failure planned, all bytes durable -/
structure Cal (s : S) (F : Nat → List (List UInt8)) : Prop where
  on : s.off = false
  plan : s.plan < 0
  f : ∀ i, s.f i = framesP 0 (F i)
  firm : ∀ i, s.firm i = (s.f i).length
section
variable {s : S} {F : Nat → List (List UInt8)} {i : Nat}
theorem sync_plain (ho : s.off = false) (hp : s.plan < 0) : sync s = (firmAll s, 0) := by
  rw [sync_ok ho (by rw [pstep_none hp]), pstep_none hp]
theorem append_plain {b : List UInt8} (hi : i < 64) (ho : s.off = false) (hp : s.plan < 0) (hr : used s + b.length ≤ s.room) : append s (i : Int) b = (put s i (s.f i ++ b) (s.firm i), 0) := by
  unfold append
  rw [if_neg (by omega), if_neg (by rw [ho]; simp), if_neg (by omega), show (i : Int).toNat = i by omega]
  have : pstep (put s i (s.f i ++ b) (s.firm i)) = (put s i (s.f i ++ b) (s.firm i), false) := pstep_none hp
  rw [this]
  rfl
theorem append_full {b : List UInt8} (hi : i < 64) (ho : s.off = false) (hr : s.room < used s + b.length) : append s (i : Int) b = (s, 23) := by
  unfold append
  rw [if_neg (by omega), if_neg (by rw [ho]; simp), if_pos hr]
/-- Open of a disk that is on. -/
theorem open_on (hi : i < 64) (ho : s.off = false) (hp : s.plan < 0) : ∃ s', openJ s (i : Int) = (s', 0, scanC (s.f i) 0) ∧ s'.off = false ∧ s'.plan < 0 ∧ s'.room = s.room ∧ s'.f = upd s.f i (framesP 0 (scanC (s.f i) 0)) ∧ ∀ j, s'.firm j = (s'.f j).length := by
  obtain ⟨q1, q2⟩ := frames_scan _ (s.f i) 0 (Nat.le_refl _)
  have hr : read s (i : Int) = (s.f i, 0) := read_at hi ho
  unfold openJ
  rw [hr]
  have key : ∃ s1, openT s (i : Int) (s.f i) = (s1, 0) ∧ s1.off = false ∧ s1.plan < 0 ∧ s1.room = s.room ∧ s1.f = upd s.f i (framesP 0 (scanC (s.f i) 0)) := by
    unfold openT
    split
    · rename_i hlt
      refine ⟨put s i ((s.f i).take (framesP 0 (scanC (s.f i) 0)).length) (min (s.firm i) (framesP 0 (scanC (s.f i) 0)).length), ?_, ho, hp, rfl, ?_⟩
      · unfold truncate
        rw [show ((i : Nat) : Int).toNat = i by omega, show (((framesP 0 (scanC (s.f i) 0)).length : Nat) : Int).toNat = (framesP 0 (scanC (s.f i) 0)).length by omega, if_neg (by omega), if_neg (by rw [ho]; simp), if_neg (by rw [pstep_none hp]; simp), pstep_none hp]
      · show upd s.f i _ = _
        rw [← q1]
    · rename_i hge
      refine ⟨s, rfl, ho, hp, rfl, ?_⟩
      have : framesP 0 (scanC (s.f i) 0) = s.f i := by rw [q1, List.take_of_length_le (by omega)]
      rw [this, upd_self]
  obtain ⟨s1, e1, h1, h2, h3, h4⟩ := key
  rw [e1, if_pos rfl, if_pos rfl]
  dsimp only
  rw [sync_plain h1 h2, if_pos rfl]
  exact ⟨firmAll s1, rfl, h1, h2, h3, h4, fun j => rfl⟩
theorem Cal.open (h : Cal s F) (hi : i < 64) (hl : ∀ j, (framesP 0 (F j)).length ≤ 9223372036854775807) : ∃ s', openJ s (i : Int) = (s', 0, F i) ∧ Cal s' F ∧ s'.room = s.room ∧ s'.f = s.f := by
  obtain ⟨s', e, h1, h2, h3, h4, h5⟩ := open_on hi h.on h.plan
  have es : scanC (s.f i) 0 = F i := by rw [h.f]; exact scan_all _ (hl i)
  rw [es] at e h4
  have ef : s'.f = s.f := by rw [h4, ← h.f i, upd_self]
  exact ⟨s', e, ⟨h1, h2, fun j => by rw [ef]; exact h.f j, h5⟩, h3, ef⟩
theorem lg_up {g : Lg} (h : g.down = false) : ({ g with down := false } : Lg) = g := by
  cases g
  simp at h
  subst h
  rfl
theorem Cal.app (h : Cal s F) {b : List UInt8} (hi : i < 64) (hb : b.length ≤ 65536) (hr : used s + (frameP ((F i).length : Nat) b).length ≤ s.room) : ∃ s', appJ s ⟨i, (F i).length, false⟩ b = (s', ⟨i, (F i).length + 1, false⟩, 0) ∧ Cal s' (upd F i (F i ++ [b])) ∧ used s' = used s + (frameP ((F i).length : Nat) b).length ∧ s'.room = s.room := by
  have ea := append_plain (b := frameP ((F i).length : Nat) b) hi h.on h.plan hr
  have es := sync_plain (s := put s i (s.f i ++ frameP ((F i).length : Nat) b) (s.firm i)) h.on h.plan
  refine ⟨firmAll (put s i (s.f i ++ frameP ((F i).length : Nat) b) (s.firm i)), ?_, ⟨h.on, h.plan, fun j => ?_, fun j => rfl⟩, ?_, rfl⟩
  · unfold appJ
    rw [if_neg (by omega), if_neg (by simp), ea, if_pos rfl]
    dsimp only
    rw [es, if_pos rfl]
  · show upd s.f i _ j = framesP 0 (upd F i _ j)
    unfold upd
    split
    · rename_i e
      rw [h.f, framesP_snoc, Nat.zero_add]
    · exact h.f j
  · have := put_used (s := s) hi (s.f i ++ frameP ((F i).length : Nat) b) (s.firm i)
    rw [List.length_append] at this
    show used (put s i (s.f i ++ frameP ((F i).length : Nat) b) (s.firm i)) = _
    omega
theorem Cal.full (h : Cal s F) {b : List UInt8} (hi : i < 64) (hb : b.length ≤ 65536) (hr : s.room < used s + (frameP ((F i).length : Nat) b).length) : appJ s ⟨i, (F i).length, false⟩ b = (s, ⟨i, (F i).length, false⟩, 23) := by
  have ea := append_full (b := frameP ((F i).length : Nat) b) hi h.on hr
  unfold appJ
  rw [if_neg (by omega), if_neg (by simp), ea, if_neg (by simp)]
  rfl
theorem Cal.crash (h : Cal s F) (keep : List Int) (flip : Int) : Cal (Dk.crash s keep flip) F ∧ (Dk.crash s keep flip).room = s.room := by
  have e : firmAll s = s := by
    have : (fun i => (s.f i).length) = s.firm := funext fun i => (h.firm i).symm
    unfold firmAll
    rw [this]
  refine ⟨⟨rfl, by show (-1 : Int) < 0; omega, fun i => ?_, fun i => rfl⟩, by unfold Dk.crash turned; split <;> rfl⟩
  have := crash_firm s keep flip i
  rw [e] at this
  rw [this]
  exact h.f i
theorem Cal.new (room : Nat) : Cal (Dk.new room) (fun _ => []) := ⟨rfl, by show (-1 : Int) < 0; omega, fun i => rfl, fun i => rfl⟩
theorem app_big {g : Lg} {b : List UInt8} (h : 65536 < b.length) : appJ s g b = (s, g, 4) := if_pos h
theorem app_down {g : Lg} {b : List UInt8} (h : b.length ≤ 65536) (hd : g.down = true) : appJ s g b = (s, g, 24) := by
  unfold appJ
  rw [if_neg (by omega), if_pos hd]
theorem open_bad {file : Int} (h : file < 0 ∨ 64 ≤ file) : openJ s file = (s, 1, []) := by
  have hr : Dk.read s file = ([], 1) := if_pos h
  unfold openJ
  rw [hr, if_neg (by simp)]
theorem Cal.len (h : Cal s F) (hw : WF s) (j : Nat) : (framesP 0 (F j)).length ≤ 16777216 := by rw [← h.f j]; exact hw.len j
end
end Go.Jn
