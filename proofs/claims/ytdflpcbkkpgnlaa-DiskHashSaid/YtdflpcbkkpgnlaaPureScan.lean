/- What journal.Scan computes, on plain bytes. -/
import Derived.Test.YtdflpcbkkpgnlaaPureFirst
namespace Go.Pure
set_option linter.unusedVariables false

theorem frameP_pos (k : Int) (r : List UInt8) : 1 ≤ (frameP k r).length := by
  have := uvar_pos (sumP (coreP k r))
  unfold frameP
  rw [List.length_append]
  omega
theorem firstC_take {b r : List UInt8} {k : Int} (h : firstC b k = some r) : b.take (frameP k r).length = frameP k r := by
  unfold firstC at h
  split at h
  · cases h
  · simp only at h
    split at h
    · cases h
    · split at h
      · rename_i h1
        injection h with h
        rw [h] at h1
        exact h1
      · cases h
theorem firstC_le {b r : List UInt8} {k : Int} (h : firstC b k = some r) : (frameP k r).length ≤ b.length := by
  have := congrArg List.length (firstC_take h)
  simp at this
  omega

/-- The records of bytes, from number k on. -/
def scanC (b : List UInt8) (k : Nat) : List (List UInt8) :=
  match h : firstC b (k : Int) with
  | none => []
  | some r => r :: scanC (b.drop (frameP (k : Int) r).length) (k + 1)
termination_by b.length
decreasing_by
  have h1 := firstC_le h
  have h2 := frameP_pos (k : Int) r
  simp
  omega
theorem scanC_none {b : List UInt8} {k : Nat} (h : firstC b (k : Int) = none) : scanC b k = [] := by
  rw [scanC]; split
  · rfl
  · rename_i r h'; rw [h] at h'; cases h'
theorem scanC_some {b r : List UInt8} {k : Nat} (h : firstC b (k : Int) = some r) : scanC b k = r :: scanC (b.drop (frameP (k : Int) r).length) (k + 1) := by
  rw [scanC]; split
  · rename_i h'; rw [h] at h'; cases h'
  · rename_i r' h'; rw [h] at h'; injection h' with h'; subst h'; rfl

/-- The images of a list under a function that is told the place, joined. -/
def catF (f : Nat → List UInt8 → List UInt8) : Nat → List (List UInt8) → List UInt8
  | _, [] => []
  | k, r :: t => f k r ++ catF f (k + 1) t
theorem catF_snoc (f : Nat → List UInt8 → List UInt8) (l : List (List UInt8)) : ∀ (k : Nat) (r : List UInt8), catF f k (l ++ [r]) = catF f k l ++ f (k + l.length) r := by
  induction l with
  | nil => intro k r; simp [catF]
  | cons x l ih =>
    intro k r
    rw [List.cons_append, catF, catF, ih, List.append_assoc, List.length_cons, show k + 1 + l.length = k + (l.length + 1) by omega]
theorem catF_len (f : Nat → List UInt8 → List UInt8) (hf : ∀ k r, 1 ≤ (f k r).length) (l : List (List UInt8)) : ∀ k, l.length ≤ (catF f k l).length := by
  induction l with
  | nil => intro k; simp [catF]
  | cons x l ih =>
    intro k
    have h1 := ih (k + 1)
    have h2 := hf k x
    rw [catF, List.length_append, List.length_cons]
    omega
/-- The frames of records, from number k on. -/
def framesP (k : Nat) (l : List (List UInt8)) : List UInt8 := catF (fun k r => frameP (k : Int) r) k l
theorem framesP_nil (k : Nat) : framesP k [] = [] := rfl
theorem framesP_snoc (l : List (List UInt8)) (k : Nat) (r : List UInt8) : framesP k (l ++ [r]) = framesP k l ++ frameP ((k + l.length : Nat) : Int) r := catF_snoc _ l k r
theorem framesP_len (l : List (List UInt8)) (k : Nat) : l.length ≤ (framesP k l).length := catF_len _ (fun k r => frameP_pos _ r) l k
/-- What the reference's Scan computes. -/
theorem firstRf_take {b r : List UInt8} {k : Int} (h : firstRf b k = some r) : b.take (frameP k r).length = frameP k r := by
  unfold firstRf at h
  simp only at h
  split at h
  · cases h
  · split at h
    · rename_i h1
      injection h with h
      rw [h] at h1
      exact h1
    · cases h
theorem firstRf_le {b r : List UInt8} {k : Int} (h : firstRf b k = some r) : (frameP k r).length ≤ b.length := by
  have := congrArg List.length (firstRf_take h)
  simp at this
  omega
def scanRf (b : List UInt8) (k : Nat) : List (List UInt8) :=
  if b = [] then [] else
  match h : firstRf b (k : Int) with
  | none => []
  | some r => r :: scanRf (b.drop (frameP (k : Int) r).length) (k + 1)
termination_by b.length
decreasing_by
  have h1 := firstRf_le h
  have h2 := frameP_pos (k : Int) r
  simp
  omega
theorem scanRf_nil (k : Nat) : scanRf [] k = [] := by rw [scanRf]; simp
theorem scanRf_none {b : List UInt8} {k : Nat} (h : firstRf b (k : Int) = none) : scanRf b k = [] := by
  rw [scanRf]
  split
  · rfl
  · split
    · rfl
    · rename_i r h'; rw [h] at h'; cases h'
theorem scanRf_some {b r : List UInt8} {k : Nat} (hb : b ≠ []) (h : firstRf b (k : Int) = some r) : scanRf b k = r :: scanRf (b.drop (frameP (k : Int) r).length) (k + 1) := by
  rw [scanRf, if_neg hb]
  split
  · rename_i h'; rw [h] at h'; cases h'
  · rename_i r' h'; rw [h] at h'; injection h' with h'; subst h'; rfl
end Go.Pure
