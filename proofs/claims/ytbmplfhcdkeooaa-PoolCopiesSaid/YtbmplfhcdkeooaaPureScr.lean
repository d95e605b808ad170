/- The scripts of refuterref36: operations chosen by numbers. -/
import Derived.Test.YtbmplfhcdkeooaaBase
namespace Go.Pl
set_option linter.unusedVariables false
open Go.Proofs.Ytbmplfhcdkeooaa (aroundI)
/-- An operation: kind (0 Add, 1 Ask, 2 Answer, 3 Die, 4 Revive), worker, number, bytes, by how much the tick grows. -/
structure OpP where
  kind : Int
  worker : Int
  n : Int
  body : List UInt8
  wait : Int
def scN (x : Int) : Nat := (aroundI x 16777216).toNat
theorem scN_eq (x : Int) : aroundI x 16777216 = (scN x : Int) ∧ scN x < 16777216 := by
  obtain ⟨h1, h2⟩ := Go.Proofs.Ytbmplfhcdkeooaa.aroundI_range x 16777216 (by omega)
  unfold scN
  omega
def kindOf (r : Nat) : Int := if r ≤ 3 then 0 else if r ≤ 8 then 1 else if r ≤ 12 then 2 else if r ≤ 14 then 3 else 4
def waitOf (m : Nat) : Int := if m % 97 = 0 then -1 else ((m / 64 % 4 : Nat) : Int)
def workOf (n : Nat) : Int := if n % 89 = 0 then 9 else ((n / 16 % 4 : Nat) : Int)
def opS (x y : Int) : OpP := ⟨kindOf (scN x % 16), workOf (scN x), if scN x % 16 ≤ 3 then ((scN y % 13 : Nat) : Int) - 1 else ((scN y % 64 : Nat) : Int), [UInt8.ofNat (scN x), UInt8.ofNat (scN y)], waitOf (scN y)⟩
def opAt (l : List Int) (j : Nat) : OpP := opS (l.getD (2 * j) 0) (l.getD (2 * j + 1) 0)
/-- The first k operations. -/
def scrTo (l : List Int) (k : Nat) : List OpP := (List.range k).map (opAt l)
def script (l : List Int) (most : Nat) : List OpP := scrTo l (min (l.length / 2) most)
theorem scrTo_succ (l : List Int) (k : Nat) : scrTo l (k + 1) = scrTo l k ++ [opAt l k] := by unfold scrTo; rw [List.range_succ, List.map_append]; rfl
theorem scrTo_len (l : List Int) (k : Nat) : (scrTo l k).length = k := by simp [scrTo]
structure OpP.Ok (o : OpP) : Prop where
  kind : 0 ≤ o.kind ∧ o.kind ≤ 4
  worker : 0 ≤ o.worker ∧ o.worker ≤ 9
  n : -1 ≤ o.n ∧ o.n ≤ 63
  body : o.body.length = 2
  wait : -1 ≤ o.wait ∧ o.wait ≤ 3
  low : o.kind = 0 → o.n ≤ 12
  pos : o.kind ≠ 0 → 0 ≤ o.n
theorem opS_ok (x y : Int) : (opS x y).Ok := by
  refine ⟨?_, ?_, ?_, rfl, ?_, ?_, ?_⟩
  · show 0 ≤ kindOf _ ∧ kindOf _ ≤ 4
    unfold kindOf
    split
    · omega
    · split
      · omega
      · split
        · omega
        · split <;> omega
  · show 0 ≤ workOf _ ∧ workOf _ ≤ 9
    unfold workOf
    split <;> omega
  · unfold opS
    dsimp only
    split <;> omega
  · show -1 ≤ waitOf _ ∧ waitOf _ ≤ 3
    unfold waitOf
    split <;> omega
  · show kindOf _ = 0 → (if scN x % 16 ≤ 3 then ((scN y % 13 : Nat) : Int) - 1 else ((scN y % 64 : Nat) : Int)) ≤ 12
    intro h
    unfold kindOf at h
    split at h
    · rename_i h2
      rw [if_pos h2]
      omega
    · repeat (first | (split at h) | omega)
  · show kindOf _ ≠ 0 → 0 ≤ (if scN x % 16 ≤ 3 then ((scN y % 13 : Nat) : Int) - 1 else ((scN y % 64 : Nat) : Int))
    intro h
    by_cases h2 : scN x % 16 ≤ 3
    · exact absurd (by unfold kindOf; rw [if_pos h2]) h
    · rw [if_neg h2]
      omega
theorem script_ok {l : List Int} {k : Nat} {j : Nat} {o : OpP} (h : (scrTo l k)[j]? = some o) : o.Ok := by
  unfold scrTo at h
  rw [List.getElem?_map] at h
  cases hq : (List.range k)[j]? with
  | none => rw [hq] at h; cases h
  | some i => rw [hq] at h; injection h with h; subst h; exact opS_ok _ _
end Go.Pl
