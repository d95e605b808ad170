/- Rows of bytes among the arguments, said in this proof's words. -/
import Derived.Test.YtdflpcbkkpgnlaaB0
import Derived.Test.YtdflpcbkkpgnlaaDkpZ
import Derived.Test.YtdflpcbkkpgnlaaArgsZ
namespace Go.Proofs.Ytdflpcbkkpgnlaa
set_option linter.unusedVariables false
open Go.RowKit Go.Mem Go.Dk Go.Col

theorem rows_nil {w : World} : (rowsP []).sat (.slice none 0 0) w (fun _ => 0) := ⟨none, 0, [], rfl, Rd.nil _ _, Nat.le_refl _, Nat.zero_le _, fun _ _ _ => rfl, fun k x u hx _ => by simp at hx⟩
theorem rows_of {w : World} {a : Addr} {len cap base : Nat} {A : Nat → Option Addr} {L C : Nat → Nat} {Z : Nat → List Int} (hl : len ≤ cap) (hm : cap ≤ maxLen)
    (h : ∀ r, r < cap → w.cell? (a.add r) = some (.slice (A r) (L r) (C r)) ∧ L r ≤ C r ∧ C r ≤ maxLen ∧ (Z r).length = C r ∧ (∀ n ∈ Z r, (Lit.int .u8 n).wf = true) ∧ (A r = none → C r = 0) ∧ ∀ a', A r = some a' → base ≤ a'.block ∧ ∀ c, c < C r → w.cell? (a'.add c) = some (.int .u8 ((Z r).getD c 0))) :
    ∃ ls : List (List UInt8), ls.length = len ∧ (rowsP ls).sat (.slice (some a) len cap) w (fun _ => 0) := by
  have each : ∀ r, ∃ l : List UInt8, r < len → (byP l).sat (.slice (A r) (L r) (C r)) w (fun _ => 0) := by
    intro r
    by_cases hr : r < len
    · obtain ⟨h1, h2, h3, h4, h5, h6, h7⟩ := h r (by omega)
      obtain ⟨l, q1, q2, q3⟩ := row_bytes (w := w) (a := A r) (len := L r) (cap := C r) (zs := Z r) (by
        cases hA : A r with
        | none =>
          have hc := h6 hA
          exact .inl ⟨rfl, by omega, hc, List.eq_nil_of_length_eq_zero (by omega)⟩
        | some a' =>
          refine .inr ⟨a', rfl, h2, h3, h4, fun i hi => (h7 a' hA).2 i (by omega), h5⟩)
      refine ⟨l, fun _ => ?_⟩
      have e : l.length = L r := by have := q1.len; simpa using this
      exact ⟨A r, C r, by rw [e], by rw [e]; exact q1, by omega, by unfold maxLen at q3; omega, fun _ _ _ => rfl⟩
    · exact ⟨[], fun hh => absurd hh hr⟩
  obtain ⟨f, hf⟩ := Classical.axiomOfChoice each
  have e : ((List.range len).map f).length = len := by simp
  refine ⟨(List.range len).map f, e, some a, cap, (List.range len).map (fun r => .slice (A r) (L r) (C r)), by rw [e], ⟨by simp, fun _ => ⟨a, rfl, fun j u hu => ?_⟩⟩, by omega, by unfold maxLen at hm; omega, fun _ _ _ => rfl, fun k x u hx hu => ?_⟩
  · obtain ⟨hj, e2⟩ := List.getElem?_eq_some_iff.1 hu
    simp at hj e2
    rw [← e2]
    exact (h j (by omega)).1
  · obtain ⟨hj, e2⟩ := List.getElem?_eq_some_iff.1 hu
    obtain ⟨hj2, e3⟩ := List.getElem?_eq_some_iff.1 hx
    simp at hj e2 e3
    rw [← e2, ← e3]
    exact hf k hj
end Go.Proofs.Ytdflpcbkkpgnlaa
