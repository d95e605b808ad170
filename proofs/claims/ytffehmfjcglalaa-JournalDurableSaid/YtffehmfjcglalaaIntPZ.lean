/- Ints of an argument as a coloured type: elements. -/
import Derived.Test.YtffehmfjcglalaaDkmZ
set_option linter.unusedSimpArgs false
set_option linter.unusedVariables false
namespace Go.Proofs.Ytffehmfjcglalaa
set_option linter.unusedVariables false
open Go.RowKit Go.Mem Go.Dk Go.Col

theorem flatInt : Flat Try.prog 3 := ⟨_, Try.underlying3, rfl⟩
/-- A slice of ints in a plain block. -/
def isP (xs : List Int) : TyC := ⟨fun v w c => ∃ A cp, v = .slice A xs.length cp ∧ Rd w A xs.length (is xs) ∧ xs.length ≤ cp ∧ cp ≤ 9223372036854775807 ∧ ∀ ad, A = some ad → 0 < xs.length → c ad.block = 0, fun {S v w c w' c'} ⟨A, cp, h1, h2, h3, h4, h5⟩ g e => ⟨A, cp, h1, rd_ext0 h2 h5 e, h3, h4, fun ad h6 h7 => by
  have h8 := h5 ad h6 h7
  obtain ⟨ad', h9, h10⟩ := h2.2 h7
  rw [h6] at h9
  injection h9 with h9
  subst h9
  have hl : (is xs)[0]? = some ((is xs)[0]'(by simpa [is] using h7)) := List.getElem?_eq_getElem _
  have h11 := cell_lt (h10 0 _ hl)
  rw [e.col ad.block h11, h8]⟩⟩
/-- A pointer to an int. -/
def refIP (z : Int) : TyC := ⟨fun v w c => ∃ ad, v = .pointer (some ad) ∧ w.cell? ad = some (.int .i64 z) ∧ c ad.block = 0, fun {S v w c w' c'} ⟨ad, h1, h2, h3⟩ g e => ⟨ad, h1, e.chg.cell h2 (by rw [h3, e.z]; simp), (e.col ad.block (cell_lt h2)).trans h3⟩⟩
section
variable {w : World} {c : Colr} {v : Value}
theorem isP_len {l : List Int} {k : Nat} (h : (isP l).sat v w c) (e : l.length = k) : ∃ A cp, v = .slice A k cp := by
  subst e
  obtain ⟨A, cp, rfl, _⟩ := h
  exact ⟨A, cp, rfl⟩
theorem isP_index {xs : List Int} {i : Nat} (h : (isP xs).sat v w c) (h1 : i < xs.length) : ∃ p, (Instr.indexAt 22 v (.int .i64 (i : Int))).run Try.prog w = .ok p w ∧ (refIP (xs.getD i 0)).sat p w c := by
  obtain ⟨A, cp, rfl, h2, h3, h4, h5⟩ := h
  obtain ⟨ad, u, rfl, hu, hc⟩ := h2.at_ h1
  obtain ⟨z, hz, rfl⟩ := is_at hu
  obtain ⟨ad', e1, hr⟩ := rd_index (P := Try.prog) (kd := .i64) (cp := cp) Try.underlying22 (by kernel_rfl) h2 h1
  injection e1 with e1
  subst e1
  exact ⟨_, hr, _, rfl, by simpa [List.getD, hz] using hc, by rw [add_block]; exact h5 ad rfl (by omega)⟩
theorem refIP_load {z : Int} (h : (refIP z).sat v w c) : ∃ ad u, v = .pointer (some ad) ∧ (loadVar 3 ad).run Try.prog w = .ok u w ∧ u = .int .i64 z := by
  obtain ⟨ad, rfl, hc, _⟩ := h
  refine ⟨ad, _, rfl, ?_, rfl⟩
  obtain ⟨d, hu, hd⟩ := flatInt
  cases d <;> simp_all [loadVar, isAgg, run_underlying hu]
end
end Go.Proofs.Ytffehmfjcglalaa
