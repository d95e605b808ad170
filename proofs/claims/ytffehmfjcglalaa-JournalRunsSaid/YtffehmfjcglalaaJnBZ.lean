/- Contracts of (*journal.Log).Append, Len, Up. -/
import Derived.Test.YtffehmfjcglalaaJnAZ
import Derived.Test.YtffehmfjcglalaaDkFZ
import Derived.Defers
import Derived.Deep.RegionHeld3
set_option linter.unusedSimpArgs false
set_option linter.unusedVariables false
namespace Go.Proofs.Ytffehmfjcglalaa
set_option linter.unusedVariables false
open Go.RowKit Go.Mem Go.Dk Go.Pure Go.Jn

theorem jLen_any (g gl : Nat) (l : Lg) (w : World) (hb : Blk w gl 65 (lgCells g l)) : Calls Try.prog 15 #[.pointer (some ⟨gl, 0, none⟩)] w fun e w' => e = .returned (.int .i64 (l.size : Int)) ∧ w' = w := by
  have hc := hb.cell 2 (u := .int .i64 (l.size : Int)) rfl
  go_enter Try.func15, Try.ntmps15
  go_wp2
  go_ret
  exact ⟨rfl, rfl⟩
theorem jUp_any (g gl : Nat) (l : Lg) (w : World) (hb : Blk w gl 65 (lgCells g l)) : Calls Try.prog 16 #[.pointer (some ⟨gl, 0, none⟩)] w fun e w' => e = .returned (.bool (!l.down)) ∧ w' = w := by
  have hc := hb.cell 3 (u := .bool l.down) rfl
  go_enter Try.func16, Try.ntmps16
  go_wp2
  go_ret
  exact ⟨rfl, rfl⟩

/-- The deferred closure: the error 24 turns the log off. -/
theorem jShut_24 (Be Bl gl g : Nat) (l : Lg) (u : FrameMode) (w : World) (he : w.cell? ⟨Be, 0, none⟩ = some (.int .i64 24)) (hl : w.cell? ⟨Bl, 0, none⟩ = some (.pointer (some ⟨gl, 0, none⟩))) (hb : Blk w gl 65 (lgCells g l)) :
    CallsD Try.prog 39 #[.pointer (some ⟨Be, 0, none⟩), .pointer (some ⟨Bl, 0, none⟩)] u w fun e u' w' => u' = u ∧ (e = .returned (.tuple #[]) ∧ w' = w.setCell ⟨gl, 3, none⟩ (.bool true)) := by
  have hc := hb.cell 3 (u := .bool l.down) rfl
  have hf := hb.frozen 3
  have hg := hb.lt
  go_enter_d Try.func39, Try.ntmps39
  go_wp2
  go_end0
  exact ⟨rfl, rfl⟩
theorem jShut_no (Be Bl : Nat) (z : Int) (hz : z ≠ 24) (u : FrameMode) (w : World) (he : w.cell? ⟨Be, 0, none⟩ = some (.int .i64 z)) :
    CallsD Try.prog 39 #[.pointer (some ⟨Be, 0, none⟩), .pointer (some ⟨Bl, 0, none⟩)] u w fun e u' w' => u' = u ∧ (e = .returned (.tuple #[]) ∧ w' = w) := by
  go_enter_d Try.func39, Try.ntmps39
  go_wp2
  go_end0
  exact ⟨rfl, rfl⟩
end Go.Proofs.Ytffehmfjcglalaa
