/- Contracts of (*journal.Log).Append, Len, Up. -/
import Derived.Test.YtbmplfhcdkeooaaJnAZ
import Derived.Test.YtbmplfhcdkeooaaDkFZ
import Derived.Defers
import Derived.Deep.RegionHeld3
set_option linter.unusedSimpArgs false
set_option linter.unusedVariables false
namespace Go.Proofs.Ytbmplfhcdkeooaa
set_option linter.unusedVariables false
open Go.RowKit Go.Mem Go.Dk Go.Pure Go.Jn


/-- The deferred closure: the error 24 turns the log off. -/
theorem jShut_24 (Be Bl gl g : Nat) (l : Lg) (u : FrameMode) (w : World) (he : w.cell? ⟨Be, 0, none⟩ = some (.int .i64 24)) (hl : w.cell? ⟨Bl, 0, none⟩ = some (.pointer (some ⟨gl, 0, none⟩))) (hb : Blk w gl 125 (lgCells g l)) :
    CallsD Try.prog 61 #[.pointer (some ⟨Be, 0, none⟩), .pointer (some ⟨Bl, 0, none⟩)] u w fun e u' w' => u' = u ∧ (e = .returned (.tuple #[]) ∧ w' = w.setCell ⟨gl, 3, none⟩ (.bool true)) := by
  have hc := hb.cell 3 (u := .bool l.down) rfl
  have hf := hb.frozen 3
  have hg := hb.lt
  go_enter_d Try.func61, Try.ntmps61
  go_wp2
  go_end0
  exact ⟨rfl, rfl⟩
theorem jShut_no (Be Bl : Nat) (z : Int) (hz : z ≠ 24) (u : FrameMode) (w : World) (he : w.cell? ⟨Be, 0, none⟩ = some (.int .i64 z)) :
    CallsD Try.prog 61 #[.pointer (some ⟨Be, 0, none⟩), .pointer (some ⟨Bl, 0, none⟩)] u w fun e u' w' => u' = u ∧ (e = .returned (.tuple #[]) ∧ w' = w) := by
  go_enter_d Try.func61, Try.ntmps61
  go_wp2
  go_end0
  exact ⟨rfl, rfl⟩
end Go.Proofs.Ytbmplfhcdkeooaa
