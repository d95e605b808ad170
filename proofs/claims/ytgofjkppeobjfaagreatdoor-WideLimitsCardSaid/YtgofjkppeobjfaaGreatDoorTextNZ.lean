/- Contract of refuterref03.Small, whatever the integer; what the laws need of Near. -/
import Derived.Test.YtgofjkppeobjfaaGreatDoorB5
import Derived.Test.YtgofjkppeobjfaaGreatDoorTextMZ
import Derived.Test.YtgofjkppeobjfaaGreatDoorTextIZ
namespace Go.Proofs.YtgofjkppeobjfaaGreatDoor
set_option linter.unusedVariables false
open Go.RowKit Go.Mem Go.Dig

theorem near_s (n : Int) (w : World) (h1 : -9223372036854775808 ≤ n) (h2 : n ≤ 9223372036854775807) : Calls Tryz.prog 16 #[.int .i64 n] w (RetR w (nearI n)) := near_any n h1 h2 w
theorem nearP63 (t : Nat) (h : t % 4 = 3) : nearP t = 63 := by unfold nearP; rw [h]; rfl
theorem near63 (a b : Nat) (ha : a < 7) (hb : b < 2) : Sm (nearI (4 * (a : Int) + 3 + 28 * (b : Int))) := by
  have e : 4 * (a : Int) + 3 + 28 * (b : Int) = ((4 * a + 3 + 28 * b : Nat) : Int) := by omega
  have hk : aroundI ((4 * a + 3 + 28 * b : Nat) : Int) 28 = ((4 * a + 3 : Nat) : Int) := by
    rw [aroundI_pos (by omega)]; omega
  have hA : (nearA (4 * a + 3)).natAbs < pw2 65 := by
    unfold nearA
    rw [nearP63 _ (by omega)]
    have : pw2 65 = 36893488147419103232 := rfl
    omega
  rw [e]
  unfold nearI
  rw [hk, Int.toNat_natCast]
  split
  · exact Sm.of (by rw [Int.natAbs_neg]; exact hA) (by decide)
  · exact Sm.of hA (by decide)
end Go.Proofs.YtgofjkppeobjfaaGreatDoor
