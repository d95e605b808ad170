/- Contracts of the small helpers of refuterref01: Around, Few, SameBytes. -/
import Derived.Test.YtcjbndlhomokpaaProg
import Derived.Test.YtcjbndlhomokpaaMem
import Derived.Deep.QuietTactic
import Derived.BigQuiet
namespace Go.Proofs.Ytcjbndlhomokpaa
open Go.RowKit Go.Mem

theorem elemBytes : Elem Try.prog 69 5 (.int .u8 0) 1 := Elem.mk' Try.underlying69 (by kernel_rfl) rfl
theorem elemInts : Elem Try.prog 25 3 (.int .i64 0) 8 := Elem.mk' Try.underlying25 (by kernel_rfl) rfl

/-- refuterref01.Around on plain numbers. -/
def aroundI (a b : Int) : Int := if a < 0 then (-(a + 1)) % b else a % b
theorem aroundI_neg {a b : Int} (h : a < 0) : aroundI a b = (-(a + 1)).tmod b := by
  unfold aroundI; rw [if_pos h, Int.tmod_eq_emod_of_nonneg (by omega)]
theorem aroundI_pos {a b : Int} (h : 0 ≤ a) : aroundI a b = a % b := by unfold aroundI; rw [if_neg (by omega)]
theorem aroundI_range (a b : Int) (hb : 1 ≤ b) : 0 ≤ aroundI a b ∧ aroundI a b < b := by
  unfold aroundI
  split
  · exact ⟨Int.emod_nonneg _ (by omega), Int.emod_lt_of_pos _ (by omega)⟩
  · exact ⟨Int.emod_nonneg _ (by omega), Int.emod_lt_of_pos _ (by omega)⟩

theorem ret_int {k : IntKind} {a b : Int} (h : a = b) : Ending.returned (.int k a) = .returned (.int k b) := by rw [h]

set_option maxHeartbeats 400000 in
theorem around_any (a b : Int) (w : World) (ha : -9223372036854775808 ≤ a) (ha2 : a ≤ 9223372036854775807) (hb : 1 ≤ b) (hb2 : b ≤ 9223372036854775807) :
    Calls Try.prog 9 #[.int .i64 a, .int .i64 b] w fun e w' => e = .returned (.int .i64 (aroundI a b)) ∧ w = w' := by
  by_cases h : a < 0
  · go_enter Try.func9, Try.ntmps9
    go_wp2
    go_ret
    exact ⟨ret_int (by rw [aroundI_neg h, Int.neg_tmod]), rfl⟩
  · go_enter Try.func9, Try.ntmps9
    go_wp2
    go_ret
    exact ⟨ret_int (aroundI_pos h).symm, rfl⟩

theorem same_step {a b : List UInt8} {k : Nat} {x y : UInt8} (h : a.take k = b.take k) (hx : a[k]? = some x) (hy : b[k]? = some y) (e : x = y) : a.take (k + 1) = b.take (k + 1) := by
  rw [List.take_add_one, List.take_add_one, h, hx, hy, e]

end Go.Proofs.Ytcjbndlhomokpaa
