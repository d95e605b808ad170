/- More contracts as the laws of refuterlaw03 use them. -/
import Derived.Test.YtgofjkppeobjfaaDoorB5
namespace Go.Proofs.YtgofjkppeobjfaaDoor
set_option linter.unusedVariables false
open Go.RowKit Go.Mem Go.Dig

theorem compare_s (w : World) (v v' : Value) (x y c : Int) (hx : WI w v x) (hy : WI w v' y) (hc : cmpI x y = c) : Calls Tryd.prog 33 #[v, v'] w (RetV w (.int .i64 c)) := by
  subst hc; exact compare_any v v' x y w hx hy
theorem sign_s (w : World) (v : Value) (x c : Int) (hx : WI w v x) (hc : cmpI x 0 = c) : Calls Tryd.prog 35 #[v] w (RetV w (.int .i64 c)) := by
  subst hc; exact sign_any v x w hx
theorem neg_s (w : World) (v : Value) (x : Int) (hx : WI w v x) : Calls Tryd.prog 36 #[v] w (RetW w (-x)) :=
  (neg_any v x w hx).mono fun e w' ⟨v, h1, ⟨s, A, n, c, h2, h3, h4⟩, h5⟩ => ⟨s, A, n, c, by rw [h1, h2], ⟨s, A, n, c, rfl, h3, h4⟩, h5⟩
theorem string_s (w : World) (v : Value) (z : Int) (b : ByteArray) (hb : St (Txt.text z) = b) (hv : WI w v z) (hpt : PowTab w) (hz : Sm z) : Calls Tryd.prog 18 #[v] w (RetV w (.string b)) := by
  subst hb; exact wstring_any v z w hv hpt hz.p9
theorem wdiv0_s (w : World) (v v' : Value) (x : Int) (hx : WI w v x) (hy : WI w v' 0) : Calls Tryd.prog 29 #[v, v'] w (RetWW w 0 0 (.int .i64 1)) :=
  (wdiv_zero v v' x w hx hy).mono fun e w' ⟨h1, h2⟩ => ⟨_, _, _, _, _, _, _, _, h1, WI.zero _, WI.zero _, h2⟩
theorem Sm.quo {x y : Int} (hx : Sm x) : Sm (x / y) ∨ y = 0 ∨ True := .inr (.inr trivial)
theorem natAbs_div_le (x y : Int) {a : Nat} (hx : x.natAbs < pw2 a) : (x / y).natAbs < pw2 (a + 1) := by
  have : pw2 (a + 1) = pw2 a * 2 := pw2_add a 1
  have h1 : 1 ≤ pw2 a := Nat.one_le_two_pow
  have h := Int.natAbs_ediv_le_natAbs x y
  omega
theorem natAbs_mod_lt (x y : Int) (h0 : y ≠ 0) {a : Nat} (hy : y.natAbs < pw2 a) : (x % y).natAbs < pw2 a := by
  have h1 := Int.emod_nonneg x h0
  have h2 := Int.emod_lt x h0
  omega
end Go.Proofs.YtgofjkppeobjfaaDoor
