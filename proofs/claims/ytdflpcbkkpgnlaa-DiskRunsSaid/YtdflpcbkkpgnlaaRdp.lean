/- Casts for the laws that use the reference's disk. -/
import Derived.Test.YtdflpcbkkpgnlaaRdo
namespace Go.Proofs.Ytdflpcbkkpgnlaa
set_option linter.unusedVariables false
open Go.RowKit Go.Mem Go.Dk Go.Col
theorem ops_cast {P : Program} {f : Nat} {vs : Array Value} {w : World} {c : Colr} {a b : List Dk.Op} (e : a = b) (h : CV P f vs w c (opsC a)) : CV P f vs w c (opsC b) := e ▸ h
theorem mk_cast {P : Program} {f : Nat} {vs : Array Value} {w : World} {c : Colr} {n : Nat} {v : Value} {A A' : S} {x x' : Int} (h1 : A = A') (h2 : x = x') (h : CE P f vs w c [n] (fun u w' c' => u = .int .i64 x ∧ (mkO n A).sat v w' c')) : CE P f vs w c [n] (fun u w' c' => u = .int .i64 x' ∧ (mkO n A').sat v w' c') := by
  subst h1; subst h2; exact h
end Go.Proofs.Ytdflpcbkkpgnlaa
