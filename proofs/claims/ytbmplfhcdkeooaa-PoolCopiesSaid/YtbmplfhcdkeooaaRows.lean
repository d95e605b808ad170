/-
  No cell of these rows narrows 'for every input' (looked for: loops, veiled, ifaces, maps, wideKeys, modest, calm, conditions, laid).
  DERIVED. THE GIVEN ROWS OF THIS SEAT. 7 by the template 'for every input the law returns true; each argument reads behind the call as it read before'; 0 by the template 'total and deterministic' (their statements: YtbmplfhcdkeooaaTotals.lean).
  GIVEN WITH THE SEED: the statements are not yours to turn. If you find one false, say at which input.
  Laid BY PROGRAM, IN A SANDBOX (cutbox-rows.mjs): the forced cells as the released guide's own fill.sh prints them over the translation 04a3220a5849e53f… (all of the seat's roots in one cut). By AI agents, Wed Nov 11 2026. No macro, syntax, notation, axiom, sorry.
-/
import Derived.Test.YtbmplfhcdkeooaaChecked
import GoSem.Claim
import GoSem.ClaimJoined
import GoSem.ClaimMapViews
import Derived.JoinedTies
import Derived.KernelRfl
namespace Go.Proofs.Ytbmplfhcdkeooaa
/- THE CELL 'sum', in the pinned program and in every row, IS THE sha256 OF THE DUMP (.gsa) THAT YtbmplfhcdkeooaaProg.lean LOADS. Nothing in Lean hashes anything: it is a label: what it is worth is what the hold of that sum in a sandbox is worth. -/
noncomputable def Try.pinned : Pinned := { name := "ytbmplfhcdkeooaa", sum := "04a3220a5849e53f4ff9cd2cb85613da52279c77fbd152b2c3258e166ab7bfdd", checked := Try.checked }
namespace Rows
def none {H : Type} : Left H := { results := [], args := [] }

/-- 'refuterlaw36.PoolMany': WHATEVER THE INPUT: true; the input reads as it did. -/
def poolManySpec : ChangeSpec := { name := "poolMany", fn := fun _ => fun
  | [d1, d2] => { results := [.lit (.bool true)], args := [d1, d2] }
  | _ => none }
def poolManyRow : OpenClaim := { program := "ytbmplfhcdkeooaa", sum := "04a3220a5849e53f4ff9cd2cb85613da52279c77fbd152b2c3258e166ab7bfdd", func := "refuter/refuterlaw36.PoolMany", spec := "poolMany", unfollowed := true, recurses := true, apart := false }
def PoolManySaid : Prop := poolManyRow.holds Try.pinned (OpenSpec.ofChange poolManySpec)

/-- ITS FALSE NEIGHBOUR: 'it returns false'. Refute it at one input. -/
def poolManyWrong : ChangeSpec := { name := "poolMany", fn := fun _ => fun
  | [d1, d2] => { results := [.lit (.bool false)], args := [d1, d2] }
  | _ => none }
def PoolManyWrongFalsely : Prop := poolManyRow.holds Try.pinned (OpenSpec.ofChange poolManyWrong)

/-- 'refuterlaw36.PoolRuns': WHATEVER THE INPUT: true; the input reads as it did. -/
def poolRunsSpec : ChangeSpec := { name := "poolRuns", fn := fun _ => fun
  | [d1, d2, d3] => { results := [.lit (.bool true)], args := [d1, d2, d3] }
  | _ => none }
def poolRunsRow : OpenClaim := { program := "ytbmplfhcdkeooaa", sum := "04a3220a5849e53f4ff9cd2cb85613da52279c77fbd152b2c3258e166ab7bfdd", func := "refuter/refuterlaw36.PoolRuns", spec := "poolRuns", unfollowed := true, recurses := true, apart := false }
def PoolRunsSaid : Prop := poolRunsRow.holds Try.pinned (OpenSpec.ofChange poolRunsSpec)

/-- ITS FALSE NEIGHBOUR: 'it returns false'. Refute it at one input. -/
def poolRunsWrong : ChangeSpec := { name := "poolRuns", fn := fun _ => fun
  | [d1, d2, d3] => { results := [.lit (.bool false)], args := [d1, d2, d3] }
  | _ => none }
def PoolRunsWrongFalsely : Prop := poolRunsRow.holds Try.pinned (OpenSpec.ofChange poolRunsWrong)

/-- 'refuterlaw36.PoolArguments': WHATEVER THE INPUT: true; the input reads as it did. -/
def poolArgumentsSpec : ChangeSpec := { name := "poolArguments", fn := fun _ => fun
  | [d1, d2, d3, d4, d5] => { results := [.lit (.bool true)], args := [d1, d2, d3, d4, d5] }
  | _ => none }
def poolArgumentsRow : OpenClaim := { program := "ytbmplfhcdkeooaa", sum := "04a3220a5849e53f4ff9cd2cb85613da52279c77fbd152b2c3258e166ab7bfdd", func := "refuter/refuterlaw36.PoolArguments", spec := "poolArguments", unfollowed := true, recurses := true, apart := false }
def PoolArgumentsSaid : Prop := poolArgumentsRow.holds Try.pinned (OpenSpec.ofChange poolArgumentsSpec)

/-- ITS FALSE NEIGHBOUR: 'it returns false'. Refute it at one input. -/
def poolArgumentsWrong : ChangeSpec := { name := "poolArguments", fn := fun _ => fun
  | [d1, d2, d3, d4, d5] => { results := [.lit (.bool false)], args := [d1, d2, d3, d4, d5] }
  | _ => none }
def PoolArgumentsWrongFalsely : Prop := poolArgumentsRow.holds Try.pinned (OpenSpec.ofChange poolArgumentsWrong)

/-- 'refuterlaw36.PoolOnce': WHATEVER THE INPUT: true; the input reads as it did. -/
def poolOnceSpec : ChangeSpec := { name := "poolOnce", fn := fun _ => fun
  | [d1, d2] => { results := [.lit (.bool true)], args := [d1, d2] }
  | _ => none }
def poolOnceRow : OpenClaim := { program := "ytbmplfhcdkeooaa", sum := "04a3220a5849e53f4ff9cd2cb85613da52279c77fbd152b2c3258e166ab7bfdd", func := "refuter/refuterlaw36.PoolOnce", spec := "poolOnce", unfollowed := true, recurses := true, apart := false }
def PoolOnceSaid : Prop := poolOnceRow.holds Try.pinned (OpenSpec.ofChange poolOnceSpec)

/-- ITS FALSE NEIGHBOUR: 'it returns false'. Refute it at one input. -/
def poolOnceWrong : ChangeSpec := { name := "poolOnce", fn := fun _ => fun
  | [d1, d2] => { results := [.lit (.bool false)], args := [d1, d2] }
  | _ => none }
def PoolOnceWrongFalsely : Prop := poolOnceRow.holds Try.pinned (OpenSpec.ofChange poolOnceWrong)

/-- 'refuterlaw36.PoolCopies': WHATEVER THE INPUT: true; the input reads as it did. -/
def poolCopiesSpec : ChangeSpec := { name := "poolCopies", fn := fun _ => fun
  | [d1, d2, d3] => { results := [.lit (.bool true)], args := [d1, d2, d3] }
  | _ => none }
def poolCopiesRow : OpenClaim := { program := "ytbmplfhcdkeooaa", sum := "04a3220a5849e53f4ff9cd2cb85613da52279c77fbd152b2c3258e166ab7bfdd", func := "refuter/refuterlaw36.PoolCopies", spec := "poolCopies", unfollowed := true, recurses := true, apart := false }
def PoolCopiesSaid : Prop := poolCopiesRow.holds Try.pinned (OpenSpec.ofChange poolCopiesSpec)

/-- ITS FALSE NEIGHBOUR: 'it returns false'. Refute it at one input. -/
def poolCopiesWrong : ChangeSpec := { name := "poolCopies", fn := fun _ => fun
  | [d1, d2, d3] => { results := [.lit (.bool false)], args := [d1, d2, d3] }
  | _ => none }
def PoolCopiesWrongFalsely : Prop := poolCopiesRow.holds Try.pinned (OpenSpec.ofChange poolCopiesWrong)

/-- 'refuterlaw36.PoolSame': WHATEVER THE INPUT: true; the input reads as it did. -/
def poolSameSpec : ChangeSpec := { name := "poolSame", fn := fun _ => fun
  | [d1, d2, d3, d4] => { results := [.lit (.bool true)], args := [d1, d2, d3, d4] }
  | _ => none }
def poolSameRow : OpenClaim := { program := "ytbmplfhcdkeooaa", sum := "04a3220a5849e53f4ff9cd2cb85613da52279c77fbd152b2c3258e166ab7bfdd", func := "refuter/refuterlaw36.PoolSame", spec := "poolSame", unfollowed := true, recurses := true, apart := false }
def PoolSameSaid : Prop := poolSameRow.holds Try.pinned (OpenSpec.ofChange poolSameSpec)

/-- ITS FALSE NEIGHBOUR: 'it returns false'. Refute it at one input. -/
def poolSameWrong : ChangeSpec := { name := "poolSame", fn := fun _ => fun
  | [d1, d2, d3, d4] => { results := [.lit (.bool false)], args := [d1, d2, d3, d4] }
  | _ => none }
def PoolSameWrongFalsely : Prop := poolSameRow.holds Try.pinned (OpenSpec.ofChange poolSameWrong)

/-- 'refuterlaw36.PoolJournals': WHATEVER THE INPUT: true; the input reads as it did. -/
def poolJournalsSpec : ChangeSpec := { name := "poolJournals", fn := fun _ => fun
  | [d1, d2] => { results := [.lit (.bool true)], args := [d1, d2] }
  | _ => none }
def poolJournalsRow : OpenClaim := { program := "ytbmplfhcdkeooaa", sum := "04a3220a5849e53f4ff9cd2cb85613da52279c77fbd152b2c3258e166ab7bfdd", func := "refuter/refuterlaw36.PoolJournals", spec := "poolJournals", unfollowed := true, recurses := true, apart := false }
def PoolJournalsSaid : Prop := poolJournalsRow.holds Try.pinned (OpenSpec.ofChange poolJournalsSpec)

/-- ITS FALSE NEIGHBOUR: 'it returns false'. Refute it at one input. -/
def poolJournalsWrong : ChangeSpec := { name := "poolJournals", fn := fun _ => fun
  | [d1, d2] => { results := [.lit (.bool false)], args := [d1, d2] }
  | _ => none }
def PoolJournalsWrongFalsely : Prop := poolJournalsRow.holds Try.pinned (OpenSpec.ofChange poolJournalsWrong)

/- THE SECOND FORM. 'bulk': how many values and letters a reading holds, each counted each time it is reached (what is shared counts as often as it is met; a slice's spare places count too). A statement '..UptoSaid' is the law's where the arguments, and the package variables that the reading takes, are together of bulk at most 1048576: NARROWER than '..Said'. Prove '..Said' where nothing that the law and all that it calls make is longer than what came in: it says more and counts as full. Else prove '..UptoSaid'. A law counts once. -/
mutual
def uptoBulk {H : Type} : DataW H → Nat
  | .lit (.string bytes) => bytes.length + 1
  | .lit _ => 1
  | .nil => 1
  | .ptr d => uptoBulk d + 1
  | .slice elems spare => uptoBulkAll elems + uptoBulkAll spare + 1
  | .agg parts => uptoBulkAll parts + 1
  | .iface _ d => uptoBulk d + 1
  | .map entries => uptoBulkEntries entries + 1
  | .held _ => 1
def uptoBulkAll {H : Type} : List (DataW H) → Nat
  | [] => 0
  | d :: r => uptoBulk d + uptoBulkAll r
def uptoBulkEntries {H : Type} : List (Lit × DataW H) → Nat
  | [] => 0
  | x :: r => uptoBulkEntry x + uptoBulkEntries r
def uptoBulkEntry {H : Type} : Lit × DataW H → Nat
  | (.string bytes, d) => bytes.length + uptoBulk d + 1
  | (_, d) => uptoBulk d + 1
 end
def uptoSmall : (H : Type) → List (DataW H) → Bool := fun _ ds => decide (uptoBulkAll ds ≤ 1048576)
def OpenSpec.upto (s : _root_.Go.ChangeSpec) : _root_.Go.OpenSpec := { _root_.Go.OpenSpec.ofChange s with cond := some uptoSmall }

/-- 'refuterlaw36.PoolMany', WHERE WHAT IT READS IS OF BULK AT MOST 1048576: true; the input reads as it did. -/
def poolManyUptoRow : OpenClaim := { program := "ytbmplfhcdkeooaa", sum := "04a3220a5849e53f4ff9cd2cb85613da52279c77fbd152b2c3258e166ab7bfdd", func := "refuter/refuterlaw36.PoolMany", spec := "poolMany", unfollowed := true, recurses := true, apart := false, narrowed := true }
def PoolManyUptoSaid : Prop := poolManyUptoRow.holds Try.pinned (OpenSpec.upto poolManySpec)

/-- 'refuterlaw36.PoolRuns', WHERE WHAT IT READS IS OF BULK AT MOST 1048576: true; the input reads as it did. -/
def poolRunsUptoRow : OpenClaim := { program := "ytbmplfhcdkeooaa", sum := "04a3220a5849e53f4ff9cd2cb85613da52279c77fbd152b2c3258e166ab7bfdd", func := "refuter/refuterlaw36.PoolRuns", spec := "poolRuns", unfollowed := true, recurses := true, apart := false, narrowed := true }
def PoolRunsUptoSaid : Prop := poolRunsUptoRow.holds Try.pinned (OpenSpec.upto poolRunsSpec)

/-- 'refuterlaw36.PoolArguments', WHERE WHAT IT READS IS OF BULK AT MOST 1048576: true; the input reads as it did. -/
def poolArgumentsUptoRow : OpenClaim := { program := "ytbmplfhcdkeooaa", sum := "04a3220a5849e53f4ff9cd2cb85613da52279c77fbd152b2c3258e166ab7bfdd", func := "refuter/refuterlaw36.PoolArguments", spec := "poolArguments", unfollowed := true, recurses := true, apart := false, narrowed := true }
def PoolArgumentsUptoSaid : Prop := poolArgumentsUptoRow.holds Try.pinned (OpenSpec.upto poolArgumentsSpec)

/-- 'refuterlaw36.PoolOnce', WHERE WHAT IT READS IS OF BULK AT MOST 1048576: true; the input reads as it did. -/
def poolOnceUptoRow : OpenClaim := { program := "ytbmplfhcdkeooaa", sum := "04a3220a5849e53f4ff9cd2cb85613da52279c77fbd152b2c3258e166ab7bfdd", func := "refuter/refuterlaw36.PoolOnce", spec := "poolOnce", unfollowed := true, recurses := true, apart := false, narrowed := true }
def PoolOnceUptoSaid : Prop := poolOnceUptoRow.holds Try.pinned (OpenSpec.upto poolOnceSpec)

/-- 'refuterlaw36.PoolCopies', WHERE WHAT IT READS IS OF BULK AT MOST 1048576: true; the input reads as it did. -/
def poolCopiesUptoRow : OpenClaim := { program := "ytbmplfhcdkeooaa", sum := "04a3220a5849e53f4ff9cd2cb85613da52279c77fbd152b2c3258e166ab7bfdd", func := "refuter/refuterlaw36.PoolCopies", spec := "poolCopies", unfollowed := true, recurses := true, apart := false, narrowed := true }
def PoolCopiesUptoSaid : Prop := poolCopiesUptoRow.holds Try.pinned (OpenSpec.upto poolCopiesSpec)

/-- 'refuterlaw36.PoolSame', WHERE WHAT IT READS IS OF BULK AT MOST 1048576: true; the input reads as it did. -/
def poolSameUptoRow : OpenClaim := { program := "ytbmplfhcdkeooaa", sum := "04a3220a5849e53f4ff9cd2cb85613da52279c77fbd152b2c3258e166ab7bfdd", func := "refuter/refuterlaw36.PoolSame", spec := "poolSame", unfollowed := true, recurses := true, apart := false, narrowed := true }
def PoolSameUptoSaid : Prop := poolSameUptoRow.holds Try.pinned (OpenSpec.upto poolSameSpec)

/-- 'refuterlaw36.PoolJournals', WHERE WHAT IT READS IS OF BULK AT MOST 1048576: true; the input reads as it did. -/
def poolJournalsUptoRow : OpenClaim := { program := "ytbmplfhcdkeooaa", sum := "04a3220a5849e53f4ff9cd2cb85613da52279c77fbd152b2c3258e166ab7bfdd", func := "refuter/refuterlaw36.PoolJournals", spec := "poolJournals", unfollowed := true, recurses := true, apart := false, narrowed := true }
def PoolJournalsUptoSaid : Prop := poolJournalsUptoRow.holds Try.pinned (OpenSpec.upto poolJournalsSpec)

end Rows
end Go.Proofs.Ytbmplfhcdkeooaa
