/- Bytes of a fresh block beside a pool and the model. -/
import Derived.Test.YtbmplfhcdkeooaaPmEZ
set_option linter.unusedSimpArgs false
set_option linter.unusedVariables false
namespace Go.Proofs.Ytbmplfhcdkeooaa
set_option linter.unusedVariables false
open Go.RowKit Go.Mem Go.Pl
theorem PS.fresh {w w1 wr w' : World} {g h : Nat} {sp sr : S} {B U X : Nat → Prop} {bx : List Bxr} {by_ : List (Option Addr × List UInt8)} (hp : PS B U X w w1 g h bx by_ sp sr wr) (hn : New wr w') {A : Option Addr} {l : List UInt8} (hr : Rd w' A l.length (bs l)) (hA : ∀ k, blk A = some k → wr.heap.size ≤ k ∧ k < w'.heap.size) : PS B U X w w1 g h bx ((A, l) :: by_) sp sr w' := by
  obtain ⟨U', X', hz⟩ := hp
  refine ⟨U', X', hz.pm.new hn, hz.st.trans (PMStep.of_new hz.pm hn), fun b hb => ?_, fun b hb => ?_⟩
  · obtain ⟨q1, q2⟩ := hz.bx b hb
    exact ⟨q1.chg hn (fun h => h), q2⟩
  · rcases List.mem_cons.1 hb with rfl | hb
    · exact ⟨hr, fun k hk => ⟨(hA k hk).2, fun hu => by have := hz.pm.lt (hz.pm.sub _ hu); have := (hA k hk).1; omega⟩⟩
    · obtain ⟨q1, q2⟩ := hz.rd b hb
      exact ⟨q1.new hn, fun k hk => ⟨Nat.lt_of_lt_of_le (q2 k hk).1 hn.size, (q2 k hk).2⟩⟩
theorem PS.init {w wr : World} {g h : Nat} {s : S} {U X : Nat → Prop} (hp : PM U X w g h s s wr) : PS (fun _ => True) U X w wr g h [] [(none, [])] s s wr :=
  PS.start hp _ (fun b hb => by
    rcases List.mem_singleton.1 hb with rfl
    exact ⟨Rd.nil _ _, fun k hk => by cases hk⟩)
end Go.Proofs.Ytbmplfhcdkeooaa
