/- The example of the pool, as plain states. No program is named here. -/
import Derived.Test.YtbmplfhcdkeooaaPurePool
namespace Go.Pl
def L2 : S := (add (add (new 2 10) 2 []).1 1 []).1
def L3 : S := (ask L2 0 0).1
def L4 : S := (ask L3 1 0).1
def L5 : S := (answer L4 2 1 0 [] 5).1
def L6 : S := (ask L5 1 10).1
def L7 : S := (answer L6 1 0 0 [] 11).1
def L8 : S := (answer L7 1 1 1 [] 12).1
theorem l1 : (add (new 2 10) 2 []).2 = 0 := by rfl
theorem l2 : (add (add (new 2 10) 2 []).1 1 []).2 = 0 := by rfl
theorem l3 : (ask L2 0 0).2 = ⟨1, [], 0, true, 0⟩ := by rfl
theorem l4 : (ask L3 1 0).2 = ⟨2, [], 0, true, 0⟩ := by rfl
theorem l5 : (answer L4 2 1 0 [] 5).2 = (true, 0) := by rfl
theorem l6 : (ask L5 1 10).2 = ⟨1, [], 1, true, 0⟩ := by rfl
theorem l7 : (answer L6 1 0 0 [] 11).2 = (true, 0) := by rfl
theorem l8 : (answer L7 1 1 1 [] 12).2 = (false, 0) := by rfl
theorem l9 : opens L8 = [] := by rfl
theorem lt3 : L2.tries.length = 0 ∧ L3.tries.length = 1 ∧ L5.tries.length = 2 := by decide
end Go.Pl
