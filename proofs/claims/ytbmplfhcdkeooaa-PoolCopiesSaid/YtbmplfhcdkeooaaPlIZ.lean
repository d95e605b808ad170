/- Contract of pool: New. -/
import Derived.Test.YtbmplfhcdkeooaaPlHZ
set_option linter.unusedSimpArgs false
set_option linter.unusedVariables false
namespace Go.Proofs.Ytbmplfhcdkeooaa
set_option linter.unusedVariables false
open Go.RowKit Go.Mem Go.Pl

theorem elemBo : Elem Try.prog 86 4 (.bool false) 1 := Elem.mk' Try.underlying86 (by kernel_rfl) rfl
/-- The arguments of New are good. -/
def NewOk (workers timeout : Int) : Prop := 1 ≤ workers ∧ workers ≤ 8 ∧ 1 ≤ timeout ∧ timeout ≤ 1099511627776
set_option maxHeartbeats 1000000 in
set_option maxRecDepth 100000 in
theorem plNew_bad (workers timeout : Int) (hn : ¬ NewOk workers timeout) (w : World) :
    Calls Try.prog 10 #[.int .i64 workers, .int .i64 timeout] w fun e w' => e = .returned (.tuple #[.pointer none, .int .i64 1]) ∧ w = w' := by
  unfold NewOk at hn
  by_cases h1 : workers < 1
  · clear hn
    go_enter Try.func10, Try.ntmps10
    go_wp2
    go_ret2
    exact ⟨rfl, rfl⟩
  by_cases h2 : 8 < workers
  · have h1' : 1 ≤ workers := by omega
    clear hn
    go_enter Try.func10, Try.ntmps10
    go_wp2
    go_ret2
    exact ⟨rfl, rfl⟩
  by_cases h3 : timeout < 1
  · have h1' : 1 ≤ workers := by omega
    have h2' : workers ≤ 8 := by omega
    clear hn
    go_enter Try.func10, Try.ntmps10
    go_wp2
    go_ret2
    exact ⟨rfl, rfl⟩
  · have h1' : 1 ≤ workers := by omega
    have h2' : workers ≤ 8 := by omega
    have h3' : 1 ≤ timeout := by omega
    have h4 : 1099511627776 < timeout := by omega
    clear hn
    go_enter Try.func10, Try.ntmps10
    go_wp2
    go_ret2
    exact ⟨rfl, rfl⟩
set_option maxHeartbeats 1000000 in
set_option maxRecDepth 100000 in
theorem plNew_any (n : Nat) (timeout : Int) (hn : 1 ≤ n ∧ n ≤ 8) (ht : 1 ≤ timeout ∧ timeout ≤ 1099511627776) (V : Int → Loc) (w : World) :
    Calls Try.prog 10 #[.int .i64 (n : Int), .int .i64 timeout] w fun e w' => ∃ g m dv, e = .returned (.tuple #[.pointer (some ⟨g, 0, none⟩), .int .i64 0]) ∧ (∀ T : Nat → Prop, (∀ k, T k → k < w.heap.size) → PI w' g m dv V T (new n timeout)) ∧ New w w' ∧ ∀ k, ownP g m dv V (new n timeout) k → w.heap.size ≤ k := by
  have hmm : ∀ w : World, (Instr.makeMap 87 none).run Try.prog w = .ok (.map (some w.heap.size)) (w.alloc (.map #[] 0)) := fun w => by kernel_rfl
  have hmk : ∀ W : World, (Instr.makeSlice 86 (.int .i64 (n : Int)) (.int .i64 (n : Int))).run Try.prog W = .ok (.slice (some ⟨W.heap.size, 0, none⟩) n n) (W.alloc (.cells (madeCells #[.bool false] n) 4)) := fun W => by
    obtain ⟨ht, ⟨i, hi, hz0, hz1, hz2⟩, hzs⟩ := elemBo
    have hr := run_make (P := Try.prog) (w := W) 86 4 i (.bool false) ht hi hz0 .i64 .i64 (n : Int) (n : Int) (by omega) (by omega) (by rw [hz2]; omega) (by omega)
    simp only [Int.toNat_natCast, hz1, Nat.mul_one] at hr
    exact hr
  have h1 : (1 : Int) ≤ (n : Int) := by omega
  have h2 : (n : Int) ≤ 8 := by omega
  go_enter Try.func10, Try.ntmps10
  go_wp2
  go_ret2
  obtain ⟨w1, hw1⟩ : ∃ w1, w.alloc (.cells (madeCells #[.bool false] n) 4) = w1 := ⟨_, rfl⟩
  obtain ⟨w2, hw2⟩ : ∃ w2, w1.alloc (.map #[] 0) = w2 := ⟨_, rfl⟩
  have z1 : w1.heap.size = w.heap.size + 1 := by rw [← hw1]; simp
  have z2 : w2.heap.size = w.heap.size + 1 + 1 := by rw [← hw2]; simp [z1]
  rw [hw1, hw2]
  have hN : New w (w2.alloc (.cells #[.slice (some ⟨w.heap.size, 0, none⟩) n n, .int .i64 timeout, .int .i64 0, .map (some (w.heap.size + 1))] 89)) := by rw [← hw2, ← hw1]; exact (((Chg.refl _ w).alloc _).alloc _).alloc _
  have hbg : Blk (w2.alloc (.cells #[.slice (some ⟨w.heap.size, 0, none⟩) n n, .int .i64 timeout, .int .i64 0, .map (some (w.heap.size + 1))] 89)) (w.heap.size + 1 + 1) 89 #[.slice (some ⟨w.heap.size, 0, none⟩) n n, .int .i64 timeout, .int .i64 0, .map (some (w.heap.size + 1))] := by
    have := Blk.new w2 89 #[.slice (some ⟨w.heap.size, 0, none⟩) n n, .int .i64 timeout, .int .i64 0, .map (some (w.heap.size + 1))]
    rwa [z2] at this
  have hbm : MI (w2.alloc (.cells #[.slice (some ⟨w.heap.size, 0, none⟩) n n, .int .i64 timeout, .int .i64 0, .map (some (w.heap.size + 1))] 89)) Try.prog 3 (w.heap.size + 1) [] := by
    have := MI.made w1 Try.prog 3
    rw [hw2, z1] at this
    exact this.chg ((Chg.refl (fun _ => False) w2).alloc _) (fun h => h)
  have hbd : RowV (w2.alloc (.cells #[.slice (some ⟨w.heap.size, 0, none⟩) n n, .int .i64 timeout, .int .i64 0, .map (some (w.heap.size + 1))] 89)) 4 IsBo (.slice (some ⟨w.heap.size, 0, none⟩) n n) ((new n timeout).alive.map (fun b => .bool (!b))) := by
    have e : (new n timeout).alive.map (fun b => Value.bool (!b)) = List.replicate n (.bool false) := by simp [new]
    rw [e]
    have hb0 : Blk w1 w.heap.size 4 (madeCells #[.bool false] n) := by rw [← hw1]; exact Blk.new _ _ _
    have hb1 : Blk w2 w.heap.size 4 (madeCells #[.bool false] n) := by rw [← hw2]; exact hb0.alloc _
    have e2 : madeCells #[Value.bool false] n = (List.replicate n (Value.bool false) ++ []).toArray := by
      apply Array.toList_inj.1
      rw [toList_madeCells_one]
      simp
    rw [e2] at hb1
    exact .inr ⟨w.heap.size, n, [], by rw [List.length_replicate], by unfold maxLen; omega, by rw [List.length_replicate]; rfl, hb1.alloc _, fun u hu => ⟨false, by simp at hu; exact hu.2⟩⟩
  have hown : ∀ k, ownP (w.heap.size + 1 + 1) (w.heap.size + 1) (.slice (some ⟨w.heap.size, 0, none⟩) n n) V (new n timeout) k → w.heap.size ≤ k := fun k hk => by
    rcases hk with h | h | h | ⟨j, hj, _⟩
    · omega
    · omega
    · have : w.heap.size = k := by simpa [blkV, blk] using h
      omega
    · simp [new] at hj
  have no : ∀ j, ¬ j ∈ (new n timeout).jobs := fun j hj => by simp [new] at hj
  refine ⟨w.heap.size + 1 + 1, w.heap.size + 1, .slice (some ⟨w.heap.size, 0, none⟩) n n, by simp [z1, z2], fun T hT => ⟨?_, ?_, ?_, fun j hj => absurd hj (no j), fun j hj => absurd hj (no j), fun j hj => absurd hj (no j), fun j hj => absurd hj (no j), fun j hj => absurd hj (no j), fun j hj => absurd hj (no j), WF.new hn.1 hn.2 ht.1 ht.2, fun k hk => ⟨?_, fun ho => ?_⟩⟩, ?_, hown⟩
  · exact hbg
  · exact hbm
  · exact hbd
  · have := hT k hk; have := hN.size; simp at this ⊢; omega
  · have := hT k hk; have := hown k ho; omega
  · exact hN
end Go.Proofs.Ytbmplfhcdkeooaa
