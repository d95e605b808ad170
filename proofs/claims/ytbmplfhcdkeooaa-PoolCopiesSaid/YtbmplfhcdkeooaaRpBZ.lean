/- Contracts of refuterref36: check, running, Revive, Open, New. -/
import Derived.Test.YtbmplfhcdkeooaaRpAZ
import Derived.Deep.QuietTactic
import Derived.BigQuiet
set_option linter.unusedSimpArgs false
set_option linter.unusedVariables false
namespace Go.Proofs.Ytbmplfhcdkeooaa
set_option linter.unusedVariables false
open Go.RowKit Go.Mem Go.Pl

section
variable {w w' : World} {h : Nat} {al jv tv : Value} {T U : Nat → Prop} {s : S}
set_option maxHeartbeats 2000000 in
set_option maxRecDepth 100000 in
theorem rCheck_any (hr : RI w h al jv tv T s) (hal : s.alive.length ≤ 8) (worker tick : Int) : Calls Try.prog 53 #[.pointer (some ⟨h, 0, none⟩), .int .i64 worker, .int .i64 tick] w fun e w' => e = .returned (.int .i64 (check s worker tick)) ∧ w' = w := by
  obtain ⟨A, c, hv⟩ := hr.shape.1
  obtain ⟨b0, _, b2, _⟩ := hr.cells
  have hbl := hr.blk.lt
  obtain ⟨n, hn⟩ : ∃ n, s.alive.length = n := ⟨_, rfl⟩
  obtain ⟨tk, htk⟩ : ∃ z, s.tick = z := ⟨_, rfl⟩
  unfold check
  rw [hn] at hv hal ⊢
  rw [htk] at b2 ⊢
  subst hv
  clear hr hn htk
  by_cases h1 : worker < 0
  · rw [if_pos (.inl h1)]
    go_enter Try.func53, Try.ntmps53
    go_wp2_with fail
    go_ret
    exact ⟨rfl, rfl⟩
  by_cases h2 : (n : Int) ≤ worker
  · rw [if_pos (.inr (.inl h2))]
    go_enter Try.func53, Try.ntmps53
    go_wp2_with fail
    go_ret
    exact ⟨rfl, rfl⟩
  by_cases h3 : tick < 0
  · rw [if_pos (.inr (.inr (.inl h3)))]
    go_enter Try.func53, Try.ntmps53
    go_wp2_with fail
    go_ret
    exact ⟨rfl, rfl⟩
  by_cases h4 : 1099511627776 < tick
  · rw [if_pos (.inr (.inr (.inr h4)))]
    go_enter Try.func53, Try.ntmps53
    go_wp2_with fail
    go_ret
    exact ⟨rfl, rfl⟩
  rw [if_neg (by omega)]
  by_cases h5 : tick < tk
  · rw [if_pos h5]
    go_enter Try.func53, Try.ntmps53
    go_wp2_with fail
    go_ret
    exact ⟨rfl, rfl⟩
  · rw [if_neg h5]
    go_enter Try.func53, Try.ntmps53
    go_wp2_with fail
    go_ret
    exact ⟨rfl, rfl⟩
theorem find_at (hw : WF s) {t : Int} {j : Job} (hj : j ∈ s.jobs) (e : j.id = t) : ∃ k : Nat, find s t = (k : Int) ∧ s.jobs[k]? = some j := by
  obtain ⟨k, hk⟩ := List.getElem?_of_mem hj
  have hf := findJ_at hw.rise hk
  rw [e] at hf
  exact ⟨k, by unfold find; rw [hf], hk⟩
set_option maxHeartbeats 4000000 in
set_option maxRecDepth 100000 in
theorem rRunning_any (hr : RI w h al jv tv T s) (hw : WF s) {t : Tr} (ht : t ∈ s.tries) (tick : Int) : Calls Try.prog 54 #[.pointer (some ⟨h, 0, none⟩), .agg #[.int .i64 t.task, .int .i64 t.num, .int .i64 t.worker, .int .i64 t.tick, .bool t.over], .int .i64 tick] w fun e w' => e = .returned (.bool (running s t tick)) ∧ New w w' := by
  obtain ⟨⟨j, hj, ej⟩, htk, _⟩ := hw.tr t ht
  obtain ⟨k, hfk, hk⟩ := find_at hw hj ej
  have hrun : running s t tick = (!j.ans.isSome && !t.over && decide (tick < t.tick + s.timeout)) := by unfold running; rw [← ej, answered_at hw hj]
  rw [hrun]
  have hto := hw.to
  obtain ⟨w1, hw1⟩ : ∃ w1, w.alloc (.cells #[.int .i64 t.task, .int .i64 t.num, .int .i64 t.worker, .int .i64 t.tick, .bool t.over] 109) = w1 := ⟨_, rfl⟩
  obtain ⟨B, hB⟩ : ∃ B, w.heap.size = B := ⟨_, rfl⟩
  have hn1 : New w w1 := by rw [← hw1]; exact (Chg.refl _ _).alloc _
  have hbx : Blk w1 B 109 #[.int .i64 t.task, .int .i64 t.num, .int .i64 t.worker, .int .i64 t.tick, .bool t.over] := by rw [← hw1, ← hB]; exact Blk.new _ _ _
  have hr1 := hr.new hn1
  obtain ⟨gj, c, bv, av, hv, _, _, _, _, _, k3, _⟩ := hr1.jobs.at_ hk
  obtain ⟨_, b1, _, b3, _⟩ := hr1.cells
  have hbl := hr1.blk.lt
  have x0 := hbx.cell 0 (u := .int .i64 t.task) rfl
  have x3 := hbx.cell 3 (u := .int .i64 t.tick) rfl
  have x4 := hbx.cell 4 (u := .bool t.over) rfl
  have xl := hbx.lt
  have hkl : k < s.jobs.length := (List.getElem?_eq_some_iff.1 hk).1
  have hQ := Lib.hid (show ∀ d, Calls Try.prog 50 #[.pointer (some ⟨h, 0, none⟩), .int .i64 t.task] (w1.drewN d) fun e w' => e = .returned (.int .i64 (k : Int)) ∧ w' = w1.drewN d from fun d => hfk ▸ rFind_any (hr1.new ((Chg.refl _ _).drewN d)) t.task)
  have hlen : (k : Int) < (s.jobs.length : Int) := by omega
  have hN := Lib.hid hn1
  obtain ⟨tmo, hto'⟩ : ∃ z, s.timeout = z := ⟨_, rfl⟩
  obtain ⟨jl, hjl⟩ : ∃ z, s.jobs.length = z := ⟨_, rfl⟩
  obtain ⟨ta, hta⟩ : ∃ z, t.task = z := ⟨_, rfl⟩
  obtain ⟨tn, htn⟩ : ∃ z, t.num = z := ⟨_, rfl⟩
  obtain ⟨tw, htw⟩ : ∃ z, t.worker = z := ⟨_, rfl⟩
  obtain ⟨tt, htt⟩ : ∃ z, t.tick = z := ⟨_, rfl⟩
  rw [hto'] at hto b1 ⊢
  rw [hjl] at hv hlen hkl
  rw [hta] at hw1 x0 hQ ⊢
  rw [htn] at hw1 ⊢
  rw [htw] at hw1 ⊢
  rw [htt] at hw1 x3 htk ⊢
  subst hv
  clear hr hr1 hw ht hj ej hfk hk hrun hn1 hbx hto' hjl hta htn htw htt
  cases ha : j.ans.isSome with
  | true =>
    rw [ha] at k3
    clear ha
    cases ho : t.over <;> rw [ho] at hw1 x4 <;> clear ho <;> (
      go_enter Try.func54, Try.ntmps54
      go_wp2_with fail
      go_quiet (first | (go_at_call 50; exact Calls.quiet_of_same (hQ.out _)))
      all_goals go_wp2_with fail
      all_goals go_ret
      all_goals exact ⟨rfl, hN.out.drewN _⟩)
  | false =>
    rw [ha] at k3
    clear ha
    cases ho : t.over with
    | true =>
      rw [ho] at hw1 x4
      clear ho
      go_enter Try.func54, Try.ntmps54
      go_wp2_with fail
      go_quiet (first | (go_at_call 50; exact Calls.quiet_of_same (hQ.out _)))
      all_goals go_wp2_with fail
      all_goals go_ret
      all_goals exact ⟨rfl, hN.out.drewN _⟩
    | false =>
      rw [ho] at hw1 x4
      clear ho
      have hw1' : IntKind.i64.wrap (tt + tmo) = tt + tmo := IntWalk.i64_in _ (by omega)
      go_enter Try.func54, Try.ntmps54
      go_wp2_with fail
      go_quiet (first | (go_at_call 50; exact Calls.quiet_of_same (hQ.out _)))
      all_goals go_wp2_with fail
      all_goals go_ret
      all_goals exact ⟨rfl, hN.out.drewN _⟩
end
end Go.Proofs.Ytbmplfhcdkeooaa
