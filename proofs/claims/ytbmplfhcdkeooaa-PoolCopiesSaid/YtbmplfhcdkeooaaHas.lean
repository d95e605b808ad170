/- Contract of refuterref01.Has. -/
import Derived.Test.YtbmplfhcdkeooaaBase
namespace Go.Proofs.Ytbmplfhcdkeooaa
set_option linter.unusedVariables false
open Go.RowKit Go.Mem

theorem has_take {l : List Int} {k : Nat} {x z : Int} (h : (l.take k).contains x = false) (hz : l[k]? = some z) (e : z ≠ x) : (l.take (k + 1)).contains x = false := by
  rw [List.take_add_one, hz]
  simp only [Option.toList_some, List.contains_append, h, Bool.false_or]
  simp
  exact fun e2 => e e2.symm
set_option maxHeartbeats 1000000 in
theorem has_any (A : Option Addr) (n c : Nat) (l : List Int) (x : Int) (w : World) (ha : Rd w A n (is l)) (hn : n ≤ 9223372036854775807) :
    Calls Try.prog 43 #[.slice A n c, .int .i64 x] w fun e w' => e = .returned (.bool (l.contains x)) ∧ New w w' := by
  have hl : l.length = n := by have := ha.len; simpa [is] using this
  have HL := Lib.hid hl
  have HA := Lib.hid ha
  clear hl ha
  go_enter Try.func43, Try.ntmps43
  go_wp2_with fail
  go_loopw [5] (fun v wr => ∃ k : Nat, v = .int .i64 (k : Int) ∧ k ≤ n ∧ Hid ((l.take k).contains x = false ∧ New w wr)) (fun v _ => n - (intOf v).toNat)
  case atStart => exact ⟨0, rfl, by omega, Lib.hid ⟨by simp, Chg.refl _ _⟩⟩
  case round =>
    obtain ⟨k, rfl, hk, hh⟩ := hrel
    by_cases hlt : k < n
    · obtain ⟨ad, u, rfl, hu, hcu⟩ := (HA.out.new hh.out.2).at_ (k := k) hlt
      obtain ⟨z, rfl, hz⟩ : ∃ z, u = .int .i64 z ∧ l[k]? = some z := by
        unfold is at hu
        rw [List.getElem?_map] at hu
        cases hq : l[k]? with
        | none => rw [hq] at hu; cases hu
        | some z => rw [hq] at hu; injection hu with hu; exact ⟨z, hu.symm, rfl⟩
      have HZ := Lib.hid hz
      clear hu hz
      by_cases hx : z = x
      · have hb : (z == x) = true := by rw [hx]; simp
        have HX := Lib.hid hx
        clear hx
        go_wp2_with fail
        go_ret
        refine ⟨?_, hh.out.2⟩
        have : l.contains x = true := by
          rw [List.contains_iff_mem, ← HX.out]
          exact List.mem_of_getElem? HZ.out
        show Ending.returned (.bool true) = _
        rw [this]
      · have hb : (z == x) = false := by rw [beq_eq_false_iff_ne]; exact hx
        have HX := Lib.hid hx
        clear hx
        go_wp2_with fail
        exact ⟨⟨k + 1, rfl, by omega, Lib.hid ⟨has_take hh.out.1 HZ.out HX.out, hh.out.2⟩⟩, by simp [intOf]; omega⟩
    · obtain rfl : k = n := by omega
      go_wp2_with fail
      go_ret
      refine ⟨?_, hh.out.2⟩
      have := hh.out.1
      rw [List.take_of_length_le (by rw [HL.out]; omega)] at this
      show Ending.returned (.bool false) = _
      rw [this]
end Go.Proofs.Ytbmplfhcdkeooaa
