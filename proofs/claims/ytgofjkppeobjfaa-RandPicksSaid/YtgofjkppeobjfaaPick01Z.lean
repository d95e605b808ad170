/- Contract of refuterref01.Pick. -/
import Derived.Test.YtgofjkppeobjfaaB5
namespace Go.Proofs.Ytgofjkppeobjfaa
set_option linter.unusedVariables false
open Go.RowKit Go.Mem

def pickI (l : List Int) (i : Nat) (most : Int) : Int := match l[i]? with
  | some z => aroundI z most
  | none => 0
theorem pickI_range (l : List Int) (i : Nat) (most : Int) (h : 1 ≤ most) : 0 ≤ pickI l i most ∧ pickI l i most < most := by
  unfold pickI
  split
  · exact aroundI_range _ _ h
  · omega

set_option maxHeartbeats 1000000 in
theorem pick01_any (A : Option Addr) (n c : Nat) (l : List Int) (hl : ∀ z ∈ l, -9223372036854775808 ≤ z ∧ z ≤ 9223372036854775807) (i : Nat) (most : Int) (hm : 1 ≤ most) (hm2 : most ≤ 1000000000) (w : World) (hr : Rd w A n (is l)) (hn : n ≤ 9223372036854775807) :
    Calls Try.prog 6 #[.slice A n c, .int .i64 i, .int .i64 most] w fun e w' => e = .returned (.int .i64 (pickI l i most)) ∧ w = w' := by
  have hll : l.length = n := by have := hr.len; rwa [is_length] at this
  have hng : decide ((i : Int) < 0) = false := by simp
  by_cases h1 : i < n
  · obtain ⟨ad, u, rfl, hu, hcu⟩ := hr.at_ h1
    obtain ⟨z, hz, rfl⟩ := is_at hu
    have hzb := hl z (List.mem_of_getElem? hz)
    have hp : pickI l i most = aroundI z most := by unfold pickI; rw [hz]
    rw [hp]
    have hlt : decide ((n : Int) ≤ (i : Int)) = false := by simp; omega
    have hlt' : decide (n ≤ i) = false := by simp; omega
    have HZ := Lib.hid hzb
    clear hr hl hu hz hll hzb hp
    go_enter Try.func6, Try.ntmps6
    go_wp2_with fail
    refine (around_any z most w HZ.out.1 HZ.out.2 hm (by omega)).mono ?_
    rintro e w1 ⟨rfl, rfl⟩
    go_wp2
    go_ret
    exact ⟨rfl, rfl⟩
  · have hp : pickI l i most = 0 := by unfold pickI; rw [List.getElem?_eq_none (by omega)]
    rw [hp]
    have hlt : decide ((n : Int) ≤ (i : Int)) = true := by simp; omega
    have hlt' : decide (n ≤ i) = true := by simp; omega
    clear hr hl hll hp
    go_enter Try.func6, Try.ntmps6
    go_wp2
    go_ret
    exact ⟨rfl, rfl⟩
end Go.Proofs.Ytgofjkppeobjfaa
