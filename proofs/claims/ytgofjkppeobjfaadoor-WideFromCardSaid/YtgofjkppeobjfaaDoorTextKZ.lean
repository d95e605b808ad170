/- Contract of refuterref03.Gcd. -/
import Derived.Test.YtgofjkppeobjfaaDoorB5
import Derived.Deep.LoopGhost
import Derived.Deep.CutRange
namespace Go.Proofs.YtgofjkppeobjfaaDoor
set_option linter.unusedVariables false
open Go.RowKit Go.Mem Go.Dig

theorem normal_h (A : Option Addr) (n c m : Nat) (W : World) (hm : DM W A n c m) :
    Calls Tryd.prog 51 #[.bool false, .slice A n c] W fun e w' => ∃ A n c, e = .returned (.agg #[.bool false, .slice A n c]) ∧ Hid (RN w' (.agg #[.bool false, .slice A n c]) (m : Int) ∧ New W w') := by
  obtain ⟨l, hr, h1, h2, hN⟩ := hm
  refine (normal_dm A n c l W hr hN.digs h1 h2).mono ?_
  rintro e w' ⟨T, rfl, hd, -, hn⟩
  rw [hN.val] at hd
  exact ⟨_, _, _, rfl, ⟨false, _, _, _, rfl, by simp, by simpa using hd⟩, hn⟩
theorem rdiv_h (v v' : Value) (x y : Int) (W : World) (hx : RN W v x) (hy : RN W v' y) (bx : x.natAbs < 2 ^ 1000000) (bY : y.natAbs < 2 ^ 900000) (h0 : y ≠ 0) :
    Calls Tryd.prog 30 #[v, v'] W fun e w' => ∃ s A n c s' A' n' c', e = .returned (.tuple #[.agg #[.bool s, .slice A n c], .agg #[.bool s', .slice A' n' c']]) ∧ Hid (RN w' (.agg #[.bool s, .slice A n c]) (x / y) ∧ RN w' (.agg #[.bool s', .slice A' n' c']) (x % y) ∧ New W w') :=
  (rdiv_any v v' x y W hx hy bx bY h0).mono fun e w' ⟨v, v', h1, ⟨s, A, n, c, h2, h3, h4⟩, ⟨s', A', n', c', h2', h3', h4'⟩, h5⟩ => ⟨s, A, n, c, s', A', n', c', by rw [h1, h2, h2'], ⟨s, A, n, c, rfl, h3, h4⟩, ⟨s', A', n', c', rfl, h3', h4'⟩, h5⟩
theorem pow_le900 {x k : Nat} (h : x < 2 ^ k) (m : Nat) (hk : k ≤ m) : x < 2 ^ m := Nat.lt_of_lt_of_le h (Nat.pow_le_pow_right (by omega) hk)
theorem RN.len0' {w : World} {s : Bool} {A : Option Addr} {n c : Nat} {z : Int} (h : RN w (.agg #[.bool s, .slice A n c]) z) : n = 0 ↔ z = 0 := by
  obtain ⟨s', A', n', c', he, hs, hm⟩ := h
  simp only [Value.agg.injEq, Array.mk.injEq, List.cons.injEq, Value.slice.injEq, Value.bool.injEq] at he
  obtain ⟨-, ⟨-, rfl, -⟩, -⟩ := he
  have := hm.pos
  omega

theorem RN.store22 {W : World} {v : Value} {z : Int} {g g' : Nat} {t t' : TypeId} {a b c d : Value} (hm : RN W v z) (h : Blk W g t #[a, b]) (h' : Blk W g' t' #[c, d]) (hne : g ≠ g') (hi : NoInt [a, b]) (hi' : NoInt [c, d]) (p q r u : Value) : RN (set22 W g g' p q r u) v z := by
  obtain ⟨s, A, n, k, h1, h2, h3⟩ := hm
  exact ⟨s, A, n, k, h1, h2, h3.store22 h h' hne hi hi' p q r u⟩

/-- What the loop of Gcd holds: the boxes g5, g6, and the one of the result. -/
def GcW (w : World) (g4 g5 g6 : Nat) (x y : Int) (k : Nat) (wr : World) : Prop :=
  ∃ s A n c s' A' n' c' X, Blk wr g5 25 #[.bool s, .slice A n c] ∧ RN wr (.agg #[.bool s, .slice A n c]) ((X : Nat) : Int) ∧ Blk wr g6 25 #[.bool s', .slice A' n' c'] ∧ RN wr (.agg #[.bool s', .slice A' n' c']) (k : Int) ∧
    Blk wr g4 25 #[.bool false, .slice none 0 0] ∧ New w wr ∧ X < 2 ^ 900000 ∧ k < 2 ^ 900000 ∧ Nat.gcd X k = Nat.gcd x.natAbs y.natAbs

end Go.Proofs.YtgofjkppeobjfaaDoor
