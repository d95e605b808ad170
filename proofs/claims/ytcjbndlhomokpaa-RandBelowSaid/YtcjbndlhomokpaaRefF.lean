/- Contracts of refuterref03: small, digits, digit. -/
import Derived.Test.YtcjbndlhomokpaaRefE
import Derived.Test.YtcjbndlhomokpaaPureDig3
import Derived.IntWalk
namespace Go.Proofs.Ytcjbndlhomokpaa
set_option linter.unusedVariables false
open Go.RowKit Go.Mem Go.Dig

theorem DM.chg {S : Nat → Prop} {w w' : World} {A : Option Addr} {n c m : Nat} (h : DM w A n c m) (hc : Chg S w w') (hs : ∀ k, blk A = some k → ¬ S k) : DM w' A n c m := by
  obtain ⟨l, h1, h2⟩ := h
  exact ⟨l, h1.chg hc (fun k hk _ => hs k hk), h2⟩
theorem DM.chg' {S : Nat → Prop} {w w' : World} {A : Option Addr} {n c m : Nat} (h : DM w A n c m) (hc : Chg S w w') (hs : 0 < n → ∀ k, blk A = some k → ¬ S k) : DM w' A n c m := by
  rcases Nat.eq_zero_or_pos n with h0 | h0
  · subst h0
    obtain ⟨l, h1, h2⟩ := h
    exact ⟨l, ⟨h1.1, fun h => absurd h (by omega)⟩, h2⟩
  · exact h.chg hc (hs h0)
theorem DM.old {w w' : World} {A : Option Addr} {n c m g : Nat} (h : DM w A n c m) (hc : Chg (fun k => k = g) w w') (hg : w.heap.size ≤ g) : DM w' A n c m := by
  obtain ⟨l, h1, h2⟩ := h
  exact ⟨l, h1.chg hc (fun k _ hk e => by omega), h2⟩
/-- normal of digits without a sign: the same address. -/
theorem normal_dm (A : Option Addr) (n c : Nat) (l : List Nat) (w : World) (hr : Rd w A n (nv .i64 l)) (hd : Digs 10000 l) (hnc : n ≤ c) (hc : c ≤ 9223372036854775807) :
    Calls Try.prog 57 #[.bool false, .slice A n c] w fun e w' => ∃ T, e = .returned (.agg #[.bool false, .slice A T c]) ∧ DM w' A T c (val 10000 l) ∧ T ≤ n ∧ New w w' := by
  refine (normal_any false A n c l w hr hnc hc).mono ?_
  rintro e w' ⟨rfl, hn⟩
  have hll : l.length = n := by have := hr.len; rwa [nv_length] at this
  have hlen := trim_len l
  refine ⟨(Dig.trim l).length, by rw [Bool.false_and], ⟨Dig.trim l, ?_, by omega, hc, Num.of_trim hd⟩, by omega, hn⟩
  have := (hr.new hn).take (k := (Dig.trim l).length) (by omega)
  rwa [nv_take, ← trim_take] at this

set_option maxHeartbeats 1000000 in
theorem small_any (A : Option Addr) (n c x k : Nat) (w : World) (hx : DM w A n c x) (hn : n ≤ 1000000) (hk : k ≤ 9999) :
    Calls Try.prog 90 #[.slice A n c, .int .i64 k] w fun e w' => ∃ R m d, e = .returned (.slice R m d) ∧ DM w' R m d (x * k) ∧ New w w' := by
  have HX := Lib.hid hx
  clear hx
  go_enter Try.func90, Try.ntmps90
  go_wp2_with fail
  refine (of_any (k : Int) w (by omega) (by omega)).mono ?_
  rintro e w1 ⟨v1, rfl, ⟨s1, A1, n1, c1, rfl, hs1, hm1⟩, hn1⟩
  rw [show s1 = false by rw [hs1]; simp]
  have hn1l : n1 ≤ 1000000 := by
    have := hm1.len (k := 1) (by rw [Int.natAbs_natCast, Nat.pow_one]; omega)
    omega
  have H1 := Lib.hid (And.intro hm1 hn1)
  clear hs1 hm1 hn1
  go_wp2_with fail
  refine (rmul_dm false false A n c A1 n1 c1 x _ w1 (HX.out.new H1.out.2) H1.out.1 hn hn1l).mono ?_
  rintro e w2 ⟨v2, rfl, ⟨s2, A2, n2, c2, rfl, hs2, hm2⟩, hn2⟩
  rw [sg_abs, Int.natAbs_natCast] at hm2
  have H2 := Lib.hid (And.intro hm2 (H1.out.2.new hn2))
  clear hs2 hm2 hn2 H1
  go_wp2
  go_ret
  exact ⟨A2, n2, c2, rfl, H2.out.1.new ((Chg.refl _ _).alloc _), H2.out.2.alloc _⟩

set_option maxHeartbeats 1000000 in
theorem digits_any (A : Option Addr) (n c : Nat) (l : List Nat) (i : Int) (w : World) (hr : Rd w A n (nv .i64 l)) (hn : n ≤ 9223372036854775807) :
    Calls Try.prog 96 #[.slice A n c, .int .i64 i] w fun e w' => e = .returned (.int .i64 (dgI l i)) ∧ w = w' := by
  have hl : l.length = n := by have := hr.len; rwa [nv_length] at this
  by_cases h : i < 0
  · rw [dgI_neg h]
    clear hr hl
    go_enter Try.func96, Try.ntmps96
    go_wp2
    go_ret
    exact ⟨rfl, rfl⟩
  · obtain ⟨k, rfl⟩ : ∃ k : Nat, i = (k : Int) := ⟨i.toNat, by omega⟩
    rw [dgI_nat]
    have hng : decide ((k : Int) < 0) = false := by simp
    by_cases h1 : k < n
    · obtain ⟨ad, u, rfl, hu, hcu⟩ := hr.at_ h1
      obtain ⟨z, hz, rfl⟩ := nv_at hu
      rw [dg_some hz]
      have hlt : decide ((n : Int) ≤ (k : Int)) = false := by simp; omega
      have hlt' : decide (n ≤ k) = false := by simp; omega
      clear hr hl hu hz
      go_enter Try.func96, Try.ntmps96
      go_wp2
      go_ret
      exact ⟨rfl, rfl⟩
    · rw [dg_none (by omega)]
      have hlt : decide ((n : Int) ≤ (k : Int)) = true := by simp; omega
      have hlt' : decide (n ≤ k) = true := by simp; omega
      clear hr hl
      go_enter Try.func96, Try.ntmps96
      go_wp2
      go_ret
      exact ⟨rfl, rfl⟩

theorem min_9999 (P : Program) (y : Nat) : ∃ m : Nat, ((9999 ≤ y ∧ m = 9999) ∨ (y ≤ 9999 ∧ m = y)) ∧ ∀ ts t W, (Builtin.min_ ts t #[.int .i64 9999, .int .i64 (y : Int)]).run P W = .ok (.int .i64 (m : Int)) W := by
  rcases Nat.le_total 9999 y with h | h
  · exact ⟨9999, .inl ⟨h, rfl⟩, fun ts t W => run_min2 _ _ _ (.inl ⟨by omega, rfl⟩) ts t W⟩
  · exact ⟨y, .inr ⟨h, rfl⟩, fun ts t W => run_min2 _ _ _ (.inr ⟨by omega, rfl⟩) ts t W⟩
theorem min_ex (P : Program) (x y : Nat) : ∃ m : Nat, ((x ≤ y ∧ m = x) ∨ (y ≤ x ∧ m = y)) ∧ ∀ ts t W, (Builtin.min_ ts t #[.int .i64 (x : Int), .int .i64 (y : Int)]).run P W = .ok (.int .i64 (m : Int)) W := by
  rcases Nat.le_total x y with h | h
  · exact ⟨x, .inl ⟨h, rfl⟩, fun ts t W => run_min2 _ _ _ (.inl ⟨by omega, rfl⟩) ts t W⟩
  · exact ⟨y, .inr ⟨h, rfl⟩, fun ts t W => run_min2 _ _ _ (.inr ⟨by omega, rfl⟩) ts t W⟩

set_option maxRecDepth 100000 in
set_option maxHeartbeats 2000000 in
theorem digit_any (A : Option Addr) (n c : Nat) (A' : Option Addr) (n' c' : Nat) (X Y : Nat) (w : World) (hx : DM w A n c X) (hy : DM w A' n' c' Y) (hY : 1 ≤ Y) (hlt : X < 10000 * Y) :
    Calls Try.prog 89 #[.slice A n c, .slice A' n' c'] w fun e w' => ∃ lo hi : Nat, e = .returned (.tuple #[.int .i64 lo, .int .i64 hi]) ∧ (lo ≤ X / Y ∧ X / Y ≤ hi ∧ hi ≤ 9999) ∧ New w w' := by
  have hq9 : X / Y ≤ 9999 := by
    have : X / Y < 10000 := by rw [Nat.div_lt_iff_lt_mul (by omega)]; exact hlt
    omega
  obtain ⟨la, ha, hc1, hc2, hNa⟩ := hx
  obtain ⟨lb, hb, hd1, hd2, hNb⟩ := hy
  have hla : la.length = n := by have := ha.len; rwa [nv_length] at this
  have hlb : lb.length = n' := by have := hb.len; rwa [nv_length] at this
  have hn1 : 1 ≤ n' := by
    rcases Nat.eq_zero_or_pos n' with h | h
    · have := (hNb.nil_iff (by omega)).1 (List.eq_nil_of_length_eq_zero (by omega)); omega
    · exact h
  by_cases hs : n < n'
  · have h0 : X / Y = 0 := Nat.div_eq_of_lt (hNa.len_lt (by omega) hNb (by omega))
    have hsi : (n : Int) < (n' : Int) := by omega
    have H := Lib.hid h0
    clear ha hb hNa hNb hla hlb h0 hq9
    go_enter Try.func89, Try.ntmps89
    go_wp2
    go_ret2
    exact ⟨0, 0, rfl, ⟨Nat.zero_le _, by rw [H.out]; exact Nat.le_refl _, by omega⟩, Chg.refl _ _⟩
  · obtain ⟨hD, hlo, hhi⟩ := digit_bounds hNa hNb hY hlt
    rw [hlb] at hD hlo hhi
    have b1 := dgI_lt hNa.digs (by omega) (n' : Int)
    have b2 := dgI_lt hNa.digs (by omega) ((n' : Int) - 1)
    have b3 := dgI_lt hNa.digs (by omega) ((n' : Int) - 2)
    have b4 := dgI_lt hNb.digs (by omega) ((n' : Int) - 1)
    have b5 := dgI_lt hNb.digs (by omega) ((n' : Int) - 2)
    have f1 := fun W (h : Rd W A n (nv .i64 la)) => digits_any A n c la (n' : Int) W h (by omega)
    have f2 := fun W (h : Rd W A n (nv .i64 la)) => digits_any A n c la ((n' : Int) - 1) W h (by omega)
    have f3 := fun W (h : Rd W A n (nv .i64 la)) => digits_any A n c la ((n' : Int) - 2) W h (by omega)
    have f4 := fun W (h : Rd W A' n' (nv .i64 lb)) => digits_any A' n' c' lb ((n' : Int) - 1) W h (by omega)
    have f5 := fun W (h : Rd W A' n' (nv .i64 lb)) => digits_any A' n' c' lb ((n' : Int) - 2) W h (by omega)
    unfold upperD lowerD at hlo hhi
    unfold lowerD at hD
    generalize dgI la (n' : Int) = d1 at *
    generalize dgI la ((n' : Int) - 1) = d2 at *
    generalize dgI la ((n' : Int) - 2) = d3 at *
    generalize dgI lb ((n' : Int) - 1) = d4 at *
    generalize dgI lb ((n' : Int) - 2) = d5 at *
    obtain ⟨U, hU⟩ : ∃ U, 10000 * (10000 * d1 + d2) + d3 = U := ⟨_, rfl⟩
    obtain ⟨D, hDq⟩ : ∃ D, 10000 * d4 + d5 = D := ⟨_, rfl⟩
    rw [hU, hDq] at hlo hhi
    rw [hDq] at hD
    have hUi : (10000 : Int) * (10000 * (d1 : Int) + (d2 : Int)) + (d3 : Int) = (U : Int) := by omega
    have hDi : (10000 : Int) * (d4 : Int) + (d5 : Int) = (D : Int) := by omega
    have hUb : U ≤ 1000000000000 := by omega
    have hDb : D ≤ 100000000 := by omega
    obtain ⟨mlo, hmlo, hmin1⟩ := min_9999 Try.prog (U / (D + 1))
    obtain ⟨mhi, hmhi, hmin2⟩ := min_9999 Try.prog (U / D)
    have hge : decide ((n : Int) < (n' : Int)) = false := by simp; omega
    have hge' : decide (n < n') = false := by simp; omega
    have hnz : ((n' : Int) == 0) = false := by simp; omega
    have HF := Lib.hid (And.intro f1 (And.intro f2 (And.intro f3 (And.intro f4 f5))))
    have HR := Lib.hid (And.intro ha (And.intro hb (And.intro hmlo (And.intro hmhi (And.intro hlo (And.intro hhi hq9))))))
    clear f1 f2 f3 f4 f5 ha hb hmlo hmhi hlo hhi hq9 hNa hNb hla hlb hU hDq hlt
    go_enter Try.func89, Try.ntmps89
    go_wp2_with fail
    refine (HF.out.1 w HR.out.1).mono ?_
    rintro e w1 ⟨rfl, rfl⟩
    go_wp2_with fail
    refine (HF.out.2.1 w HR.out.1).mono ?_
    rintro e w1 ⟨rfl, rfl⟩
    go_wp2_with fail
    refine (HF.out.2.2.1 w HR.out.1).mono ?_
    rintro e w1 ⟨rfl, rfl⟩
    go_wp2_with fail
    refine (HF.out.2.2.2.1 w HR.out.2.1).mono ?_
    rintro e w1 ⟨rfl, rfl⟩
    go_wp2_with fail
    refine (HF.out.2.2.2.2 w HR.out.2.1).mono ?_
    rintro e w1 ⟨rfl, rfl⟩
    go_wp2_with fail
    have g1 : IntKind.i64.wrap ((D : Int) + 1) = (D : Int) + 1 := IntWalk.i64_in _ (by omega)
    have g2 : ((D : Int) + 1 == 0) = false := by simp; omega
    have g3 : ((D : Int) == 0) = false := by simp; omega
    have g4 : (U : Int).tdiv ((D : Int) + 1) = ((U / (D + 1) : Nat) : Int) := by rw [Int.tdiv_eq_ediv_of_nonneg (by omega)]; simp
    have g5 : (U : Int).tdiv (D : Int) = ((U / D : Nat) : Int) := by rw [Int.tdiv_eq_ediv_of_nonneg (by omega)]; simp
    have g6 : U / (D + 1) ≤ 1000000000000 := Nat.le_trans (Nat.div_le_self _ _) hUb
    have g7 : U / D ≤ 1000000000000 := Nat.le_trans (Nat.div_le_self _ _) hUb
    generalize U / (D + 1) = Q1 at *
    generalize U / D = Q2 at *
    have g8 : IntKind.i64.wrap (Q1 : Int) = (Q1 : Int) := IntWalk.i64_in _ (by omega)
    have g9 : IntKind.i64.wrap (Q2 : Int) = (Q2 : Int) := IntWalk.i64_in _ (by omega)
    go_quiet (fail)
    go_wp2
    go_ret2
    obtain ⟨_, _, h1, h2, h3, h4, h5⟩ := HR.out
    generalize X / Y = q at *
    exact ⟨mlo, mhi, rfl, ⟨by omega, by omega, by omega⟩, (Chg.refl _ w).drewN nq⟩
end Go.Proofs.Ytcjbndlhomokpaa
