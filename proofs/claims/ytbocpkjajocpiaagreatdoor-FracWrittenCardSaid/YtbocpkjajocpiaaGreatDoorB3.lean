/- The parts RefF, RandBound, RefG, RefH, WideP, WideQ, TextB, MemIn, TextC, TextD, TextE, RefI, RefJ, RefU, TextL, PureParse, TextM, SmallR, TextK, TextJ, FracTy, FracOps, FrB of the proof, in one text. -/
import Derived.IntWalk
import Derived.RangeFuncNested
import Derived.RangeFuncBound
import Derived.RangeFuncCalls
import Derived.RangeFuncLeaves
import Derived.Shelf.Abstract
import Derived.Shelf.RegionOpen
import Derived.WalkKit
import Derived.OwnWalkIn
import Derived.TacticsInMore
import Derived.LoopNIn
import Derived.LoopIn
import Derived.Lib.ConvBytes
import Derived.Deep.RegionHeld3
import Derived.Deep.CutRange
import Derived.Deep.LoopGhost
import Derived.Test.YtbocpkjajocpiaaGreatDoorB2
set_option linter.unusedSimpArgs false
set_option linter.unusedVariables false

namespace Go.Proofs.YtbocpkjajocpiaaGreatDoor
set_option linter.unusedVariables false
open Go.RowKit Go.Mem Go.Dig

theorem DM.chg {S : Nat → Prop} {w w' : World} {A : Option Addr} {n c m : Nat} (h : DM w A n c m) (hc : Chg S w w') (hs : ∀ k, blk A = some k → ¬ S k) : DM w' A n c m := by
  obtain ⟨l, h1, h2⟩ := h
  exact ⟨l, h1.chg hc (fun k hk _ => hs k hk), h2⟩
theorem DM.old {w w' : World} {A : Option Addr} {n c m g : Nat} (h : DM w A n c m) (hc : Chg (fun k => k = g) w w') (hg : w.heap.size ≤ g) : DM w' A n c m := by
  obtain ⟨l, h1, h2⟩ := h
  exact ⟨l, h1.chg hc (fun k _ hk e => by omega), h2⟩
/-- normal of digits without a sign: the same address. -/
theorem normal_dm (A : Option Addr) (n c : Nat) (l : List Nat) (w : World) (hr : Rd w A n (nv .i64 l)) (hd : Digs 10000 l) (hnc : n ≤ c) (hc : c ≤ 9223372036854775807) :
    Calls Tryz.prog 72 #[.bool false, .slice A n c] w fun e w' => ∃ T, e = .returned (.agg #[.bool false, .slice A T c]) ∧ DM w' A T c (val 10000 l) ∧ T ≤ n ∧ New w w' := by
  refine (normal_any false A n c l w hr hnc hc).mono ?_
  rintro e w' ⟨rfl, hn⟩
  have hll : l.length = n := by have := hr.len; rwa [nv_length] at this
  have hlen := trim_len l
  refine ⟨(Dig.trim l).length, by rw [Bool.false_and], ⟨Dig.trim l, ?_, by omega, hc, Num.of_trim hd⟩, by omega, hn⟩
  have := (hr.new hn).take (k := (Dig.trim l).length) (by omega)
  rwa [nv_take, ← trim_take] at this

set_option maxHeartbeats 1000000 in
theorem small_any (A : Option Addr) (n c x k : Nat) (w : World) (hx : DM w A n c x) (hn : n ≤ 1000000) (hk : k ≤ 9999) :
    Calls Tryz.prog 169 #[.slice A n c, .int .i64 k] w fun e w' => ∃ R m d, e = .returned (.slice R m d) ∧ DM w' R m d (x * k) ∧ New w w' := by
  have HX := Lib.hid hx
  clear hx
  go_enter Tryz.func169, Tryz.ntmps169
  go_wp2_with fail
  refine (of_any (k : Int) w (by omega) (by omega)).mono ?_
  rintro e w1 ⟨v1, rfl, ⟨s1, A1, n1, c1, rfl, hs1, hm1⟩, hn1⟩
  rw [show s1 = false by rw [hs1]; simp]
  have hn1l : n1 ≤ 1000000 := by
    have := hm1.len (k := 1) (by rw [Int.natAbs_natCast, Nat.pow_one]; omega)
    omega
  have H1 := Lib.hid (And.intro hm1 hn1)
  clear hs1 hm1 hn1
  go_wp2_with fail
  refine (rmul_dm false false A n c A1 n1 c1 x _ w1 (HX.out.new H1.out.2) H1.out.1 hn hn1l).mono ?_
  rintro e w2 ⟨v2, rfl, ⟨s2, A2, n2, c2, rfl, hs2, hm2⟩, hn2⟩
  rw [sg_abs, Int.natAbs_natCast] at hm2
  have H2 := Lib.hid (And.intro hm2 (H1.out.2.new hn2))
  clear hs2 hm2 hn2 H1
  go_wp2
  go_ret
  exact ⟨A2, n2, c2, rfl, H2.out.1.new ((Chg.refl _ _).alloc _), H2.out.2.alloc _⟩

set_option maxHeartbeats 1000000 in
theorem digits_any (A : Option Addr) (n c : Nat) (l : List Nat) (i : Int) (w : World) (hr : Rd w A n (nv .i64 l)) (hn : n ≤ 9223372036854775807) :
    Calls Tryz.prog 185 #[.slice A n c, .int .i64 i] w fun e w' => e = .returned (.int .i64 (dgI l i)) ∧ w = w' := by
  have hl : l.length = n := by have := hr.len; rwa [nv_length] at this
  by_cases h : i < 0
  · rw [dgI_neg h]
    clear hr hl
    go_enter Tryz.func185, Tryz.ntmps185
    go_wp2
    go_ret
    exact ⟨rfl, rfl⟩
  · obtain ⟨k, rfl⟩ : ∃ k : Nat, i = (k : Int) := ⟨i.toNat, by omega⟩
    rw [dgI_nat]
    have hng : decide ((k : Int) < 0) = false := by simp
    by_cases h1 : k < n
    · obtain ⟨ad, u, rfl, hu, hcu⟩ := hr.at_ h1
      obtain ⟨z, hz, rfl⟩ := nv_at hu
      rw [dg_some hz]
      have hlt : decide ((n : Int) ≤ (k : Int)) = false := by simp; omega
      have hlt' : decide (n ≤ k) = false := by simp; omega
      clear hr hl hu hz
      go_enter Tryz.func185, Tryz.ntmps185
      go_wp2
      go_ret
      exact ⟨rfl, rfl⟩
    · rw [dg_none (by omega)]
      have hlt : decide ((n : Int) ≤ (k : Int)) = true := by simp; omega
      have hlt' : decide (n ≤ k) = true := by simp; omega
      clear hr hl
      go_enter Tryz.func185, Tryz.ntmps185
      go_wp2
      go_ret
      exact ⟨rfl, rfl⟩

theorem min_9999 (P : Program) (y : Nat) : ∃ m : Nat, ((9999 ≤ y ∧ m = 9999) ∨ (y ≤ 9999 ∧ m = y)) ∧ ∀ ts t W, (Builtin.min_ ts t #[.int .i64 9999, .int .i64 (y : Int)]).run P W = .ok (.int .i64 (m : Int)) W := by
  rcases Nat.le_total 9999 y with h | h
  · exact ⟨9999, .inl ⟨h, rfl⟩, fun ts t W => run_min2 _ _ _ (.inl ⟨by omega, rfl⟩) ts t W⟩
  · exact ⟨y, .inr ⟨h, rfl⟩, fun ts t W => run_min2 _ _ _ (.inr ⟨by omega, rfl⟩) ts t W⟩
set_option maxRecDepth 100000 in
set_option maxHeartbeats 2000000 in
theorem digit_any (A : Option Addr) (n c : Nat) (A' : Option Addr) (n' c' : Nat) (X Y : Nat) (w : World) (hx : DM w A n c X) (hy : DM w A' n' c' Y) (hY : 1 ≤ Y) (hlt : X < 10000 * Y) :
    Calls Tryz.prog 168 #[.slice A n c, .slice A' n' c'] w fun e w' => ∃ lo hi : Nat, e = .returned (.tuple #[.int .i64 lo, .int .i64 hi]) ∧ (lo ≤ X / Y ∧ X / Y ≤ hi ∧ hi ≤ 9999) ∧ New w w' := by
  have hq9 : X / Y ≤ 9999 := by
    have : X / Y < 10000 := by rw [Nat.div_lt_iff_lt_mul (by omega)]; exact hlt
    omega
  obtain ⟨la, ha, hc1, hc2, hNa⟩ := hx
  obtain ⟨lb, hb, hd1, hd2, hNb⟩ := hy
  have hla : la.length = n := by have := ha.len; rwa [nv_length] at this
  have hlb : lb.length = n' := by have := hb.len; rwa [nv_length] at this
  have hn1 : 1 ≤ n' := by
    rcases Nat.eq_zero_or_pos n' with h | h
    · have := (hNb.nil_iff (by omega)).1 (List.eq_nil_of_length_eq_zero (by omega)); omega
    · exact h
  by_cases hs : n < n'
  · have h0 : X / Y = 0 := Nat.div_eq_of_lt (hNa.len_lt (by omega) hNb (by omega))
    have hsi : (n : Int) < (n' : Int) := by omega
    have H := Lib.hid h0
    clear ha hb hNa hNb hla hlb h0 hq9
    go_enter Tryz.func168, Tryz.ntmps168
    go_wp2
    go_ret2
    exact ⟨0, 0, rfl, ⟨Nat.zero_le _, by rw [H.out]; exact Nat.le_refl _, by omega⟩, Chg.refl _ _⟩
  · obtain ⟨hD, hlo, hhi⟩ := digit_bounds hNa hNb hY hlt
    rw [hlb] at hD hlo hhi
    have b1 := dgI_lt hNa.digs (by omega) (n' : Int)
    have b2 := dgI_lt hNa.digs (by omega) ((n' : Int) - 1)
    have b3 := dgI_lt hNa.digs (by omega) ((n' : Int) - 2)
    have b4 := dgI_lt hNb.digs (by omega) ((n' : Int) - 1)
    have b5 := dgI_lt hNb.digs (by omega) ((n' : Int) - 2)
    have f1 := fun W (h : Rd W A n (nv .i64 la)) => digits_any A n c la (n' : Int) W h (by omega)
    have f2 := fun W (h : Rd W A n (nv .i64 la)) => digits_any A n c la ((n' : Int) - 1) W h (by omega)
    have f3 := fun W (h : Rd W A n (nv .i64 la)) => digits_any A n c la ((n' : Int) - 2) W h (by omega)
    have f4 := fun W (h : Rd W A' n' (nv .i64 lb)) => digits_any A' n' c' lb ((n' : Int) - 1) W h (by omega)
    have f5 := fun W (h : Rd W A' n' (nv .i64 lb)) => digits_any A' n' c' lb ((n' : Int) - 2) W h (by omega)
    unfold upperD lowerD at hlo hhi
    unfold lowerD at hD
    generalize dgI la (n' : Int) = d1 at *
    generalize dgI la ((n' : Int) - 1) = d2 at *
    generalize dgI la ((n' : Int) - 2) = d3 at *
    generalize dgI lb ((n' : Int) - 1) = d4 at *
    generalize dgI lb ((n' : Int) - 2) = d5 at *
    obtain ⟨U, hU⟩ : ∃ U, 10000 * (10000 * d1 + d2) + d3 = U := ⟨_, rfl⟩
    obtain ⟨D, hDq⟩ : ∃ D, 10000 * d4 + d5 = D := ⟨_, rfl⟩
    rw [hU, hDq] at hlo hhi
    rw [hDq] at hD
    have hUi : (10000 : Int) * (10000 * (d1 : Int) + (d2 : Int)) + (d3 : Int) = (U : Int) := by omega
    have hDi : (10000 : Int) * (d4 : Int) + (d5 : Int) = (D : Int) := by omega
    have hUb : U ≤ 1000000000000 := by omega
    have hDb : D ≤ 100000000 := by omega
    obtain ⟨mlo, hmlo, hmin1⟩ := min_9999 Tryz.prog (U / (D + 1))
    obtain ⟨mhi, hmhi, hmin2⟩ := min_9999 Tryz.prog (U / D)
    have hge : decide ((n : Int) < (n' : Int)) = false := by simp; omega
    have hge' : decide (n < n') = false := by simp; omega
    have hnz : ((n' : Int) == 0) = false := by simp; omega
    have HF := Lib.hid (And.intro f1 (And.intro f2 (And.intro f3 (And.intro f4 f5))))
    have HR := Lib.hid (And.intro ha (And.intro hb (And.intro hmlo (And.intro hmhi (And.intro hlo (And.intro hhi hq9))))))
    clear f1 f2 f3 f4 f5 ha hb hmlo hmhi hlo hhi hq9 hNa hNb hla hlb hU hDq hlt
    go_enter Tryz.func168, Tryz.ntmps168
    go_wp2_with fail
    refine (HF.out.1 w HR.out.1).mono ?_
    rintro e w1 ⟨rfl, rfl⟩
    go_wp2_with fail
    refine (HF.out.2.1 w HR.out.1).mono ?_
    rintro e w1 ⟨rfl, rfl⟩
    go_wp2_with fail
    refine (HF.out.2.2.1 w HR.out.1).mono ?_
    rintro e w1 ⟨rfl, rfl⟩
    go_wp2_with fail
    refine (HF.out.2.2.2.1 w HR.out.2.1).mono ?_
    rintro e w1 ⟨rfl, rfl⟩
    go_wp2_with fail
    refine (HF.out.2.2.2.2 w HR.out.2.1).mono ?_
    rintro e w1 ⟨rfl, rfl⟩
    go_wp2_with fail
    have g1 : IntKind.i64.wrap ((D : Int) + 1) = (D : Int) + 1 := IntWalk.i64_in _ (by omega)
    have g2 : ((D : Int) + 1 == 0) = false := by simp; omega
    have g3 : ((D : Int) == 0) = false := by simp; omega
    have g4 : (U : Int).tdiv ((D : Int) + 1) = ((U / (D + 1) : Nat) : Int) := by rw [Int.tdiv_eq_ediv_of_nonneg (by omega)]; simp
    have g5 : (U : Int).tdiv (D : Int) = ((U / D : Nat) : Int) := by rw [Int.tdiv_eq_ediv_of_nonneg (by omega)]; simp
    have g6 : U / (D + 1) ≤ 1000000000000 := Nat.le_trans (Nat.div_le_self _ _) hUb
    have g7 : U / D ≤ 1000000000000 := Nat.le_trans (Nat.div_le_self _ _) hUb
    generalize U / (D + 1) = Q1 at *
    generalize U / D = Q2 at *
    have g8 : IntKind.i64.wrap (Q1 : Int) = (Q1 : Int) := IntWalk.i64_in _ (by omega)
    have g9 : IntKind.i64.wrap (Q2 : Int) = (Q2 : Int) := IntWalk.i64_in _ (by omega)
    go_quiet (fail)
    go_wp2
    go_ret2
    obtain ⟨_, _, h1, h2, h3, h4, h5⟩ := HR.out
    generalize X / Y = q at *
    exact ⟨mlo, mhi, rfl, ⟨by omega, by omega, by omega⟩, (Chg.refl _ w).drewN nq⟩
end Go.Proofs.YtbocpkjajocpiaaGreatDoor

namespace Go.Proofs.YtbocpkjajocpiaaGreatDoor
set_option linter.unusedVariables false
open Go.RowKit Go.Mem

theorem max_ex (P : Program) (x y : Int) : ∃ m, ((x ≤ y ∧ m = y) ∨ (y ≤ x ∧ m = x)) ∧ ∀ ts t W, (Builtin.max_ ts t #[.int .i64 x, .int .i64 y]).run P W = .ok (.int .i64 m) W := by
  rcases Int.le_total x y with h | h
  · exact ⟨y, .inl ⟨h, rfl⟩, fun ts t W => run_max2 _ _ _ (.inl ⟨h, rfl⟩) ts t W⟩
  · exact ⟨x, .inr ⟨h, rfl⟩, fun ts t W => run_max2 _ _ _ (.inr ⟨h, rfl⟩) ts t W⟩

end Go.Proofs.YtbocpkjajocpiaaGreatDoor

namespace Go.Proofs.YtbocpkjajocpiaaGreatDoor
set_option linter.unusedVariables false
open Go.RowKit Go.Mem Go.Dig

theorem own_lit {w : World} {cs : Array Value} {e : TypeId} {n : Nat} (h : cs.size = n) (hn : n ≤ maxLen) : (w.alloc (.cells cs e)).ownsRow w.heap.size e 1 (.slice (some ⟨w.heap.size, 0, none⟩) n n) n cs.toList :=
  World.ownsRow_lit (e := e) (size := 1) w cs n (Nat.le_refl _) hn (by rw [Nat.mul_one]; exact h)

/-- What the outer loop holds. -/
def DvI (w1 : World) (g : Nat) (la : List Nat) (y n j : Nat) (R : Option Addr) (m d : Nat) (wr : World) : Prop :=
  ∃ q r, DivI 10000 la y j q r ∧ wr.ownsRow g 3 1 (.slice (some ⟨g, 0, none⟩) n n) n (nv .i64 q) ∧ DM wr R m d r ∧ (0 < m → blk R ≠ some g) ∧ Chg (fun k => k = g) w1 wr

set_option maxRecDepth 100000 in
set_option maxHeartbeats 4000000 in
theorem divided_any (A : Option Addr) (n c : Nat) (A' : Option Addr) (n' c' : Nat) (x y : Nat) (w : World) (hx : DM w A n c x) (hy : DM w A' n' c' y) (hn : n ≤ 1000000) (hn' : n' ≤ 900000) (hy1 : 1 ≤ y) :
    Calls Tryz.prog 138 #[.slice A n c, .slice A' n' c'] w fun e w' => ∃ Q k d R m d', e = .returned (.tuple #[.slice Q k d, .slice R m d']) ∧ OM w' w.heap.size Q k d (x / y) ∧ DM w' R m d' (x % y) ∧ New w w' := by
  have HY := Lib.hid hy
  obtain ⟨la, ha, hc1, hc2, hNa⟩ := hx
  have hla : la.length = n := by have := ha.len; rwa [nv_length] at this
  have hyp : 1 ≤ n' := by
    rcases Nat.eq_zero_or_pos n' with h | h
    · have := hy.pos.1 h; omega
    · exact h
  -- where the division begins
  obtain ⟨m1, hm1, hmin⟩ : ∃ m1 : Int, (((n : Int) ≤ (n : Int) - (n' : Int) + 1 ∧ m1 = n) ∨ ((n : Int) - (n' : Int) + 1 ≤ n ∧ m1 = (n : Int) - (n' : Int) + 1)) ∧ ∀ ts t W, (Builtin.min_ ts t #[.int .i64 (n : Int), .int .i64 ((n : Int) - (n' : Int) + 1)]).run Tryz.prog W = .ok (.int .i64 m1) W := by
    rcases Int.le_total (n : Int) ((n : Int) - (n' : Int) + 1) with h | h
    · exact ⟨_, .inl ⟨h, rfl⟩, fun ts t W => run_min2 _ _ _ (.inl ⟨h, rfl⟩) ts t W⟩
    · exact ⟨_, .inr ⟨h, rfl⟩, fun ts t W => run_min2 _ _ _ (.inr ⟨h, rfl⟩) ts t W⟩
  obtain ⟨m2, hm2, hmax⟩ := max_ex Tryz.prog 0 m1
  obtain ⟨f, hf⟩ : ∃ f : Nat, m2 = (f : Int) := ⟨m2.toNat, by omega⟩
  subst hf
  have hfn : f ≤ n := by omega
  have hfl : n - f < n' := by omega
  have htop : val 10000 (la.drop f) < y := by
    have h1 := hNa.digs.drop f
    obtain ⟨lb, hb, _, _, hNb⟩ := hy
    have hlb : lb.length = n' := by have := hb.len; rwa [nv_length] at this
    have h2 := (Num.of_trim h1).len_lt (by omega) hNb (by have := trim_len (la.drop f); rw [List.length_drop] at this; omega)
    exact h2
  have hcut := fun W => run_cut elemInts .i64 A n c f (f : Int) rfl hfn W
  have H0 := Lib.hid (And.intro ha (And.intro hNa (And.intro hla htop)))
  clear ha hNa hla htop hy hm1 hm2
  go_enter Tryz.func138, Tryz.ntmps138
  go_wp2_with (at_make; refine wpList_mk elemInts rfl rfl _ _ rfl (n := n) rfl rfl rfl rfl (by omega) (by simp only [maxLen]; omega) ?_; intro w1 hown hg hz; have HMK := Lib.hid (And.intro hown (And.intro hg hz)); clear hown hg hz)
  obtain ⟨ha, hNa, hla, htop⟩ := H0.out
  obtain ⟨ho, hg, hz⟩ := HMK.out
  have hr1 : Rd w1 (cutA A c f) (n - f) (nv .i64 (la.drop f)) := by
    have := (ha.new hg).cutA (k := f) hfn hc1
    rwa [nv_drop] at this
  refine (normal_dm (cutA A c f) (n - f) (c - f) (la.drop f) w1 hr1 (hNa.digs.drop f) (by omega) (by omega)).mono ?_
  rintro e w2 ⟨T, rfl, hdm, hT, hn2⟩
  have hbA : 0 < T → blk (cutA A c f) ≠ some w.heap.size := by
    intro hT0
    rw [blk_cutA]
    intro hb
    obtain ⟨ad, u, rfl, _, hcu⟩ := ha.at_ (show 0 < n by omega)
    have h1 := World.block_lt_of_cell? w _ hcu
    rw [block_add] at h1
    simp [blk] at hb
    omega
  rw [show List.replicate n (Value.int .i64 0) = nv .i64 (List.replicate n 0) by simp [nv]] at ho
  obtain ⟨W, hW⟩ : ∃ W, w2.alloc (.cells #[.bool false, .slice (cutA A c f) T (c - f)] 26) = W := ⟨_, rfl⟩
  have hnW : New w2 W := by rw [← hW]; exact (Chg.refl _ w2).alloc _
  have hDv : DvI w1 w.heap.size la y n f (cutA A c f) T (c - f) W := by
    refine ⟨List.replicate n 0, val 10000 (la.drop f), ?_, own_chg ho (hn2.new hnW) (fun _ _ h => h), hdm.new hnW, hbA, (hn2.new hnW).mono (fun _ _ h => h.elim)⟩
    have := DivI.start (B := 10000) (a := la) (by omega) htop
    rwa [hla] at this
  have HI := Lib.hid (And.intro hDv (And.intro hg hz))
  have HWQ := Lib.hid hW
  clear ha hNa hla htop ho hr1 hdm hg hn2 hbA hz HMK hmin hmax hcut hnW hDv hW
  go_wp2_with fail
  rw [HWQ.out]
  clear HWQ
  obtain ⟨g, hgq⟩ : ∃ g, w.heap.size = g := ⟨_, rfl⟩
  rw [hgq] at HI
  have HG := Lib.hid hgq
  simp only [hgq]
  clear hgq
  generalize cutA A c f = R0 at *
  go_loopw [9, 10] (fun v i wr => ∃ j m d : Nat, ∃ R, v = .slice R m d ∧ i = .int .i64 ((j : Int) - 1) ∧ j ≤ f ∧ Hid (DvI w1 g la y n j R m d wr)) (fun _ i _ => (intOf i + 1).toNat)
  case atStart => exact ⟨f, T, c - f, R0, rfl, rfl, Nat.le_refl _, HI.out.1⟩
  case round =>
    obtain ⟨j, m, d, R, rfl, rfl, hj, HD⟩ := hrel
    by_cases h0 : j = 0
    · subst h0
      go_wp2
      go_ret2
      obtain ⟨q, r, hdiv, ho, hdm, _, hch⟩ := HD.out
      obtain ⟨hq, hr⟩ := hdiv.done
      rw [H0.out.2.1.val] at hq hr
      rw [hr] at hdm
      refine ⟨_, _, _, _, _, _, rfl, ⟨q, by rw [HG.out]; exact ho, hdiv.digs, hq⟩, hdm, ?_⟩
      exact HI.out.2.1.trans hch (fun k hk e => by have := HG.out; omega)
    · obtain ⟨i, rfl⟩ : ∃ i, j = i + 1 := ⟨j - 1, by omega⟩
      have hij : (((i + 1 : Nat) : Int) - 1) = (i : Int) := by omega
      rw [hij]
      obtain ⟨wo, rfl⟩ : ∃ wo : World, wo = wr := ⟨_, rfl⟩
      obtain ⟨q, r, hdiv, hoq, ⟨lr, hrr, hmd, hdm, hNr⟩, _, hch⟩ := HD.out
      have hch0 : Chg (fun k => k = g) w wo := (HI.out.2.1.mono (fun _ _ h => h.elim)).trans hch (fun _ _ h => h)
      obtain ⟨ha, hNa, hla, htop⟩ := H0.out
      obtain ⟨ad, u, rfl, hu, hcu⟩ := (ha.chg hch0 (fun k _ h e => by have := HG.out; omega)).at_ (show i < n by omega)
      obtain ⟨p, hp, rfl⟩ := nv_at hu
      have hpb := hNa.digs.at_ hp
      have hgo : g < wo.heap.size := by
        have := HI.out.2.2
        have := HG.out
        have := hch.size
        omega
      have hmn : m ≤ n' := by
        obtain ⟨lb, hb, _, _, hNb⟩ := HY.out
        have hlb : lb.length = n' := by have := hb.len; rwa [nv_length] at this
        have hlr : lr.length = m := by have := hrr.len; rwa [nv_length] at this
        rcases Nat.lt_or_ge n' m with h | h
        · have h5 := hNb.len_lt (by omega) hNr (by omega)
          have h6 := hdiv.rest
          omega
        · exact h
      have hXlt := hdiv.quo_lt hNa.digs (by omega)
      have hstep := hdiv.step hNa.digs (by omega) (by omega)
      rw [dg_some hp] at hXlt hstep
      obtain ⟨X, hX⟩ : ∃ X, 10000 * r + p = X := ⟨_, rfl⟩
      rw [hX] at hXlt hstep
      have HP := Lib.hid (And.intro hp (And.intro hch0 (And.intro hX (And.intro hXlt (And.intro hstep (And.intro hoq hch))))))
      have HR := Lib.hid (And.intro hNr hrr)
      clear ha hNa hla htop hu hp hch0 hNr hrr hij hdiv hoq hch hX hXlt hstep
      go_wp2_with (at_builtin; refine wpList_app elemInts rfl _ _ rfl rfl (own_lit rfl (by simp only [maxLen]; omega)) rfl (HR.out.2.new ((Chg.refl _ _).alloc _)) (nv_one _) (by simp only [maxLen]; omega) (by omega) (by simp) ?_; intro A3 c3 w3 hown hg3 hat; have HA := Lib.hid (And.intro hown hg3); clear hown hg3 hat)
      obtain ⟨ho3, hg3⟩ := HA.out
      have ho3' : w3.ownsRow wo.heap.size 3 1 (.slice A3 (1 + m) c3) (1 + m) (nv .i64 (p :: lr)) := ho3
      have hn3 : New wo w3 := ((Chg.refl _ wo).alloc _).grown hg3 (fun k hk hlt => by simp [blk] at hk; omega)
      have hcap := own_cap ho3'
      have hval : val 10000 (p :: lr) = X := by rw [val_cons, HR.out.1.val, ← HP.out.2.2.1]; omega
      refine (normal_dm A3 (1 + m) c3 (p :: lr) w3 (Rd.of_own ho3') (Digs.cons hpb HR.out.1.digs) hcap.1 hcap.2).mono ?_
      rintro e w4 ⟨T4, rfl, hdm4, hT4, hn4⟩
      rw [hval] at hdm4
      have hA3 : ∀ k, blk A3 = some k → g < k := fun k hk => by have := own_blk_le ho3' hk; omega
      have H4 := Lib.hid (And.intro hdm4 (And.intro (hn3.new hn4) hA3))
      clear ho3 hg3 ho3' hn3 hcap hval hdm4 hn4 hA3 HA HR hcu
      go_wp2_with fail
      refine Calls.new1 ?_
      intro W5 hb5 hn5 hz5
      obtain ⟨hdm4, hn4, hA3⟩ := H4.out
      have hch5 : Chg (fun k => k = g) w W5 := HP.out.2.1.trans (hn4.new hn5) (fun _ _ h => h.elim)
      refine (digit_any A3 T4 c3 A' n' c' X y W5 (hdm4.new hn5) (HY.out.old hch5 (by rw [HG.out]; exact Nat.le_refl _)) hy1 HP.out.2.2.2.1).mono ?_
      rintro e w6 ⟨lo0, hi0, rfl, ⟨hlo0, hhi0, hhi9⟩, hn6⟩
      obtain ⟨Q, hQ⟩ : ∃ Q, X / y = Q := ⟨_, rfl⟩
      rw [hQ] at hlo0 hhi0
      have H6 := Lib.hid (And.intro ((hdm4.new hn5).new hn6) (And.intro (hn4.new (hn5.new hn6)) (And.intro hA3 (And.intro hQ (hch5.trans hn6 (fun _ _ h => h.elim))))))
      clear hb5 hn5 hz5 hdm4 hn4 hA3 hch5 hn6 hQ H4
      go_wp2_with fail
      go_loopw [12, 13] (fun a b wr => ∃ lo hi : Nat, a = .int .i64 lo ∧ b = .int .i64 hi ∧ lo ≤ Q ∧ Q ≤ hi ∧ hi ≤ 9999 ∧ Hid (New w6 wr)) (fun a b _ => (intOf b - intOf a).toNat)
      case atStart => exact ⟨lo0, hi0, rfl, rfl, hlo0, hhi0, hhi9, Chg.refl _ _⟩
      case round =>
        obtain ⟨wi, rfl⟩ : ∃ wi : World, wi = wr := ⟨_, rfl⟩
        obtain ⟨lo, hi, rfl, rfl, hlo, hhi, hh9, HN⟩ := hrel
        obtain ⟨hdmX, hn6, hA3, hQ, hch6⟩ := H6.out
        have hdmX2 := hdmX.new HN.out
        have hdmY := HY.out.old (hch6.trans HN.out (fun _ _ h => h.elim)) (by rw [HG.out]; exact Nat.le_refl _)
        have HXY := Lib.hid (And.intro hdmX2 hdmY)
        clear hdmX hn6 hA3 hQ hch6 hdmX2 hdmY
        by_cases hlt : lo < hi
        · have hlti : (lo : Int) < (hi : Int) := by omega
          obtain ⟨mid, hmid⟩ : ∃ mid, (lo + hi + 1) / 2 = mid := ⟨_, rfl⟩
          have hmi : ((lo : Int) + (hi : Int) + 1) / 2 = (mid : Int) := by omega
          have hm1 : lo < mid := by omega
          have hm2 : mid ≤ hi := by omega
          clear hmid
          go_wp2_with fail
          refine (small_any A' n' c' y mid wi HXY.out.2 (by omega) (by omega)).mono ?_
          rintro e w7 ⟨R7, m7, d7, rfl, hdm7, hn7⟩
          have H7 := Lib.hid (And.intro hdm7 hn7)
          clear hdm7 hn7
          go_wp2_with fail
          refine (compared_any R7 m7 d7 A3 T4 c3 (y * mid) X w7 H7.out.1 (HXY.out.1.new H7.out.2)).mono ?_
          rintro e w8 ⟨rfl, q8, hq8⟩
          have hn8 : New w6 w8 := by
            have := HN.out.new H7.out.2
            show Chg _ _ _
            rw [hq8]
            exact this.drewN q8
          have HN8 := Lib.hid hn8
          have hiff : y * mid ≤ X ↔ mid ≤ Q := by
            rw [← H6.out.2.2.2.1, Nat.le_div_iff_mul_le (by omega), Nat.mul_comm]
          clear hq8 hn8
          by_cases hc : mid ≤ Q
          · have hcv : decide (cmpI ((y * mid : Nat) : Int) (X : Int) ≤ 0) = true := by
              have := hiff.2 hc
              unfold cmpI
              split
              · decide
              · rw [if_neg (by omega)]; decide
            generalize cmpI ((y * mid : Nat) : Int) (X : Int) = cv at *
            clear hiff
            go_wp2
            go_roundw
            case rel => exact ⟨mid, hi, rfl, rfl, hc, hhi, hh9, HN8.out⟩
            case measure => simp [intOf]; omega
          · have hcv : decide (cmpI ((y * mid : Nat) : Int) (X : Int) ≤ 0) = false := by
              have : ¬ y * mid ≤ X := fun h => hc (hiff.1 h)
              rw [cmpI_gt (by omega)]
              decide
            generalize cmpI ((y * mid : Nat) : Int) (X : Int) = cv at *
            clear hiff
            go_wp2
            go_roundw
            case rel => exact ⟨lo, mid - 1, rfl, by go_num, hlo, by omega, by omega, HN8.out⟩
            case measure => simp [intOf]; omega
        · obtain rfl : lo = Q := by omega
          have hlti : decide ((lo : Int) < (hi : Int)) = false := by simp; omega
          have hlti' : decide (lo < hi) = false := by simp; omega
          go_wp2_with fail
          refine (small_any A' n' c' y lo wi HXY.out.2 (by omega) (by omega)).mono ?_
          rintro e w7 ⟨R7, m7, d7, rfl, hdm7, hn7⟩
          have H7 := Lib.hid (And.intro hdm7 hn7)
          clear hdm7 hn7
          have hle : y * lo ≤ X := by rw [← H6.out.2.2.2.1]; exact Nat.mul_div_le X y
          go_wp2_with fail
          refine (minus_any A3 T4 c3 R7 m7 d7 X (y * lo) w7 (HXY.out.1.new H7.out.2) H7.out.1 hle (by omega)).mono ?_
          rintro e w8 ⟨R8, m8, d8, rfl, ⟨l8, ho8, hd8, hv8⟩, hn8⟩
          have hcap8 := own_cap ho8
          have HN8 := Lib.hid (HN.out.new (H7.out.2.new hn8))
          have hsz8 : g < w7.heap.size := by
            have h1 := H6.out.2.1.size
            have h2 := HN.out.size
            have h3 := H7.out.2.size
            omega
          have H8 := Lib.hid (And.intro ho8 (And.intro hd8 (And.intro hv8 (And.intro hcap8 hn8))))
          clear ho8 hd8 hv8 hcap8 hn8 hle
          go_wp2_with fail
          obtain ⟨ho8, hd8, hv8, hcap8, hn8⟩ := H8.out
          refine (normal_dm R8 m8 d8 l8 w8 (Rd.of_own ho8) hd8 hcap8.1 hcap8.2).mono ?_
          rintro e w9 ⟨T9, rfl, hdm9, hT9, hn9⟩
          rw [hv8] at hdm9
          have hgR : blk R8 ≠ some g := fun e => by have := own_blk_le ho8 e; omega
          have hnow : New wo w9 := H6.out.2.1.new (HN8.out.new hn9)
          have hoW := own_chg HP.out.2.2.2.2.2.1 hnow (fun _ _ h => h)
          have hql : q.length = n := by have := HP.out.2.2.2.2.2.1.1; rw [nv_length] at this; omega
          obtain ⟨z, hz⟩ : ∃ z, q[i]? = some z := ⟨_, List.getElem?_eq_getElem (by omega)⟩
          have hcz := own_cell hoW (i := i) (u := .int .i64 (z : Nat)) (by rw [nv, List.getElem?_map, hz]; rfl)
          obtain ⟨gg, hgg, _, hgs, hfz⟩ := own_form hoW (by omega)
          have hgg' : g = gg := by simpa using hgg
          subst hgg'
          have hf := hfz i
          have HFin : Hid (DM w9 R8 T9 d8 (X - y * lo) ∧ w9.ownsRow g 3 1 (.slice (some ⟨g, 0, none⟩) n n) n (nv .i64 q) ∧ New wo w9) := ⟨hdm9, hoW, hnow⟩
          have HGR := Lib.hid hgR
          have hin : (i : Int) < (n : Int) := by omega
          have hinn : i < n := by omega
          clear ho8 hd8 hv8 hcap8 hn8 hdm9 hn9 hgR hnow hoW hql hz hgg hfz H8 HN8 HN H7 HXY
          go_wp2
          go_roundw
          case rel =>
            obtain ⟨hdm9, ho9, hn9⟩ := HFin.out
            obtain ⟨_, _, _, _, hstep, _, hch⟩ := HP.out
            have hset := own_set ho9 i (.int .i64 (lo : Int)) hinn
            rw [nv_set] at hset
            have hQ := H6.out.2.2.2.1
            rw [hQ] at hstep
            have hmod : X % y = X - y * lo := by rw [← hQ]; have := Nat.div_add_mod X y; omega
            rw [hmod] at hstep
            refine ⟨i, T9, d8, R8, rfl, rfl, by omega, q.set i lo, X - y * lo, hstep, hset.alloc _, ?_, fun _ => HGR.out, ?_⟩
            · exact (hdm9.chg ((Chg.refl (fun k => k = g) w9).setCell (p := ⟨g, i, none⟩) (fun _ => rfl) _) (fun k hk e => HGR.out (by rw [hk, e]))).new ((Chg.refl _ _).alloc _)
            · exact ((hch.trans (hn9.mono (fun _ _ h => h.elim)) (fun _ _ h => h)).setCell (fun _ => rfl) _).alloc _
          case measure => simp [intOf]
end Go.Proofs.YtbocpkjajocpiaaGreatDoor

namespace Go.Proofs.YtbocpkjajocpiaaGreatDoor
set_option linter.unusedVariables false
open Go.RowKit Go.Mem Go.Dig

/-- Quotient and rest by the amounts. -/
theorem ediv_pos' (s t : Bool) (X Y : Nat) (hY : 1 ≤ Y) (h : s = false ∨ X % Y = 0) : sg s X / sg t Y = sg (s != t) (X / Y : Nat) ∧ sg s X % sg t Y = ((X % Y : Nat) : Int) := by
  have hd := Nat.div_add_mod X Y
  have key : ∀ t : Bool, sg s X / (Y : Int) = sg s (X / Y : Nat) ∧ sg s X % (Y : Int) = ((X % Y : Nat) : Int) := by
    intro _
    rw [Int.ediv_emod_unique (by omega)]
    have hm := Nat.mod_lt X (show 0 < Y by omega)
    refine ⟨?_, by omega, by omega⟩
    rcases h with rfl | h
    · simp only [sg]
      have e : ((Y * (X / Y) + X % Y : Nat) : Int) = (X : Int) := by rw [hd]
      simp at e ⊢
      omega
    · rw [h] at hd ⊢
      have e : ((Y * (X / Y) + 0 : Nat) : Int) = (X : Int) := by rw [hd]
      cases s
      · simp [sg] at e ⊢; omega
      · simp [sg, Int.mul_neg] at e ⊢; omega
  obtain ⟨k1, k2⟩ := key true
  cases t
  · show sg s X / (Y : Int) = sg (s != false) (X / Y : Nat) ∧ sg s X % (Y : Int) = _
    rw [k1, k2]
    cases s <;> simp
  · show sg s X / (-(Y : Int)) = sg (s != true) (X / Y : Nat) ∧ sg s X % (-(Y : Int)) = _
    rw [Int.ediv_neg, Int.emod_neg, k1, k2]
    cases s <;> simp [sg]
theorem ediv_neg' (t : Bool) (X Y : Nat) (hY : 1 ≤ Y) (h : X % Y ≠ 0) : sg true X / sg t Y = sg (true != t) (X / Y + 1 : Nat) ∧ sg true X % sg t Y = ((Y - X % Y : Nat) : Int) := by
  have hd := Nat.div_add_mod X Y
  have hm := Nat.mod_lt X (show 0 < Y by omega)
  have key : sg true X / (Y : Int) = -((X / Y + 1 : Nat) : Int) ∧ sg true X % (Y : Int) = ((Y - X % Y : Nat) : Int) := by
    rw [Int.ediv_emod_unique (by omega)]
    refine ⟨?_, by omega, by omega⟩
    have e : ((Y * (X / Y) + X % Y : Nat) : Int) = (X : Int) := by rw [hd]
    simp only [sg]
    rw [Int.mul_neg, show ((Y : Int) * ((X / Y + 1 : Nat) : Int)) = (Y : Int) * (X / Y : Nat) + Y by rw [Int.natCast_add, Int.mul_add]; simp]
    rw [Int.natCast_add, Int.natCast_mul] at e
    simp only [if_true]
    omega
  obtain ⟨k1, k2⟩ := key
  cases t
  · show sg true X / (Y : Int) = sg (true != false) (X / Y + 1 : Nat) ∧ sg true X % (Y : Int) = _
    rw [k1, k2]
    simp [sg]
  · show sg true X / (-(Y : Int)) = sg (true != true) (X / Y + 1 : Nat) ∧ sg true X % (-(Y : Int)) = _
    rw [Int.ediv_neg, Int.emod_neg, k1, k2]
    simp [sg]

theorem sg_lt {s : Bool} {m k : Nat} (h : m < 2 ^ k) : (sg s m).natAbs < 2 ^ k := by rw [sg_abs]; exact h
theorem res_cc {P : Program} {fn : Func} {p q : Tmp} {ty ty2 : TypeId} {w : World} {g g2 : Nat} (h : fn.results = #[.cell p ty, .cell q ty2]) (tmps : Array Value) (hp : tmps.getD p undef = .pointer (some ⟨g, 0, none⟩)) {v v2 : Value} (hl : (loadVar ty ⟨g, 0, none⟩).run P w = .ok v w)
    (hq : tmps.getD q undef = .pointer (some ⟨g2, 0, none⟩)) (hl2 : (loadVar ty2 ⟨g2, 0, none⟩).run P w = .ok v2 w) : (results fn tmps).run P w = .ok (.tuple #[v, v2]) w := by
  have hp' : tmps[p]?.getD undef = .pointer (some ⟨g, 0, none⟩) := by simpa using hp
  have hq' : tmps[q]?.getD undef = .pointer (some ⟨g2, 0, none⟩) := by simpa using hq
  simp [results, h, hp', hq', asAddr, hl, hl2]
/-- Two structs are stored, one behind the other. -/
def set22 (W : World) (g g' : Nat) (p q r u : Value) : World := (((W.setCell ⟨g, 0, none⟩ p).setCell ⟨g, 1, none⟩ q).setCell ⟨g', 0, none⟩ r).setCell ⟨g', 1, none⟩ u
theorem blk22 {W : World} {g g' : Nat} {t t' : TypeId} {a b c d : Value} (h : Blk W g t #[a, b]) (h' : Blk W g' t' #[c, d]) (hne : g ≠ g') (p q r u : Value) : Blk (set22 W g g' p q r u) g t #[p, q] ∧ Blk (set22 W g g' p q r u) g' t' #[r, u] :=
  ⟨((h.set2 p q).far (p := ⟨g', 0, none⟩) hne r).far (p := ⟨g', 1, none⟩) hne u, ((h'.far (p := ⟨g, 0, none⟩) (fun e => hne e.symm) p).far (p := ⟨g, 1, none⟩) (fun e => hne e.symm) q).set2 r u⟩
theorem chg22 (W : World) (g g' : Nat) (p q r u : Value) : Chg (fun k => k = g ∨ k = g') W (set22 W g g' p q r u) :=
  ((((Chg.refl _ W).setCell (p := ⟨g, 0, none⟩) (fun _ => .inl rfl) p).setCell (p := ⟨g, 1, none⟩) (fun _ => .inl rfl) q).setCell (p := ⟨g', 0, none⟩) (fun _ => .inr rfl) r).setCell (p := ⟨g', 1, none⟩) (fun _ => .inr rfl) u
theorem DM.store22 {W : World} {A : Option Addr} {n k m g g' : Nat} {t t' : TypeId} {a b c d : Value} (hm : DM W A n k m) (h : Blk W g t #[a, b]) (h' : Blk W g' t' #[c, d]) (hne : g ≠ g') (hi : NoInt [a, b]) (hi' : NoInt [c, d]) (p q r u : Value) : DM (set22 W g g' p q r u) A n k m :=
  (hm.store h hi (Chg.at2 W g p q)).store ((h'.far (p := ⟨g, 0, none⟩) (fun e => hne e.symm) p).far (p := ⟨g, 1, none⟩) (fun e => hne e.symm) q) hi' (Chg.at2 _ g' r u)

set_option maxRecDepth 100000 in
set_option maxHeartbeats 4000000 in
theorem rdiv_dm (s s' : Bool) (A : Option Addr) (n c : Nat) (A' : Option Addr) (n' c' : Nat) (x y : Nat) (w : World) (hx : DM w A n c x) (hy : DM w A' n' c' y) (hn : n ≤ 1000000) (hn' : n' ≤ 900000) (hy1 : 1 ≤ y) (bx : x < 2 ^ 1000000) :
    Calls Tryz.prog 103 #[.agg #[.bool s, .slice A n c], .agg #[.bool s', .slice A' n' c']] w fun e w' => ∃ v v', e = .returned (.tuple #[v, v']) ∧ RN w' v (sg s x / sg s' y) ∧ RN w' v' (sg s x % sg s' y) ∧ New w w' := by
  obtain ⟨ZQ, hZQ⟩ : ∃ Z, sg s x / sg s' y = Z := ⟨_, rfl⟩
  obtain ⟨ZR, hZR⟩ : ∃ Z, sg s x % sg s' y = Z := ⟨_, rfl⟩
  rw [hZQ, hZR]
  have HZ := Lib.hid (And.intro hZQ hZR)
  have H0 := Lib.hid (And.intro hx (And.intro hy bx))
  clear hx hy bx hZQ hZR
  go_enter Tryz.func103, Tryz.ntmps103
  go_wp2_with fail
  refine Calls.new4 ?_
  intro W hb1 hb2 hb3 hb4 hnW hzW
  refine (divided_any A n c A' n' c' x y W (H0.out.1.new hnW) (H0.out.2.1.new hnW) hn hn' hy1).mono ?_
  rintro e w1 ⟨Q, kq, dq, R, mr, dr, rfl, ⟨lq, hoq, hdq, hvq⟩, hdr, hn1⟩
  have hc1 := hb1.chg hn1 (fun h => h)
  have hc2 := hb2.chg hn1 (fun h => h)
  have ha0 := hc1.cell 0 (u := .bool s) rfl
  have hb0 := hc2.cell 0 (u := .bool s') rfl
  have H1 := Lib.hid (And.intro hc1 (And.intro hc2 (And.intro (hb3.chg hn1 (fun h => h)) (And.intro (hb4.chg hn1 (fun h => h)) (And.intro (hnW.new hn1) (And.intro hdr (And.intro hoq (And.intro hdq hvq))))))))
  clear hb1 hb2 hb3 hb4 hnW hzW hoq hdq hvq hdr hn1 hc1 hc2
  go_wp2_with fail
  obtain ⟨hc1, hc2, hc3, hc4, hnw, hdr, hoq, hdq, hvq⟩ := H1.out
  have hcapq := own_cap hoq
  refine (normal_rn (s != s') Q kq dq lq w1 (Rd.of_own hoq) hdq hcapq.1 hcapq.2).mono ?_
  rintro e w2 ⟨v2, rfl, ⟨s2, A2, n2, c2, rfl, hs2, hm2⟩, hn2⟩
  rw [hvq] at hs2 hm2
  have H2 := Lib.hid (And.intro (hc1.chg hn2 (fun h => h)) (And.intro (hc2.chg hn2 (fun h => h)) (And.intro (hc3.chg hn2 (fun h => h)) (And.intro (hc4.chg hn2 (fun h => h)) (And.intro (hnw.new hn2) (And.intro (hdr.new hn2) (And.intro hs2 hm2)))))))
  clear hc1 hc2 hc3 hc4 hnw hdr hoq hdq hvq hcapq hs2 hm2 hn2 H1 ha0 hb0
  go_wp2_with fail
  refine Calls.new1 ?_
  intro W3 hb5 hn3 hz3
  obtain ⟨hc1, hc2, hc3, hc4, hnw, hdr, hs2, hm2⟩ := H2.out
  obtain ⟨lr, hrr, hrc, hrm, hNr⟩ := hdr.new hn3
  refine (normal_dm R mr dr lr W3 hrr hNr.digs hrc hrm).mono ?_
  rintro e w4 ⟨T4, rfl, hdm4, _, hn4⟩
  rw [hNr.val] at hdm4
  have hd1 := (hc1.chg hn3 (fun h => h)).chg hn4 (fun h => h)
  have ha0 := hd1.cell 0 (u := .bool s) rfl
  have hd2 := (hc2.chg hn3 (fun h => h)).chg hn4 (fun h => h)
  have hd5 := hb5.chg hn4 (fun h => h)
  have hdb := hd1.lt
  have hdb2 : w.heap.size + 1 + 1 + 1 < w2.heap.size := hc4.lt
  have hdb3 : w2.heap.size < w4.heap.size := hd5.lt
  have hpos := hdm4.pos
  have H4 := Lib.hid (And.intro hd1 (And.intro hd2 (And.intro ((hc3.chg hn3 (fun h => h)).chg hn4 (fun h => h)) (And.intro ((hc4.chg hn3 (fun h => h)).chg hn4 (fun h => h)) (And.intro hd5 (And.intro (hnw.new (hn3.new hn4)) (And.intro hs2 (And.intro ((hm2.new hn3).new hn4) (And.intro hdm4 hpos)))))))))
  clear hb5 hn3 hz3 hc1 hc2 hc3 hc4 hnw hdr hs2 hm2 hrr hrc hrm hNr hdm4 hn4 hd1 hd2 hd5 hpos H2
  by_cases hcase : s = true ∧ 0 < T4
  · obtain ⟨rfl, hT⟩ := hcase
    have hval : sg true x / sg s' y = sg (true != s') (x / y + 1 : Nat) ∧ sg true x % sg s' y = ((y - x % y : Nat) : Int) := by
      refine ediv_neg' s' x y hy1 (fun h => ?_)
      have := H4.out.2.2.2.2.2.2.2.2.2.2 h
      omega
    rw [HZ.out.1, HZ.out.2] at hval
    have HV := Lib.hid hval
    clear hval HZ
    have hbn : (true != s') = !s' := by cases s' <;> rfl
    rw [hbn] at H4 HV
    clear hbn
    have hTi : (0 : Int) < (T4 : Int) := by omega
    have hb0 := H4.out.2.1.cell 0 (u := .bool s') rfl
    have hdb4 : w.heap.size + 1 < w4.heap.size := H4.out.2.1.lt
    go_wp2_with fail
    refine Calls.new2 ?_
    intro W5 hb6 hb7 hn5 hz5
    obtain ⟨hd1, hd2, hd3, hd4, hd5, hnw, hs2, hm2, hdm4, hpos⟩ := H4.out
    have hr7 : Rd W5 (some ⟨w4.heap.size + 1, 0, none⟩) 1 (nv .i64 [1]) := ⟨rfl, fun _ => ⟨_, rfl, fun j u hu => by rw [Addr.add_lit, Nat.zero_add]; exact hb7.cell j (by simpa [nv] using hu)⟩⟩
    refine (normal_rn (!s') _ 1 1 [1] W5 hr7 (Digs.cons (by omega) (Digs.nil _)) (by omega) (by omega)).mono ?_
    rintro e w6 ⟨v6, rfl, ⟨s6, A6, n6, c6, rfl, hs6, hm6⟩, hn6⟩
    rw [show val 10000 [1] = 1 from rfl] at hs6 hm6
    have hn56 := hn5.new hn6
    have e5 := hd5.chg hn56 (fun h => h)
    have k50 := e5.cell 0 (u := .bool s2) rfl
    have k51 := e5.cell 1 (u := .slice A2 n2 c2) rfl
    have f50 := e5.frozen 0
    have f51 := e5.frozen 1
    have hl5 : w2.heap.size < w6.heap.size := e5.lt
    have H6 := Lib.hid (And.intro (hd2.chg hn56 (fun h => h)) (And.intro (hd3.chg hn56 (fun h => h)) (And.intro (hd4.chg hn56 (fun h => h)) (And.intro e5 (And.intro (hb6.chg hn6 (fun h => h)) (And.intro (hnw.new hn56) (And.intro hs2 (And.intro (hm2.new hn56) (And.intro (hdm4.new hn56) (And.intro hs6 hm6))))))))))
    clear hb6 hb7 hn5 hz5 hd1 hd2 hd3 hd4 hd5 hnw hs2 hm2 hdm4 hpos hr7 hs6 hm6 hn6 hn56 e5 H4 ha0 hb0
    go_wp2_with fail
    refine Calls.new1 ?_
    intro W7 hb8 hn7 hz7
    obtain ⟨g2, g3, g4, g5, g6, hnw, hs2, hm2, hdm4, hs6, hm6⟩ := H6.out
    have hx1 : 1 ≤ x := by
      rcases Nat.eq_zero_or_pos x with h | h
      · have := hdm4.pos.2 (by rw [h]; simp)
        omega
      · exact h
    have hq0 : x / y < 2 ^ 1000000 := Nat.lt_of_le_of_lt (Nat.div_le_self _ _) H0.out.2.2
    refine (radd_any _ _ (sg (!s') (x / y : Nat)) (sg (!s') (1 : Nat)) W7 ⟨s2, A2, n2, c2, rfl, hs2, hm2.new hn7⟩ ⟨s6, A6, n6, c6, rfl, hs6, hm6.new hn7⟩ (sg_lt (k := 1000000) hq0) (sg_lt (k := 1000000) (Nat.lt_of_le_of_lt hx1 H0.out.2.2))).mono ?_
    rintro e w8 ⟨v8, rfl, ⟨s8, A8, n8, c8, rfl, hs8, hm8⟩, hn8⟩
    have hsum : sg (!s') (x / y : Nat) + sg (!s') (1 : Nat) = sg (!s') (x / y + 1 : Nat) := by
      unfold sg
      split <;> omega
    rw [hsum] at hs8 hm8
    have hn78 := hn7.new hn8
    have q2 := g2.chg hn78 (fun h => h)
    have q5 := g5.chg hn78 (fun h => h)
    have q6 := g6.chg hn78 (fun h => h)
    have k50 := q5.cell 0 (u := .bool s2) rfl
    have k51 := q5.cell 1 (u := .slice A2 n2 c2) rfl
    have f50 := q5.frozen 0
    have f51 := q5.frozen 1
    have k21 := q2.cell 1 (u := .slice A' n' c') rfl
    have k61 := q6.cell 1 (u := .slice R T4 dr) rfl
    have hne1 : w.heap.size + 1 ≠ w2.heap.size := by omega
    have hne2 : w4.heap.size ≠ w2.heap.size := by omega
    have hT7 : T4 ≤ 900000 := by
      obtain ⟨lr', h1, _, _, hN1⟩ := hdm4
      obtain ⟨lb, hb, _, _, hNb⟩ := H0.out.2.1
      have hlb : lb.length = n' := by have := hb.len; rwa [nv_length] at this
      have hlr : lr'.length = T4 := by have := h1.len; rwa [nv_length] at this
      rcases Nat.lt_or_ge n' T4 with h | h
      · have h5 := hNb.len_lt (by omega) hN1 (by omega)
        have := Nat.mod_lt x (show 0 < y by omega)
        omega
      · omega
    have H8 := Lib.hid (And.intro (g3.chg hn78 (fun h => h)) (And.intro (g4.chg hn78 (fun h => h)) (And.intro q5 (And.intro q6 (And.intro (hnw.new hn78) (And.intro hs8 (And.intro hm8 (And.intro (hdm4.new hn78) (H0.out.2.1.new (hnw.new hn78))))))))))
    clear hb8 hn7 hz7 g2 g3 g4 g5 g6 hnw hs2 hm2 hdm4 hs6 hm6 hq0 hs8 hm8 hn8 hn78 q2 q5 q6 hsum H6 hl5
    go_wp2_with fail
    obtain ⟨g3, g4, g5, g6, hnw, hs8, hm8, hdm4, hdy⟩ := H8.out
    have hcs : Chg (fun k => k = w2.heap.size) w8 ((w8.setCell ⟨w2.heap.size, 0, none⟩ (.bool s8)).setCell ⟨w2.heap.size, 1, none⟩ (.slice A8 n8 c8)) := Chg.at2 _ _ _ _
    have hm8' := hm8.store g5 (noInt_two' _ _ _ _) hcs
    have hdm4' := hdm4.store g5 (noInt_two' _ _ _ _) hcs
    have hdy' := hdy.store g5 (noInt_two' _ _ _ _) hcs
    have g5' := g5.set2 (.bool s8) (.slice A8 n8 c8)
    have g3' := g3.chg hcs (by omega)
    have g4' := g4.chg hcs (by omega)
    have g6' := g6.chg hcs (by omega)
    have hnw' : New w _ := Chg.owned hnw hcs (fun k e => by omega)
    generalize ((w8.setCell ⟨w2.heap.size, 0, none⟩ (.bool s8)).setCell ⟨w2.heap.size, 1, none⟩ (.slice A8 n8 c8)) = W9 at *
    refine (minus_any A' n' c' R T4 dr y (x % y) W9 hdy' hdm4' (Nat.le_of_lt (Nat.mod_lt _ (by omega))) (by omega)).mono ?_
    rintro e wa ⟨Ra, ma, da, rfl, ⟨lra, hoa, hda, hva⟩, hna⟩
    have Ha := Lib.hid (And.intro (g3'.chg hna (fun h => h)) (And.intro (g4'.chg hna (fun h => h)) (And.intro (g5'.chg hna (fun h => h)) (And.intro (g6'.chg hna (fun h => h)) (And.intro (hnw'.new hna) (And.intro hs8 (And.intro (hm8'.new hna) (And.intro hoa (And.intro hda hva)))))))))
    clear g3 g4 g5 g6 hnw hs8 hm8 hdm4 hdy hcs hm8' hdm4' hdy' g5' g3' g4' g6' hnw' hoa hda hva hna H8 k50 k51 f50 f51 k21 k61
    go_wp2_with fail
    obtain ⟨p3, p4, p5, p6, hnw, hs8, hm8, hoa, hda, hva⟩ := Ha.out
    have hcapa := own_cap hoa
    refine (normal_dm Ra ma da lra wa (Rd.of_own hoa) hda hcapa.1 hcapa.2).mono ?_
    rintro e wb ⟨Tb, rfl, hdmb, _, hnb⟩
    rw [hva] at hdmb
    have e3 := p3.chg hnb (fun h => h)
    have e4 := p4.chg hnb (fun h => h)
    have e5 := p5.chg hnb (fun h => h)
    have e6 := p6.chg hnb (fun h => h)
    have k30 := e3.cell 0 (u := .bool false) rfl
    have k31 := e3.cell 1 (u := .slice none 0 0) rfl
    have k40 := e4.cell 0 (u := .bool false) rfl
    have k41 := e4.cell 1 (u := .slice none 0 0) rfl
    have k50 := e5.cell 0 (u := .bool s8) rfl
    have k51 := e5.cell 1 (u := .slice A8 n8 c8) rfl
    have k60 := e6.cell 0 (u := .bool false) rfl
    have k61 := e6.cell 1 (u := .slice R T4 dr) rfl
    have f30 := e3.frozen 0
    have f31 := e3.frozen 1
    have f40 := e4.frozen 0
    have f41 := e4.frozen 1
    have f60 := e6.frozen 0
    have f61 := e6.frozen 1
    have Hb := Lib.hid (And.intro e3 (And.intro e4 (And.intro e5 (And.intro e6 (And.intro (hnw.new hnb) (And.intro hs8 (And.intro (hm8.new hnb) hdmb)))))))
    have hne1 : w.heap.size + 1 + 1 ≠ w2.heap.size := by omega
    have hne2' : w.heap.size + 1 + 1 + 1 ≠ w2.heap.size := by omega
    have hne3 : w.heap.size + 1 + 1 ≠ w4.heap.size := by omega
    have hne4 : w.heap.size + 1 + 1 + 1 ≠ w4.heap.size := by omega
    clear p3 p4 p5 p6 hnw hs8 hm8 hoa hda hva hcapa hdmb hnb e3 e4 e5 e6 Ha
    go_wp2_with fail
    have hc6 : Chg (fun k => k = w4.heap.size) wb ((wb.setCell ⟨w4.heap.size, 0, none⟩ (.bool false)).setCell ⟨w4.heap.size, 1, none⟩ (.slice Ra Tb da)) := Chg.at2 _ _ _ _
    obtain ⟨e3, e4, e5, e6, hnw, hs8, hm8, hdmb⟩ := Hb.out
    have r3 := e3.chg hc6 (by omega)
    have r4 := e4.chg hc6 (by omega)
    have r6 := e6.set2 (.bool false) (.slice Ra Tb da)
    have hm8' := hm8.store e6 (noInt_two' _ _ _ _) hc6
    have hdmb' := hdmb.store e6 (noInt_two' _ _ _ _) hc6
    have hnw' : New w _ := Chg.owned hnw hc6 (fun k e => by omega)
    have r5 := e5.chg hc6 (by omega)
    generalize ((wb.setCell ⟨w4.heap.size, 0, none⟩ (.bool false)).setCell ⟨w4.heap.size, 1, none⟩ (.slice Ra Tb da)) = Wz at *
    have k30 := r3.cell 0 (u := .bool false) rfl
    have k31 := r3.cell 1 (u := .slice none 0 0) rfl
    have k40 := r4.cell 0 (u := .bool false) rfl
    have k41 := r4.cell 1 (u := .slice none 0 0) rfl
    have k50 := r5.cell 0 (u := .bool s8) rfl
    have k51 := r5.cell 1 (u := .slice A8 n8 c8) rfl
    have k60 := r6.cell 0 (u := .bool false) rfl
    have k61 := r6.cell 1 (u := .slice Ra Tb da) rfl
    have f30 := r3.frozen 0
    have f31 := r3.frozen 1
    have f40 := r4.frozen 0
    have f41 := r4.frozen 1
    have HF := Lib.hid (And.intro r3 (And.intro r4 (And.intro hnw' (And.intro hs8 (And.intro hm8' hdmb')))))
    clear hc6 e3 e4 e5 e6 hnw hs8 hm8 hdmb r3 r4 r5 r6 hm8' hdmb' hnw' Hb f60 f61
    go_region
    all_goals
      go_wp2
      obtain ⟨e3, e4, hnw, hs8, hm8, hdmb⟩ := HF.out
      have hg : w.heap.size + 1 + 1 ≠ w.heap.size + 1 + 1 + 1 := by omega
      obtain ⟨r3, r4⟩ := blk22 e3 e4 hg (.bool s8) (.slice A8 n8 c8) (.bool false) (.slice Ra Tb da)
      refine bodyPost_ret (res_cc rfl _ rfl (aggN.load (Blk.drew r3)) rfl (aggN.load (Blk.drew r4))) rfl ⟨_, _, rfl, ⟨s8, A8, n8, c8, rfl, by rw [HV.out.1]; exact hs8, ?_⟩, ⟨false, Ra, Tb, da, rfl, by rw [HV.out.2]; exact (decide_eq_false (Int.not_lt.2 (Int.natCast_nonneg _))).symm, ?_⟩, ?_⟩
      · rw [HV.out.1]; exact (hm8.store22 e3 e4 hg (noInt_two' _ _ _ _) (noInt_two' _ _ _ _) _ _ _ _).new ((Chg.refl _ _).drew)
      · rw [HV.out.2, Int.natAbs_natCast]; exact (hdmb.store22 e3 e4 hg (noInt_two' _ _ _ _) (noInt_two' _ _ _ _) _ _ _ _).new ((Chg.refl _ _).drew)
      · exact Chg.owned hnw (chg22 Wz _ _ _ _ _ _).drew (fun k e => by omega)
  · have hval : sg s x / sg s' y = sg (s != s') (x / y : Nat) ∧ sg s x % sg s' y = ((x % y : Nat) : Int) := by
      refine ediv_pos' s s' x y hy1 ?_
      cases s
      · exact .inl rfl
      · right
        have : T4 = 0 := by
          rcases Nat.eq_zero_or_pos T4 with h | h
          · exact h
          · exact absurd ⟨rfl, h⟩ hcase
        exact H4.out.2.2.2.2.2.2.2.2.2.1 this
    rw [HZ.out.1, HZ.out.2] at hval
    have HV := Lib.hid hval
    clear hval HZ
    cases s
    · go_wp2_with fail
      refine Code.new1 ?_
      intro W5 hb6 hn5 hz5
      obtain ⟨hd1, hd2, hd3, hd4, hd5, hnw, hs2, hm2, hdm4, hpos⟩ := H4.out
      have e3 := hd3.chg hn5 (fun h => h)
      have e4 := hd4.chg hn5 (fun h => h)
      have e5 := hd5.chg hn5 (fun h => h)
      have k30 := e3.cell 0 (u := .bool false) rfl
      have k31 := e3.cell 1 (u := .slice none 0 0) rfl
      have k40 := e4.cell 0 (u := .bool false) rfl
      have k41 := e4.cell 1 (u := .slice none 0 0) rfl
      have k50 := e5.cell 0 (u := .bool s2) rfl
      have k51 := e5.cell 1 (u := .slice A2 n2 c2) rfl
      have k60 := hb6.cell 0 (u := .bool false) rfl
      have k61 := hb6.cell 1 (u := .slice R T4 dr) rfl
      have f30 := e3.frozen 0
      have f31 := e3.frozen 1
      have f40 := e4.frozen 0
      have f41 := e4.frozen 1
      have HF := Lib.hid (And.intro e3 (And.intro e4 (And.intro (hnw.new hn5) (And.intro hs2 (And.intro (hm2.new hn5) (And.intro (hdm4.new hn5) hpos))))))
      have hne1 : w.heap.size + 1 + 1 ≠ w2.heap.size := by omega
      have hne2 : w.heap.size + 1 + 1 + 1 ≠ w2.heap.size := by omega
      have hne3 : w.heap.size + 1 + 1 ≠ w4.heap.size := by omega
      have hne4 : w.heap.size + 1 + 1 + 1 ≠ w4.heap.size := by omega
      clear hd1 hd2 hd3 hd4 hd5 hnw hs2 hm2 hdm4 hpos hn5 hz5 hb6 e3 e4 e5 H4
      go_region
      all_goals
        go_wp2
        obtain ⟨e3, e4, hnw, hs2, hm2, hdm4, hpos⟩ := HF.out
        have hg : w.heap.size + 1 + 1 ≠ w.heap.size + 1 + 1 + 1 := by omega
        obtain ⟨r3, r4⟩ := blk22 e3 e4 hg (.bool s2) (.slice A2 n2 c2) (.bool false) (.slice R T4 dr)
        refine bodyPost_ret (res_cc rfl _ rfl (aggN.load (Blk.drew r3)) rfl (aggN.load (Blk.drew r4))) rfl ⟨_, _, rfl, ⟨s2, A2, n2, c2, rfl, by rw [HV.out.1]; exact hs2, ?_⟩, ⟨false, R, T4, dr, rfl, by rw [HV.out.2]; exact (decide_eq_false (Int.not_lt.2 (Int.natCast_nonneg _))).symm, ?_⟩, ?_⟩
        · rw [HV.out.1]; exact (hm2.store22 e3 e4 hg (noInt_two' _ _ _ _) (noInt_two' _ _ _ _) _ _ _ _).new ((Chg.refl _ _).drew)
        · rw [HV.out.2, Int.natAbs_natCast]; exact (hdm4.store22 e3 e4 hg (noInt_two' _ _ _ _) (noInt_two' _ _ _ _) _ _ _ _).new ((Chg.refl _ _).drew)
        · exact Chg.owned hnw (chg22 W5 _ _ _ _ _ _).drew (fun k e => by omega)
    · have hT0 : T4 = 0 := by
        rcases Nat.eq_zero_or_pos T4 with h | h
        · exact h
        · exact absurd ⟨rfl, h⟩ hcase
      subst hT0
      clear hcase
      go_wp2_with fail
      refine Code.new1 ?_
      intro W5 hb6 hn5 hz5
      obtain ⟨hd1, hd2, hd3, hd4, hd5, hnw, hs2, hm2, hdm4, hpos⟩ := H4.out
      have e3 := hd3.chg hn5 (fun h => h)
      have e4 := hd4.chg hn5 (fun h => h)
      have e5 := hd5.chg hn5 (fun h => h)
      have k30 := e3.cell 0 (u := .bool false) rfl
      have k31 := e3.cell 1 (u := .slice none 0 0) rfl
      have k40 := e4.cell 0 (u := .bool false) rfl
      have k41 := e4.cell 1 (u := .slice none 0 0) rfl
      have k50 := e5.cell 0 (u := .bool s2) rfl
      have k51 := e5.cell 1 (u := .slice A2 n2 c2) rfl
      have k60 := hb6.cell 0 (u := .bool false) rfl
      have k61 := hb6.cell 1 (u := .slice R 0 dr) rfl
      have f30 := e3.frozen 0
      have f31 := e3.frozen 1
      have f40 := e4.frozen 0
      have f41 := e4.frozen 1
      have HF := Lib.hid (And.intro e3 (And.intro e4 (And.intro (hnw.new hn5) (And.intro hs2 (And.intro (hm2.new hn5) (And.intro (hdm4.new hn5) hpos))))))
      have hne1 : w.heap.size + 1 + 1 ≠ w2.heap.size := by omega
      have hne2 : w.heap.size + 1 + 1 + 1 ≠ w2.heap.size := by omega
      have hne3 : w.heap.size + 1 + 1 ≠ w4.heap.size := by omega
      have hne4 : w.heap.size + 1 + 1 + 1 ≠ w4.heap.size := by omega
      clear hd1 hd2 hd3 hd4 hd5 hnw hs2 hm2 hdm4 hpos hn5 hz5 hb6 e3 e4 e5 H4
      go_region
      all_goals
        go_wp2
        obtain ⟨e3, e4, hnw, hs2, hm2, hdm4, hpos⟩ := HF.out
        have hg : w.heap.size + 1 + 1 ≠ w.heap.size + 1 + 1 + 1 := by omega
        obtain ⟨r3, r4⟩ := blk22 e3 e4 hg (.bool s2) (.slice A2 n2 c2) (.bool false) (.slice R 0 dr)
        refine bodyPost_ret (res_cc rfl _ rfl (aggN.load (Blk.drew r3)) rfl (aggN.load (Blk.drew r4))) rfl ⟨_, _, rfl, ⟨s2, A2, n2, c2, rfl, by rw [HV.out.1]; exact hs2, ?_⟩, ⟨false, R, 0, dr, rfl, by rw [HV.out.2]; exact (decide_eq_false (Int.not_lt.2 (Int.natCast_nonneg _))).symm, ?_⟩, ?_⟩
        · rw [HV.out.1]; exact (hm2.store22 e3 e4 hg (noInt_two' _ _ _ _) (noInt_two' _ _ _ _) _ _ _ _).new ((Chg.refl _ _).drew)
        · rw [HV.out.2, Int.natAbs_natCast]; exact (hdm4.store22 e3 e4 hg (noInt_two' _ _ _ _) (noInt_two' _ _ _ _) _ _ _ _).new ((Chg.refl _ _).drew)
        · exact Chg.owned hnw (chg22 W5 _ _ _ _ _ _).drew (fun k e => by omega)

theorem rdiv_any (v v' : Value) (x y : Int) (w : World) (hx : RN w v x) (hy : RN w v' y) (bx : x.natAbs < 2 ^ 1000000) (bY : y.natAbs < 2 ^ 900000) (hy0 : y ≠ 0) :
    Calls Tryz.prog 103 #[v, v'] w fun e w' => ∃ v v', e = .returned (.tuple #[v, v']) ∧ RN w' v (x / y) ∧ RN w' v' (x % y) ∧ New w w' := by
  obtain ⟨s, A, n, c, rfl, hs, hm⟩ := hx
  obtain ⟨s', A', n', c', rfl, hs', hm'⟩ := hy
  have h := rdiv_dm s s' A n c A' n' c' _ _ w hm hm' (bz_len hm bx) (bz_len hm' bY) (by omega) bx
  rw [hs, hs', sg_of, sg_of] at h
  rw [hs, hs']
  exact h
end Go.Proofs.YtbocpkjajocpiaaGreatDoor

namespace Go.Proofs.YtbocpkjajocpiaaGreatDoor
set_option linter.unusedVariables false
open Go.RowKit Go.Mem Go.Dig Go.Pure

theorem WI.store22 {W : World} {v : Value} {z : Int} {g g' : Nat} {t t' : TypeId} {a b c d : Value} (hm : WI W v z) (h : Blk W g t #[a, b]) (h' : Blk W g' t' #[c, d]) (hne : g ≠ g') (hi : NoInt [a, b]) (hi' : NoInt [c, d]) (p q r u : Value) : WI (set22 W g g' p q r u) v z := by
  have h1 : WI ((W.setCell ⟨g, 0, none⟩ p).setCell ⟨g, 1, none⟩ q) v z := hm.store h hi (Chg.at2 _ _ _ _)
  have h2 : Blk ((W.setCell ⟨g, 0, none⟩ p).setCell ⟨g, 1, none⟩ q) g' t' #[c, d] := (h'.far (p := ⟨g, 0, none⟩) (fun e => hne e.symm) _).far (p := ⟨g, 1, none⟩) (fun e => hne e.symm) _
  exact h1.store h2 hi' (Chg.at2 _ _ _ _)
theorem WM.len_mono {w w' : World} {A A' : Option Addr} {n c m n' c' m' : Nat} (h : WM w A n c m) (h' : WM w' A' n' c' m') (hm : m ≤ m') : n ≤ n' := by
  obtain ⟨l, h1, _, _, h2⟩ := h
  obtain ⟨l', h1', _, _, h2'⟩ := h'
  have e1 := h1.len
  have e2 := h1'.len
  rw [nv_length] at e1 e2
  rcases Nat.lt_or_ge n' n with hlt | hge
  · have := h2'.len_lt (by omega) h2 (by omega); omega
  · exact hge
theorem noInt2 (s : Bool) (A : Option Addr) (n c : Nat) : NoInt [Value.bool s, Value.slice A n c] := fun k z h => by simp at h

set_option maxRecDepth 100000 in
set_option maxHeartbeats 2000000 in
theorem wdiv_wm (s t : Bool) (A : Option Addr) (n c : Nat) (A' : Option Addr) (n' c' : Nat) (X Y : Nat) (w : World) (hx : WM w A n c X) (hy : WM w A' n' c' Y) (hn : n ≤ 900000) (hn' : n' ≤ 900000) (hY : 1 ≤ Y) :
    Calls Tryz.prog 81 #[.agg #[.bool s, .slice A n c], .agg #[.bool t, .slice A' n' c']] w fun e w' => ∃ s1 A1 n1 c1 s2 A2 n2 c2, e = .returned (.tuple #[.agg #[.bool s1, .slice A1 n1 c1], .agg #[.bool s2, .slice A2 n2 c2], .int .i64 0]) ∧ Hid (WI w' (.agg #[.bool s1, .slice A1 n1 c1]) (sg s X / sg t Y) ∧ WI w' (.agg #[.bool s2, .slice A2 n2 c2]) (sg s X % sg t Y) ∧ New w w') := by
  obtain ⟨ZQ, hZQ⟩ : ∃ Z, sg s X / sg t Y = Z := ⟨_, rfl⟩
  obtain ⟨ZR, hZR⟩ : ∃ Z, sg s X % sg t Y = Z := ⟨_, rfl⟩
  rw [hZQ, hZR]
  have hn0 : ¬ n' = 0 := fun h => by have := hy.pos.1 h; omega
  have hn0b : ((n' : Int) == 0) = false := by simp; omega
  have HZ := Lib.hid (And.intro hZQ hZR)
  have H0 := Lib.hid (And.intro hx hy)
  clear hx hy hZQ hZR
  go_enter Tryz.func81, Tryz.ntmps81
  go_wp2_with fail
  refine Calls.new4 ?_
  intro W hb1 hb2 hb3 hb4 hnW hzW
  refine (divMag_any A n c A' n' c' X Y W (H0.out.1.new hnW) (H0.out.2.new hnW) hn hY).mono ?_
  rintro e w1 ⟨Q, nq, cq, R, nr, cr, rfl, H1⟩
  obtain ⟨hwq, hwr, hn1⟩ := H1.out
  have hr0 := hwr.pos
  have hk1 := hb1.chg hn1 (fun h => h)
  have hk2 := hb2.chg hn1 (fun h => h)
  have hk3 := hb3.chg hn1 (fun h => h)
  have hk4 := hb4.chg hn1 (fun h => h)
  have ha0 := hk1.cell 0 (u := .bool s) rfl
  have hb0 := hk2.cell 0 (u := .bool t) rfl
  have hb1' := hk2.cell 1 (u := .slice A' n' c') rfl
  have HB := Lib.hid (And.intro hk1 (And.intro hk2 (And.intro hk3 (And.intro hk4 (hnW.new hn1)))))
  clear hb1 hb2 hb3 hb4 hnW hzW hn1 H1 hk1 hk2 hk3 hk4
  by_cases hcase : s = true ∧ X % Y ≠ 0
  · obtain ⟨hs, hrest⟩ := hcase
    subst hs
    have hnr : (0 : Int) < (nr : Int) := by
      rcases Nat.eq_zero_or_pos nr with h | h
      · exact absurd (hr0.1 h) hrest
      · omega
    have hnr' : 0 < nr := by omega
    have HWQ := Lib.hid (And.intro hwq hwr)
    have HRE := Lib.hid hrest
    clear hwq hwr hr0 hrest
    go_wp2_with fail
    refine Calls.new1 ?_
    intro W5 hb5 hn5 hz5
    have hone : WM W5 (some ⟨w1.heap.size, 0, none⟩) 1 1 1 := ⟨[1], ⟨rfl, fun _ => ⟨_, rfl, fun j u hu => by
      match j, hu with
      | 0, hu =>
        simp [nv] at hu
        subst hu
        rw [Addr.add_lit]
        exact hb5.cell 0 rfl⟩⟩, Nat.le_refl _, by omega, ⟨Digs.cons (by omega) (Digs.nil _), by simp [Trim], by simp [val_cons, val_nil]⟩⟩
    have hnq : nq ≤ 1000000 := Nat.le_trans (HWQ.out.1.len_mono H0.out.1 (Nat.div_le_self _ _)) (by omega)
    refine (addMag_any Q nq cq _ 1 1 (X / Y) 1 W5 (HWQ.out.1.new hn5) hone hnq (by omega)).mono ?_
    rintro e w2 ⟨Q2, nq2, cq2, rfl, H2⟩
    obtain ⟨hwq2, hn2⟩ := H2.out
    have hn12 := hn5.new hn2
    have hb1'' := hn12.cell hb1' (fun h => h)
    have ha0' := hn12.cell ha0 (fun h => h)
    have hb0' := hn12.cell hb0 (fun h => h)
    have HN2 := Lib.hid (And.intro hn12 hwq2)
    clear hb5 hn5 hz5 hone hnq H2 hwq2 hn2 hn12 ha0 hb0 hb1'
    go_wp2_with fail
    refine (subMag_any A' n' c' R nr cr Y (X % Y) w2 ((H0.out.2.new (HB.out.2.2.2.2)).new HN2.out.1) (HWQ.out.2.new HN2.out.1) (Nat.le_of_lt (Nat.mod_lt _ (by omega))) (by omega)).mono ?_
    rintro e w3 ⟨R2, nr2, cr2, rfl, H3⟩
    obtain ⟨hwr2, hn3⟩ := H3.out
    have ha3 := hn3.cell ha0' (fun h => h)
    have hb3 := hn3.cell hb0' (fun h => h)
    have HN3 := Lib.hid (And.intro (HN2.out.1.new hn3) (And.intro (HN2.out.2.new hn3) hwr2))
    clear H3 hwr2 hn3 ha0' hb0' hb1''
    go_wp2_with fail
    refine (made_h (!t) Q2 nq2 cq2 _ w3 HN3.out.2.1).mono ?_
    rintro e w4 ⟨s4, A4, n4, c4, rfl, HI4, HN4⟩
    clear ha3 hb3
    go_wp2_with fail
    refine (made_h false R2 nr2 cr2 _ w4 (HN3.out.2.2.new HN4.out)).mono ?_
    rintro e w5 ⟨s5, A5, n5, c5, rfl, HI5, HN5⟩
    have hn15 := (HN3.out.1.new HN4.out).new HN5.out
    have hk3 := HB.out.2.2.1.chg hn15 (fun h => h)
    have hk4 := HB.out.2.2.2.1.chg hn15 (fun h => h)
    have g30 := hk3.cell 0 rfl
    have g31 := hk3.cell 1 rfl
    have g40 := hk4.cell 0 rfl
    have g41 := hk4.cell 1 rfl
    have f30 := hk3.frozen 0
    have f31 := hk3.frozen 1
    have f40 := hk4.frozen 0
    have f41 := hk4.frozen 1
    have HK := Lib.hid (And.intro hk3 (And.intro hk4 hn15))
    clear hk3 hk4 hn15
    go_wp2
    obtain ⟨hk3, hk4, hn15⟩ := HK.out
    have hb22 := blk22 hk3 hk4 (by omega) (.bool s4) (.slice A4 n4 c4) (.bool s5) (.slice A5 n5 c5)
    obtain ⟨e1, e2⟩ := ediv_neg' t X Y hY HRE.out
    rw [e1] at HZ
    rw [e2] at HZ
    have i4 := HI4.out.new HN5.out
    have i5 := HI5.out
    rw [show sg (!t) (X / Y + 1) = sg (true != t) ((X / Y + 1 : Nat)) by cases t <;> rfl, HZ.out.1] at i4
    rw [show sg false (Y - X % Y) = ((Y - X % Y : Nat) : Int) by rfl, HZ.out.2] at i5
    refine bodyPost_ret (res_cct rfl _ rfl (aggInt.load hb22.1) rfl (aggInt.load hb22.2) rfl) rfl ⟨s4, A4, n4, c4, s5, A5, n5, c5, rfl, i4.store22 hk3 hk4 (by omega) (noInt2 _ _ _ _) (noInt2 _ _ _ _) _ _ _ _, i5.store22 hk3 hk4 (by omega) (noInt2 _ _ _ _) (noInt2 _ _ _ _) _ _ _ _, ?_⟩
    exact Chg.owned (HB.out.2.2.2.2.new hn15) (chg22 _ _ _ _ _ _ _) (fun k e => by omega)
  · have hor : s = false ∨ X % Y = 0 := by
      cases s
      · exact .inl rfl
      · right
        rcases Nat.eq_zero_or_pos (X % Y) with h | h
        · exact h
        · exact absurd ⟨rfl, by omega⟩ hcase
    obtain ⟨e1, e2⟩ := ediv_pos' s t X Y hY hor
    rw [e1, e2] at HZ
    have HWQ := Lib.hid (And.intro hwq hwr)
    have hsplit : s = false ∨ (s = true ∧ nr = 0) := by
      cases s
      · exact .inl rfl
      · exact .inr ⟨rfl, hr0.2 (hor.resolve_left (by simp))⟩
    clear hwq hwr hr0 hcase hor e1 e2 hb1'
    rcases hsplit with hs | ⟨hs, hnr⟩
    · subst hs
      go_wp2_with fail
      refine (made_h t Q nq cq _ w1 HWQ.out.1).mono ?_
      rintro e w4 ⟨s4, A4, n4, c4, rfl, HI4, HN4⟩
      clear ha0 hb0
      go_wp2_with fail
      refine (made_h false R nr cr _ w4 (HWQ.out.2.new HN4.out)).mono ?_
      rintro e w5 ⟨s5, A5, n5, c5, rfl, HI5, HN5⟩
      have hn15 := HN4.out.new HN5.out
      have hk3 := HB.out.2.2.1.chg hn15 (fun h => h)
      have hk4 := HB.out.2.2.2.1.chg hn15 (fun h => h)
      have g30 := hk3.cell 0 rfl
      have g31 := hk3.cell 1 rfl
      have g40 := hk4.cell 0 rfl
      have g41 := hk4.cell 1 rfl
      have f30 := hk3.frozen 0
      have f31 := hk3.frozen 1
      have f40 := hk4.frozen 0
      have f41 := hk4.frozen 1
      have HK := Lib.hid (And.intro hk3 (And.intro hk4 hn15))
      clear hk3 hk4 hn15
      go_wp2
      obtain ⟨hk3, hk4, hn15⟩ := HK.out
      have hb22 := blk22 hk3 hk4 (by omega) (.bool s4) (.slice A4 n4 c4) (.bool s5) (.slice A5 n5 c5)
      have i4 := HI4.out.new HN5.out
      have i5 := HI5.out
      rw [show sg t (X / Y) = sg (false != t) ((X / Y : Nat)) by cases t <;> rfl, HZ.out.1] at i4
      rw [show sg false (X % Y) = ((X % Y : Nat) : Int) by rfl, HZ.out.2] at i5
      refine bodyPost_ret (res_cct rfl _ rfl (aggInt.load hb22.1) rfl (aggInt.load hb22.2) rfl) rfl ⟨s4, A4, n4, c4, s5, A5, n5, c5, rfl, i4.store22 hk3 hk4 (by omega) (noInt2 _ _ _ _) (noInt2 _ _ _ _) _ _ _ _, i5.store22 hk3 hk4 (by omega) (noInt2 _ _ _ _) (noInt2 _ _ _ _) _ _ _ _, ?_⟩
      exact Chg.owned (HB.out.2.2.2.2.new hn15) (chg22 _ _ _ _ _ _ _) (fun k e => by omega)
    · subst hs
      subst hnr
      go_wp2_with fail
      refine (made_h (!t) Q nq cq _ w1 HWQ.out.1).mono ?_
      rintro e w4 ⟨s4, A4, n4, c4, rfl, HI4, HN4⟩
      clear ha0 hb0
      go_wp2_with fail
      refine (made_h false R 0 cr _ w4 (HWQ.out.2.new HN4.out)).mono ?_
      rintro e w5 ⟨s5, A5, n5, c5, rfl, HI5, HN5⟩
      have hn15 := HN4.out.new HN5.out
      have hk3 := HB.out.2.2.1.chg hn15 (fun h => h)
      have hk4 := HB.out.2.2.2.1.chg hn15 (fun h => h)
      have g30 := hk3.cell 0 rfl
      have g31 := hk3.cell 1 rfl
      have g40 := hk4.cell 0 rfl
      have g41 := hk4.cell 1 rfl
      have f30 := hk3.frozen 0
      have f31 := hk3.frozen 1
      have f40 := hk4.frozen 0
      have f41 := hk4.frozen 1
      have HK := Lib.hid (And.intro hk3 (And.intro hk4 hn15))
      clear hk3 hk4 hn15
      go_wp2
      obtain ⟨hk3, hk4, hn15⟩ := HK.out
      have hb22 := blk22 hk3 hk4 (by omega) (.bool s4) (.slice A4 n4 c4) (.bool s5) (.slice A5 n5 c5)
      have i4 := HI4.out.new HN5.out
      have i5 := HI5.out
      rw [show sg (!t) (X / Y) = sg (true != t) ((X / Y : Nat)) by cases t <;> rfl, HZ.out.1] at i4
      rw [show sg false (X % Y) = ((X % Y : Nat) : Int) by rfl, HZ.out.2] at i5
      refine bodyPost_ret (res_cct rfl _ rfl (aggInt.load hb22.1) rfl (aggInt.load hb22.2) rfl) rfl ⟨s4, A4, n4, c4, s5, A5, n5, c5, rfl, i4.store22 hk3 hk4 (by omega) (noInt2 _ _ _ _) (noInt2 _ _ _ _) _ _ _ _, i5.store22 hk3 hk4 (by omega) (noInt2 _ _ _ _) (noInt2 _ _ _ _) _ _ _ _, ?_⟩
      exact Chg.owned (HB.out.2.2.2.2.new hn15) (chg22 _ _ _ _ _ _ _) (fun k e => by omega)
end Go.Proofs.YtbocpkjajocpiaaGreatDoor

namespace Go.Proofs.YtbocpkjajocpiaaGreatDoor
set_option linter.unusedVariables false
open Go.RowKit Go.Mem Go.Dig Go.Pure

theorem wdiv_any (v v' : Value) (x y : Int) (w : World) (hx : WI w v x) (hy : WI w v' y) (bx : x.natAbs < 2 ^ 900000) (bY : y.natAbs < 2 ^ 900000) (hy0 : y ≠ 0) :
    Calls Tryz.prog 81 #[v, v'] w fun e w' => ∃ s1 A1 n1 c1 s2 A2 n2 c2, e = .returned (.tuple #[.agg #[.bool s1, .slice A1 n1 c1], .agg #[.bool s2, .slice A2 n2 c2], .int .i64 0]) ∧ Hid (WI w' (.agg #[.bool s1, .slice A1 n1 c1]) (x / y) ∧ WI w' (.agg #[.bool s2, .slice A2 n2 c2]) (x % y) ∧ New w w') := by
  obtain ⟨s, A, n, c, rfl, hs, hm⟩ := hx
  obtain ⟨t, A', n', c', rfl, ht, hm'⟩ := hy
  have h := wdiv_wm s t A n c A' n' c' x.natAbs y.natAbs w hm hm' (bz_wlen hm bx) (bz_wlen hm' bY) (by omega)
  rw [hs, ht, sg_of, sg_of] at h
  rw [hs, ht]
  exact h

theorem or0 (d : Nat) (h : d < 4294967296) : bits .or .u64 0 (d : Int) = (d : Int) := by
  have := shl_or32 0 d (by omega) h
  simpa using this
theorem orhi (a d : Nat) (ha : a < 4294967296) (h : d < 4294967296) : bits .or .u64 (a : Int) ((d : Int) * 4294967296) = ((a + d * 4294967296 : Nat) : Int) := by
  have e1 : ((d : Int) * 4294967296) = ((d * 4294967296 : Nat) : Int) := by simp
  have h1 := shl_or32 d a h ha
  rw [e1] at h1 ⊢
  rw [u64_or_nat _ _ (by omega) (by omega), Nat.or_comm, ← u64_or_nat _ _ (by omega) (by omega), h1]
  omega
/-- An int holds it. -/
def isInt (x : Int) : Bool := decide (-9223372036854775808 ≤ x ∧ x ≤ 9223372036854775807)
def intIf (x : Int) : Int := if isInt x then x else 0

set_option maxRecDepth 100000 in
set_option maxHeartbeats 1000000 in
theorem wsmall_any (v : Value) (x : Int) (w : World) (hx : WI w v x) :
    Calls Tryz.prog 108 #[v] w fun e w' => e = .returned (.tuple #[.int .i64 (intIf x), .bool (isInt x)]) ∧ New w w' := by
  obtain ⟨s, A, n, c, rfl, hs, l, hr, hnc, hc, hN⟩ := hx
  have hll : l.length = n := by have := hr.len; rwa [nv_length] at this
  obtain ⟨I, hI⟩ : ∃ I, intIf x = I := ⟨_, rfl⟩
  obtain ⟨b, hb⟩ : ∃ b, isInt x = b := ⟨_, rfl⟩
  rw [hI, hb]
  by_cases h2 : 2 < n
  · have hbig : 4294967296 ^ 2 ≤ x.natAbs := by
      have h3 := val_pos (B := 4294967296) (by omega) hN.trim (by intro e; subst e; simp at hll; omega)
      rw [hN.val, hll] at h3
      exact Nat.le_trans (Nat.pow_le_pow_right (by omega) (by omega)) h3
    have hb0 : b = false := by
      rw [← hb]; unfold isInt; simp; omega
    have hI0 : I = 0 := by rw [← hI]; unfold intIf; rw [hb, hb0]; rfl
    subst hb0 hI0
    clear hr hN hll hbig hI hb hs
    have hlt : (2 : Int) < (n : Int) := by omega
    go_enter Tryz.func108, Tryz.ntmps108
    go_wp2
    go_ret2
    exact ⟨rfl, (Chg.refl _ w).alloc _⟩
  · have hlt : decide ((2 : Int) < (n : Int)) = false := by simp; omega
    have hlt' : decide (2 < n) = false := by simp; omega
    have hn2 : n ≤ 2 := by omega
    obtain ⟨M, hM⟩ : ∃ M, val 4294967296 l = M := ⟨_, rfl⟩
    have hMx : x.natAbs = M := by rw [← hN.val, hM]
    have H0 := Lib.hid (And.intro hr (And.intro hN.digs (And.intro hll hM)))
    have HX := Lib.hid (And.intro hs (And.intro hMx (And.intro hI hb)))
    clear hr hN hll hM hMx hI hb hs h2
    go_enter Tryz.func108, Tryz.ntmps108
    go_wp2_with fail
    refine Code.new1 ?_
    intro W hb1 hnW hzW
    have hc0 := hb1.cell 0 (u := .bool s) rfl
    have HW := Lib.hid hnW
    clear hb1 hnW hzW
    go_loop [14, 4, 5, 6] (fun i m _ _ => ∃ k a : Nat, i = .int .i64 k ∧ m = .int .u64 a ∧ k ≤ n ∧ Hid (a = val 4294967296 (l.take k))) (fun i _ _ _ => n - (intOf i).toNat)
    case atStart => exact ⟨0, 0, rfl, rfl, by omega, rfl⟩
    case round =>
      obtain ⟨k, a, rfl, rfl, hk, HA⟩ := hrel
      by_cases hkn : k < n
      · obtain ⟨hr, hd, hll, hM⟩ := H0.out
        obtain ⟨ad, u, rfl, hu, hcu⟩ := (hr.new HW.out).at_ hkn
        obtain ⟨z, hz, rfl⟩ := nv_at hu
        have hzb := hd.at_ hz
        have hst := val_take (B := 4294967296) hz
        rcases (show k = 0 ∨ k = 1 by omega) with h | h
        · subst h
          have ha0 : a = 0 := by rw [HA.out]; simp
          subst ha0
          have hor := or0 z hzb
          have hst1 : val 4294967296 (l.take 1) = z := by simpa using hst
          have HS := Lib.hid hst1
          rw [show ad.add 0 = ad by simp [Addr.add]] at hcu
          clear hr hd hll hM hu hz hst hst1 HA
          go_wp2
          go_round
          case rel => exact ⟨1, z, rfl, rfl, by omega, HS.out.symm⟩
          case measure => simp [intOf]; omega
        · subst h
          have hab : a < 4294967296 := by
            rw [HA.out]
            have := val_lt (hd.take 1)
            rw [List.length_take, Nat.min_eq_left (by omega)] at this
            simpa using this
          obtain ⟨a2, ha2⟩ : ∃ a2, a + z * 4294967296 = a2 := ⟨_, rfl⟩
          have hor := orhi a z hab hzb
          rw [ha2] at hor
          rw [← HA.out, Nat.pow_one, Nat.mul_comm 4294967296 z, ha2] at hst
          have HS := Lib.hid hst
          have ha2b : a2 < 18446744073709551616 := by omega
          simp [Addr.add] at hcu
          clear hr hd hll hM hu hz hst HA ha2
          go_wp2
          go_round
          case rel => exact ⟨2, a2, rfl, rfl, by omega, HS.out.symm⟩
          case measure => simp [intOf]; omega
      · obtain rfl : n = k := by omega
        have haM : a = M := by
          obtain ⟨hr, hd, hll, hM⟩ := H0.out
          rw [HA.out, List.take_of_length_le (by omega), hM]
        subst haM
        have hMb : a < 18446744073709551616 := by
          obtain ⟨hr, hd, hll, hM⟩ := H0.out
          have := val_lt hd
          rw [hM, hll] at this
          have h3 : 4294967296 ^ n ≤ 4294967296 ^ 2 := Nat.pow_le_pow_right (by omega) hn2
          omega
        obtain ⟨hs, hMx, hI, hb⟩ := HX.out
        clear HA hkn
        cases s
        · have hx0 : ¬ x < 0 := by simpa using hs.symm
          by_cases hf : a < 9223372036854775808
          · have hb1 : b = true := by rw [← hb]; unfold isInt; simp; omega
            have hI1 : I = (a : Int) := by rw [← hI]; unfold intIf; rw [hb, hb1]; simp; omega
            subst hb1 hI1
            have hf1 : (a : Int) < 9223372036854775808 := by omega
            clear hs hMx hI hb hx0
            go_wp2
            go_ret2
            exact ⟨rfl, HW.out⟩
          · have hb1 : b = false := by rw [← hb]; unfold isInt; simp; omega
            have hI1 : I = 0 := by rw [← hI]; unfold intIf; rw [hb, hb1]; rfl
            subst hb1 hI1
            have hf1 : decide ((a : Int) < 9223372036854775808) = false := by simp; omega
            clear hs hMx hI hb hx0
            go_wp2
            go_ret2
            exact ⟨rfl, HW.out⟩
        · have hx0 : x < 0 := by simpa using hs.symm
          by_cases hf : a ≤ 9223372036854775808
          · have hb1 : b = true := by rw [← hb]; unfold isInt; simp; omega
            have hI1 : I = -(a : Int) := by rw [← hI]; unfold intIf; rw [hb, hb1]; simp; omega
            subst hb1 hI1
            have hf1 : (a : Int) ≤ 9223372036854775808 := by omega
            have hw1 : IntKind.i64.wrap (IntKind.u64.wrap (-(a : Int))) = -(a : Int) := by rw [IntKind.wrap_u64, IntKind.wrap_i64]; omega
            clear hs hMx hI hb hx0
            go_wp2
            go_ret2
            exact ⟨rfl, HW.out⟩
          · have hb1 : b = false := by rw [← hb]; unfold isInt; simp; omega
            have hI1 : I = 0 := by rw [← hI]; unfold intIf; rw [hb, hb1]; rfl
            subst hb1 hI1
            have hf1 : decide ((a : Int) ≤ 9223372036854775808) = false := by simp; omega
            clear hs hMx hI hb hx0
            go_wp2
            go_ret2
            exact ⟨rfl, HW.out⟩
end Go.Proofs.YtbocpkjajocpiaaGreatDoor

namespace Go.Proofs.YtbocpkjajocpiaaGreatDoor
set_option linter.unusedVariables false
open Go.RowKit Go.Mem Go.Dig
open Go.Lib (decDigits)

theorem str_at {b : ByteArray} {l : List UInt8} (h : b = St l) {k : Nat} (hk : k < b.size) : l[k]? = some b[k] := by
  subst h
  rw [St_size] at hk
  rw [List.getElem?_eq_getElem hk]
  rfl

set_option maxHeartbeats 1000000 in
theorem digits_wide (b : ByteArray) (l : List UInt8) (hb : b = St l) (hn : b.size ≤ 5000) (r : Bool) (hr : r = true ↔ Txt.Formed l) (w : World) :
    Calls Tryz.prog 74 #[.string b] w fun e w' => e = .returned (.bool r) ∧ w = w' := by
  have hl : l.length = b.size := by rw [hb, St_size]
  have H0 := Lib.hid (And.intro hb (And.intro hl hr))
  clear hb hl hr
  go_enter Tryz.func74, Tryz.ntmps74
  go_wp2
  go_loop [3] (fun i => ∃ k : Nat, i = .int .i64 (k : Int) ∧ k ≤ b.size ∧ Hid (Txt.AllDig (l.take k))) (fun i => b.size - (intOf i).toNat)
  case atStart => exact ⟨0, rfl, by omega, by show Txt.AllDig _; rw [List.take_zero]; exact Txt.AllDig.nil⟩
  case round =>
    obtain ⟨k, rfl, hk, HA⟩ := hrel
    by_cases hlt : k < b.size
    · obtain ⟨hb, hl, hr⟩ := H0.out
      have hc := str_at hb hlt
      obtain ⟨c, hcc⟩ : ∃ c, b[k] = c := ⟨_, rfl⟩
      rw [hcc] at hc
      by_cases hd : Txt.isDig c
      · have hd' := hd
        unfold Txt.isDig at hd
        have h1 : decide ((c.toNat : Int) < 48) = false := by simp; omega
        have h2 : decide (57 < (c.toNat : Int)) = false := by simp; omega
        have HN : Hid (Txt.AllDig (l.take (k + 1))) := by
          show Txt.AllDig _
          rw [List.take_add_one, hc]
          refine HA.out.append (fun x hx => ?_)
          rw [show (some c).toList = [c] by rfl, List.mem_singleton] at hx
          subst hx
          exact hd'
        clear hb hl hr hc hd hd' HA
        go_wp2
        go_round
        case rel => exact ⟨k + 1, by go_num, by omega, HN⟩
        case measure => simp [intOf]; omega
      · have hrf : r = false := by
          cases r
          · rfl
          · exfalso
            exact hd ((hr.1 rfl).1 c (List.mem_of_getElem? hc))
        subst hrf
        unfold Txt.isDig at hd
        by_cases h1 : c.toNat < 48
        · have h1' : (c.toNat : Int) < 48 := by omega
          clear hb hl hr hc hd HA
          go_wp2
          go_ret
          exact ⟨rfl, rfl⟩
        · have h1' : decide ((c.toNat : Int) < 48) = false := by simp; omega
          have h2' : 57 < (c.toNat : Int) := by omega
          clear hb hl hr hc hd HA
          go_wp2
          go_ret
          exact ⟨rfl, rfl⟩
    · obtain rfl : b.size = k := by omega
      obtain ⟨hb, hl, hr⟩ := H0.out
      have hall : Txt.AllDig l := by have := HA.out; rwa [List.take_of_length_le (by omega)] at this
      have hge : decide (((b.size : Nat) : Int) < ((b.size : Nat) : Int)) = false := by simp
      cases l with
      | nil =>
        have hrf : r = false := by
          cases r
          · rfl
          · exact absurd rfl ((hr.1 rfl).ne)
        subst hrf
        have hbe : b = ⟨#[]⟩ := hb
        subst hbe
        clear hb hl hr hall HA hge
        go_wp2
        go_ret
        exact ⟨rfl, rfl⟩
      | cons c0 t =>
        have hpos : 0 < b.size := by rw [← hl]; simp
        have hc := str_at hb hpos
        simp at hc
        have htl : b.toList = c0 :: t := by rw [Lib.toList_data, hb]; simp [St]
        have hne : b.toList.isEmpty = false := by rw [htl]; rfl
        have hne2 : ¬ b.toList = [] := by rw [htl]; simp
        have hne3 : (!b.toList.isEmpty) = true := by rw [hne]; rfl
        by_cases h0 : c0 :: t = [48]
        · have hrt : r = true := hr.2 ⟨hall, .inl h0⟩
          subst hrt
          have hbe : b = ⟨#[48]⟩ := by rw [hb, h0]; rfl
          subst hbe
          clear hb hl hr hall HA hge hne hne2 hne3 htl hc hpos
          go_wp2
          go_ret
          exact ⟨rfl, rfl⟩
        · have hbe : (b.toList == [48]) = false := by rw [htl]; simpa using h0
          have hbe2 : ¬ b.toList = [48] := by rw [htl]; exact h0
          obtain ⟨c, hcc⟩ : ∃ c, b[0] = c := ⟨_, rfl⟩
          rw [hcc] at hc
          subst hc
          by_cases h48 : c0 = 48
          · have hrf : r = false := by
              cases r
              · rfl
              · exfalso
                rcases (hr.1 rfl).2 with h | ⟨a, t', h, ha⟩
                · exact h0 h
                · injection h with h1 h2
                  exact ha (h1 ▸ h48)
            subst hrf
            subst h48
            clear hb hl hr hall HA h0 htl
            go_wp2
            go_ret
            exact ⟨rfl, rfl⟩
          · have hrt : r = true := hr.2 ⟨hall, .inr ⟨c0, t, rfl, h48⟩⟩
            subst hrt
            have hcn : ((c0.toNat : Int) != 48) = true := by
              simp
              intro e
              apply h48
              exact UInt8.toNat_inj.1 (by simpa using (by omega : c0.toNat = 48))
            clear hb hl hr hall HA h0 htl
            go_wp2
            go_ret
            exact ⟨rfl, rfl⟩
end Go.Proofs.YtbocpkjajocpiaaGreatDoor

namespace Go.Mem
open Go.RowKit Go.Shelf

theorem wpListIn_app {F : Fence} {d : Nat} {P : Program} {w : World} {base : Nat} {t e : TypeId} {z : Value} {bytes : Nat} (hE : Elem P t e z bytes) {ops : Array Oper} {rest : List Oper} {o : Oper} {a : Act} {Q : Exit → Act → World → Prop} (hgd : o.guard = none) (s x : Operand)
    (ho : o.op = .call { callee := .builtin .append, args := #[s, x], argTypes := #[t, t] })
    {A0 : Option Addr} {n c0 : Nat} {xs : List Value} (hs : a.eval s = .slice A0 n c0) (hown : w.ownsRow base e 1 (.slice A0 n c0) n xs)
    {A : Option Addr} {m c : Nat} {news : List Value} (hx : a.eval x = .slice A m c) (hr : Rd w A m news) (h1 : ∀ u ∈ news, u.oneCell' = true)
    (h63 : n + m ≤ maxLen) (hbytes : (n + m) * bytes ≤ 140737488355328) (hbase : base ≤ w.heap.size)
    (h : ∀ A' c' w', w'.ownsRow base e 1 (.slice A' (n + m) c') (n + m) (xs ++ news) → w.grownBy w' (blk A0) → (blk A' = blk A0 ∨ blk A' = some w.heap.size) → wpListIn F d P ops Q rest (a.put o.dst (.slice A' (n + m) c')) w') :
    wpListIn F d P ops Q (o :: rest) a w := by
  refine wpListIn_plain hgd fun K hK => ?_
  obtain ⟨A', c', w', hrun, h2, h3, h4⟩ := run_app (P := P) hE o.type hown hr h1 h63 hbytes hbase
  unfold Oper.wpIn
  refine ⟨?_, ?_⟩
  · simp [Oper.about, ho, resolve, Target.leads, Sem.run_pure]
  · rw [Oper.semAt_plain F _ _ (by rw [ho]; intro c hc'; cases hc')]
    simp only [execOp, ho, resolve, invoke, builtin, Sem.run_bind, Sem.run_pure, Result.andThen_ok, List.map_toArray, List.map_cons, List.map_nil, hs, hx]
    rw [hrun]
    exact hK _ _ (h A' c' w' h2 h3 h4)

theorem blk_kept {W W' : World} {row : Option Nat} {g : Nat} {t : TypeId} {cs : Array Value} (hs : Blk W g t cs) (hg : W.grownBy W' row) (hr : ∀ r, row = some r → ∃ o : Obj, W.heap[r]? = some o ∧ o.isCells = false) : Blk W' g t cs :=
  hs.grown hg (fun e => by
    obtain ⟨o, ho, hc⟩ := hr g e
    unfold Blk at hs
    rw [hs] at ho
    cases ho
    simp [Obj.isCells] at hc)
theorem own_blk (g : Nat) (t : TypeId) {β : Type} (cs : β → Array Value) : Own (fun (x : β) W => Blk W g t (cs x)) := fun _ _ _ _ hs hg hr => blk_kept hs hg hr
theorem row_kept {W W' : World} {row : Option Nat} {base n c : Nat} {e : TypeId} {A : Option Addr} {xs : List Value} (hs : W.ownsRow base e 1 (.slice A n c) n xs) (hg : W.grownBy W' row) (hr : ∀ r, row = some r → ∃ o : Obj, W.heap[r]? = some o ∧ o.isCells = false) : W'.ownsRow base e 1 (.slice A n c) n xs := by
  refine ⟨hs.1, ?_⟩
  rcases hs.2 with h0 | ⟨g, cap, cur, hv, hb, hh, r⟩
  · exact .inl h0
  · refine .inr ⟨g, cap, cur, hv, hb, ?_, r⟩
    refine (hg.block g (Array.getElem?_eq_some_iff.1 hh).1 (fun e => ?_)).trans hh
    obtain ⟨o, ho, hc⟩ := hr g e.symm
    rw [hh] at ho
    cases ho
    simp [Obj.isCells] at hc
theorem conv_new (w : World) (e : TypeId) (s : ByteArray) : New w (Lib.bytesWorld w e s) :=
  ⟨rfl, rfl, rfl, by rw [Lib.bytesWorld_size]; omega, fun k hk _ => Lib.bytesWorld_at_old w e s k hk⟩
theorem conv_rd (w : World) (e : TypeId) (s : ByteArray) : Rd (Lib.bytesWorld w e s) (some ⟨w.heap.size, 0, none⟩) s.size (bs s.data.toList) := by
  refine ⟨by simp, fun _ => ⟨_, rfl, fun j u hu => ?_⟩⟩
  obtain ⟨c, hc, rfl⟩ := bs_at hu
  rw [Addr.add_lit, Nat.zero_add]
  have hj : j < s.size := by have := (List.getElem?_eq_some_iff.1 hc).1; simpa using this
  rw [Lib.bytesWorld_cell w e s j hj, List.getD_eq_getElem?_getD, hc]
  rfl

/-- The blocks of K are as they were. -/
def Keep (K : Nat → Prop) (W W' : World) : Prop := ∀ k, K k → W'.heap[k]? = W.heap[k]?
theorem Keep.refl (K : Nat → Prop) (W : World) : Keep K W W := fun _ _ => rfl
theorem Keep.trans {K : Nat → Prop} {A B C : World} (h : Keep K A B) (h' : Keep K B C) : Keep K A C := fun k hk => (h' k hk).trans (h k hk)
theorem Keep.cell {K : Nat → Prop} {W W' : World} (h : Keep K W W') {p : Addr} (hp : K p.block) : W'.cell? p = W.cell? p := World.cell?_of_block (h p.block hp)
theorem Keep.rd {K : Nat → Prop} {W W' : World} (h : Keep K W W') {A : Option Addr} {n : Nat} {xs : List Value} (hr : Rd W A n xs) (hA : ∀ k, blk A = some k → K k) : Rd W' A n xs :=
  ⟨hr.1, fun hn => by
    obtain ⟨ad, rfl, hc⟩ := hr.2 hn
    refine ⟨ad, rfl, fun j u hu => ?_⟩
    rw [h.cell (by rw [block_add]; exact hA _ rfl)]
    exact hc j u hu⟩
theorem Keep.of_chg {K S : Nat → Prop} {W W' : World} (h : Chg S W W') (hk : ∀ k, K k → k < W.heap.size ∧ ¬ S k) : Keep K W W' := fun k hK => h.block k (hk k hK).1 (hk k hK).2
/-- What only changes cells keeps everything else. -/
theorem KeepsOthers.of_grown {W W' : World} {row : Option Nat} {g : Nat} {t : TypeId} {cs : Array Value} {fz : Nat × Nat} (hg : W.grownBy W' row) (hrow : row = some g) (hb : W.heap[g]? = some (.cells cs t fz)) : KeepsOthers W W' :=
  ⟨hg.size, fun k o hk ho => (hg.block k (Array.getElem?_eq_some_iff.1 hk).1 (fun e => by
    rw [hrow] at e
    cases e
    rw [hb] at hk
    cases hk
    simp [Obj.isCells] at ho)).trans hk⟩
theorem KeepsOthers.of_app {W W' : World} {base n c : Nat} {e : TypeId} {A : Option Addr} {xs : List Value} (hs : W.ownsRow base e 1 (.slice A n c) n xs) (hg : W.grownBy W' (blk A)) : KeepsOthers W W' := by
  rcases hs.2 with ⟨hv, _⟩ | ⟨g, cap, cur, hv, hb, hh, r⟩
  · injection hv with hv
    subst hv
    exact ⟨hg.size, fun k o hk _ => (hg.block k (Array.getElem?_eq_some_iff.1 hk).1 (by simp [blk])).trans hk⟩
  · injection hv with hv
    subst hv
    exact KeepsOthers.of_grown hg rfl hh
end Go.Mem

namespace Go.Txt
set_option linter.unusedVariables false
theorem decFrom_val {l : List UInt8} (h : AllDig l) : ∀ a, Lib.decFrom a l = some (a * 10 ^ l.length + decVal l) := by
  induction l using snocRec with
  | nil => intro a; simp [Lib.decFrom, decVal_nil]
  | snoc l c ih =>
    intro a
    have hc := h.right c (by simp)
    have h1 := ih h.left a
    have h2 := Lib.decFrom_take (l ++ [c]) l.length a (a * 10 ^ l.length + decVal l) c (c.toNat - 48) (by rw [List.take_left' rfl]; exact h1) (by simp) (by unfold Lib.digitVal; unfold isDig at hc; rw [if_pos hc])
    rw [List.take_of_length_le (by simp)] at h2
    rw [h2, decVal_snoc, List.length_append, List.length_singleton, Nat.pow_succ]
    congr 1
    rw [Nat.add_mul, Nat.mul_assoc, Nat.add_assoc]
theorem atoi_val {l : List UInt8} (h : AllDig l) (hn : l ≠ []) : Lib.atoi l = some (decVal l : Int) := by
  cases l with
  | nil => exact absurd rfl hn
  | cons c t =>
    have hc := h c (by simp)
    unfold isDig at hc
    have h1 : (c == 45) = false := by simp; intro e; subst e; simp at hc
    have h2 : (c == 43) = false := by simp; intro e; subst e; simp at hc
    simp only [Lib.atoi, h1, h2, Bool.false_eq_true, if_false, Lib.decNat, List.isEmpty_cons]
    rw [decFrom_val h 0]
    simp
theorem hasPrefix45 (l : List UInt8) : Lib.hasPrefix l [45] = decide (l.head? = some 45) := by
  unfold Lib.hasPrefix
  cases l with
  | nil => simp [List.isPrefixOf]
  | cons a t =>
    simp only [List.isPrefixOf, Bool.and_true, List.head?_cons, Option.some.injEq]
    rw [Bool.eq_iff_iff, beq_iff_eq, decide_eq_true_iff]
    exact ⟨fun h => h.symm, fun h => h.symm⟩
theorem trimPrefix45 (l : List UInt8) : Lib.trimPrefix l [45] = body l := by
  unfold Lib.trimPrefix body
  rw [hasPrefix45]
  by_cases h : l.head? = some 45
  · simp [h]
  · simp [h]
end Go.Txt
namespace Go.Proofs.YtbocpkjajocpiaaGreatDoor
set_option linter.unusedVariables false
open Go.RowKit Go.Mem Go.Dig
open Go.Lib (decDigits)

theorem St_dat (l : List UInt8) : (St l).data.toList = l := by simp [St]
theorem St_take (l : List UInt8) (k : Nat) : (St l).extract 0 k = St (l.take k) := by
  apply ByteArray.ext
  simp [St]
theorem St_drop (l : List UInt8) (k : Nat) : (St l).extract k (St l).size = St (l.drop k) := by
  apply ByteArray.ext
  simp [St, ByteArray.size]
  rw [List.take_of_length_le (by simp)]

theorem cut_any (b : ByteArray) (l : List UInt8) (hb : b = St l) (w : World) :
    Calls Tryz.prog 73 #[.string b, .string ⟨#[45]⟩] w fun e w' => e = .returned (.tuple #[.string (St (Txt.body l)), .bool (decide (l.head? = some 45))]) ∧ w = w' := by
  refine (Tryz.strings_CutPrefix b ⟨#[45]⟩ w).mono ?_
  rintro e w' ⟨rfl, rfl⟩
  subst hb
  rw [St_dat, show (⟨#[45]⟩ : ByteArray).data.toList = [45] by rfl, Txt.trimPrefix45, Txt.hasPrefix45]
  exact ⟨rfl, rfl⟩
theorem atoi_any (b : ByteArray) (l : List UInt8) (hb : b = St l) (h : Txt.AllDig l) (hn : l ≠ []) (h9 : l.length ≤ 9) (w : World) :
    Calls Tryz.prog 75 #[.string b] w fun e w' => e = .returned (.tuple #[.int .i64 (Txt.decVal l : Int), .nilIface]) ∧ New w w' := by
  subst hb
  refine (Tryz.strconv_Atoi (St l) (Txt.decVal l) (by rw [St_size]; omega) (by rw [St_dat]; exact Txt.atoi_val h hn) w).mono ?_
  rintro e w' ⟨rfl, t, rfl⟩
  exact ⟨rfl, conv_new _ _ _⟩

set_option maxHeartbeats 1000000 in
set_option maxRecDepth 100000 in
theorem wparse_bad (b : ByteArray) (l : List UInt8) (hb : b = St l) (hn : b.size ≤ 5000) (h : ∀ z, ¬ Txt.Reads l z) (w : World) :
    Calls Tryz.prog 19 #[.string b] w fun e w' => e = .returned (.tuple #[.agg #[.bool false, .slice none 0 0], .int .i64 2]) ∧ New w w' := by
  have h1 : decide ((5000 : Int) < (b.size : Int)) = false := by simp; omega
  have h1' : decide (5000 < b.size) = false := by simp; omega
  have hcut := cut_any b l hb
  obtain ⟨c, hc⟩ : ∃ c, St (Txt.body l) = c := ⟨_, rfl⟩
  have hcs : c.size ≤ 5000 := by rw [← hc, St_size]; have := Txt.Reads.body_len l; rw [hb, St_size] at hn; omega
  obtain ⟨g, hg⟩ : ∃ g, decide (l.head? = some 45) = g := ⟨_, rfl⟩
  rw [hc, hg] at hcut
  by_cases hf : Txt.Formed (Txt.body l)
  · have hdg := digits_wide c (Txt.body l) hc.symm hcs true ⟨fun _ => hf, fun _ => rfl⟩
    have hbad : l.head? = some 45 ∧ Txt.body l = [48] := by
      refine Classical.byContradiction (fun hx => h _ ⟨hf, hx, rfl⟩)
    obtain rfl : true = g := by rw [← hg]; simp [hbad.1]
    have hcc : c = ⟨#[48]⟩ := by rw [← hc, hbad.2]; rfl
    subst hcc
    have HC := Lib.hid (And.intro hcut hdg)
    clear hcut hdg hb h hc hg hf hbad hcs
    go_enter Tryz.func19, Tryz.ntmps19
    go_wp2_with fail
    refine (HC.out.1 _).mono ?_
    rintro e w1 ⟨rfl, rfl⟩
    go_wp2_with fail
    refine (HC.out.2 _).mono ?_
    rintro e w1 ⟨rfl, rfl⟩
    go_wp2
    exact bodyPost_ret (res_ct rfl _ rfl (aggInt.load (Blk.new _ _ _)) rfl) rfl ⟨rfl, (Chg.refl _ w).alloc _⟩
  · have hdg := digits_wide c (Txt.body l) hc.symm hcs false ⟨fun h => by simp at h, fun h => absurd h hf⟩
    have HC := Lib.hid (And.intro hcut hdg)
    clear hcut hdg hb h hc hg hf hcs
    go_enter Tryz.func19, Tryz.ntmps19
    go_wp2_with fail
    refine (HC.out.1 _).mono ?_
    rintro e w1 ⟨rfl, rfl⟩
    go_wp2_with fail
    refine (HC.out.2 _).mono ?_
    rintro e w1 ⟨rfl, rfl⟩
    go_wp2
    exact bodyPost_ret (res_ct rfl _ rfl (aggInt.load (Blk.new _ _ _)) rfl) rfl ⟨rfl, (Chg.refl _ w).alloc _⟩

theorem sg_reads {l : List UInt8} {z : Int} (h : Txt.Reads l z) : sg (decide (l.head? = some 45)) (Txt.decVal (Txt.body l)) = z := by
  rw [h.2.2]
  unfold sg
  by_cases hs : l.head? = some 45 <;> simp [hs]
theorem WD.lit1 {W : World} {g d : Nat} {t : TypeId} (hb : Blk W g t #[.int .u32 (d : Int)]) (hd : d < 4294967296) : WD W (some ⟨g, 0, none⟩) 1 1 d := by
  refine ⟨[d], ⟨rfl, fun _ => ⟨_, rfl, fun j u hu => ?_⟩⟩, Nat.le_refl _, by omega, ⟨Digs.cons hd (Digs.nil _), by simp [val_cons, val_nil]⟩⟩
  match j, hu with
  | 0, hu =>
    simp [nv] at hu
    subst hu
    rw [Addr.add_lit]
    exact hb.cell 0 rfl
theorem WM.lit1 {W : World} {g d : Nat} {t : TypeId} (hb : Blk W g t #[.int .u32 (d : Int)]) (hd : d < 4294967296) (h1 : 1 ≤ d) : WM W (some ⟨g, 0, none⟩) 1 1 d := by
  obtain ⟨l, h2, h3, h4, h5⟩ := WD.lit1 hb hd
  refine ⟨[d], ?_, h3, h4, ⟨Digs.cons hd (Digs.nil _), by simp [Trim]; omega, by simp [val_cons, val_nil]⟩⟩
  refine ⟨rfl, fun _ => ⟨_, rfl, fun j u hu => ?_⟩⟩
  match j, hu with
  | 0, hu =>
    simp [nv] at hu
    subst hu
    rw [Addr.add_lit]
    exact hb.cell 0 rfl
theorem val_bound {l : List UInt8} (h : Txt.AllDig l) {k : Nat} (hk : l.length ≤ k) : Txt.decVal l < 4294967296 ^ k :=
  Nat.lt_of_lt_of_le (Txt.decVal_lt h) (Nat.le_trans (Nat.pow_le_pow_left (by omega) _) (Nat.pow_le_pow_right (by omega) hk))
theorem val_chunk (t : List UInt8) (k j : Nat) (hj : k + j ≤ t.length) (h9 : k = 0 ∨ j = 9) : Txt.decVal (t.take k) * 1000000000 + Txt.decVal ((t.drop k).take j) = Txt.decVal (t.take (k + j)) := by
  rw [List.take_add, Txt.decVal_append, List.length_take, Nat.min_eq_left (by simp; omega)]
  rcases h9 with h | h
  · subst h
    rw [List.take_zero, Txt.decVal_nil]
    omega
  · subst h; rfl

set_option maxHeartbeats 4000000 in
set_option maxRecDepth 100000 in
theorem wparse_ok (b : ByteArray) (l : List UInt8) (hb : b = St l) (hn : b.size ≤ 5000) (z : Int) (h : Txt.Reads l z) (w : World) :
    Calls Tryz.prog 19 #[.string b] w fun e w' => ∃ s A n c, e = .returned (.tuple #[.agg #[.bool s, .slice A n c], .int .i64 (rgE z)]) ∧ Hid (WI w' (.agg #[.bool s, .slice A n c]) (rg z) ∧ New w w') := by
  have h1 : decide ((5000 : Int) < (b.size : Int)) = false := by simp; omega
  have h1' : decide (5000 < b.size) = false := by simp; omega
  have hcut := cut_any b l hb
  obtain ⟨c, hc⟩ : ∃ c, St (Txt.body l) = c := ⟨_, rfl⟩
  have hbl := Txt.Reads.body_len l
  have hcs : c.size ≤ 5000 := by rw [← hc, St_size]; rw [hb, St_size] at hn; omega
  obtain ⟨g, hg⟩ : ∃ g, decide (l.head? = some 45) = g := ⟨_, rfl⟩
  rw [hc, hg] at hcut
  have hdg := digits_wide c (Txt.body l) hc.symm hcs true ⟨fun _ => h.1, fun _ => rfl⟩
  have hall := h.1.1
  have hsg := sg_reads h
  rw [hg] at hsg
  obtain ⟨t, ht⟩ : ∃ t, Txt.body l = t := ⟨_, rfl⟩
  rw [ht] at hc hall hsg
  have hneg : g = false ∨ (g = true ∧ (c.toList == [48]) = false) := by
    by_cases h45 : l.head? = some 45
    · right
      refine ⟨by rw [← hg]; simp [h45], ?_⟩
      have h2 := h.2.1
      have : t ≠ [48] := fun e => h2 ⟨h45, by rw [ht, e]⟩
      rw [Lib.toList_data, ← hc, St_dat]
      simpa using this
    · left; rw [← hg]; simp [h45]
  obtain ⟨E, hE⟩ : ∃ E, rgE z = E := ⟨_, rfl⟩
  rw [hE]
  have htl : t.length = c.size := by rw [← hc, St_size]
  have HC := Lib.hid (And.intro hcut hdg)
  have H0 := Lib.hid (And.intro hc (And.intro hall (And.intro hsg (And.intro hE htl))))
  clear hcut hdg hb h hc hg hbl hall hsg ht hE htl
  go_enter Tryz.func19, Tryz.ntmps19
  go_wp2_with fail
  refine Calls.new1 ?_
  intro W hbW hnW hzW
  refine (HC.out.1 W).mono ?_
  rintro e w1 ⟨rfl, rfl⟩
  go_wp2_with fail
  refine (HC.out.2 W).mono ?_
  rintro e w1 ⟨rfl, rfl⟩
  have HW := Lib.hid (And.intro hbW (And.intro hnW hzW))
  clear hbW hnW hzW HC
  have hneg2 : g = false ∨ (g = true ∧ (c.toList == [48]) = false ∧ ¬ c.toList = [48]) := by
    rcases hneg with h | ⟨h, h2⟩
    · exact .inl h
    · exact .inr ⟨h, h2, by simpa using h2⟩
  clear hneg
  have hran : ∀ R m d wo, WM wo R m d (Txt.decVal t) → Calls Tryz.prog 78 #[.bool g, .slice R m d] wo fun e w' => ∃ s' A' n' c', e = .returned (.tuple #[.agg #[.bool s', .slice A' n' c'], .int .i64 E]) ∧ Hid (WI w' (.agg #[.bool s', .slice A' n' c']) (rg z) ∧ New wo w') := fun R m d wo hwm => by
    have := ranged_wm g R m d _ wo hwm
    rw [H0.out.2.2.1, H0.out.2.2.2.1] at this
    exact this
  have HRAN := Lib.hid hran
  clear hran
  rcases hneg2 with h | ⟨h, h48, h48'⟩ <;> subst h
  all_goals
    go_wp2_with fail
    (try clear h48 h48')
    go_loopw [4, 6, 7, 8, 9] (fun s4 s6 _ _ _ wr => ∃ (k : Nat) (b' : ByteArray) (R : Option Addr) (m d : Nat), s4 = .string b' ∧ s6 = .slice R m d ∧ k + b'.size = c.size ∧ (k = 0 ∨ b'.size % 9 = 0) ∧ Hid (b' = St (t.drop k) ∧ WM wr R m d (Txt.decVal (t.take k)) ∧ New W wr)) (fun s4 _ _ _ _ _ => match s4 with | .string b => b.size | _ => 0)
    case atStart => exact ⟨0, c, none, 0, 0, rfl, rfl, by omega, .inl rfl, H0.out.1.symm, WM.zero _, Chg.refl _ _⟩
    case round =>
      obtain ⟨k, b', R, m, d, rfl, rfl, hkc, hk9, HI⟩ := hrel
      obtain ⟨wo, rfl⟩ : ∃ wo : World, wo = wr := ⟨_, rfl⟩
      obtain ⟨hc, hall, hsg, hE, htl⟩ := H0.out
      obtain ⟨hb', hwm, hnw⟩ := HI.out
      have hm : m ≤ 5000 := Nat.le_trans (hwm.len (val_bound (hall.take k) (k := c.size) (by simp; omega))) hcs
      by_cases h0 : b'.size = 0
      · have hpos : decide ((0 : Int) < ((b'.size : Nat) : Int)) = false := by rw [h0]; rfl
        have hpos' : decide (0 < b'.size) = false := by rw [h0]; rfl
        have hk : k = t.length := by omega
        rw [hk, List.take_length] at hwm
        have hran := HRAN.out R m d wo hwm
        have hbw := HW.out.1.chg hnw (fun h => h)
        have HR := Lib.hid (And.intro hran (And.intro hbw hnw))
        clear hc hall hsg hE htl hb' hwm hnw hk hran hbw HI h0
        go_wp2_with fail
        refine HR.out.1.mono ?_
        rintro e w5 ⟨s5, A5, n5, c5, rfl, H5⟩
        have hb5 := HR.out.2.1.chg H5.out.2 (fun h => h)
        have g0 := hb5.cell 0 rfl
        have g1 := hb5.cell 1 rfl
        have f0 := hb5.frozen 0
        have f1 := hb5.frozen 1
        have HB := Lib.hid hb5
        clear hb5
        go_wp2
        refine bodyPost_ret (res_ct rfl _ rfl (aggInt.load (HB.out.set2 _ _)) rfl) rfl ⟨s5, A5, n5, c5, rfl, H5.out.1.store HB.out (noInt_two _ _ _ _) (Chg.at2 _ _ _ _), ?_⟩
        exact Chg.owned ((HW.out.2.1.new HR.out.2.2).new H5.out.2) (Chg.at2 _ _ _ _) (fun k e => by omega)
      · have hpos : (0 : Int) < ((b'.size : Nat) : Int) := by omega
        have hpos' : 0 < b'.size := by omega
        obtain ⟨p, hp⟩ : ∃ p, b'.size - 1 = p := ⟨_, rfl⟩
        obtain ⟨q, hq⟩ : ∃ q, p % 9 = q := ⟨_, rfl⟩
        obtain ⟨j, hj⟩ : ∃ j, q + 1 = j := ⟨_, rfl⟩
        have hpi : ((b'.size : Nat) : Int) - 1 = (p : Int) := by omega
        have hqi : (p : Int) % 9 = (q : Int) := by omega
        have hji : (q : Int) + 1 = (j : Int) := by omega
        have hj9 : j ≤ 9 := by omega
        have hjb : j ≤ b'.size := by omega
        have hjk : k = 0 ∨ j = 9 := by omega
        have hrest : (b'.size - j) % 9 = 0 := by omega
        have hdl : (t.drop k).length = b'.size := by simp; omega
        obtain ⟨b1, hb1⟩ : ∃ x, St ((t.drop k).take j) = x := ⟨_, rfl⟩
        obtain ⟨b2, hb2⟩ : ∃ x, St ((t.drop k).drop j) = x := ⟨_, rfl⟩
        have hb2s : b2.size = b'.size - j := by rw [← hb2, St_size, List.length_drop, hdl]
        have hs1 : ∀ W, (Instr.slice 9 (.string b') none (some (.int .i64 (j : Int))) none).run Tryz.prog W = .ok (.string b1) W := fun W => by
          rw [run_slice_string_h W 9 b' Tryz.underlying9 .i64 (j : Int) (by omega) (by omega), Int.toNat_natCast, hb', St_take, hb1]
        have hs2 : ∀ W, (Instr.slice 9 (.string b') (some (.int .i64 (j : Int))) none none).run Tryz.prog W = .ok (.string b2) W := fun W => by
          rw [run_slice_string_l W 9 b' Tryz.underlying9 .i64 (j : Int) (by omega) (by omega), Int.toNat_natCast, hb', St_drop, hb2]
        have hat := atoi_any b1 ((t.drop k).take j) hb1.symm ((hall.drop k).take j) (by intro e; have := congrArg List.length e; simp at this; omega) (by simp; omega)
        have hPb := Txt.decVal_lt ((hall.drop k).take j)
        have hval := val_chunk t k j (by omega) hjk
        obtain ⟨P, hP⟩ : ∃ P, Txt.decVal ((t.drop k).take j) = P := ⟨_, rfl⟩
        obtain ⟨V, hV⟩ : ∃ V, Txt.decVal (t.take k) = V := ⟨_, rfl⟩
        rw [hP] at hat hPb hval
        rw [hV] at hwm hval
        have hPb2 : P < 1000000000 := by
          refine Nat.lt_of_lt_of_le hPb ?_
          refine Nat.le_trans (Nat.pow_le_pow_right (by omega) (show ((t.drop k).take j).length ≤ 9 by simp; omega)) (by decide)
        have HR := Lib.hid (And.intro hwm (And.intro hnw (And.intro hval (And.intro hat (show b2 = St (t.drop (k + j)) by rw [← hb2, List.drop_drop])))))
        have HRE := Lib.hid (And.intro hrest (And.intro hb2s (show j + b2.size = b'.size by omega)))
        clear hc hall hsg hE htl hb' hwm hnw HI h0 hp hq hj hjk hrest hdl hb1 hb2 hb2s hat hPb hval hP hV
        go_wp2_with fail
        refine (HR.out.2.2.2.1 wo).mono ?_
        rintro e w2 ⟨rfl, hn2⟩
        have HN2 := Lib.hid hn2
        clear hn2
        have hPi : (P : Int) % 4294967296 = (P : Int) := by omega
        go_wp2_with fail
        refine Calls.new1 ?_
        intro W3 hb3 hn3 hz3
        refine (mulMag_any R m d _ 1 1 V 1000000000 W3 ((HR.out.1.new HN2.out).new hn3) (WM.lit1 (d := 1000000000) hb3 (by omega) (by omega)) (by omega) (by omega)).mono ?_
        rintro e w4 ⟨R4, m4, d4, rfl, H4⟩
        have HN3 := Lib.hid hn3
        clear hb3 hn3 hz3
        have hm4 : m4 ≤ 5000 := by
          obtain ⟨hc, hall, hsg, hE, htl⟩ := H0.out
          have hb := val_bound (hall.take (k + j)) (k := c.size) (by simp; omega)
          rw [← HR.out.2.2.1] at hb
          exact Nat.le_trans (H4.out.1.len (k := c.size) (Nat.lt_of_le_of_lt (Nat.le_add_right _ _) hb)) hcs
        go_wp2_with fail
        refine Calls.new1 ?_
        intro W5 hb5 hn5 hz5
        refine (addMag_wd R4 m4 d4 _ 1 1 (V * 1000000000) P W5 (H4.out.1.new hn5).wd (WD.lit1 hb5 (by omega)) (by omega) (by omega)).mono ?_
        rintro e w6 ⟨R6, m6, d6, rfl, H6⟩
        have HN5 := Lib.hid hn5
        clear hb5 hn5 hz5
        go_wp2_with fail
        go_roundw
        case rel =>
          refine ⟨k + j, b2, R6, m6, d6, rfl, rfl, by have := HRE.out.2.2; omega, .inr (by rw [HRE.out.2.1]; exact HRE.out.1), HR.out.2.2.2.2, ?_, ?_⟩
          · have := H6.out.1
            rwa [HR.out.2.2.1] at this
          · exact ((((HR.out.2.1.new HN2.out).new HN3.out).new H4.out.2.2).new HN5.out).new H6.out.2
        case measure =>
          show b2.size < b'.size
          have := HRE.out.2.1
          omega
end Go.Proofs.YtbocpkjajocpiaaGreatDoor

namespace Go.Proofs.YtbocpkjajocpiaaGreatDoor
set_option linter.unusedVariables false
open Go.RowKit Go.Mem Go.Dig
open Go.Lib (decDigits)

/-- The library's table of powers of ten lies as its text lays it. -/
def PowTab (w : World) : Prop := Lib.TabIs Tryz.prog w "internal/strconv.uint64pow10" .u64 Lib.pow10Tab
theorem PowTab.chg {S : Nat → Prop} {w w' : World} (h : PowTab w) (hc : Chg S w w') (hs : ∀ g, Tryz.prog.globalNamed "internal/strconv.uint64pow10" = some g → ¬ S g) : PowTab w' := by
  unfold PowTab Lib.TabIs World.var? at h ⊢
  cases hg : Tryz.prog.globalNamed "internal/strconv.uint64pow10" with
  | none => rw [hg] at h; simp at h
  | some g =>
    rw [hg] at h
    simp only [Option.bind_some] at h ⊢
    cases ho : w.heap[g]? with
    | none => rw [ho] at h; simp at h
    | some o =>
      rw [hc.heap ho (hs g hg)]
      rw [ho] at h
      exact h
theorem PowTab.new {w w' : World} (h : PowTab w) (hc : New w w') : PowTab w' := h.chg hc (fun _ _ h => h)
theorem grow_new (w : World) (k : Nat) (os : Array Obj) : New w (Sort.grow (w.drewN k) os) := by
  refine ⟨rfl, rfl, rfl, by simp [Sort.grow, World.drewN], fun j hj _ => ?_⟩
  simp only [Sort.grow, World.drewN]
  rw [Array.getElem?_append_left hj]

theorem itoa_any (d : Nat) (hd : d < 1000000000) (w : World) (ht : PowTab w) :
    Calls Tryz.prog 89 #[.int .i64 (d : Int)] w fun e w' => e = .returned (.string (St (decDigits d))) ∧ New w w' := by
  refine (Tryz.strconv_Itoa (d : Int) (by omega) (by omega) w ht).mono ?_
  rintro e w' ⟨rfl, k, os, rfl⟩
  refine ⟨?_, grow_new _ _ _⟩
  have : Lib.itoa (d : Int) = decDigits d := by
    unfold Lib.itoa
    rw [if_neg (by omega), Int.toNat_natCast]
  rw [this]
  rfl
theorem repeatL_rep (c : Nat) : Lib.repeatL [48] c = List.replicate c 48 := by
  induction c with
  | zero => rfl
  | succ c ih => rw [Lib.repeatL, ih, List.replicate_succ]; rfl
theorem repeat_any (c : Nat) (hc : c ≤ 9) (w : World) :
    Calls Tryz.prog 90 #[.string ⟨#[48]⟩, .int .i64 (c : Int)] w fun e w' => e = .returned (.string (St (List.replicate c 48))) ∧ New w w' := by
  refine (Tryz.strings_Repeat ⟨#[48]⟩ c w (by omega) (by rw [show (⟨#[48]⟩ : ByteArray).size = 1 by rfl]; omega)).mono ?_
  rintro e w' ⟨rfl, h⟩
  refine ⟨?_, New.of_below h⟩
  rw [show (⟨#[48]⟩ : ByteArray).data.toList = [48] by rfl, repeatL_rep]
  rfl
theorem elemStrs : Elem Tryz.prog 82 9 (.string ⟨#[]⟩) 16 := Elem.mk' Tryz.underlying82 (by kernel_rfl) rfl

/-- The parts of a text, the last first. -/
def joinR (ps : List (List UInt8)) : List UInt8 := ps.reverse.flatten
theorem joinR_snoc (ps : List (List UInt8)) (p : List UInt8) : joinR (ps ++ [p]) = p ++ joinR ps := by simp [joinR]
def StrI (T : List UInt8) (V : Nat) (ps : List (List UInt8)) : Prop := (if V = 0 then joinR ps else decDigits V ++ joinR ps) = T
theorem str_more {T : List UInt8} {V : Nat} {ps : List (List UInt8)} (h : StrI T V ps) (hq : 0 < V / 1000000000) : StrI T (V / 1000000000) (ps ++ [Txt.pad 9 (V % 1000000000)]) := by
  unfold StrI at h ⊢
  rw [if_neg (by omega)] at h ⊢
  have e := Txt.dec_pad 9 (V / 1000000000) (V % 1000000000) (Nat.mod_lt _ (by omega)) hq
  rw [show V / 1000000000 * 10 ^ 9 + V % 1000000000 = V by omega] at e
  rw [← h, e, joinR_snoc, List.append_assoc]
theorem str_last {T : List UInt8} {V : Nat} {ps : List (List UInt8)} (h : StrI T V ps) (h0 : V ≠ 0) (hq : V / 1000000000 = 0) : StrI T 0 (ps ++ [decDigits (V % 1000000000)]) := by
  unfold StrI at h ⊢
  rw [if_neg h0] at h
  rw [if_pos rfl, joinR_snoc, Nat.mod_eq_of_lt (by omega), h]
theorem pad9 {d : Nat} (hd : d < 1000000000) : List.replicate (9 - (decDigits d).length) 48 ++ decDigits d = Txt.pad 9 d := (Txt.pad_dec 9 d (by omega) (by omega)).symm
def strs (ps : List (List UInt8)) : List Value := ps.map (fun p => Value.string (St p))
theorem strs_one (ps : List (List UInt8)) : ∀ u ∈ strs ps, u.oneCell' = true := by
  intro u hu
  obtain ⟨_, _, rfl⟩ := List.mem_map.1 hu
  rfl
theorem StrI.len {T : List UInt8} {V : Nat} {ps : List (List UInt8)} (h : StrI T V ps) (hl : ps.length ≤ (joinR ps).length) : ps.length ≤ T.length := by
  unfold StrI at h
  rw [← h]
  split
  · exact hl
  · rw [List.length_append]; omega
theorem dec_words {Z n : Nat} (h : Z < 4294967296 ^ n) (hn : 1 ≤ n) : (decDigits Z).length ≤ 10 * n := by
  refine Txt.dec_len_le (by omega) (Nat.lt_of_lt_of_le h ?_)
  rw [Nat.pow_mul]
  exact Nat.pow_le_pow_left (by decide) n
/-- What the first loop of String holds. -/
def S1 (w : World) (T : List UInt8) (R : Option Addr) (m d : Nat) (PA : Option Addr) (k pc V : Nat) (ps : List (List UInt8)) (wr : World) : Prop :=
  WM wr R m d V ∧ StrI T V ps ∧ ps.length = k ∧ k ≤ (joinR ps).length ∧ wr.ownsRow w.heap.size 9 1 (.slice PA k pc) k (strs ps) ∧ New w wr
theorem chg_below {B : Nat} {w w' : World} (h : Below B w w') : Chg (fun j => B ≤ j) w w' := ⟨h.os, h.tape, h.output, h.size, fun k _ hn => h.block k (by omega)⟩
/-- What the second loop of String holds. -/
def S2 (wo : World) (gb : Nat) (sgn : List UInt8) (ps : List (List UInt8)) (k : Nat) (wr : World) : Prop :=
  Lib.IsBuilder 129 5 gb gb (Lib.byteCells (sgn ++ (ps.drop k).reverse.flatten)) wr ∧ Chg (fun j => gb ≤ j) wo wr
theorem flat_step {ps : List (List UInt8)} {k : Nat} {p : List UInt8} (h : ps[k]? = some p) : (ps.drop k).reverse.flatten = (ps.drop (k + 1)).reverse.flatten ++ p := by
  obtain ⟨hk, hp⟩ := List.getElem?_eq_some_iff.1 h
  rw [List.drop_eq_getElem_cons hk, hp]
  simp
theorem flat_le (ps : List (List UInt8)) (k : Nat) : (ps.drop k).reverse.flatten.length ≤ (joinR ps).length := by
  unfold joinR
  rw [← List.take_append_drop k ps, List.reverse_append, List.flatten_append, List.length_append]
  simp
theorem strCells_St (p : List UInt8) : Lib.strCells (St p) = Lib.byteCells p := by
  unfold Lib.strCells Lib.byteCells
  rw [St_dat]
theorem strs_at {ps : List (List UInt8)} {k : Nat} {u : Value} (h : (strs ps)[k]? = some u) : ∃ p, ps[k]? = some p ∧ u = .string (St p) := by
  simp only [strs, List.getElem?_map, Option.map_eq_some_iff] at h
  obtain ⟨c, h1, h2⟩ := h
  exact ⟨c, h1, h2.symm⟩
theorem S1.next {w2 wo w3 w6 w7 : World} {T : List UInt8} {R : Option Addr} {m d : Nat} {PA : Option Addr} {k pc V : Nat} {ps : List (List UInt8)} {g3 T1 m1 V1 c7 : Nat} {A7 : Option Addr} {p : List UInt8} {o : Obj} (h : S1 w2 T R m d PA k pc V ps wo) (hg : wo.heap.size ≤ g3) (hn3 : New wo w3) (hwm : WM w3 (some ⟨g3, 0, none⟩) T1 m1 V1) (hn6 : New w3 w6)
    (hown : w7.ownsRow w2.heap.size 9 1 (.slice A7 (k + 1) c7) (k + 1) (strs ps ++ strs [p])) (hgr : (w6.alloc o).grownBy w7 (blk PA)) (hst : StrI T V1 (ps ++ [p])) (hp : 1 ≤ p.length) : S1 w2 T (some ⟨g3, 0, none⟩) T1 m1 A7 (k + 1) c7 V1 (ps ++ [p]) w7 := by
  obtain ⟨h1, h2, h3, h4, h5, h6⟩ := h
  have hch : Chg (fun j => blk PA = some j) w6 w7 := ((Chg.refl _ w6).alloc o).grown hgr (fun j hj _ => hj)
  refine ⟨(hwm.new hn6).chg hch (fun j hj e => ?_), hst, by simp [h3], by rw [joinR_snoc, List.length_append]; omega, by rw [show strs (ps ++ [p]) = strs ps ++ strs [p] by simp [strs]]; exact hown, ?_⟩
  · have := (own_blk_le h5 e).2
    simp [blk] at hj
    omega
  · exact ((h6.new hn3).new hn6).trans hch (fun j hj e => by have := (own_blk_le h5 e).1; omega)
theorem rd_str {w : World} {b : ByteArray} {l : List UInt8} {e : TypeId} {g : Nat} (hg : g = w.heap.size) (hb : b = St l) : Rd (w.alloc (.cells #[.string b] e)) (some ⟨g, 0, none⟩) 1 (strs [l]) := by
  subst hg hb; exact Rd.lit (strs [l]) rfl

set_option maxHeartbeats 4000000 in
set_option maxRecDepth 100000 in
theorem wstring_any (v : Value) (z : Int) (w : World) (hv : WI w v z) (hpt : PowTab w) (hz : z.natAbs < 2 ^ 900000) :
    Calls Tryz.prog 23 #[v] w fun e w' => e = .returned (.string (St (Txt.text z))) ∧ New w w' := by
  obtain ⟨s, A, n, c, rfl, hs, hm⟩ := hv
  have hn := bz_wlen hm hz
  clear hz
  obtain ⟨T, hT⟩ : ∃ T, Txt.text z = T := ⟨_, rfl⟩
  rw [hT]
  by_cases h0 : n = 0
  · subst h0
    have hz0 : z.natAbs = 0 := hm.pos.1 rfl
    obtain rfl : [48] = T := by
      rw [← hT]; unfold Txt.text; rw [if_neg (by omega), hz0, Txt.dec_small (by omega)]; rfl
    clear hm hT hz0 hs hpt
    go_enter Tryz.func23, Tryz.ntmps23
    go_wp2
    go_ret
    exact ⟨rfl, (Chg.refl _ w).alloc _⟩
  · have hn0 : ((n : Int) == 0) = false := by simp; omega
    obtain ⟨Z, hZ⟩ : ∃ Z, z.natAbs = Z := ⟨_, rfl⟩
    rw [hZ] at hm
    have hZ1 : Z ≠ 0 := fun h => h0 (hm.pos.2 h)
    obtain ⟨la, hr, hnc, hc, hN⟩ := hm
    have H0 := Lib.hid (And.intro hr (And.intro hN (And.intro hs (And.intro hT (And.intro hZ hpt)))))
    have hbW := fun (W : World) => Rd.new (w := w) (w' := W) hr
    clear hr hN hs hT hZ hpt hbW
    go_enter Tryz.func23, Tryz.ntmps23
    go_upto_region 3 with fail
    refine Code.new1 ?_
    intro W hb1 hnW hzW
    have hk1 := hb1.cell 1 (u := .slice A n c) rfl
    have HW := Lib.hid (And.intro hb1 hnW)
    clear hb1 hnW hzW
    go_wp2_with (first
      | (at_make; refine wpList_mk elemU32 rfl rfl _ _ rfl (n := n) rfl rfl (by omega) (by omega) (by omega) (by simp only [maxLen]; omega) ?_; intro w1 hown1 hg1 hz1; have HMK := Lib.hid (And.intro hown1 (And.intro hg1 hz1)); have hk2 := hg1.cell hk1 (fun h => h); clear hown1 hg1 hz1)
      | ((with_reducible refine wpList_cp elemU32 rfl (.tmp 17) (.tmp 19) rfl rfl HMK.out.1 rfl (Nat.le_refl _) ((H0.out.1.new HW.out.2).new HMK.out.2.1) (nv_one _) ?_); intro w2 hown2 hch2; have HCP := Lib.hid (And.intro hown2 hch2); clear hown2 hch2))
    have hnw2 : New w w2 := Chg.owned (HW.out.2.new HMK.out.2.1) HCP.out.2 (fun k e => by have := HW.out.2.size; omega)
    have hb2 : Blk w2 w.heap.size 35 #[.bool s, .slice A n c] := (HW.out.1.chg HMK.out.2.1 (fun h => h)).chg HCP.out.2 (by have := HW.out.1.lt; omega)
    have hZlt : Z < 4294967296 ^ n := H0.out.2.1.lt (by omega) (by have := H0.out.1.len; rw [nv_length] at this; omega)
    obtain ⟨TD, hTD⟩ : ∃ x, decDigits Z = x := ⟨_, rfl⟩
    have hTl : TD.length ≤ 9000000 := by rw [← hTD]; have := dec_words hZlt (by omega); omega
    have hS : S1 w2 TD (some ⟨W.heap.size, 0, none⟩) n n none 0 0 Z [] w2 := by
      refine ⟨⟨la, ?_, Nat.le_refl _, by omega, H0.out.2.1⟩, ?_, rfl, Nat.zero_le _, World.ownsRow_nil w2 w2.heap.size _ _, Chg.refl _ _⟩
      · have := Rd.of_own HCP.out.1
        rwa [List.drop_eq_nil_of_le (by simp), List.append_nil] at this
      · unfold StrI; rw [if_neg hZ1, hTD]; simp [joinR]
    obtain ⟨gr, hgr⟩ : ∃ x, W.heap.size = x := ⟨_, rfl⟩
    rw [hgr] at hS
    simp only [hgr]
    have H2 := Lib.hid (And.intro hS (And.intro hnw2 (And.intro hb2 hTD)))
    clear hnw2 hb2 hZlt hTD hS hgr HCP HMK hk1 hk2
    go_loopw [3, 4, 5, 6] (fun s3 s4 _ _ wr => ∃ (R : Option Addr) (m d : Nat) (PA : Option Addr) (k pc V : Nat) (ps : List (List UInt8)), s3 = .slice R m d ∧ s4 = .slice PA k pc ∧ m ≤ 900000 ∧ Hid (S1 w2 TD R m d PA k pc V ps wr)) (fun s3 s4 _ _ _ => match s3, s4 with | .slice _ m _, .slice _ k _ => if m = 0 then 0 else 9000001 - k | _, _ => 0)
    case atStart => exact ⟨_, n, n, none, 0, 0, Z, [], rfl, rfl, hn, H2.out.1⟩
    case round =>
      obtain ⟨R, m, d, PA, k, pc, V, ps, rfl, rfl, hm, HS⟩ := hrel
      obtain ⟨wo, rfl⟩ : ∃ wo : World, wo = wr := ⟨_, rfl⟩
      obtain ⟨hwm, hst, hpl, hpj, hown, hnw⟩ := HS.out
      have hkT : k ≤ 9000000 := by have := hst.len (by omega); omega
      by_cases hm0 : m = 0
      · subst hm0
        have hV0 : V = 0 := hwm.pos.1 rfl
        subst hV0
        obtain ⟨gb, hgb⟩ : ∃ x, wo.heap.size = x := ⟨_, rfl⟩
        have hbo := H2.out.2.2.1.chg hnw (fun h => h)
        have hk0 := ((Chg.refl (fun _ => False) wo).alloc (.cells #[.pointer none, .slice none 0 0] 129)).cell (hbo.cell 0 (u := .bool s) rfl) (fun h => h)
        have hjT : joinR ps = TD := by unfold StrI at hst; rw [if_pos rfl] at hst; exact hst
        have hrd : Rd wo PA k (strs ps) := Rd.of_own hown
        have hblk : ∀ j, blk PA = some j → j < gb := fun j hj => by have := (own_blk_le hown hj).2; omega
        have hneww : New w wo := H2.out.2.1.new hnw
        have hlen : ∀ j, (ps.drop j).reverse.flatten.length ≤ 9000000 := fun j => Nat.le_trans (flat_le ps j) (by rw [hjT]; exact hTl)
        have HP := Lib.hid (And.intro hjT (And.intro hrd (And.intro hblk (And.intro hneww (And.intro hlen (And.intro hpl hgb))))))
        clear hwm hst hpj hown hnw HS hbo hjT hrd hblk hneww hlen hpl
        have fin : ∀ (sgn : List UInt8), sgn.length ≤ 1 → sgn ++ TD = T → ∀ (wr : World), S2 wo gb sgn ps 0 wr → Calls Tryz.prog 93 #[.pointer (some ⟨gb, 0, none⟩)] wr fun e w' => e = .returned (.string (St T)) ∧ Hid (New w w') := fun sgn _ hT wr h => by
          obtain ⟨h1, h2⟩ := h
          obtain ⟨hjT, hrd, hblk, hneww, hlen, hpl, hgb⟩ := HP.out
          rw [List.drop_zero, show ps.reverse.flatten = joinR ps by rfl, hjT, hT] at h1
          refine (Tryz.Builder_String_any gb gb T wr h1 (by have := h2.size; omega)).mono ?_
          rintro e w' ⟨rfl, hb⟩
          exact ⟨rfl, hneww.trans (h2.trans (chg_below hb) (fun _ _ h => h)) (fun j hj e => by have := hneww.size; omega)⟩
        have stp : ∀ (sgn : List UInt8), sgn.length ≤ 1 → ∀ (i : Nat) (p : List UInt8) (wr : World), ps[i]? = some p → S2 wo gb sgn ps (i + 1) wr → Calls Tryz.prog 92 #[.pointer (some ⟨gb, 0, none⟩), .string (St p)] wr fun e w' => (∃ v, e = .returned v) ∧ Hid (S2 wo gb sgn ps i w') := fun sgn hs1 i p wr hp h => by
          obtain ⟨h1, h2⟩ := h
          obtain ⟨hjT, hrd, hblk, hneww, hlen, hpl, hgb⟩ := HP.out
          have hl := hlen i
          rw [flat_step hp, List.length_append] at hl
          refine (Tryz.Builder_WriteString gb gb _ (St p) wr h1 (by simp only [Lib.byteCells, List.length_map, List.length_append, St_size]; omega) (by have := h2.size; omega)).mono ?_
          rintro e w' ⟨rfl, hb, hbel⟩
          refine ⟨⟨_, rfl⟩, ?_, h2.trans (chg_below hbel) (fun _ _ h => h)⟩
          rw [strCells_St, ← Lib.byteCells_append, List.append_assoc, ← flat_step hp] at hb
          exact .inr hb
        have HF := Lib.hid (And.intro fin stp)
        clear fin stp
        obtain ⟨hr, hN, hs, hT, hZ, hpt⟩ := H0.out
        have hTD := H2.out.2.2.2
        have hstart : Lib.IsBuilder 129 5 gb gb [] (wo.alloc (.cells #[.pointer none, .slice none 0 0] 129)) := by rw [← hgb]; exact Lib.fresh_isBuilder _ _ _
        cases s
        · have hsgn : [] ++ TD = T := by
            rw [← hT, ← hTD, ← hZ]; unfold Txt.text; rw [if_neg (by simpa using hs.symm)]; rfl
          have HS := Lib.hid (And.intro hsgn hstart)
          clear hr hN hs hT hZ hpt hTD hsgn hstart
          have HST : Hid (S2 wo gb [] ps k (wo.alloc (.cells #[.pointer none, .slice none 0 0] 129))) := by
            refine ⟨?_, (Chg.refl _ wo).alloc _⟩
            rw [List.drop_eq_nil_of_le (by have := HP.out.2.2.2.2.2.1; omega)]
            exact HS.out.2
          go_wp2_with fail
          clear hk0
          go_loopw [8] (fun i wr => ∃ j : Nat, i = .int .i64 ((j : Int) - 1) ∧ j ≤ k ∧ Hid (S2 wo gb [] ps j wr)) (fun i _ => (intOf i + 1).toNat)
          case atStart => exact ⟨k, rfl, Nat.le_refl _, HST⟩
          case round =>
            obtain ⟨j, rfl, hjk, HI⟩ := hrel
            obtain ⟨wq, rfl⟩ : ∃ wq : World, wq = wr := ⟨_, rfl⟩
            by_cases hj0 : j = 0
            · subst hj0
              rw [show (((0 : Nat) : Int) - 1) = -1 by rfl]
              go_wp2_with fail
              refine (HF.out.1 [] (by simp) HS.out.1 wq HI.out).mono ?_
              rintro e w9 ⟨rfl, H9⟩
              go_wp2
              go_ret
              exact ⟨rfl, H9.out⟩
            · obtain ⟨i, rfl⟩ : ∃ i, j = i + 1 := ⟨j - 1, by omega⟩
              rw [show (((i + 1 : Nat) : Int) - 1) = (i : Int) by omega]
              obtain ⟨hjT, hrd, hblk, hneww, hlen, hpl, hgb'⟩ := HP.out
              obtain ⟨ad, u, rfl, hu, hcu⟩ := (hrd.chg HI.out.2 (fun q hq _ e => by have := hblk q hq; omega)).at_ (show i < k by omega)
              obtain ⟨pp, hpp, rfl⟩ := strs_at hu
              have hst := HF.out.2 [] (by simp) i pp wq hpp HI.out
              have HST2 := Lib.hid hst
              clear hjT hrd hblk hneww hlen hpl hgb' hu hpp hst hj0
              go_wp2_with fail
              refine HST2.out.mono ?_
              rintro e w9 ⟨⟨ve, rfl⟩, H9⟩
              go_wp2
              go_roundw
              case rel => exact ⟨i, rfl, by omega, H9⟩
              case measure => simp [intOf]
        · have hsgn : [45] ++ TD = T := by
            rw [← hT, ← hTD, ← hZ]; unfold Txt.text; rw [if_pos (by simpa using hs.symm)]; rfl
          have HS := Lib.hid (And.intro hsgn hstart)
          clear hr hN hs hT hZ hpt hTD hsgn hstart
          go_wp2_with fail
          refine (Tryz.Builder_WriteByte gb gb [] 45 _ HS.out.2 (by simp) (by have := hgb; simp; omega)).mono ?_
          rintro e w8 ⟨rfl, hb8, hbel8⟩
          have HST : Hid (S2 wo gb [45] ps k w8) := by
            refine ⟨.inr ?_, ((Chg.refl _ wo).alloc _).trans (chg_below hbel8) (fun _ _ h => h)⟩
            rw [List.drop_eq_nil_of_le (by have := HP.out.2.2.2.2.2.1; omega)]
            exact hb8
          clear hb8 hbel8
          go_wp2_with fail
          clear hk0
          go_loopw [8] (fun i wr => ∃ j : Nat, i = .int .i64 ((j : Int) - 1) ∧ j ≤ k ∧ Hid (S2 wo gb [45] ps j wr)) (fun i _ => (intOf i + 1).toNat)
          case atStart => exact ⟨k, rfl, Nat.le_refl _, HST⟩
          case round =>
            obtain ⟨j, rfl, hjk, HI⟩ := hrel
            obtain ⟨wq, rfl⟩ : ∃ wq : World, wq = wr := ⟨_, rfl⟩
            by_cases hj0 : j = 0
            · subst hj0
              rw [show (((0 : Nat) : Int) - 1) = -1 by rfl]
              go_wp2_with fail
              refine (HF.out.1 [45] (by simp) HS.out.1 wq HI.out).mono ?_
              rintro e w9 ⟨rfl, H9⟩
              go_wp2
              go_ret
              exact ⟨rfl, H9.out⟩
            · obtain ⟨i, rfl⟩ : ∃ i, j = i + 1 := ⟨j - 1, by omega⟩
              rw [show (((i + 1 : Nat) : Int) - 1) = (i : Int) by omega]
              obtain ⟨hjT, hrd, hblk, hneww, hlen, hpl, hgb'⟩ := HP.out
              obtain ⟨ad, u, rfl, hu, hcu⟩ := (hrd.chg HI.out.2 (fun q hq _ e => by have := hblk q hq; omega)).at_ (show i < k by omega)
              obtain ⟨pp, hpp, rfl⟩ := strs_at hu
              have hst := HF.out.2 [45] (by simp) i pp wq hpp HI.out
              have HST2 := Lib.hid hst
              clear hjT hrd hblk hneww hlen hpl hgb' hu hpp hst hj0
              go_wp2_with fail
              refine HST2.out.mono ?_
              rintro e w9 ⟨⟨ve, rfl⟩, H9⟩
              go_wp2
              go_roundw
              case rel => exact ⟨i, rfl, by omega, H9⟩
              case measure => simp [intOf]
      · have hmp : (0 : Int) < (m : Int) := by omega
        have hmp' : 0 < m := by omega
        have hV0 : V ≠ 0 := fun h => hm0 (hwm.pos.2 h)
        have hdw := divWord_any R m d V 1000000000 wo hwm (by omega) (by omega) (by omega)
        obtain ⟨lo, hlo⟩ : ∃ x, V % 1000000000 = x := ⟨_, rfl⟩
        obtain ⟨hi, hhi⟩ : ∃ x, V / 1000000000 = x := ⟨_, rfl⟩
        rw [hlo, hhi] at hdw
        have hlob : lo < 1000000000 := by omega
        have hll := Txt.dec_len_le (u := lo) (k := 9) (by omega) (by omega)
        obtain ⟨tx, htx⟩ : ∃ x, St (decDigits lo) = x := ⟨_, rfl⟩
        have htxs : tx.size = (decDigits lo).length := by rw [← htx, St_size]
        have htx9 : tx.size ≤ 9 := by omega
        have hit := fun W h => itoa_any lo hlob W h
        rw [htx] at hit
        have HD := Lib.hid (And.intro hdw (And.intro hit (And.intro htx (And.intro htxs (And.intro hlo hhi)))))
        have HX := Lib.hid (And.intro hwm (And.intro hst (And.intro hpl (And.intro hpj (And.intro hown hnw)))))
        clear hdw hit htx htxs hlo hhi hwm hst hpl hpj hown hnw hll
        go_wp2_with fail
        refine HD.out.1.mono ?_
        rintro e w3 ⟨l3, g3, rfl, H3⟩
        go_wp2_with fail
        refine (trim_wm _ _ _ l3 w3 H3.out.1 H3.out.2.1 (Nat.le_refl _) (by omega)).mono ?_
        rintro e w4 ⟨T1, rfl, HT1, rfl⟩
        go_wp2_with fail
        refine (HD.out.2.1 w3 (((H0.out.2.2.2.2.2.new H2.out.2.1).new HX.out.2.2.2.2.2).new H3.out.2.2.2.2)).mono ?_
        rintro e w5 ⟨rfl, hn5⟩
        have HN5 := Lib.hid hn5
        have hT1 := HT1.out.1.pos
        rw [H3.out.2.2.1] at hT1
        clear hn5
        by_cases hq : hi = 0
        · obtain rfl : T1 = 0 := hT1.2 hq
          have HQ := Lib.hid hq
          clear hT1 hq
          go_wp2_with (at_builtin; refine wpList_app elemStrs rfl _ _ rfl rfl (own_chg (own_chg (own_chg HX.out.2.2.2.2.1 H3.out.2.2.2.2 (fun _ _ h => h)) HN5.out (fun _ _ h => h)) ((Chg.refl (fun _ => False) w5).alloc (.cells #[.string tx] 9)) (fun _ _ h => h)) rfl (rd_str rfl HD.out.2.2.1.symm) (strs_one _) (by simp only [maxLen]; omega) (by omega) (by have := HX.out.2.2.2.2.2.size; have := H3.out.2.2.2.2.size; have := HN5.out.size; simp; omega) ?_; intro A7 c7 w7 hown7 hg7 hat7; have HA7 := Lib.hid (And.intro hown7 (And.intro hg7 hat7)); clear hown7 hg7 hat7)
          go_roundw
          case rel =>
            refine ⟨_, 0, m, A7, k + 1, c7, hi, ps ++ [decDigits lo], rfl, rfl, by omega, ?_⟩
            have hst := str_last HX.out.2.1 hV0 (by have := HD.out.2.2.2.2.2; have := HQ.out; omega)
            rw [HD.out.2.2.2.2.1, ← HQ.out] at hst
            have hwm3 := HT1.out.1
            rw [H3.out.2.2.1] at hwm3
            exact S1.next HS.out H3.out.2.2.2.1 H3.out.2.2.2.2 hwm3 HN5.out HA7.out.1 HA7.out.2.1 hst (Txt.dec_len_pos _)
          case measure =>
            show (if 0 = 0 then 0 else 9000001 - (k + 1)) < (if m = 0 then 0 else 9000001 - k)
            rw [if_pos rfl, if_neg (by omega)]
            omega
        · have hT1p : (0 : Int) < (T1 : Int) := by
            rcases Nat.eq_zero_or_pos T1 with h | h
            · exact absurd (hT1.1 h) hq
            · omega
          have hT1p' : 0 < T1 := by omega
          have HQ := Lib.hid hq
          clear hT1 hq
          obtain ⟨cn, hcn⟩ : ∃ x, 9 - tx.size = x := ⟨_, rfl⟩
          have hcni : (9 : Int) - ((tx.size : Nat) : Int) = (cn : Int) := by omega
          have hcnb : cn ≤ 9 := by omega
          go_wp2_with fail
          refine (repeat_any cn hcnb w5).mono ?_
          rintro e w6 ⟨rfl, hn6⟩
          obtain ⟨zs, hzs⟩ : ∃ x, St (List.replicate cn 48) = x := ⟨_, rfl⟩
          rw [hzs]
          have hzss : zs.size = cn := by rw [← hzs, St_size]; simp
          have hsz : ¬ 9223372036854775807 < zs.size + tx.size := by omega
          have hcat : zs ++ tx = St (Txt.pad 9 lo) := by
            rw [← hzs, ← HD.out.2.2.1, St_app, ← hcn, HD.out.2.2.2.1, pad9 hlob]
          have H6 := Lib.hid (And.intro hn6 hcat)
          clear hn6 hzs hcn hcat hzss
          go_wp2_with (at_builtin; refine wpList_app elemStrs rfl _ _ rfl rfl (own_chg (own_chg (own_chg (own_chg HX.out.2.2.2.2.1 H3.out.2.2.2.2 (fun _ _ h => h)) HN5.out (fun _ _ h => h)) H6.out.1 (fun _ _ h => h)) ((Chg.refl (fun _ => False) w6).alloc (.cells #[.string (zs ++ tx)] 9)) (fun _ _ h => h)) rfl (rd_str rfl H6.out.2) (strs_one _) (by simp only [maxLen]; omega) (by omega) (by have := HX.out.2.2.2.2.2.size; have := H3.out.2.2.2.2.size; have := HN5.out.size; have := H6.out.1.size; simp; omega) ?_; intro A7 c7 w7 hown7 hg7 hat7; have HA7 := Lib.hid (And.intro hown7 (And.intro hg7 hat7)); clear hown7 hg7 hat7)
          go_roundw
          case rel =>
            refine ⟨_, T1, m, A7, k + 1, c7, hi, ps ++ [Txt.pad 9 lo], rfl, rfl, by have := HT1.out.2; omega, ?_⟩
            have hst := str_more HX.out.2.1 (by have := HD.out.2.2.2.2.2; have := HQ.out; omega)
            rw [HD.out.2.2.2.2.1, HD.out.2.2.2.2.2] at hst
            have hwm3 := HT1.out.1
            rw [H3.out.2.2.1] at hwm3
            exact S1.next HS.out H3.out.2.2.2.1 H3.out.2.2.2.2 hwm3 (HN5.out.new H6.out.1) HA7.out.1 HA7.out.2.1 hst (by rw [Txt.pad_len]; omega)
          case measure =>
            show (if T1 = 0 then 0 else 9000001 - (k + 1)) < (if m = 0 then 0 else 9000001 - k)
            rw [if_neg (by omega), if_neg (by omega)]
            omega
end Go.Proofs.YtbocpkjajocpiaaGreatDoor

namespace Go.Proofs.YtbocpkjajocpiaaGreatDoor
set_option linter.unusedVariables false
open Go.RowKit Go.Mem Go.Dig
open Go.Lib (decDigits)

def tpow (k : Nat) : Nat := 10 ^ k
/-- Texts of what is below this have at most 4934 bytes. -/
def dmax : Nat := tpow 4933
theorem pow_93 (k : Nat) : 2 ^ (93 * k) ≤ tpow (28 * k) := by
  unfold tpow
  rw [Nat.pow_mul, Nat.pow_mul]
  exact Nat.pow_le_pow_left (by decide) k
theorem tpow_add (a b : Nat) : tpow (a + b) = tpow a * tpow b := Nat.pow_add 10 a b
theorem powN_two (k m : Nat) (h : 32 * k = m) : powN k = 2 ^ m := by
  subst h
  unfold powN
  rw [Nat.pow_mul]
theorem pow_split (a b m : Nat) (h : a + b = m) : 2 ^ m = 2 ^ a * 2 ^ b := by subst h; exact Nat.pow_add 2 a b
theorem tpow_split (a b m : Nat) (h : a + b = m) : tpow m = tpow a * tpow b := by subst h; exact tpow_add a b
theorem top_gen (K J a m j : Nat) (h1 : 32 * K = m) (h2 : 93 * j + 16 = m) (h3 : 28 * j + 5 = J) : powN K + 10000 ≤ tpow J := by
  rw [powN_two K m h1, pow_split (93 * j) 16 m h2, tpow_split (28 * j) 5 J h3]
  have h := pow_93 j
  have hp : 1 ≤ 2 ^ (93 * j) := Nat.one_le_two_pow
  have e : tpow 5 = 100000 := rfl
  have e2 : (2 : Nat) ^ 16 = 65536 := rfl
  rw [e, e2]
  generalize 2 ^ (93 * j) = Y at *
  generalize tpow (28 * j) = X at *
  omega
theorem top_dmax : topN + 10000 ≤ dmax := top_gen 512 4933 0 16384 176 (by decide) (by decide) (by decide)
theorem text_short' {z : Int} {k : Nat} (h : z.natAbs < tpow k) (hk : 1 ≤ k) : (Txt.text z).length ≤ k + 1 := Txt.text_len hk h
theorem text_short {z : Int} (h : z.natAbs < dmax) : (Txt.text z).length ≤ 5000 := Nat.le_trans (text_short' (k := 4933) h (by decide)) (by decide)
end Go.Proofs.YtbocpkjajocpiaaGreatDoor

namespace Go.Proofs.YtbocpkjajocpiaaGreatDoor
set_option linter.unusedVariables false
open Go.RowKit Go.Mem Go.Dig

/-- Two variables that hold integers, in blocks of the call's own. -/
structure PwI (w wr : World) (B g1 g2 : Nat) (s1 : Bool) (A1 : Option Addr) (n1 c1 : Nat) (s2 : Bool) (A2 : Option Addr) (n2 c2 : Nat) (P Q : Nat) : Prop where
  res : Blk wr B 26 #[.bool false, .slice none 0 0]
  b1 : Blk wr g1 26 #[.bool s1, .slice A1 n1 c1]
  b2 : Blk wr g2 26 #[.bool s2, .slice A2 n2 c2]
  r1 : RN wr (.agg #[.bool s1, .slice A1 n1 c1]) (P : Int)
  r2 : RN wr (.agg #[.bool s2, .slice A2 n2 c2]) (Q : Int)
  new : New w wr
end Go.Proofs.YtbocpkjajocpiaaGreatDoor

namespace Go.Proofs.YtbocpkjajocpiaaGreatDoor
set_option linter.unusedVariables false
open Go.RowKit Go.Mem Go.Dig

end Go.Proofs.YtbocpkjajocpiaaGreatDoor

namespace Go.Proofs.YtbocpkjajocpiaaGreatDoor
set_option linter.unusedVariables false
open Go.RowKit Go.Mem Go.Dig

/-! ### the contracts with hidden facts -/
end Go.Proofs.YtbocpkjajocpiaaGreatDoor

namespace Go.Proofs.YtbocpkjajocpiaaGreatDoor
set_option linter.unusedVariables false
open Go.RowKit Go.Mem Go.Dig

end Go.Proofs.YtbocpkjajocpiaaGreatDoor

namespace Go.Txt
set_option linter.unusedVariables false
open Go.Dig

theorem decVal_split (t : List UInt8) (a z : Nat) (haz : a ≤ z) (hz : z ≤ t.length) : decVal (t.take z) = decVal (t.take a) * 10 ^ (z - a) + decVal ((t.drop a).take (z - a)) := by
  have h : t.take z = t.take a ++ (t.drop a).take (z - a) := by rw [← List.take_add]; congr 1; omega
  rw [h, decVal_append]
  congr 3
  simp; omega

/-- What the loop of the reference's Parse holds: the text t, the end z of what is left, the digits d so far. -/
def PrI (t : List UInt8) (z : Int) (d : List Nat) : Prop :=
  Digs 10000 d ∧ z = (t.length : Int) - 4 * (d.length : Int) ∧ val 10000 d + 10000 ^ d.length * decVal (t.take z.toNat) = decVal t
theorem PrI.start (t : List UInt8) : PrI t (t.length : Int) [] := by
  refine ⟨Digs.nil _, by simp, ?_⟩
  rw [Int.toNat_natCast, List.take_length]
  simp [val]
theorem PrI.step {t : List UInt8} {z : Nat} {d : List Nat} (ht : AllDig t) (h : PrI t z d) (hz : 0 < z) :
    PrI t ((z : Int) - 4) (d ++ [decVal ((t.drop (z - 4)).take (z - (z - 4)))]) := by
  obtain ⟨h1, h2, h3⟩ := h
  have hzl : z ≤ t.length := by omega
  have hv := decVal_split t (z - 4) z (by omega) hzl
  have hlt := decVal_lt ((ht.drop (z - 4)).take (z - (z - 4)))
  generalize hd : decVal ((t.drop (z - 4)).take (z - (z - 4))) = v at *
  have hvb : v < 10000 := by
    refine Nat.lt_of_lt_of_le hlt ?_
    exact Nat.le_trans (Nat.pow_le_pow_right (by omega) (show _ ≤ 4 by simp; omega)) (by decide)
  have hv2 : decVal (t.take z) = decVal (t.take (z - 4)) * 10000 + v := by
    by_cases h4 : 4 ≤ z
    · rw [hv, show z - (z - 4) = 4 by omega]
    · rw [hv, show z - 4 = 0 by omega, List.take_zero, decVal_nil]; omega
  refine ⟨h1.snoc hvb, by simp; omega, ?_⟩
  rw [Int.toNat_natCast, hv2] at h3
  rw [show ((z : Int) - 4).toNat = z - 4 by omega, val_snoc, ← h3, List.length_append, List.length_singleton, Nat.pow_succ]
  rw [Nat.mul_add, Nat.mul_assoc, Nat.add_assoc, Nat.mul_comm (decVal (t.take (z - 4))) 10000, Nat.add_comm (10000 ^ d.length * v)]
theorem PrI.done {t : List UInt8} {z : Int} {d : List Nat} (h : PrI t z d) (hz : z ≤ 0) : Digs 10000 d ∧ val 10000 d = decVal t := by
  obtain ⟨h1, h2, h3⟩ := h
  rw [show z.toNat = 0 by omega, List.take_zero, decVal_nil] at h3
  exact ⟨h1, by omega⟩
theorem PrI.len {t : List UInt8} {z : Int} {d : List Nat} (h : PrI t z d) (hz : -4 < z) : d.length ≤ t.length := by
  have := h.2.1
  omega
end Go.Txt

namespace Go.Proofs.YtbocpkjajocpiaaGreatDoor
set_option linter.unusedVariables false
open Go.RowKit Go.Mem Go.Dig

/-- What Parse returns for the text l. -/
def ParsR (l : List UInt8) (Z E : Int) : Prop := (∃ z, Txt.Reads l z ∧ rg z = Z ∧ rgE z = E) ∨ ((∀ z, ¬ Txt.Reads l z) ∧ Z = 0 ∧ E = 2)
theorem ParsR.ok {l : List UInt8} {Z E z : Int} (h : ParsR l Z E) (hz : Txt.Reads l z) : Z = rg z ∧ E = rgE z := by
  rcases h with ⟨z', h1, h2, h3⟩ | ⟨h, -⟩
  · have := h1.uniq hz
    subst this
    exact ⟨h2.symm, h3.symm⟩
  · exact absurd hz (h z)
end Go.Proofs.YtbocpkjajocpiaaGreatDoor

namespace Go.Proofs.YtbocpkjajocpiaaGreatDoor
set_option linter.unusedVariables false
open Go.RowKit Go.Mem Go.Dig

end Go.Proofs.YtbocpkjajocpiaaGreatDoor

namespace Go.Proofs.YtbocpkjajocpiaaGreatDoor
set_option linter.unusedVariables false
open Go.RowKit Go.Mem Go.Dig

theorem normal_h (A : Option Addr) (n c m : Nat) (W : World) (hm : DM W A n c m) :
    Calls Tryz.prog 72 #[.bool false, .slice A n c] W fun e w' => ∃ A n c, e = .returned (.agg #[.bool false, .slice A n c]) ∧ Hid (RN w' (.agg #[.bool false, .slice A n c]) (m : Int) ∧ New W w') := by
  obtain ⟨l, hr, h1, h2, hN⟩ := hm
  refine (normal_dm A n c l W hr hN.digs h1 h2).mono ?_
  rintro e w' ⟨T, rfl, hd, -, hn⟩
  rw [hN.val] at hd
  exact ⟨_, _, _, rfl, ⟨false, _, _, _, rfl, by simp, by simpa using hd⟩, hn⟩
theorem rdiv_h (v v' : Value) (x y : Int) (W : World) (hx : RN W v x) (hy : RN W v' y) (bx : x.natAbs < 2 ^ 1000000) (bY : y.natAbs < 2 ^ 900000) (h0 : y ≠ 0) :
    Calls Tryz.prog 103 #[v, v'] W fun e w' => ∃ s A n c s' A' n' c', e = .returned (.tuple #[.agg #[.bool s, .slice A n c], .agg #[.bool s', .slice A' n' c']]) ∧ Hid (RN w' (.agg #[.bool s, .slice A n c]) (x / y) ∧ RN w' (.agg #[.bool s', .slice A' n' c']) (x % y) ∧ New W w') :=
  (rdiv_any v v' x y W hx hy bx bY h0).mono fun e w' ⟨v, v', h1, ⟨s, A, n, c, h2, h3, h4⟩, ⟨s', A', n', c', h2', h3', h4'⟩, h5⟩ => ⟨s, A, n, c, s', A', n', c', by rw [h1, h2, h2'], ⟨s, A, n, c, rfl, h3, h4⟩, ⟨s', A', n', c', rfl, h3', h4'⟩, h5⟩
theorem pow_le900 {x k : Nat} (h : x < 2 ^ k) (m : Nat) (hk : k ≤ m) : x < 2 ^ m := Nat.lt_of_lt_of_le h (Nat.pow_le_pow_right (by omega) hk)
theorem RN.len0' {w : World} {s : Bool} {A : Option Addr} {n c : Nat} {z : Int} (h : RN w (.agg #[.bool s, .slice A n c]) z) : n = 0 ↔ z = 0 := by
  obtain ⟨s', A', n', c', he, hs, hm⟩ := h
  simp only [Value.agg.injEq, Array.mk.injEq, List.cons.injEq, Value.slice.injEq, Value.bool.injEq] at he
  obtain ⟨-, ⟨-, rfl, -⟩, -⟩ := he
  have := hm.pos
  omega

theorem RN.store22 {W : World} {v : Value} {z : Int} {g g' : Nat} {t t' : TypeId} {a b c d : Value} (hm : RN W v z) (h : Blk W g t #[a, b]) (h' : Blk W g' t' #[c, d]) (hne : g ≠ g') (hi : NoInt [a, b]) (hi' : NoInt [c, d]) (p q r u : Value) : RN (set22 W g g' p q r u) v z := by
  obtain ⟨s, A, n, k, h1, h2, h3⟩ := hm
  exact ⟨s, A, n, k, h1, h2, h3.store22 h h' hne hi hi' p q r u⟩

/-- What the loop of Gcd holds: the boxes g5, g6, and the one of the result. -/
def GcW (w : World) (g4 g5 g6 : Nat) (x y : Int) (k : Nat) (wr : World) : Prop :=
  ∃ s A n c s' A' n' c' X, Blk wr g5 26 #[.bool s, .slice A n c] ∧ RN wr (.agg #[.bool s, .slice A n c]) ((X : Nat) : Int) ∧ Blk wr g6 26 #[.bool s', .slice A' n' c'] ∧ RN wr (.agg #[.bool s', .slice A' n' c']) (k : Int) ∧
    Blk wr g4 26 #[.bool false, .slice none 0 0] ∧ New w wr ∧ X < 2 ^ 900000 ∧ k < 2 ^ 900000 ∧ Nat.gcd X k = Nat.gcd x.natAbs y.natAbs

set_option maxRecDepth 100000 in
set_option maxHeartbeats 1000000 in
theorem rgcd_any (v v' : Value) (x y : Int) (w : World) (hx : RN w v x) (hy : RN w v' y) (bx : x.natAbs < 2 ^ 900000) (bY : y.natAbs < 2 ^ 900000) :
    Calls Tryz.prog 102 #[v, v'] w fun e w' => ∃ s A n c, e = .returned (.agg #[.bool s, .slice A n c]) ∧ Hid (RN w' (.agg #[.bool s, .slice A n c]) ((Int.gcd x y : Nat) : Int) ∧ New w w') := by
  obtain ⟨s, A, n, c, rfl, hs, hm⟩ := hx
  obtain ⟨t, A', n', c', rfl, ht, hm'⟩ := hy
  have H0 := Lib.hid (And.intro hm (And.intro hm' (And.intro bx bY)))
  clear hs hm ht hm' bx bY
  go_enter Tryz.func102, Tryz.ntmps102
  go_wp2_with fail
  refine Calls.new3 ?_
  intro W hb2 hb3 hb4 hnW hzW
  obtain ⟨g2, hg2⟩ : ∃ x, w.heap.size = x := ⟨_, rfl⟩
  obtain ⟨g3, hg3⟩ : ∃ x, w.heap.size + 1 = x := ⟨_, rfl⟩
  obtain ⟨g4, hg4⟩ : ∃ x, w.heap.size + 1 + 1 = x := ⟨_, rfl⟩
  rw [hg3] at hb3
  rw [hg4] at hb4
  simp only [hg4]
  simp only [hg3]
  simp only [hg2]
  have HW := Lib.hid (And.intro hb3 (And.intro hb4 (And.intro hnW (show w.heap.size ≤ g4 by omega))))
  clear hb2 hb3 hb4 hnW hzW hg2 hg3 hg4
  refine (normal_h A n c x.natAbs W (H0.out.1.new HW.out.2.2.1)).mono ?_
  rintro e w1 ⟨A1, n1, c1, rfl, H1⟩
  have c31 := (HW.out.1.chg (H1.out.2.alloc (.cells #[.bool false, .slice A1 n1 c1] 26)) (fun h => h)).cell 1 (u := .slice A' n' c') rfl
  go_wp2_with fail
  clear c31
  refine Calls.new1 ?_
  intro W2 hb5 hn2 hz2
  obtain ⟨g5, hg5⟩ : ∃ x, w1.heap.size = x := ⟨_, rfl⟩
  rw [hg5] at hb5
  simp only [hg5]
  have hnw : New w W2 := (HW.out.2.2.1.new H1.out.2).new hn2
  refine (normal_h A' n' c' y.natAbs W2 (H0.out.2.1.new hnw)).mono ?_
  rintro e w3 ⟨A3, n3, c3, rfl, H3⟩
  have h45 : g4 < g5 := by
    have := (HW.out.2.1.chg H1.out.2 (fun h => h)).lt
    omega
  have HX := Lib.hid (And.intro hb5 (And.intro hn2 hnw))
  clear hb5 hn2 hz2 hg5 hnw
  go_wp2_with fail
  refine Code.new1 ?_
  intro W4 hb6 hn4 hz4
  obtain ⟨g6, hg6⟩ : ∃ x, w3.heap.size = x := ⟨_, rfl⟩
  rw [hg6] at hb6
  simp only [hg6]
  have h56 : g5 < g6 := by
    have := (HX.out.1.chg H3.out.2 (fun h => h)).lt
    omega
  have hN4 : New W2 W4 := H3.out.2.new hn4
  have hS : GcW w g4 g5 g6 x y y.natAbs W4 := ⟨_, _, _, _, _, _, _, _, x.natAbs, HX.out.1.chg hN4 (fun h => h), (H1.out.1.new HX.out.2.1).new hN4, hb6, H3.out.1.new hn4, HW.out.2.1.chg ((H1.out.2.new HX.out.2.1).new hN4) (fun h => h), HX.out.2.2.new hN4, H0.out.2.2.1, H0.out.2.2.2, rfl⟩
  have HS := Lib.hid hS
  have HG := Lib.hid (And.intro h45 (And.intro h56 HW.out.2.2.2))
  clear hS hb6 hn4 hz4 hg6 hN4 h45 h56 HX H1 H3 HW H0
  go_loopg [7, 8] y.natAbs (fun k _ _ wr => Hid (GcW w g4 g5 g6 x y k wr))
  case atStart => exact HS.out
  case round =>
    obtain ⟨wo, rfl⟩ : ∃ wo : World, wo = wr := ⟨_, rfl⟩
    obtain ⟨sa, Aa, na, ca, sb, Ab, nb, cb, X, hb5, hX, hb6, hk, hb4, hnw, bX, bk, hg⟩ := Hid.out hrel
    by_cases h0 : nb = 0
    · subst h0
      obtain rfl : gk = 0 := by have := hk.len0'; omega
      rw [Nat.gcd_zero_right] at hg
      have k60 := hb6.cell 1 (u := .slice Ab 0 cb) rfl
      have k50 := hb5.cell 0 (u := .bool sa) rfl
      have k51 := hb5.cell 1 (u := .slice Aa na ca) rfl
      have k40 := hb4.cell 0 rfl
      have k41 := hb4.cell 1 rfl
      have f40 := hb4.frozen 0
      have f41 := hb4.frozen 1
      have HK := Lib.hid (And.intro hb4 (And.intro hX (And.intro hnw hg)))
      clear hb4 hX hnw hg hb5 hb6 hk bX bk hrel
      go_wp2
      refine bodyPost_ret (res_c rfl _ rfl (aggN.load (HK.out.1.set2 _ _))) rfl ⟨sa, Aa, na, ca, rfl, ?_, ?_⟩
      · have := HK.out.2.1.store HK.out.1 (noInt_two' _ _ _ _) (Chg.at2 _ g4 (.bool sa) (.slice Aa na ca))
        rwa [HK.out.2.2.2] at this
      · exact Chg.owned HK.out.2.2.1 (Chg.at2 _ _ _ _) (fun k e => by have := HG.out; omega)
    · have hpos : (0 : Int) < (nb : Int) := by omega
      have hgk : (gk : Int) ≠ 0 := by have := hk.len0'; omega
      have hdv := rdiv_h _ _ _ _ wo hX hk (pow_le900 (k := 900000) bX 1000000 (by decide)) bk hgk
      have k60 := hb6.cell 0 (u := .bool sb) rfl
      have k61 := hb6.cell 1 (u := .slice Ab nb cb) rfl
      have k50 := hb5.cell 0 (u := .bool sa) rfl
      have k51 := hb5.cell 1 (u := .slice Aa na ca) rfl
      have HD := Lib.hid hdv
      have HK := Lib.hid (And.intro hb5 (And.intro hb6 (And.intro hb4 (And.intro hk (And.intro hnw (And.intro bk (And.intro hg (show 1 ≤ gk by omega))))))))
      clear hdv hb5 hb6 hb4 hX hk hnw bX bk hg hgk hrel h0
      go_wp2_with fail
      refine HD.out.mono ?_
      rintro e w5 ⟨s5, A5, n5, c5, s6, A6, n6, c6, rfl, H5⟩
      clear k60 k61 k50 k51 HD
      go_upto_region 5 with fail
      refine Code.new2 ?_
      intro W7 hb7 hb8 hn7 hz7
      obtain ⟨g7, hg7⟩ : ∃ x, w5.heap.size = x := ⟨_, rfl⟩
      obtain ⟨g8, hg8⟩ : ∃ x, w5.heap.size + 1 = x := ⟨_, rfl⟩
      rw [hg8] at hb8
      simp only [hg8]
      simp only [hg7]
      have hn07 : New wo W7 := H5.out.2.2.new hn7
      have hb5 := HK.out.1.chg hn07 (fun h => h)
      have hb6 := HK.out.2.1.chg hn07 (fun h => h)
      have h68 : g6 < g8 := by
        have := (HK.out.2.1.chg H5.out.2.2 (fun h => h)).lt
        omega
      obtain ⟨h45, h56, h4w⟩ := HG.out
      have k80 := hb8.cell 0 (u := .bool s6) rfl
      have k81 := hb8.cell 1 (u := .slice A6 n6 c6) rfl
      have k60 := hb6.cell 0 (u := .bool sb) rfl
      have k61 := hb6.cell 1 (u := .slice Ab nb cb) rfl
      have k50 := hb5.cell 0 (u := .bool sa) rfl
      have k51 := hb5.cell 1 (u := .slice Aa na ca) rfl
      have f50 := hb5.frozen 0
      have f51 := hb5.frozen 1
      have f60 := hb6.frozen 0
      have f61 := hb6.frozen 1
      have n56 : ¬ g5 = g6 := by omega
      have n65 : ¬ g6 = g5 := by omega
      have n58 : ¬ g5 = g8 := by omega
      have n85 : ¬ g8 = g5 := by omega
      have HL := Lib.hid (And.intro hb5 (And.intro hb6 (And.intro (H5.out.2.1.new hn7) hn07)))
      clear hb5 hb6 hb7 hb8 hn7 hz7 hg7 hg8 hn07 H5
      go_wp2
      go_roundg (X % gk)
      case measure => exact Nat.mod_lt _ HK.out.2.2.2.2.2.2.2
      case rel =>
        have hbb := blk22 HL.out.1 HL.out.2.1 n56 (.bool sb) (.slice Ab nb cb) (.bool s6) (.slice A6 n6 c6)
        have hch := chg22 W7 g5 g6 (.bool sb) (.slice Ab nb cb) (.bool s6) (.slice A6 n6 c6)
        have hr6 := HL.out.2.2.1
        rw [← Int.natCast_emod] at hr6
        refine ⟨sb, Ab, nb, cb, s6, A6, n6, c6, gk, hbb.1, (HK.out.2.2.2.1.new HL.out.2.2.2).store22 HL.out.1 HL.out.2.1 n56 (noInt_two' _ _ _ _) (noInt_two' _ _ _ _) _ _ _ _, hbb.2, hr6.store22 HL.out.1 HL.out.2.1 n56 (noInt_two' _ _ _ _) (noInt_two' _ _ _ _) _ _ _ _, ?_, ?_, HK.out.2.2.2.2.2.1, Nat.lt_trans (m := gk) (Nat.mod_lt _ HK.out.2.2.2.2.2.2.2) HK.out.2.2.2.2.2.1, ?_⟩
        · exact (HK.out.2.2.1.chg HL.out.2.2.2 (fun h => h)).chg hch (by omega)
        · exact Chg.owned (HK.out.2.2.2.2.1.new HL.out.2.2.2) hch (fun k e => by omega)
        · rw [← HK.out.2.2.2.2.2.2.1, Nat.gcd_comm X gk, Nat.gcd_rec gk X, Nat.gcd_comm]
end Go.Proofs.YtbocpkjajocpiaaGreatDoor

namespace Go.Proofs.YtbocpkjajocpiaaGreatDoor
set_option linter.unusedVariables false
open Go.RowKit Go.Mem Go.Dig Go.Pure

theorem pw900 (m : Nat) {k : Nat} (h : m < 2 ^ k) : m < 4294967296 ^ k :=
  Nat.lt_of_lt_of_le h (Nat.pow_le_pow_left (by omega) k)

set_option maxRecDepth 100000 in
set_option maxHeartbeats 1000000 in
theorem wgcd_any (v v' : Value) (x y : Int) (w : World) (hx : WI w v x) (hy : WI w v' y) (bx : x.natAbs < 2 ^ 900000) (bY : y.natAbs < 2 ^ 900000) :
    Calls Tryz.prog 100 #[v, v'] w fun e w' => ∃ s A n c, e = .returned (.agg #[.bool s, .slice A n c]) ∧ Hid (WI w' (.agg #[.bool s, .slice A n c]) ((Int.gcd x y : Nat) : Int) ∧ New w w') := by
  obtain ⟨s, A, n, c, rfl, hs, hm⟩ := hx
  obtain ⟨t, A', n', c', rfl, ht, hm'⟩ := hy
  have H0 := Lib.hid (And.intro hm (And.intro hm' (And.intro bx bY)))
  clear hs hm ht hm' bx bY
  go_enter Tryz.func100, Tryz.ntmps100
  go_upto_region 1 with fail
  refine Code.new3 ?_
  intro W hb1 hb2 hb3 hnW hzW
  have c20 := hb1.cell 1 (u := .slice A n c) rfl
  have c30 := hb2.cell 1 (u := .slice A' n' c') rfl
  have HW := Lib.hid (And.intro hb3 hnW)
  clear hb1 hb2 hb3 hnW hzW
  go_quiet (fail)
  clear c20 c30
  go_wp2_with fail
  go_loopg [5, 6, 7, 8] y.natAbs (fun k s5 s6 _ _ wr => ∃ (B : Option Addr) (m d : Nat) (B' : Option Addr) (m' d' : Nat), s5 = .slice B m d ∧ s6 = .slice B' m' d' ∧ Hid (∃ X, WM wr B m d X ∧ WM wr B' m' d' k ∧ X < 2 ^ 900000 ∧ k < 2 ^ 900000 ∧ Nat.gcd X k = Nat.gcd x.natAbs y.natAbs) ∧ Hid (New W wr))
  case atStart => exact ⟨A, n, c, A', n', c', rfl, rfl, ⟨x.natAbs, (H0.out.1.new HW.out.2).new ((Chg.refl _ _).drewN _), (H0.out.2.1.new HW.out.2).new ((Chg.refl _ _).drewN _), H0.out.2.2.1, H0.out.2.2.2, rfl⟩, (Chg.refl _ _).drewN _⟩
  case round =>
    obtain ⟨B, m, d, B', m', d', rfl, rfl, HI, HN⟩ := hrel
    obtain ⟨wo, rfl⟩ : ∃ wo : World, wo = wr := ⟨_, rfl⟩
    obtain ⟨X, hX, hk, bX, bk, hg⟩ := HI.out
    by_cases h0 : m' = 0
    · subst h0
      obtain rfl : gk = 0 := hk.pos.1 rfl
      rw [Nat.gcd_zero_right] at hg
      obtain ⟨l, hr, hnc, hcc, hNum⟩ := hX
      have hmade := made_wi false B m d l wo hr hNum.digs hnc hcc
      rw [hNum.val, hg] at hmade
      have HM := Lib.hid (hmade)
      have HB := HW.out.1.chg HN.out (fun h => h)
      clear hmade hr hnc hcc hNum hg hk HI bX bk
      go_wp2_with fail
      refine HM.out.mono ?_
      rintro e w5 ⟨v5, rfl, ⟨s5, A5, n5, c5, rfl, hs5, hm5⟩, hn5⟩
      have hb5 := HB.chg hn5 (fun h => h)
      have g0 := hb5.cell 0 rfl
      have g1 := hb5.cell 1 rfl
      have f0 := hb5.frozen 0
      have f1 := hb5.frozen 1
      have hw5 : WI w5 (.agg #[.bool s5, .slice A5 n5 c5]) ((Int.gcd x y : Nat) : Int) := ⟨s5, A5, n5, c5, rfl, hs5, hm5⟩
      have H5 := Lib.hid (And.intro hb5 (And.intro hw5 hn5))
      clear hb5 hw5 hs5 hm5 hn5 HM HB
      go_wp2
      refine bodyPost_ret (res_c rfl _ rfl (aggInt.load (H5.out.1.set2 _ _))) rfl ⟨s5, A5, n5, c5, rfl, H5.out.2.1.store H5.out.1 (noInt_two _ _ _ _) (Chg.at2 _ _ _ _), ?_⟩
      exact Chg.owned ((HW.out.2.new HN.out).new H5.out.2.2) (Chg.at2 _ _ _ _) (fun k e => by omega)
    · have hpos : (0 : Int) < (m' : Int) := by omega
      have hk0 : 1 ≤ gk := by have := hk.pos; omega
      have hdiv := divMag_any B m d B' m' d' X gk wo hX hk (hX.len (k := 900000) (pw900 (k := 900000) X bX)) hk0
      have HD := Lib.hid hdiv
      have HK := Lib.hid (And.intro hk (And.intro hk0 (And.intro bk hg)))
      clear hdiv hX hk hk0 bX bk hg HI h0
      go_wp2_with fail
      refine HD.out.mono ?_
      rintro e w5 ⟨Q, nq', cq, R, nr, cr, rfl, H5⟩
      go_wp2_with fail
      go_roundg (X % gk)
      case measure => exact Nat.mod_lt _ HK.out.2.1
      case rel =>
        refine ⟨B', m', d', R, nr, cr, rfl, rfl, ⟨gk, HK.out.1.new H5.out.2.2, H5.out.2.1, HK.out.2.2.1, Nat.lt_trans (m := gk) (Nat.mod_lt _ HK.out.2.1) HK.out.2.2.1, ?_⟩, HN.out.new H5.out.2.2⟩
        rw [← HK.out.2.2.2, Nat.gcd_comm X gk, Nat.gcd_rec gk X, Nat.gcd_comm]
end Go.Proofs.YtbocpkjajocpiaaGreatDoor

namespace Go.Proofs.YtbocpkjajocpiaaGreatDoor
set_option linter.unusedVariables false
open Go.RowKit Go.Mem Go.Dig Go.Fr

/-- A middle size. -/
def bp (k : Nat) : Nat := 2 ^ k
theorem lt_bp {z : Int} {k : Nat} (h : z.natAbs < bp k) : z.natAbs < 2 ^ k := h
theorem bp_le {j k : Nat} (h : j ≤ k) : bp j ≤ bp k := Nat.pow_le_pow_right (by omega) h
def Bd (z : Int) : Prop := z.natAbs < bp 900000
theorem Bd.p9 {z : Int} (h : Bd z) : z.natAbs < 2 ^ 900000 := lt_bp (k := 900000) h
theorem Bd.p10 {z : Int} (h : Bd z) : z.natAbs < 2 ^ 1000000 := lt_bp (k := 1000000) (Nat.lt_of_lt_of_le h (bp_le (by omega)))
theorem Bd.of {z : Int} {k : Nat} (h : z.natAbs < bp k) (hk : k ≤ 900000) : Bd z := Nat.lt_of_lt_of_le h (bp_le hk)

def wiT (z : Int) : Ty := ⟨fun v w => WI w v z, fun h hn => h.new hn, fun h hb hi hc => h.store hb hi hc⟩
def rnT (z : Int) : Ty := ⟨fun v w => RN w v z, fun h hn => h.new hn, fun h hb hi hc => h.store hb hi hc⟩
/-- A fraction of the program: a denominator 0 stands for 1. -/
def FI (w : World) (v : Value) (x : Rat) : Prop := ∃ p q : Array Value, v = .agg (p ++ q) ∧ WI w (.agg p) x.num ∧ (WI w (.agg q) (dn x) ∨ (WI w (.agg q) 0 ∧ dn x = 1))
/-- A fraction of the reference. -/
def RF (w : World) (v : Value) (x : Rat) : Prop := ∃ p q : Array Value, v = .agg (p ++ q) ∧ RN w (.agg p) x.num ∧ RN w (.agg q) (dn x)
def fiT (x : Rat) : Ty := ⟨fun v w => FI w v x, fun ⟨p, q, h1, h2, h3⟩ hn => ⟨p, q, h1, h2.new hn, h3.imp (·.new hn) (fun h => ⟨h.1.new hn, h.2⟩)⟩, fun ⟨p, q, h1, h2, h3⟩ hb hi hc => ⟨p, q, h1, h2.store hb hi hc, h3.imp (·.store hb hi hc) (fun h => ⟨h.1.store hb hi hc, h.2⟩)⟩⟩
def rfT (x : Rat) : Ty := ⟨fun v w => RF w v x, fun ⟨p, q, h1, h2, h3⟩ hn => ⟨p, q, h1, h2.new hn, h3.new hn⟩, fun ⟨p, q, h1, h2, h3⟩ hb hi hc => ⟨p, q, h1, h2.store hb hi hc, h3.store hb hi hc⟩⟩
theorem wi_cells {w : World} {v : Value} {z : Int} (h : WI w v z) : ∃ s A n c, v = .agg #[.bool s, .slice A n c] := by
  obtain ⟨s, A, n, c, h1, _⟩ := h
  exact ⟨s, A, n, c, h1⟩
theorem rn_cells {w : World} {v : Value} {z : Int} (h : RN w v z) : ∃ s A n c, v = .agg #[.bool s, .slice A n c] := by
  obtain ⟨s, A, n, c, h1, _⟩ := h
  exact ⟨s, A, n, c, h1⟩
theorem FI.form {w : World} {v : Value} {x : Rat} (h : FI w v x) : ∃ s A n c s' A' n' c', v = .agg #[.bool s, .slice A n c, .bool s', .slice A' n' c'] ∧ WI w (.agg #[.bool s, .slice A n c]) x.num ∧ (WI w (.agg #[.bool s', .slice A' n' c']) (dn x) ∨ (WI w (.agg #[.bool s', .slice A' n' c']) 0 ∧ dn x = 1)) := by
  obtain ⟨p, q, rfl, h1, h2⟩ := h
  obtain ⟨s, A, n, c, hp⟩ := wi_cells h1
  have hq : ∃ s A n c, Value.agg q = .agg #[.bool s, .slice A n c] := by
    rcases h2 with h2 | h2
    · exact wi_cells h2
    · exact wi_cells h2.1
  obtain ⟨s', A', n', c', hq⟩ := hq
  injection hp with hp
  injection hq with hq
  subst hp hq
  exact ⟨s, A, n, c, s', A', n', c', rfl, h1, h2⟩
theorem RF.form {w : World} {v : Value} {x : Rat} (h : RF w v x) : ∃ s A n c s' A' n' c', v = .agg #[.bool s, .slice A n c, .bool s', .slice A' n' c'] ∧ RN w (.agg #[.bool s, .slice A n c]) x.num ∧ RN w (.agg #[.bool s', .slice A' n' c']) (dn x) := by
  obtain ⟨p, q, rfl, h1, h2⟩ := h
  obtain ⟨s, A, n, c, hp⟩ := rn_cells h1
  obtain ⟨s', A', n', c', hq⟩ := rn_cells h2
  injection hp with hp
  injection hq with hq
  subst hp hq
  exact ⟨s, A, n, c, s', A', n', c', rfl, h1, h2⟩
theorem aggF : Agg Tryz.prog 52 4 := ⟨_, Tryz.underlying52, rfl, by kernel_rfl⟩
theorem aggRF : Agg Tryz.prog 57 4 := ⟨_, Tryz.underlying57, rfl, by kernel_rfl⟩

/-! ### contracts by types -/
section
variable {w : World} {v v' : Value} {x y z : Int}
theorem t_from (n : Int) (h1 : -9223372036854775808 ≤ n) (h2 : n ≤ 9223372036854775807) : CT Tryz.prog 50 #[.int .i64 n] w (wiT n) := from_any n w h1 h2
theorem t_wneg (h : WI w v x) : CT Tryz.prog 99 #[v] w (wiT (-x)) := neg_any v x w h
theorem t_wsign (h : WI w v x) : CT Tryz.prog 24 #[v] w (Ty.eq (.int .i64 (cmpI x 0))) := (sign_any v x w h).mono fun e w' ⟨h1, h2⟩ => ⟨_, h1, rfl, h2⟩
theorem t_wcompare (h : WI w v x) (h' : WI w v' y) : CT Tryz.prog 25 #[v, v'] w (Ty.eq (.int .i64 (cmpI x y))) := (compare_any v v' x y w h h').mono fun e w' ⟨h1, h2⟩ => ⟨_, h1, rfl, h2⟩
theorem t_wmul (h : WI w v x) (h' : WI w v' y) (bx : Bd x) (bY : Bd y) : CT Tryz.prog 129 #[v, v'] w ((wiT (rg (x * y))).tup1 (.int .i64 (rgE (x * y)))) :=
  (wmul_any v v' x y w h h' bx.p10 bY.p10).mono fun e w' ⟨s, A, n, c, h1, h2⟩ => ⟨_, h1, ⟨_, rfl, h2.out.1⟩, h2.out.2⟩
theorem t_wadd (h : WI w v x) (h' : WI w v' y) (bx : Bd x) (bY : Bd y) : CT Tryz.prog 62 #[v, v'] w ((wiT (rg (x + y))).tup1 (.int .i64 (rgE (x + y)))) :=
  (wadd_any v v' x y w h h' bx.p10 bY.p10).mono fun e w' ⟨s, A, n, c, h1, h2⟩ => ⟨_, h1, ⟨_, rfl, h2.out.1⟩, h2.out.2⟩
theorem t_wdiv (h : WI w v x) (h' : WI w v' y) (bx : Bd x) (bY : Bd y) (h0 : y ≠ 0) : CT Tryz.prog 81 #[v, v'] w ((wiT (x / y)).tup2 (wiT (x % y)) (.int .i64 0)) :=
  (wdiv_any v v' x y w h h' bx.p9 bY.p9 h0).mono fun e w' ⟨s, A, n, c, s', A', n', c', h1, h2⟩ => ⟨_, h1, ⟨_, _, rfl, h2.out.1, h2.out.2.1⟩, h2.out.2.2⟩
theorem t_wgcd (h : WI w v x) (h' : WI w v' y) (bx : Bd x) (bY : Bd y) : CT Tryz.prog 100 #[v, v'] w (wiT ((Int.gcd x y : Nat) : Int)) :=
  (wgcd_any v v' x y w h h' bx.p9 bY.p9).mono fun e w' ⟨s, A, n, c, h1, h2⟩ => ⟨_, h1, h2.out.1, h2.out.2⟩
theorem t_wsmall (h : WI w v x) : CT Tryz.prog 108 #[v] w (Ty.eq (.tuple #[.int .i64 (intIf x), .bool (isInt x)])) := (wsmall_any v x w h).mono fun e w' ⟨h1, h2⟩ => ⟨_, h1, rfl, h2⟩
theorem t_wstring (h : WI w v z) (hpt : PowTab w) (hz : Bd z) : CT Tryz.prog 23 #[v] w (Ty.eq (.string (St (Txt.text z)))) := (wstring_any v z w h hpt hz.p9).mono fun e w' ⟨h1, h2⟩ => ⟨_, h1, rfl, h2⟩
theorem t_of (n : Int) (h1 : -9223372036854775808 ≤ n) (h2 : n ≤ 9223372036854775807) : CT Tryz.prog 15 #[.int .i64 n] w (rnT n) := of_any n w h1 h2
theorem t_rneg (h : RN w v x) : CT Tryz.prog 14 #[v] w (rnT (-x)) := rneg_any v x w h
theorem t_radd (h : RN w v x) (h' : RN w v' y) (bx : Bd x) (bY : Bd y) : CT Tryz.prog 71 #[v, v'] w (rnT (x + y)) := radd_any v v' x y w h h' bx.p10 bY.p10
theorem t_rmul (h : RN w v x) (h' : RN w v' y) (bx : Bd x) (bY : Bd y) : CT Tryz.prog 18 #[v, v'] w (rnT (x * y)) := rmul_any v v' x y w h h' bx.p10 bY.p10
/-- A pair. -/
def prT (a b : Ty) : Ty := ⟨fun v w => ∃ x y, v = .tuple #[x, y] ∧ a.sat x w ∧ b.sat y w, fun ⟨x, y, h1, h2, h3⟩ hn => ⟨x, y, h1, a.new h2 hn, b.new h3 hn⟩, fun ⟨x, y, h1, h2, h2'⟩ h3 h4 h5 => ⟨x, y, h1, a.st h2 h3 h4 h5, b.st h2' h3 h4 h5⟩⟩
theorem t_rdiv (h : RN w v x) (h' : RN w v' y) (bx : Bd x) (bY : Bd y) (h0 : y ≠ 0) : CT Tryz.prog 103 #[v, v'] w (prT (rnT (x / y)) (rnT (x % y))) :=
  (rdiv_any v v' x y w h h' bx.p10 bY.p9 h0).mono fun e w' ⟨v, v', h1, h2, h3, h4⟩ => ⟨_, h1, ⟨_, _, rfl, h2, h3⟩, h4⟩
theorem t_rgcd (h : RN w v x) (h' : RN w v' y) (bx : Bd x) (bY : Bd y) : CT Tryz.prog 102 #[v, v'] w (rnT ((Int.gcd x y : Nat) : Int)) :=
  (rgcd_any v v' x y w h h' bx.p9 bY.p9).mono fun e w' ⟨s, A, n, c, h1, h2⟩ => ⟨_, h1, h2.out.1, h2.out.2⟩
theorem t_rtext (h : RN w v z) (hz : Bd z) : CT Tryz.prog 20 #[v] w (Ty.eq (.string (St (Txt.text z)))) := (rtext_any v z w h hz.p10).mono fun e w' ⟨h1, h2⟩ => ⟨_, h1, rfl, h2⟩
theorem t_wparse (b : ByteArray) (l : List UInt8) (hb : b = St l) (hn : b.size ≤ 5000) (Z E : Int) (hr : ParsR l Z E) : CT Tryz.prog 19 #[.string b] w ((wiT Z).tup1 (.int .i64 E)) := by
  rcases hr with ⟨z, h1, rfl, rfl⟩ | ⟨h1, rfl, rfl⟩
  · exact (wparse_ok b l hb hn z h1 w).mono fun e w' ⟨s, A, n, c, h1, h2⟩ => ⟨_, h1, ⟨_, rfl, h2.out.1⟩, h2.out.2⟩
  · exact (wparse_bad b l hb hn h1 w).mono fun e w' ⟨h1, h2⟩ => ⟨_, h1, ⟨_, rfl, WI.zero w'⟩, h2⟩
end
end Go.Proofs.YtbocpkjajocpiaaGreatDoor

namespace Go.Proofs.YtbocpkjajocpiaaGreatDoor
set_option linter.unusedVariables false
open Go.RowKit Go.Mem Go.Dig Go.Fr
theorem FI.zero (w : World) : FI w (.agg #[.bool false, .slice none 0 0, .bool false, .slice none 0 0]) 0 := ⟨#[.bool false, .slice none 0 0], #[.bool false, .slice none 0 0], rfl, WI.zero w, .inr ⟨WI.zero w, rfl⟩⟩
theorem zeroI (w : World) : (zeroValue 35).run Tryz.prog w = .ok (.agg #[.bool false, .slice none 0 0]) w := by kernel_rfl
theorem zeroN (w : World) : (zeroValue 26).run Tryz.prog w = .ok (.agg #[.bool false, .slice none 0 0]) w := by kernel_rfl
theorem zeroF (w : World) : (zeroValue 52).run Tryz.prog w = .ok (.agg #[.bool false, .slice none 0 0, .bool false, .slice none 0 0]) w := by kernel_rfl
theorem zeroRF (w : World) : (zeroValue 57).run Tryz.prog w = .ok (.agg #[.bool false, .slice none 0 0, .bool false, .slice none 0 0]) w := by kernel_rfl
section
variable {w : World} {u v : Value} {x y : Int} {r : Rat}
theorem build_f0 : ∃ v, (Instr.build 52 #[]).run Tryz.prog w = .ok v w ∧ (fiT 0).sat v w := ⟨_, by kernel_rfl, FI.zero w⟩
theorem build_f (hu : WI w u r.num) (hv : WI w v (dn r)) : ∃ b, (Instr.build 52 #[(0, u), (1, v)]).run Tryz.prog w = .ok b w ∧ (fiT r).sat b w := by
  obtain ⟨s, A, n, c, rfl⟩ := wi_cells hu
  obtain ⟨s', A', n', c', rfl⟩ := wi_cells hv
  exact ⟨.agg #[.bool s, .slice A n c, .bool s', .slice A' n' c'], by kernel_rfl, #[.bool s, .slice A n c], #[.bool s', .slice A' n' c'], rfl, hu, .inl hv⟩
theorem build_fz (hu : WI w u r.num) (hv : WI w v 0) (h1 : dn r = 1) : ∃ b, (Instr.build 52 #[(0, u), (1, v)]).run Tryz.prog w = .ok b w ∧ (fiT r).sat b w := by
  obtain ⟨s, A, n, c, rfl⟩ := wi_cells hu
  obtain ⟨s', A', n', c', rfl⟩ := wi_cells hv
  exact ⟨.agg #[.bool s, .slice A n c, .bool s', .slice A' n' c'], by kernel_rfl, #[.bool s, .slice A n c], #[.bool s', .slice A' n' c'], rfl, hu, .inr ⟨hv, h1⟩⟩
theorem build_rf (hu : RN w u r.num) (hv : RN w v (dn r)) : ∃ b, (Instr.build 57 #[(0, u), (1, v)]).run Tryz.prog w = .ok b w ∧ (rfT r).sat b w := by
  obtain ⟨s, A, n, c, rfl⟩ := rn_cells hu
  obtain ⟨s', A', n', c', rfl⟩ := rn_cells hv
  exact ⟨.agg #[.bool s, .slice A n c, .bool s', .slice A' n' c'], by kernel_rfl, #[.bool s, .slice A n c], #[.bool s', .slice A' n' c'], rfl, hu, hv⟩
theorem fld_f0 (g : Nat) : (Instr.fieldAt 52 (.pointer (some ⟨g, 0, none⟩)) 0).run Tryz.prog w = .ok (.pointer (some ⟨g, 0, none⟩)) w := run_field (sz := 2) Tryz.underlying52 rfl rfl (by kernel_rfl) rfl
theorem fld_f1 (g : Nat) : (Instr.fieldAt 52 (.pointer (some ⟨g, 0, none⟩)) 1).run Tryz.prog w = .ok (.pointer (some ⟨g, 2, none⟩)) w := run_field (sz := 2) Tryz.underlying52 rfl rfl (by kernel_rfl) rfl
theorem fld_r0 (g : Nat) : (Instr.fieldAt 57 (.pointer (some ⟨g, 0, none⟩)) 0).run Tryz.prog w = .ok (.pointer (some ⟨g, 0, none⟩)) w := run_field (sz := 2) Tryz.underlying57 rfl rfl (by kernel_rfl) rfl
theorem fld_r1 (g : Nat) : (Instr.fieldAt 57 (.pointer (some ⟨g, 0, none⟩)) 1).run Tryz.prog w = .ok (.pointer (some ⟨g, 2, none⟩)) w := run_field (sz := 2) Tryz.underlying57 rfl rfl (by kernel_rfl) rfl
theorem two_cells {w : World} {g k : Nat} {t : TypeId} {cs : Array Value} (hb : Blk w g t cs) {a b : Value} (h0 : cs[k]? = some a) (h1 : cs[k + 1]? = some b) : ∀ j z, [a, b][j]? = some z → w.cell? ((⟨g, k, none⟩ : Addr).add j) = some z := by
  refine blk_cells hb _ (fun j z hz => ?_)
  match j, hz with
  | 0, hz => simp at hz; rw [← hz]; exact h0
  | 1, hz => simp at hz; rw [← hz]; exact h1
  | j + 2, hz => simp at hz
theorem ld_num {g : Nat} (h : FI w u r) (K : Blk w g 52 u.cells) : ∃ v, (loadVar 35 ⟨g, 0, none⟩).run Tryz.prog w = .ok v w ∧ (wiT r.num).sat v w := by
  obtain ⟨s, A, n, c, s', A', n', c', rfl, h1, h2⟩ := FI.form h
  exact ⟨_, load_cells aggInt [.bool s, .slice A n c] rfl (two_cells K rfl rfl), h1⟩
theorem ld_rP {g : Nat} (h : RF w u r) (K : Blk w g 57 u.cells) : ∃ v, (loadVar 26 ⟨g, 0, none⟩).run Tryz.prog w = .ok v w ∧ (rnT r.num).sat v w := by
  obtain ⟨s, A, n, c, s', A', n', c', rfl, h1, h2⟩ := RF.form h
  exact ⟨_, load_cells aggN [.bool s, .slice A n c] rfl (two_cells K rfl rfl), h1⟩
theorem ld_rQ {g : Nat} (h : RF w u r) (K : Blk w g 57 u.cells) : ∃ v, (loadVar 26 ⟨g, 2, none⟩).run Tryz.prog w = .ok v w ∧ (rnT (dn r)).sat v w := by
  obtain ⟨s, A, n, c, s', A', n', c', rfl, h1, h2⟩ := RF.form h
  exact ⟨_, load_cells aggN [.bool s', .slice A' n' c'] rfl (two_cells K rfl rfl), h2⟩
end
end Go.Proofs.YtbocpkjajocpiaaGreatDoor

namespace Go.Proofs.YtbocpkjajocpiaaGreatDoor
set_option linter.unusedVariables false
open Go.RowKit Go.Mem Go.Dig Go.Fr Go.Col

theorem Bd.neg {z : Int} (h : Bd z) : Bd (-z) := by unfold Bd at *; omega
theorem gcd_bd {p q : Int} (h : Bd q) (h0 : q ≠ 0) : Bd ((Int.gcd p q : Nat) : Int) := by
  have h1 := Int.gcd_le_natAbs_right p h0
  unfold Bd at *
  omega
def mkE (q : Int) : Int := if q = 0 then 1 else 0
def mkV (p q : Int) : Rat := if q = 0 then 0 else Rat.divInt p q
theorem fit.bd {z : Int} (h : fit z) : Bd z := by
  obtain ⟨K, hK⟩ : ∃ K, K = 512 := ⟨_, rfl⟩
  have e : powN K = bp (32 * K) := by unfold powN bp; rw [Nat.pow_mul]
  refine Bd.of (k := 32 * K) ?_ (by omega)
  unfold fit at h
  rwa [show topN = powN 512 from rfl, ← hK, e] at h
def FD (w : World) (v : Value) (x : Rat) (z : Int) : Prop := ∃ p q : Array Value, v = .agg (p ++ q) ∧ WI w (.agg p) x.num ∧ WI w (.agg q) z ∧ (z = 0 → dn x = 1)
theorem FD.form {w : World} {v : Value} {x : Rat} {z : Int} (h : FD w v x z) : ∃ s A n c s' A' n' c', v = .agg #[.bool s, .slice A n c, .bool s', .slice A' n' c'] ∧ WI w (.agg #[.bool s, .slice A n c]) x.num ∧ WI w (.agg #[.bool s', .slice A' n' c']) z := by
  obtain ⟨p, q, rfl, h1, h2, _⟩ := h
  obtain ⟨s, A, n, c, hp⟩ := wi_cells h1
  obtain ⟨s', A', n', c', hq⟩ := wi_cells h2
  injection hp with hp
  injection hq with hq
  subst hp hq
  exact ⟨s, A, n, c, s', A', n', c', rfl, h1, h2⟩
theorem FD.one {w : World} {v : Value} {x : Rat} (h : FD w v x 0) : dn x = 1 := by
  obtain ⟨p, q, _, _, _, h4⟩ := h
  exact h4 rfl
theorem fit.div {a b : Int} (h : fit a) : fit (a / b) := Nat.lt_of_le_of_lt (ediv_le a b) h
theorem fit.add_bd {a b : Int} (h : fit a) (h' : fit b) : Bd (a + b) := by
  obtain ⟨K, hK⟩ : ∃ K, K = 512 := ⟨_, rfl⟩
  have e : powN K = bp (32 * K) := by unfold powN bp; rw [Nat.pow_mul]
  have e2 : bp (32 * K + 1) = bp (32 * K) * 2 := by unfold bp; rw [Nat.pow_succ]
  refine Bd.of (k := 32 * K + 1) ?_ (by omega)
  unfold fit at h h'
  rw [show topN = powN 512 from rfl, ← hK, e] at h h'
  omega
def gh (x y : Rat) : Int := ((Int.gcd x.num (dn y) : Nat) : Int)
theorem gh_ne (x y : Rat) : gh x y ≠ 0 := gcd_ne (by have := dn_pos y; omega)
theorem mul_mk (x y : Rat) : Rat.divInt (x * y).num (dn (x * y)) = x * y := mk_self _
theorem cmpI_ne0 {z : Int} (h : ¬ z = 0) : (cmpI z 0 == 0) = false := by
  rcases Int.lt_trichotomy z 0 with h1 | h1 | h1
  · rw [cmpI_lt h1]; rfl
  · exact absurd h1 h
  · rw [cmpI_gt h1]; rfl
def ftx (x : Rat) : List UInt8 := if dn x = 1 then Txt.text x.num else Txt.text x.num ++ 47 :: Txt.text (dn x)
theorem run_adds {P : Program} {w : World} (t : TypeId) (a b : ByteArray) (h : ¬ 9223372036854775807 < a.size + b.size) : (binOp .add t (.string a) (.string b)).run P w = .ok (.string (a ++ b)) w := by
  simp [binOp, go_sem, h]
theorem cmp_one {z : Int} (h : ¬ z = 1) : (cmpI z 1 == 0) = false := by
  rcases Int.lt_trichotomy z 1 with h1 | h1 | h1
  · rw [cmpI_lt h1]; rfl
  · exact absurd h1 h
  · rw [cmpI_gt h1]; rfl
theorem ft_short {z : Int} (h : fit z) : (St (Txt.text z)).size ≤ 5000 := by
  rw [St_size]
  exact text_short (Nat.lt_of_lt_of_le h (Nat.le_trans (Nat.le_add_right _ _) top_dmax))
theorem ftx_app {x : Rat} (h : ¬ dn x = 1) : St (Txt.text x.num) ++ { data := #[47] } ++ St (Txt.text (dn x)) = St (ftx x) := by
  unfold ftx
  rw [if_neg h]
  apply ByteArray.ext
  simp [St]
theorem Bd.le {a b : Int} (h : Bd b) (hab : a.natAbs ≤ b.natAbs) : Bd a := Nat.lt_of_le_of_lt hab h
theorem sgn_mul {s c : Int} (h : s = 1 ∨ s = -1) (h' : -2 ≤ c ∧ c ≤ 2) : IntKind.i64.wrap (s * c) = s * c := by
  rcases h with rfl | rfl <;> exact IntWalk.i64_in _ (by omega)
theorem sgn_neg {s : Int} (h : s = 1 ∨ s = -1) : IntKind.i64.wrap (-s) = -s := by
  rcases h with rfl | rfl <;> exact IntWalk.i64_in _ (by omega)
theorem rnd_lt {a q : Int} {n : Nat} (h : a < q) (h0 : 0 ≤ a) (hn : q.toNat = n) : a.toNat < n := by omega
theorem rnd_pos {a : Int} (h : 0 ≤ a) (h0 : ¬ a = 0) : 0 < a := by omega
theorem rnd_sgn {s : Int} (h : s = 1 ∨ s = -1) : -s = 1 ∨ -s = -1 := by omega
theorem rnd_cf {σ p q r s c : Int} (h : σ * cmpI (p * s) (r * q) = c) : -σ * cmpI (q * r) (s * p) = c := by
  rw [← h, cf_turn p r q s, Int.neg_mul, Int.mul_neg]
theorem cmp_rng (x y : Int) : -1 ≤ cmpI x y ∧ cmpI x y ≤ 1 := by
  unfold cmpI
  split
  · omega
  · split <;> omega
theorem cmp_ne {x y : Int} (h : ¬ x = y) : (cmpI x y == 0) = false := by
  rcases Int.lt_trichotomy x y with h1 | h1 | h1
  · rw [cmpI_lt h1]; rfl
  · exact absurd h1 h
  · rw [cmpI_gt h1]; rfl
theorem FI.fd {w : World} {v : Value} {x : Rat} (h : FI w v x) : FD w v x (dn x) ∨ FD w v x 0 := by
  obtain ⟨p, q, h1, h2, h3⟩ := h
  rcases h3 with h3 | ⟨h3, h4⟩
  · exact .inl ⟨p, q, h1, h2, h3, fun h => by have := dn_pos x; omega⟩
  · exact .inr ⟨p, q, h1, h2, h3, fun _ => h4⟩
theorem ld_fd {w : World} {u : Value} {r : Rat} {z : Int} {g : Nat} (h : FD w u r z) (K : Blk w g 52 u.cells) : ∃ v, (loadVar 35 ⟨g, 2, none⟩).run Tryz.prog w = .ok v w ∧ (wiT z).sat v w := by
  obtain ⟨s, A, n, c, s', A', n', c', rfl, h1, h2⟩ := FD.form h
  exact ⟨_, load_cells aggInt [.bool s', .slice A' n' c'] rfl (two_cells K rfl rfl), h2⟩
theorem FD.fi {w : World} {v : Value} {x : Rat} {z : Int} (h : FD w v x z) (hz : z = dn x ∨ (z = 0 ∧ dn x = 1)) : FI w v x := by
  obtain ⟨p, q, h1, h2, h3, _⟩ := h
  refine ⟨p, q, h1, h2, ?_⟩
  rcases hz with rfl | ⟨rfl, h4⟩
  · exact .inl h3
  · exact .inr ⟨h3, h4⟩
theorem ld_fdn {w : World} {u : Value} {r : Rat} {z : Int} {g : Nat} (h : FD w u r z) (K : Blk w g 52 u.cells) : ∃ v, (loadVar 35 ⟨g, 0, none⟩).run Tryz.prog w = .ok v w ∧ (wiT r.num).sat v w := by
  obtain ⟨s, A, n, c, s', A', n', c', rfl, h1, h2⟩ := FD.form h
  exact ⟨_, load_cells aggInt [.bool s, .slice A n c] rfl (two_cells K rfl rfl), h1⟩
theorem build_fd {w : World} {u v : Value} {r : Rat} {z : Int} (hu : WI w u r.num) (hv : WI w v z) (hz : z = dn r ∨ (z = 0 ∧ dn r = 1)) : ∃ b, (Instr.build 52 #[(0, u), (1, v)]).run Tryz.prog w = .ok b w ∧ (fiT r).sat b w := by
  rcases hz with rfl | ⟨rfl, h1⟩
  · exact build_f hu hv
  · exact build_fz hu hv h1
theorem wi_bar (l : List Nat) : nv .u32 l = [] ∨ ∃ x ∈ nv .u32 l, NB x = true := by
  cases l with
  | nil => exact .inl rfl
  | cons x l => exact .inr ⟨_, List.mem_cons_self, rfl⟩
theorem rn_bar {l : List Nat} (h : Dig.Trim l) : nv .i64 l = [] ∨ ∃ x ∈ nv .i64 l, NB x = true := by
  by_cases hl : l = []
  · subst hl; exact .inl rfl
  · refine .inr ⟨Value.int .i64 ((l.getLast hl : Nat) : Int), List.mem_map.2 ⟨_, List.getLast_mem hl, rfl⟩, ?_⟩
    have h1 : l.getLast hl ≠ 0 := fun e => h (by rw [List.getLast?_eq_some_getLast hl, e])
    show (((l.getLast hl : Nat) : Int) != 0) = true
    simp; omega
section
variable {S : List Nat} {w w' : World} {c c' : Colr} {v : Value} {z : Int} {x : Rat}
theorem wi_ext (h : WI w v z) (g : GI w c) (e : Ext S w c w' c') : WI w' v z := by
  obtain ⟨s, A, n, cp, h1, h2, l, h3, h4⟩ := h
  exact ⟨s, A, n, cp, h1, h2, l, rd_ext h3 (wi_bar l) g e, h4⟩
theorem rn_ext (h : RN w v z) (g : GI w c) (e : Ext S w c w' c') : RN w' v z := by
  obtain ⟨s, A, n, cp, h1, h2, l, h3, h4⟩ := h
  exact ⟨s, A, n, cp, h1, h2, l, rd_ext h3 (rn_bar h4.2.2.trim) g e, h4⟩
theorem fi_ext (h : FI w v x) (g : GI w c) (e : Ext S w c w' c') : FI w' v x := by
  obtain ⟨p, q, h1, h2, h3⟩ := h
  exact ⟨p, q, h1, wi_ext h2 g e, h3.imp (fun h => wi_ext h g e) (fun h => ⟨wi_ext h.1 g e, h.2⟩)⟩
theorem rf_ext (h : RF w v x) (g : GI w c) (e : Ext S w c w' c') : RF w' v x := by
  obtain ⟨p, q, h1, h2, h3⟩ := h
  exact ⟨p, q, h1, rn_ext h2 g e, rn_ext h3 g e⟩
end
/-- An integer in range; of a middle size. -/
def wfC (z : Int) : TyC := ⟨fun v w _ => WI w v z ∧ fit z, fun h g e => ⟨wi_ext h.1 g e, h.2⟩⟩
def rfC (z : Int) : TyC := ⟨fun v w _ => RN w v z ∧ fit z, fun h g e => ⟨rn_ext h.1 g e, h.2⟩⟩
def rbC (z : Int) : TyC := ⟨fun v w _ => RN w v z ∧ Bd z, fun h g e => ⟨rn_ext h.1 g e, h.2⟩⟩
/-- Fractions in range; of a middle size. -/
def ffC (x : Rat) : TyC := ⟨fun v w _ => FI w v x ∧ ft x, fun h g e => ⟨fi_ext h.1 g e, h.2⟩⟩
def rffC (x : Rat) : TyC := ⟨fun v w _ => RF w v x ∧ ft x, fun h g e => ⟨rf_ext h.1 g e, h.2⟩⟩
def rfbC (x : Rat) : TyC := ⟨fun v w _ => RF w v x ∧ Bd x.num ∧ Bd (dn x), fun h g e => ⟨rf_ext h.1 g e, h.2⟩⟩
theorem pl_wf (z : Int) : (wfC z).plain := fun _ _ _ _ h => h
theorem pl_rf (z : Int) : (rfC z).plain := fun _ _ _ _ h => h
theorem pl_ff (z : Rat) : (ffC z).plain := fun _ _ _ _ h => h
theorem pl_rff (z : Rat) : (rffC z).plain := fun _ _ _ _ h => h
theorem st2 {s : Bool} {A : Option Addr} {n c : Nat} : ∃ cs : Array Value, Value.agg #[.bool s, .slice A n c] = .agg cs ∧ cs.size = 2 ∧ cs.all (·.oneCell') = true ∧ cs.toList.all (fun v => !NB v) = true := ⟨_, rfl, rfl, by simp [Value.oneCell'], rfl⟩
theorem st4 {s : Bool} {A : Option Addr} {n c : Nat} {s' : Bool} {A' : Option Addr} {n' c' : Nat} : ∃ cs : Array Value, Value.agg #[.bool s, .slice A n c, .bool s', .slice A' n' c'] = .agg cs ∧ cs.size = 4 ∧ cs.all (·.oneCell') = true ∧ cs.toList.all (fun v => !NB v) = true := ⟨_, rfl, rfl, by simp [Value.oneCell'], rfl⟩
theorem wf_str (z : Int) : (wfC z).str 2 := fun v w c h => by
  obtain ⟨s, A, n, c, rfl⟩ := wi_cells h.1
  exact st2
theorem rf_str' (z : Int) : (rfC z).str 2 := fun v w c h => by
  obtain ⟨s, A, n, c, rfl⟩ := rn_cells h.1
  exact st2
theorem rb_str (z : Int) : (rbC z).str 2 := fun v w c h => by
  obtain ⟨s, A, n, c, rfl⟩ := rn_cells h.1
  exact st2
theorem eq2_str (s : Bool) (A : Option Addr) (n c : Nat) : (TyC.eq (.agg #[.bool s, .slice A n c])).str 2 := fun v w c h => by
  cases h
  exact st2
theorem ff_str (x : Rat) : (ffC x).str 4 := fun v w c h => by
  obtain ⟨s, A, n, c, s', A', n', c', rfl, _⟩ := FI.form h.1
  exact st4
theorem rff_str (x : Rat) : (rffC x).str 4 := fun v w c h => by
  obtain ⟨s, A, n, c, s', A', n', c', rfl, _⟩ := RF.form h.1
  exact st4
theorem rfb_str (x : Rat) : (rfbC x).str 4 := fun v w c h => by
  obtain ⟨s, A, n, c, s', A', n', c', rfl, _⟩ := RF.form h.1
  exact st4
section
variable {w : World} {c : Colr} {u v v' : Value} {x y z : Int} {r r' : Rat} {g n : Nat}
theorem fit_zero : fit 0 := fit_small (by omega) (by omega)
theorem fit_i64 {n : Int} (h : -9223372036854775808 ≤ n ∧ n ≤ 9223372036854775807) : fit n := by
  have hp : ∀ k, 2 ≤ k → 18446744073709551616 ≤ powN k := fun k hk => by
    unfold powN
    exact Nat.le_trans (by decide) (Nat.pow_le_pow_right (show 0 < 4294967296 by omega) hk)
  have : 18446744073709551616 ≤ topN := hp 512 (by omega)
  unfold fit
  omega
theorem rf_rb (h : (rfC z).sat v w c) : (rbC z).sat v w c := ⟨h.1, h.2.bd⟩
theorem rff_rfb (h : (rffC r).sat v w c) : (rfbC r).sat v w c := ⟨h.1, h.2.1.bd, h.2.2.bd⟩
theorem wf_zero : (wfC 0).sat (.agg #[.bool false, .slice none 0 0]) w c := ⟨WI.zero w, fit_zero⟩
theorem rf_zero : (rfC 0).sat (.agg #[.bool false, .slice none 0 0]) w c := ⟨RN.zero w, fit_zero⟩
theorem ff_zero : (ffC 0).sat (.agg #[.bool false, .slice none 0 0, .bool false, .slice none 0 0]) w c := ⟨FI.zero w, ft_zero⟩
/-- What a box of the reference's fractions holds before it is filled: anything that is a struct of that form. -/
def rzC : TyC := TyC.eq (.agg #[.bool false, .slice none 0 0, .bool false, .slice none 0 0])
theorem rz_str : rzC.str 4 := fun v w c h => by cases h; exact st4
theorem rz_zero : rzC.sat (.agg #[.bool false, .slice none 0 0, .bool false, .slice none 0 0]) w c := rfl
/-! fields -/
theorem lf_num (h : BoxC w c g 52 n (ffC r)) : ∃ u, (loadVar 35 ⟨g, 0, none⟩).run Tryz.prog w = .ok u w ∧ (wfC r.num).sat u w c := by
  obtain ⟨h1, u, h2, h3⟩ := h
  obtain ⟨v, h4, h5⟩ := ld_num h2.1 h3
  exact ⟨v, h4, h5, h2.2.1⟩
theorem lr_P (h : BoxC w c g 57 n (rffC r)) : ∃ u, (loadVar 26 ⟨g, 0, none⟩).run Tryz.prog w = .ok u w ∧ (rfC r.num).sat u w c := by
  obtain ⟨h1, u, h2, h3⟩ := h
  obtain ⟨v, h4, h5⟩ := ld_rP h2.1 h3
  exact ⟨v, h4, h5, h2.2.1⟩
theorem lr_Q (h : BoxC w c g 57 n (rffC r)) : ∃ u, (loadVar 26 ⟨g, 2, none⟩).run Tryz.prog w = .ok u w ∧ (rfC (dn r)).sat u w c := by
  obtain ⟨h1, u, h2, h3⟩ := h
  obtain ⟨v, h4, h5⟩ := ld_rQ h2.1 h3
  exact ⟨v, h4, h5, h2.2.2⟩
/-- One cell of a box whose cells are known. -/
theorem l_cell {t ty : TypeId} {cs : Array Value} {k : Nat} (h : BoxC w c g t n (TyC.eq (.agg cs))) (hf : Flat Tryz.prog ty) (hk : cs[k]? = some u) : ∃ q, (loadVar ty ⟨g, k, none⟩).run Tryz.prog w = .ok q w ∧ q = u := by
  obtain ⟨h1, u', h2, h3⟩ := h
  cases h2
  have hc := h3.cell k hk
  obtain ⟨d, hu, hd⟩ := hf
  refine ⟨u, ?_, rfl⟩
  cases d <;> simp_all [loadVar, isAgg, run_underlying hu]
theorem flat_bool : Flat Tryz.prog 4 := ⟨_, Tryz.underlying4, rfl⟩
theorem flat_ints : Flat Tryz.prog 23 := ⟨_, Tryz.underlying23, rfl⟩
theorem flat_int : Flat Tryz.prog 3 := ⟨_, Tryz.underlying3, rfl⟩
theorem fld_n0 (g k : Nat) : (Instr.fieldAt 26 (.pointer (some ⟨g, 0, none⟩)) 0).run Tryz.prog w = .ok (.pointer (some ⟨g, 0, none⟩)) w := run_field (sz := 1) Tryz.underlying26 rfl rfl (by kernel_rfl) rfl
theorem fld_n1 (g k : Nat) : (Instr.fieldAt 26 (.pointer (some ⟨g, 0, none⟩)) 1).run Tryz.prog w = .ok (.pointer (some ⟨g, 1, none⟩)) w := run_field (sz := 1) Tryz.underlying26 rfl rfl (by kernel_rfl) rfl
/-! builds -/
theorem b_rff (hu : (rfC r.num).sat u w c) (hv : (rfC (dn r)).sat v w c) : ∃ b, (Instr.build 57 #[(0, u), (1, v)]).run Tryz.prog w = .ok b w ∧ (rffC r).sat b w c := by
  obtain ⟨b, h1, h2⟩ := build_rf hu.1 hv.1
  exact ⟨b, h1, h2, hu.2, hv.2⟩
theorem b_rfb (hu : (rbC r.num).sat u w c) (hv : (rbC (dn r)).sat v w c) : ∃ b, (Instr.build 57 #[(0, u), (1, v)]).run Tryz.prog w = .ok b w ∧ (rfbC r).sat b w c := by
  obtain ⟨b, h1, h2⟩ := build_rf hu.1 hv.1
  exact ⟨b, h1, h2, hu.2, hv.2⟩
theorem b_ff0 : ∃ b, (Instr.build 52 #[]).run Tryz.prog w = .ok b w ∧ (ffC 0).sat b w c := by
  obtain ⟨b, h1, h2⟩ := build_f0 (w := w)
  exact ⟨b, h1, h2, ft_zero⟩
theorem b_ff (hu : (wfC r.num).sat u w c) (hv : (wfC (dn r)).sat v w c) : ∃ b, (Instr.build 52 #[(0, u), (1, v)]).run Tryz.prog w = .ok b w ∧ (ffC r).sat b w c := by
  obtain ⟨b, h1, h2⟩ := build_f hu.1 hv.1
  exact ⟨b, h1, h2, hu.2, hv.2⟩
/-! contracts -/
theorem CV.of_CT {P : Program} {fn : Nat} {vs : Array Value} {τ : Ty} {σ : TyC} (h : CT P fn vs w τ) (hs : ∀ v w' c', τ.sat v w' → σ.sat v w' c') : CV P fn vs w c σ := CV.of_new (R := τ.sat) h hs
theorem rg_fit (z : Int) : fit (rg z) := by
  unfold rg
  split
  · assumption
  · exact fit_zero
abbrev I64 (n : Int) : Prop := -9223372036854775808 ≤ n ∧ n ≤ 9223372036854775807
theorem k_from (n : Int) (h : I64 n) : CV Tryz.prog 50 #[.int .i64 n] w c (wfC n) := CV.of_CT (t_from n h.1 h.2) fun v w' c' h1 => ⟨h1, fit_i64 h⟩
theorem k_wadd (h : (wfC x).sat v w c) (h' : (wfC y).sat v' w c) : CV Tryz.prog 62 #[v, v'] w c ((wfC (rg (x + y))).tup1 (.int .i64 (rgE (x + y)))) := CV.of_CT (t_wadd h.1 h'.1 h.2.bd h'.2.bd) fun v w' c' ⟨y, h1, h2⟩ => ⟨y, h1, h2, rg_fit _⟩
theorem k_wcompare (h : (wfC x).sat v w c) (h' : (wfC y).sat v' w c) : CV Tryz.prog 25 #[v, v'] w c (TyC.eq (.int .i64 (cmpI x y))) := CV.of_CT (t_wcompare h.1 h'.1) fun v w' c' h => h
theorem k_wsmall (h : (wfC x).sat v w c) : CV Tryz.prog 108 #[v] w c (TyC.eq (.tuple #[.int .i64 (intIf x), .bool (isInt x)])) := CV.of_CT (t_wsmall h.1) fun v w' c' h => h
theorem k_wstring (h : (wfC x).sat v w c) (hp : PowTab w) : CV Tryz.prog 23 #[v] w c (TyC.eq (.string (St (Txt.text x)))) := CV.of_CT (t_wstring h.1 hp h.2.bd) fun v w' c' h => h
theorem k_wparse (b : ByteArray) (l : List UInt8) (hb : b = St l) (hn : b.size ≤ 5000) (Z E : Int) (hr : ParsR l Z E) : CV Tryz.prog 19 #[.string b] w c ((wfC Z).tup1 (.int .i64 E)) := by
  refine CV.of_CT (t_wparse b l hb hn Z E hr) fun v w' c' ⟨y, h1, h2⟩ => ⟨y, h1, h2, ?_⟩
  rcases hr with ⟨z, _, rfl, _⟩ | ⟨_, rfl, _⟩
  · exact rg_fit z
  · exact fit_zero
theorem k_of (n : Int) (h : I64 n) : CV Tryz.prog 15 #[.int .i64 n] w c (rfC n) := CV.of_CT (t_of n h.1 h.2) fun v w' c' h1 => ⟨h1, fit_i64 h⟩
theorem k_rnegb (h : (rbC x).sat v w c) : CV Tryz.prog 14 #[v] w c (rbC (-x)) := CV.of_CT (t_rneg h.1) fun v w' c' h1 => ⟨h1, h.2.neg⟩
theorem fit.mul_bd {a b : Int} (h : fit a) (h' : fit b) : Bd (a * b) := by
  obtain ⟨K, hK⟩ : ∃ K, K = 512 := ⟨_, rfl⟩
  have e : powN K = 2 ^ (32 * K) := by unfold powN; rw [Nat.pow_mul]
  unfold fit at h h'
  rw [show topN = powN 512 from rfl, ← hK, e] at h h'
  exact Bd.of (k := 32 * K + 32 * K) (nmul_lt h h') (by omega)
theorem k_rmul (h : (rfC x).sat v w c) (h' : (rfC y).sat v' w c) : CV Tryz.prog 18 #[v, v'] w c (rbC (x * y)) := CV.of_CT (t_rmul h.1 h'.1 h.2.bd h'.2.bd) fun v w' c' h1 => ⟨h1, h.2.mul_bd h'.2⟩
theorem k_radd (h : (rfC x).sat v w c) (h' : (rfC y).sat v' w c) : CV Tryz.prog 71 #[v, v'] w c (rbC (x + y)) := CV.of_CT (t_radd h.1 h'.1 h.2.bd h'.2.bd) fun v w' c' h1 => ⟨h1, h.2.add_bd h'.2⟩
theorem k_rgcd (h : (rbC x).sat v w c) (h' : (rbC y).sat v' w c) (h0 : y ≠ 0) : CV Tryz.prog 102 #[v, v'] w c (rbC ((Int.gcd x y : Nat) : Int)) := CV.of_CT (t_rgcd h.1 h'.1 h.2 h'.2) fun v w' c' h1 => ⟨h1, gcd_bd h'.2 h0⟩
theorem mod_bd {a b : Int} (h : Bd b) (h0 : b ≠ 0) : Bd (a % b) := by
  refine Bd.le h ?_
  have h1 := Int.emod_nonneg a h0
  have h2 := Int.emod_lt a h0
  omega
theorem k_rdiv (h : (rbC x).sat v w c) (h' : (rbC y).sat v' w c) (h0 : y ≠ 0) : CV Tryz.prog 103 #[v, v'] w c ((rbC (x / y)).pair (rbC (x % y))) :=
  CV.of_CT (t_rdiv h.1 h'.1 h.2 h'.2 h0) fun v w' c' ⟨p, q, h1, h2, h3⟩ => ⟨p, q, h1, ⟨h2, Bd.le h.2 (ediv_le _ _)⟩, h3, mod_bd h'.2 h0⟩
theorem k_rtext (h : (rfC x).sat v w c) : CV Tryz.prog 20 #[v] w c (TyC.eq (.string (St (Txt.text x)))) := CV.of_CT (t_rtext h.1 h.2.bd) fun v w' c' h => h
end
end Go.Proofs.YtbocpkjajocpiaaGreatDoor
namespace Go.Proofs.YtbocpkjajocpiaaGreatDoor
open Go.RowKit Go.Mem Go.Dig Go.Fr Go.Col
section
variable {P : Program} {w w' : World} {c' : Colr}
theorem pow_at {S : List Nat} {c0 : Colr} (h : PowTab w) (e : Ext S w c0 w' c') (hc : c0 = fun _ => 0) : PowTab w' := by
  subst hc
  exact h.new e.new0
theorem run_not (b : Bool) : (Op.unary .not (.bool b)).run P w = .ok (.bool (!b)) w := by
  simp [Op.unary, go_sem]
end
end Go.Proofs.YtbocpkjajocpiaaGreatDoor
namespace Go.Proofs.YtbocpkjajocpiaaGreatDoor
open Go.RowKit Go.Mem Go.Dig Go.Fr Go.Col
section
variable {w : World} {c : Colr} {v : Value} {x y : Int} {r : Rat}
theorem rb_cast (e : x = y) (h : (rbC x).sat v w c) : (rbC y).sat v w c := e ▸ h
theorem rf_cast (e : x = y) (h : (rfC x).sat v w c) : (rfC y).sat v w c := e ▸ h
theorem wf_cast (e : x = y) (h : (wfC x).sat v w c) : (wfC y).sat v w c := e ▸ h
theorem rb_up (h : (rbC x).sat v w c) (hf : fit x) : (rfC x).sat v w c := ⟨h.1, hf⟩
end
end Go.Proofs.YtbocpkjajocpiaaGreatDoor
